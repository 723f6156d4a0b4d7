import Derived.Test.YtamgbcgfjhpedaaDoorVpSet1
namespace Go.Proofs.YtamgbcgfjhpedaaDoor.VE
open Go Go.RowKit
set_option linter.unusedVariables false
attribute [local irreducible] wrap64
/-! ### settle.Round (no statement is proved here) -/
attribute [local irreducible] rd
theorem body_inj {p q : Rat} (h : bodyL p = bodyL q) : p.num.natAbs = q.num.natAbs ∧ p.den = q.den := by
  obtain ⟨a1, _, _⟩ := txtN_ok p.num.natAbs
  obtain ⟨b1, _, _⟩ := txtN_ok q.num.natAbs
  unfold bodyL at h
  by_cases hp : p.den = 1
  · by_cases hq : q.den = 1
    · rw [if_pos hp, if_pos hq, List.append_nil, List.append_nil] at h
      exact ⟨txt_inj h, by rw [hp, hq]⟩
    · rw [if_pos hp, if_neg hq, List.append_nil] at h
      exact absurd (by rw [h]; simp) (ds_no a1 (show (47 : Int) < 48 by omega))
  · by_cases hq : q.den = 1
    · rw [if_neg hp, if_pos hq, List.append_nil] at h
      exact absurd (by rw [← h]; simp) (ds_no b1 (show (47 : Int) < 48 by omega))
    · rw [if_neg hp, if_neg hq] at h
      obtain ⟨e1, e2⟩ := split_uniq h (ds_no a1 (by omega)) (ds_no b1 (by omega))
      exact ⟨txt_inj e1, txt_inj e2⟩
theorem body_head (q : Rat) : (bodyL q).head? ≠ some 45 := by
  obtain ⟨n1, _, n3⟩ := txtN_ok q.num.natAbs
  unfold bodyL
  cases ht : txtN q.num.natAbs with
  | nil => exact absurd ht n3
  | cons x t =>
    rw [List.cons_append, List.head?_cons]
    intro e
    have := n1 x (by rw [ht]; simp)
    have := Option.some.inj e
    omega
theorem outL_inj {p q : Rat} (h : outL p = outL q) : p = q := by
  have ep : outL p = (if p.num < 0 then [45] else []) ++ bodyL p := rfl
  have eq : outL q = (if q.num < 0 then [45] else []) ++ bodyL q := rfl
  rw [ep, eq] at h
  by_cases hp : p.num < 0
  · by_cases hq : q.num < 0
    · rw [if_pos hp, if_pos hq] at h
      obtain ⟨e1, e2⟩ := body_inj (List.append_cancel_left h)
      exact Rat.ext (by omega) e2
    · rw [if_pos hp, if_neg hq] at h
      exact absurd (by rw [← List.nil_append (bodyL q), ← h]; rfl) (body_head q)
  · by_cases hq : q.num < 0
    · rw [if_neg hp, if_pos hq] at h
      exact absurd (by rw [← List.nil_append (bodyL p), h]; rfl) (body_head p)
    · rw [if_neg hp, if_neg hq] at h
      obtain ⟨e1, e2⟩ := body_inj (List.append_cancel_left h)
      exact Rat.ext (by omega) e2
theorem outOk_uniq {p : ByteArray} {a b : Rat} (h : p = ofBytes (outL a)) (k : OutOk p b) : a = b := by
  have := congrArg bytesL (h.symm.trans k.1)
  rw [bytesL_of (outL_byte a), bytesL_of (outL_byte b)] at this
  exact outL_inj this
theorem no_empty (q : Rat) : ¬ OutOk ByteArray.empty q := by
  intro h
  have := congrArg bytesL h.1
  rw [bytesL_of (outL_byte q)] at this
  have e : bytesL ByteArray.empty = [] := rfl
  rw [e] at this
  have hb := (txtN_ok q.num.natAbs).2.2
  unfold outL at this
  have := List.append_eq_nil_iff.1 this.symm
  exact hb (List.append_eq_nil_iff.1 this.2).1
theorem sum_fr (f : Nat → Rat) : ∀ n : Nat, 0 ≤ sumQ (fun i => fr (f i)) n ∧ sumQ (fun i => fr (f i)) n ≤ ((n : Int) : Rat)
  | 0 => by show (0 : Rat) ≤ 0 ∧ (0 : Rat) ≤ ((0 : Int) : Rat); constructor <;> grind
  | n + 1 => by
    have ih := sum_fr f n
    have h := fr_rng (f n)
    have e : (((n + 1 : Nat) : Int) : Rat) = ((n : Int) : Rat) + 1 := by rw [show ((n + 1 : Nat) : Int) = (n : Int) + 1 from rfl]; grind
    show 0 ≤ sumQ (fun i => fr (f i)) n + fr (f n) ∧ sumQ (fun i => fr (f i)) n + fr (f n) ≤ _
    rw [e]
    constructor <;> grind
def idxs (n : Nat) : List Int := (List.range n).map fun i : Nat => (i : Int)
theorem idxs_succ (n : Nat) : idxs (n + 1) = idxs n ++ [(n : Int)] := by unfold idxs; rw [List.range_succ, List.map_append]; rfl
def RoundP (ps : List ByteArray) (r : List Int × Int) : Prop := (r.2 ≠ 0 → r.1 = []) ∧ (r.2 = 0 → ∃ (f : Nat → Rat) (n : Nat), (∀ i : Nat, i < ps.length → OutOk (rStr ps (i : Int)) (f i)) ∧ sumQ (fun i => fr (f i)) ps.length = ((n : Int) : Rat) ∧ n ≤ ps.length ∧ r.1.length = ps.length ∧
  ∀ i : Nat, i < ps.length → (-1000000000000000 ≤ (f i).floor ∧ (f i).floor ≤ 1000000000000000) ∧ rI64 r.1 (i : Int) = (f i).floor + (if (i : Int) ∈ (Srt.ssort (byFr fun i => fr (f i)) (idxs ps.length)).take n then 1 else 0))
theorem floor_int {p : ByteArray} {q : Rat} (h : OutOk p q) : EvP (fun k => (rat_Floor.f k p).bind fun r => rat_Integer.f k r.1) (fun r => r.2 = 0 → r.1 = q.floor) := by
  refine EvP.bindE (floor_ev h) ?_
  by_cases hf : Fit (q.floor : Rat)
  · rw [if_pos hf]
    refine EvP.of (integer_ev ⟨rfl, hf⟩) ?_
    unfold intR
    rw [if_pos (Rat.den_intCast _), Rat.num_intCast]
    split
    · intro _; rfl
    · intro e; cases e
  · rw [if_neg hf]
    exact (integer_ex (p := ByteArray.empty) (by show 0 ≤ _; omega)).mono (fun r hr e => by obtain ⟨q', h', _⟩ := hr e; exact absurd h' (no_empty q'))
theorem round_end (ps : List ByteArray) (hb : ps.length ≤ 256) (f : Nat → Rat) (hf : ∀ i : Nat, i < ps.length → OutOk (rStr ps (i : Int)) (f i)) (s l : Bool × List Int × List Int) (xo1 : List Int) (xo5 : List (Bool × List Int × List Int)) (h1 : xo1.length = ps.length) (h2 : ∀ i : Nat, i < ps.length → rI64 xo1 (i : Int) = (f i).floor ∧ -1000000000000000 ≤ (f i).floor ∧ (f i).floor ≤ 1000000000000000) (hl : Rp (2005 * ps.length + 3) (sumQ (fun i => fr (f i)) ps.length) l) (h5 : xo5.length = ps.length) (h6 : ∀ i : Nat, i < ps.length → Rp 2004 (fr (f i)) (rY2 xo5 (i : Int))) :
    EvP (fun k => settle_Round.l11 k ps (ps.length : Int) (ps.length : Int) s.1 s.2.1 s.2.2 xo1 (idxs ps.length) l.1 l.2.1 l.2.2 xo5) (RoundP ps) := by
  have hs := sum_fr f ps.length
  have t1 := txt_len (sumQ (fun i => fr (f i)) ps.length).num.natAbs
  have t2 := txt_len (sumQ (fun i => fr (f i)) ps.length).den
  have t3 := hl.ln
  have t4 := hl.ld
  have hsz : (ofBytes (outL (sumQ (fun i => fr (f i)) ps.length))).size ≤ 140737488355328 := by
    rw [of_size (outL_byte _)]
    unfold outL
    rw [List.length_append, List.length_append]
    split <;> split <;> simp only [List.length_cons, List.length_nil] <;> omega
  refine EvP.step (fun k => settle_Round.l11_eq k _ _ _ _ _ _ _ _ _ _ _ _) (EvP.neg (by omega) (EvP.bindE (out_ev hl (by omega)) (EvP.bind (integer_ex hsz) (fun r hr => EvP.ite (fun e => ?_) (fun e => EvP.ret ⟨fun _ => rfl, fun e => absurd e (by decide)⟩)))))
  obtain ⟨q, g1, g2, g3, g4, g5⟩ := hr e
  have eq := outOk_uniq rfl g1
  have hq : q = ((q.num : Int) : Rat) := Rat.ext (by rw [Rat.num_intCast]) (by rw [Rat.den_intCast, g2])
  rw [eq, hq] at hs
  have n0 : 0 ≤ q.num := by
    have := hs.1
    exact_mod_cast this
  have n1 : q.num ≤ ps.length := by
    have := hs.2
    exact_mod_cast this
  obtain ⟨n, hn⟩ : ∃ n : Nat, q.num = (n : Int) := ⟨q.num.toNat, by omega⟩
  have hil : (idxs ps.length).length = ps.length := by unfold idxs; simp
  have him : ∀ x ∈ idxs ps.length, 0 ≤ x ∧ x < (xo5.length : Int) := by
    intro x hx
    unfold idxs at hx
    obtain ⟨i, hi, rfl⟩ := List.mem_map.1 hx
    rw [List.mem_range] at hi
    omega
  have hpm := Srt.ssort_perm (byFr_swo fun i => fr (f i)) (idxs ps.length)
  have hsl := hpm.length_eq
  have hnd : (Srt.ssort (byFr fun i => fr (f i)) (idxs ps.length)).Nodup := hpm.nodup_iff.2 (by
    unfold idxs
    exact List.Pairwise.map _ (fun a b h e => h (by omega)) List.nodup_range)
  refine EvP.bindE (ssort_ev (fun i hi => h6 i (by omega)) (idxs ps.length) him (by omega)) ?_
  rw [g3, hn]
  refine EvP.pos (by show (n : Int) ≤ ((Srt.ssort _ _).length : Int); omega) (EvP.pos (by omega) ?_)
  have hb := bump_run ((Srt.ssort (byFr fun i => fr (f i)) (idxs ps.length)).take n) ps.length (by omega) (hnd.sublist (List.take_sublist _ _)) (fun x hx => by have := him x (hpm.mem_iff.1 (List.mem_of_mem_take hx)); omega) _ 0 xo1 (Nat.zero_add _) (by rw [List.length_take]; omega) h1 (fun i hi => by
    have := h2 i hi
    split <;> omega)
  rw [List.length_take, Nat.min_eq_left (by omega)] at hb
  have e0 : ((Int.toNat ((n : Nat) : Int) : Int) - (Int.toNat 0 : Int)) = (n : Int) := by simp
  rw [e0]
  refine hb.mono ?_
  rintro r ⟨r1, r2, r3⟩
  refine ⟨fun e => absurd r1 e, fun _ => ⟨f, n, hf, by rw [eq, hq, hn], by omega, r2, fun i hi => ⟨(h2 i hi).2, ?_⟩⟩⟩
  rw [r3 i hi, (h2 i hi).1]
  rfl
end Go.Proofs.YtamgbcgfjhpedaaDoor.VE
