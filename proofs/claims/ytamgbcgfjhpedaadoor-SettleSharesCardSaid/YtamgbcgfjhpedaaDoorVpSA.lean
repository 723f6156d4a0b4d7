import Derived.Test.YtamgbcgfjhpedaaDoorVpRA
import Derived.Test.YtamgbcgfjhpedaaDoorVpSortE
namespace Go.Proofs.YtamgbcgfjhpedaaDoor.VE
open Go Go.RowKit
set_option linter.unusedVariables false
attribute [local irreducible] wrap64
def intSrt : Srt.NSys (Ty.T (.int .i64)) ((List (Bool × List Int × List Int))) (List (Ty.T (.int .i64)) × (List (Bool × List Int × List Int))) (Int × (List (Bool × List Int × List Int))) where
  z := Ty.dflt (.int .i64)
  fst := fun r => r.1
  snd := fun r => r.2
  pk := fun x s => (x, s)
  cf := fun r => r.1
  cs := fun r => r.2
  cmp := fun k a b s => settle_Round_1.f k a b s
  il1 := fun k y0 y1 y2 xs s => slices_insertionSortCmpFunc_int.l1 k y0 y1 y2 xs s
  il4 := fun k y0 y1 y2 y3 xs s => slices_insertionSortCmpFunc_int.l4 k y0 y1 y2 y3 xs s
  wl1 := fun k y0 y1 y2 y3 xs s => slices_swapRangeCmpFunc_int.l1 k y0 y1 y2 y3 xs s
  rl2 := fun k y0 y1 y2 xs s => slices_rotateCmpFunc_int.l2 k y0 y1 y2 xs s
  ml9 := fun k y0 y1 xs s => slices_symMergeCmpFunc_int.l9 k y0 y1 xs s
  ml3 := fun k y0 y1 y2 xs s => slices_symMergeCmpFunc_int.l3 k y0 y1 y2 xs s
  ml21 := fun k y0 y1 xs s => slices_symMergeCmpFunc_int.l21 k y0 y1 xs s
  ml15 := fun k y0 y1 y2 xs s => slices_symMergeCmpFunc_int.l15 k y0 y1 y2 xs s
  mf := fun k y0 y1 y2 xs s => slices_symMergeCmpFunc_int.f k y0 y1 y2 xs s
  ml32 := fun k y0 y1 y2 y3 y4 y5 y6 xs s => slices_symMergeCmpFunc_int.l32 k y0 y1 y2 y3 y4 y5 y6 xs s
  ml33 := fun k y0 y1 y2 y3 y4 y5 y6 y7 xs s => slices_symMergeCmpFunc_int.l33 k y0 y1 y2 y3 y4 y5 y6 y7 xs s
  ml41 := fun k y0 y1 y2 y3 y4 xs s => slices_symMergeCmpFunc_int.l41 k y0 y1 y2 y3 y4 xs s
  sl7 := fun k y0 y1 xs s => slices_stableCmpFunc_int.l7 k y0 y1 xs s
  sl9 := fun k y0 y1 y2 y3 xs s => slices_stableCmpFunc_int.l9 k y0 y1 y2 y3 xs s
  sl2 := fun k y0 y1 y2 y3 xs s => slices_stableCmpFunc_int.l2 k y0 y1 y2 y3 xs s
theorem intSrt_eqs : Srt.NEqs intSrt where
  e1 := fun _ _ => rfl
  e2 := fun _ _ => rfl
  i1z := fun _ _ _ _ _ => rfl
  i4z := fun _ _ _ _ _ _ => rfl
  w1z := fun _ _ _ _ _ _ => rfl
  r2z := fun _ _ _ _ _ => rfl
  m9z := fun _ _ _ _ => rfl
  m3z := fun _ _ _ _ _ => rfl
  m21z := fun _ _ _ _ => rfl
  m15z := fun _ _ _ _ _ => rfl
  mfz := fun _ _ _ _ _ => rfl
  m32z := fun _ _ _ _ _ _ _ _ _ => rfl
  m33z := fun _ _ _ _ _ _ _ _ _ _ => rfl
  m41z := fun _ _ _ _ _ _ _ => rfl
  s7z := fun _ _ _ _ => rfl
  s9z := fun _ _ _ _ _ _ => rfl
  s2z := fun _ _ _ _ _ _ => rfl
  il1 := fun _ _ _ _ _ _ => rfl
  il4 := fun _ _ _ _ _ _ _ => rfl
  wl1 := fun _ _ _ _ _ _ _ => rfl
  rl2 := fun _ _ _ _ _ _ => rfl
  ml9 := fun _ _ _ _ _ => rfl
  ml3 := fun _ _ _ _ _ _ => rfl
  ml21 := fun _ _ _ _ _ => rfl
  ml15 := fun _ _ _ _ _ _ => rfl
  mf := fun _ _ _ _ _ _ => rfl
  ml32 := fun _ _ _ _ _ _ _ _ _ _ => rfl
  ml33 := fun _ _ _ _ _ _ _ _ _ _ _ => rfl
  ml41 := fun _ _ _ _ _ _ _ _ => rfl
  sl7 := fun _ _ _ _ _ => rfl
  sl9 := fun _ _ _ _ _ _ _ => rfl
  sl2 := fun _ _ _ _ _ _ _ => rfl
/-! ### package settle: Round's parts (no statement is proved here) -/
attribute [local irreducible] rd
def fr (q : Rat) : Rat := q - (q.floor : Rat)
theorem fr_rng (q : Rat) : 0 ≤ fr q ∧ fr q < 1 := by
  have h1 := Rat.floor_le q
  have h2 := Rat.lt_floor_add_one q
  unfold fr
  have h3 : ((q.floor + 1 : Int) : Rat) = (q.floor : Rat) + 1 := by grind
  rw [h3] at h2
  constructor <;> grind
def sumQ (g : Nat → Rat) : Nat → Rat
  | 0 => 0
  | n + 1 => sumQ g n + g n
def byFr (g : Nat → Rat) (a b : Int) : Bool := decide (g b.toNat < g a.toNat)
theorem byFr_swo (g : Nat → Rat) : Srt.SWO (byFr g) := by
  constructor
  · intro x y h
    unfold byFr at h ⊢
    have h := of_decide_eq_true h
    exact decide_eq_false (by grind)
  · intro x y z h1 h2
    unfold byFr at h1 h2 ⊢
    have h1 := of_decide_eq_false h1
    have h2 := of_decide_eq_false h2
    exact decide_eq_false (by grind)
theorem round1_ev {rest : List (Bool × List Int × List Int)} {g : Nat → Rat} (h : ∀ i, i < rest.length → Rp 2004 (g i) (rY2 rest (i : Int))) {x y : Int} (hx : 0 ≤ x ∧ x < rest.length) (hy : 0 ≤ y ∧ y < rest.length) : Ev (fun k => settle_Round_1.f k x y rest) (sgnQ (g y.toNat - g x.toNat), rest) := by
  have e1 := h x.toNat (by omega)
  have e2 := h y.toNat (by omega)
  rw [show ((x.toNat : Nat) : Int) = x by omega] at e1
  rw [show ((y.toNat : Nat) : Int) = y by omega] at e2
  exact Ev.pos hy.1 (Ev.pos hy.2 (Ev.pos hx.1 (Ev.pos hx.2 (Ev.bind (cmpQ_ev e2 e1 (by omega)) (Ev.now _)))))
theorem fr_cmp {rest : List (Bool × List Int × List Int)} {g : Nat → Rat} (h : ∀ i, i < rest.length → Rp 2004 (g i) (rY2 rest (i : Int))) : Srt.Cmp (intSrt.at rest) (byFr g) (fun x => 0 ≤ x ∧ x < rest.length) := by
  intro x y hx hy
  obtain ⟨K, hK⟩ := round1_ev h hx hy
  refine ⟨sgnQ (g y.toNat - g x.toNat), ⟨K, fun k hk => ?_⟩, ?_⟩
  · show (settle_Round_1.f k x y rest).map (fun r => r.1) = some _
    have this : settle_Round_1.f k x y rest = some (sgnQ (g (Int.toNat y) - g (Int.toNat x)), rest) := hK k hk
    rw [this]; rfl
  · rw [sgnQ_neg]
    unfold byFr
    rw [decide_eq_true_iff]
    constructor <;> intro h <;> grind
theorem round1_stays (k : Nat) (a b : Int) (rest : List (Bool × List Int × List Int)) (r : Int × List (Bool × List Int × List Int)) (h : settle_Round_1.f k a b rest = some r) : r.2 = rest := by
  unfold settle_Round_1.f at h
  split at h
  · split at h
    · split at h
      · split at h
        · obtain ⟨c, _, hc⟩ := Option.bind_eq_some_iff.1 h
          rw [← Option.some.inj hc]
        · cases h
      · cases h
    · cases h
  · cases h
theorem ssort_ev {rest : List (Bool × List Int × List Int)} {g : Nat → Rat} (h : ∀ i, i < rest.length → Rp 2004 (g i) (rY2 rest (i : Int))) (idx : List Int) (hi : ∀ x ∈ idx, 0 ≤ x ∧ x < rest.length) (hl : idx.length ≤ 1000000) : Ev (fun k => slices_SortStableFunc_int.f k idx rest) (Srt.ssort (byFr g) idx, rest) := by
  have := Srt.nstable (N := intSrt) (s := rest) intSrt_eqs (fun k a b r hr => round1_stays k a b rest r hr) (fun r => rfl) (byFr_swo g) (fr_cmp h) idx hi (by omega)
  unfold slices_SortStableFunc_int.f slices_stableCmpFunc_int.f
  exact Ev.bind this (Ev.now _)
/-- The taken ones are raised by one. -/
theorem bump_run (t : List Int) (L : Nat) (hL : L ≤ 1000000) (hn : t.Nodup) (hr : ∀ x ∈ t, 0 ≤ x ∧ x < L) : ∀ (m j : Nat) (out : List Int), j + m = t.length → t.length ≤ 1000000 → out.length = L → (∀ i : Nat, i < L → -1000000000000000 ≤ rI64 out i ∧ rI64 out i ≤ 1000000000000000 + (if (i : Int) ∈ t.drop j then 0 else 1)) →
    EvP (fun k => settle_Round.l27 k t (t.length : Int) (j : Int) out) (fun r => r.2 = 0 ∧ r.1.length = L ∧ ∀ i : Nat, i < L → rI64 r.1 i = rI64 out i + (if (i : Int) ∈ t.drop j then 1 else 0))
  | 0, j, out, hj, ht, ho, hb => by
    rw [List.drop_eq_nil_of_le (by omega)]
    exact EvP.step (fun k => settle_Round.l27_eq k _ _ _ _) (EvP.neg (by omega) (EvP.ret ⟨rfl, ho, fun i hi => by simp⟩))
  | m + 1, j, out, hj, ht, ho, hb => by
    have hdr := rI64_drop (xs := t) (i := (j : Int)) (by omega) (by omega)
    rw [show ((j : Int)).toNat = j from rfl, show ((j : Int) + 1).toNat = j + 1 from rfl] at hdr
    have hm := hr _ (rI64_mem (xs := t) (i := (j : Int)) (by omega) (by omega))
    have hnd : rI64 t (j : Int) ∉ t.drop (j + 1) := by
      have := hn.sublist (List.drop_sublist j t)
      rw [hdr, List.nodup_cons] at this
      exact this.1
    rw [hdr] at hb ⊢
    refine EvP.step (fun k => settle_Round.l27_eq k _ _ _ _) ?_
    generalize rI64 t (j : Int) = x at hm hnd hb ⊢
    obtain ⟨a, rfl⟩ : ∃ a : Nat, x = (a : Int) := ⟨x.toNat, by omega⟩
    have ha := hb a (by omega)
    rw [if_pos (by simp)] at ha
    rw [w64 (x := rI64 out (a : Int) + 1) (by omega) (by omega), w64 (x := (j : Int) + 1) (by omega) (by omega)]
    refine EvP.pos (by omega) (EvP.pos (by omega) (EvP.pos (by omega) (EvP.pos (by omega) (EvP.pos (by omega) (EvP.pos (by omega) (EvP.pos (by omega) ?_))))))
    have hset : ∀ i : Nat, rI64 (out.set ((a : Int)).toNat (rI64 out (a : Int) + 1)) (i : Int) = if (i : Int) = (a : Int) then rI64 out (a : Int) + 1 else rI64 out (i : Int) := fun i => rI64_set (xs := out) (i := (a : Int)) _ (by omega) (by omega) (by omega)
    refine (bump_run t L hL hn hr m (j + 1) _ (by omega) ht (by rw [List.length_set, ho]) (fun i hi => ?_)).mono ?_
    · rw [hset]
      have := hb i hi
      by_cases hia : (i : Int) = (a : Int)
      · rw [if_pos hia, if_neg (by rw [hia]; exact hnd)]; omega
      · rw [if_neg hia]
        by_cases hin : (i : Int) ∈ t.drop (j + 1)
        · rw [if_pos hin]; rw [if_pos (by simp [hin])] at this; exact this
        · rw [if_neg hin]; rw [if_neg (by simp [hin]; omega)] at this; exact this
    · rintro r ⟨h1, h2, h3⟩
      refine ⟨h1, h2, fun i hi => ?_⟩
      rw [h3 i hi, hset]
      by_cases hia : (i : Int) = (a : Int)
      · rw [if_pos hia, hia, if_neg hnd, if_pos (by simp)]; omega
      · rw [if_neg hia]
        by_cases hin : (i : Int) ∈ t.drop (j + 1)
        · rw [if_pos hin, if_pos (by simp [hin])]
        · rw [if_neg hin, if_neg (by simp [hin]; omega)]
/-! ### settle.Round (no statement is proved here) -/
theorem body_inj {p q : Rat} (h : bodyL p = bodyL q) : p.num.natAbs = q.num.natAbs ∧ p.den = q.den := by
  obtain ⟨a1, _, _⟩ := txtN_ok p.num.natAbs
  obtain ⟨b1, _, _⟩ := txtN_ok q.num.natAbs
  unfold bodyL at h
  by_cases hp : p.den = 1
  · by_cases hq : q.den = 1
    · rw [if_pos hp, if_pos hq, List.append_nil, List.append_nil] at h
      exact ⟨txt_inj h, by rw [hp, hq]⟩
    · rw [if_pos hp, if_neg hq, List.append_nil] at h
      exact absurd (by rw [h]; simp) (ds_no a1 (show (47 : Int) < 48 by omega))
  · by_cases hq : q.den = 1
    · rw [if_neg hp, if_pos hq, List.append_nil] at h
      exact absurd (by rw [← h]; simp) (ds_no b1 (show (47 : Int) < 48 by omega))
    · rw [if_neg hp, if_neg hq] at h
      obtain ⟨e1, e2⟩ := split_uniq h (ds_no a1 (by omega)) (ds_no b1 (by omega))
      exact ⟨txt_inj e1, txt_inj e2⟩
theorem body_head (q : Rat) : (bodyL q).head? ≠ some 45 := by
  obtain ⟨n1, _, n3⟩ := txtN_ok q.num.natAbs
  unfold bodyL
  cases ht : txtN q.num.natAbs with
  | nil => exact absurd ht n3
  | cons x t =>
    rw [List.cons_append, List.head?_cons]
    intro e
    have := n1 x (by rw [ht]; simp)
    have := Option.some.inj e
    omega
theorem outL_inj {p q : Rat} (h : outL p = outL q) : p = q := by
  have ep : outL p = (if p.num < 0 then [45] else []) ++ bodyL p := rfl
  have eq : outL q = (if q.num < 0 then [45] else []) ++ bodyL q := rfl
  rw [ep, eq] at h
  by_cases hp : p.num < 0
  · by_cases hq : q.num < 0
    · rw [if_pos hp, if_pos hq] at h
      obtain ⟨e1, e2⟩ := body_inj (List.append_cancel_left h)
      exact Rat.ext (by omega) e2
    · rw [if_pos hp, if_neg hq] at h
      exact absurd (by rw [← List.nil_append (bodyL q), ← h]; rfl) (body_head q)
  · by_cases hq : q.num < 0
    · rw [if_neg hp, if_pos hq] at h
      exact absurd (by rw [← List.nil_append (bodyL p), h]; rfl) (body_head p)
    · rw [if_neg hp, if_neg hq] at h
      obtain ⟨e1, e2⟩ := body_inj (List.append_cancel_left h)
      exact Rat.ext (by omega) e2
theorem outOk_uniq {p : ByteArray} {a b : Rat} (h : p = ofBytes (outL a)) (k : OutOk p b) : a = b := by
  have := congrArg bytesL (h.symm.trans k.1)
  rw [bytesL_of (outL_byte a), bytesL_of (outL_byte b)] at this
  exact outL_inj this
theorem no_empty (q : Rat) : ¬ OutOk ByteArray.empty q := by
  intro h
  have := congrArg bytesL h.1
  rw [bytesL_of (outL_byte q)] at this
  have e : bytesL ByteArray.empty = [] := rfl
  rw [e] at this
  have hb := (txtN_ok q.num.natAbs).2.2
  unfold outL at this
  have := List.append_eq_nil_iff.1 this.symm
  exact hb (List.append_eq_nil_iff.1 this.2).1
theorem sum_fr (f : Nat → Rat) : ∀ n : Nat, 0 ≤ sumQ (fun i => fr (f i)) n ∧ sumQ (fun i => fr (f i)) n ≤ ((n : Int) : Rat)
  | 0 => by show (0 : Rat) ≤ 0 ∧ (0 : Rat) ≤ ((0 : Int) : Rat); constructor <;> grind
  | n + 1 => by
    have ih := sum_fr f n
    have h := fr_rng (f n)
    have e : (((n + 1 : Nat) : Int) : Rat) = ((n : Int) : Rat) + 1 := by rw [show ((n + 1 : Nat) : Int) = (n : Int) + 1 from rfl]; grind
    show 0 ≤ sumQ (fun i => fr (f i)) n + fr (f n) ∧ sumQ (fun i => fr (f i)) n + fr (f n) ≤ _
    rw [e]
    constructor <;> grind
def idxs (n : Nat) : List Int := (List.range n).map fun i : Nat => (i : Int)
theorem idxs_succ (n : Nat) : idxs (n + 1) = idxs n ++ [(n : Int)] := by unfold idxs; rw [List.range_succ, List.map_append]; rfl
def RoundP (ps : List ByteArray) (r : List Int × Int) : Prop := (r.2 ≠ 0 → r.1 = []) ∧ (r.2 = 0 → ∃ (f : Nat → Rat) (n : Nat), (∀ i : Nat, i < ps.length → OutOk (rStr ps (i : Int)) (f i)) ∧ sumQ (fun i => fr (f i)) ps.length = ((n : Int) : Rat) ∧ n ≤ ps.length ∧ r.1.length = ps.length ∧
  ∀ i : Nat, i < ps.length → (-1000000000000000 ≤ (f i).floor ∧ (f i).floor ≤ 1000000000000000) ∧ rI64 r.1 (i : Int) = (f i).floor + (if (i : Int) ∈ (Srt.ssort (byFr fun i => fr (f i)) (idxs ps.length)).take n then 1 else 0))
theorem floor_int {p : ByteArray} {q : Rat} (h : OutOk p q) : EvP (fun k => (rat_Floor.f k p).bind fun r => rat_Integer.f k r.1) (fun r => r.2 = 0 → r.1 = q.floor) := by
  refine EvP.bindE (floor_ev h) ?_
  by_cases hf : Fit (q.floor : Rat)
  · rw [if_pos hf]
    refine EvP.of (integer_ev ⟨rfl, hf⟩) ?_
    unfold intR
    rw [if_pos (Rat.den_intCast _), Rat.num_intCast]
    split
    · intro _; rfl
    · intro e; cases e
  · rw [if_neg hf]
    exact (integer_ex (p := ByteArray.empty) (by show 0 ≤ _; omega)).mono (fun r hr e => by obtain ⟨q', h', _⟩ := hr e; exact absurd h' (no_empty q'))
theorem round_end (ps : List ByteArray) (hb : ps.length ≤ 256) (f : Nat → Rat) (hf : ∀ i : Nat, i < ps.length → OutOk (rStr ps (i : Int)) (f i)) (s l : Bool × List Int × List Int) (xo1 : List Int) (xo5 : List (Bool × List Int × List Int)) (h1 : xo1.length = ps.length) (h2 : ∀ i : Nat, i < ps.length → rI64 xo1 (i : Int) = (f i).floor ∧ -1000000000000000 ≤ (f i).floor ∧ (f i).floor ≤ 1000000000000000) (hl : Rp (2005 * ps.length + 3) (sumQ (fun i => fr (f i)) ps.length) l) (h5 : xo5.length = ps.length) (h6 : ∀ i : Nat, i < ps.length → Rp 2004 (fr (f i)) (rY2 xo5 (i : Int))) :
    EvP (fun k => settle_Round.l11 k ps (ps.length : Int) (ps.length : Int) s.1 s.2.1 s.2.2 xo1 (idxs ps.length) l.1 l.2.1 l.2.2 xo5) (RoundP ps) := by
  have hs := sum_fr f ps.length
  have t1 := txt_len (sumQ (fun i => fr (f i)) ps.length).num.natAbs
  have t2 := txt_len (sumQ (fun i => fr (f i)) ps.length).den
  have t3 := hl.ln
  have t4 := hl.ld
  have hsz : (ofBytes (outL (sumQ (fun i => fr (f i)) ps.length))).size ≤ 140737488355328 := by
    rw [of_size (outL_byte _)]
    unfold outL
    rw [List.length_append, List.length_append]
    split <;> split <;> simp only [List.length_cons, List.length_nil] <;> omega
  refine EvP.step (fun k => settle_Round.l11_eq k _ _ _ _ _ _ _ _ _ _ _ _) (EvP.neg (by omega) (EvP.bindE (out_ev hl (by omega)) (EvP.bind (integer_ex hsz) (fun r hr => EvP.ite (fun e => ?_) (fun e => EvP.ret ⟨fun _ => rfl, fun e => absurd e (by decide)⟩)))))
  obtain ⟨q, g1, g2, g3, g4, g5⟩ := hr e
  have eq := outOk_uniq rfl g1
  have hq : q = ((q.num : Int) : Rat) := Rat.ext (by rw [Rat.num_intCast]) (by rw [Rat.den_intCast, g2])
  rw [eq, hq] at hs
  have n0 : 0 ≤ q.num := by
    have := hs.1
    exact_mod_cast this
  have n1 : q.num ≤ ps.length := by
    have := hs.2
    exact_mod_cast this
  obtain ⟨n, hn⟩ : ∃ n : Nat, q.num = (n : Int) := ⟨q.num.toNat, by omega⟩
  have hil : (idxs ps.length).length = ps.length := by unfold idxs; simp
  have him : ∀ x ∈ idxs ps.length, 0 ≤ x ∧ x < (xo5.length : Int) := by
    intro x hx
    unfold idxs at hx
    obtain ⟨i, hi, rfl⟩ := List.mem_map.1 hx
    rw [List.mem_range] at hi
    omega
  have hpm := Srt.ssort_perm (byFr_swo fun i => fr (f i)) (idxs ps.length)
  have hsl := hpm.length_eq
  have hnd : (Srt.ssort (byFr fun i => fr (f i)) (idxs ps.length)).Nodup := hpm.nodup_iff.2 (by
    unfold idxs
    exact List.Pairwise.map _ (fun a b h e => h (by omega)) List.nodup_range)
  refine EvP.bindE (ssort_ev (fun i hi => h6 i (by omega)) (idxs ps.length) him (by omega)) ?_
  rw [g3, hn]
  refine EvP.pos (by show (n : Int) ≤ ((Srt.ssort _ _).length : Int); omega) (EvP.pos (by omega) ?_)
  have hb := bump_run ((Srt.ssort (byFr fun i => fr (f i)) (idxs ps.length)).take n) ps.length (by omega) (hnd.sublist (List.take_sublist _ _)) (fun x hx => by have := him x (hpm.mem_iff.1 (List.mem_of_mem_take hx)); omega) _ 0 xo1 (Nat.zero_add _) (by rw [List.length_take]; omega) h1 (fun i hi => by
    have := h2 i hi
    split <;> omega)
  rw [List.length_take, Nat.min_eq_left (by omega)] at hb
  have e0 : ((Int.toNat ((n : Nat) : Int) : Int) - (Int.toNat 0 : Int)) = (n : Int) := by simp
  rw [e0]
  refine hb.mono ?_
  rintro r ⟨r1, r2, r3⟩
  refine ⟨fun e => absurd r1 e, fun _ => ⟨f, n, hf, by rw [eq, hq, hn], by omega, r2, fun i hi => ⟨(h2 i hi).2, ?_⟩⟩⟩
  rw [r3 i hi, (h2 i hi).1]
  rfl
/-! ### settle.Round whole (no statement is proved here) -/
theorem round_loop (ps : List ByteArray) (hb : ps.length ≤ 256) (f : Nat → Rat) (hf : ∀ i : Nat, i < ps.length → OutOk (rStr ps (i : Int)) (f i)) : ∀ (m j : Nat) (s l : Bool × List Int × List Int) (xo1 : List Int) (xo5 : List (Bool × List Int × List Int)), j + m = ps.length → Rp (2001 * j + 3) (sumQ f j) s → xo1.length = j → (∀ i : Nat, i < j → rI64 xo1 (i : Int) = (f i).floor ∧ -1000000000000000 ≤ (f i).floor ∧ (f i).floor ≤ 1000000000000000) → Rp (2005 * j + 3) (sumQ (fun i => fr (f i)) j) l → xo5.length = j → (∀ i : Nat, i < j → Rp 2004 (fr (f i)) (rY2 xo5 (i : Int))) →
    EvP (fun k => settle_Round.l11 k ps (ps.length : Int) (j : Int) s.1 s.2.1 s.2.2 xo1 (idxs j) l.1 l.2.1 l.2.2 xo5) (RoundP ps)
  | 0, j, s, l, xo1, xo5, hj, hs, h1, h2, hl, h5, h6 => by
    have hj : j = ps.length := by omega
    subst hj
    exact round_end ps hb f hf s l xo1 xo5 h1 h2 hl h5 h6
  | m + 1, j, s, l, xo1, xo5, hj, hs, h1, h2, hl, h5, h6 => by
    have hfj := hf j (by omega)
    have hil : (idxs j).length = j := by unfold idxs; simp
    refine EvP.step (fun k => settle_Round.l11_eq k _ _ _ _ _ _ _ _ _ _ _ _) (EvP.pos (by omega) (EvP.pos (by omega) (EvP.pos (by omega) (EvP.bind (in_ev hfj) (fun x hx => EvP.bind (addQ_ev hs hx (by omega)) (fun y hy => ?_))))))
    obtain ⟨r6, hr6⟩ : ∃ r6, Ev (fun k => rat_Floor.f k (rStr ps (j : Int))) r6 := ⟨_, floor_ev hfj⟩
    obtain ⟨z, hz, hz2⟩ := floor_int hfj
    have hz7 : EvP (fun k => rat_Integer.f k r6.1) (fun r => r.2 = 0 → r.1 = (f j).floor) := by
      obtain ⟨K, hK⟩ := hr6
      obtain ⟨K', hK'⟩ := hz
      refine ⟨z, ⟨max K K', fun k hk => ?_⟩, hz2⟩
      have e1 : (rat_Floor.f k (rStr ps (j : Int))).bind (fun r => rat_Integer.f k r.1) = some z := hK' k (by omega)
      have e2 : rat_Floor.f k (rStr ps (j : Int)) = some r6 := hK k (by omega)
      rw [e2] at e1
      exact e1
    refine EvP.bindE hr6 (EvP.bind hz7 (fun r hr => EvP.ite (fun e => EvP.ite (fun _ => EvP.ret ⟨fun _ => rfl, fun e => absurd e (by decide)⟩) (fun b0 => EvP.ite (fun _ => EvP.ret ⟨fun _ => rfl, fun e => absurd e (by decide)⟩) (fun b1 => ?_))) (fun _ => EvP.ret ⟨fun _ => rfl, fun e => absurd e (by decide)⟩)))
    have b0 : ¬ r.1 < -1000000000000000 := b0
    have b1 : ¬ 1000000000000000 < r.1 := b1
    have er := hr e
    refine EvP.bind (int_ev (a := r.1) (by omega) (by omega)) (fun w hw => EvP.bind (subQ_ev hx hw (by omega)) (fun d hd => EvP.pos (by rw [List.length_singleton]; omega) (EvP.pos (by rw [List.length_singleton]; omega) (EvP.pos (by rw [List.length_singleton]; omega) ?_))))
    have hd' : Rp 2004 (fr (f j)) d := by
      rw [er] at hd
      exact hd
    refine EvP.bind (addQ_ev hl hd' (by omega)) (fun v hv => ?_)
    rw [w64 (x := (j : Int) + 1) (by omega) (by omega), ← idxs_succ]
    refine round_loop ps hb f hf m (j + 1) y v _ _ (by omega) (hy.up (by omega)) (by rw [List.length_append, List.length_singleton, h1]) (fun i hi => ?_) (hv.up (by omega)) (by rw [List.length_append, List.length_singleton, h5]) (fun i hi => ?_)
    · by_cases hij : i < j
      · have h := h2 i hij
        have hg := rI64_some (xs := xo1) (i := (i : Int)) (by omega) (by omega)
        rw [rI64_get (xo1 ++ [r.1]) i (rI64 xo1 (i : Int)) (by rw [List.getElem?_append_left (by omega)]; exact hg)]
        exact h
      · have : i = j := by omega
        subst this
        rw [rI64_get (xo1 ++ [r.1]) i r.1 (by rw [List.getElem?_append_right (by omega), h1, Nat.sub_self]; rfl)]
        exact ⟨er, by omega, by omega⟩
    · by_cases hij : i < j
      · have h := h6 i hij
        have hg := rY2_some (xs := xo5) (i := (i : Int)) (by omega) (by omega)
        rw [rY2_get (xo5 ++ [d]) i (rY2 xo5 (i : Int)) (by rw [List.getElem?_append_left (by omega)]; exact hg)]
        exact h
      · have : i = j := by omega
        subst this
        rw [rY2_get (xo5 ++ [d]) i d (by rw [List.getElem?_append_right (by omega), h5, Nat.sub_self]; rfl)]
        exact hd'
theorem choose_q {ps : List ByteArray} (h : ∀ x ∈ ps, ∃ q, OutOk x q) : ∃ f : Nat → Rat, ∀ i : Nat, i < ps.length → OutOk (rStr ps (i : Int)) (f i) := by
  have h' : ∀ i : Nat, ∃ q, i < ps.length → OutOk (rStr ps (i : Int)) q := by
    intro i
    by_cases hi : i < ps.length
    · obtain ⟨q, hq⟩ := h _ (rStr_mem (xs := ps) (i := (i : Int)) (by omega) (by omega))
      exact ⟨q, fun _ => hq⟩
    · exact ⟨0, fun e => absurd e hi⟩
  exact ⟨fun i => Classical.choose (h' i), fun i => Classical.choose_spec (h' i)⟩
theorem round_ex {ps : List ByteArray} (hs : ∀ x ∈ ps, x.size ≤ 140737488355328) : EvP (fun k => settle_Round.f k ps) (RoundP ps) := by
  refine EvP.ite (fun h => EvP.ret ⟨fun _ => rfl, fun e => absurd e (by decide)⟩) (fun h => ?_)
  have h : ¬ 256 < (ps.length : Int) := h
  refine EvP.bind (checkAll_ex (by omega) hs) (fun r hr => EvP.ite (fun e => ?_) (fun e => EvP.ret ⟨fun _ => rfl, fun e' => absurd e' e⟩))
  obtain ⟨f, hf⟩ := choose_q (hr e)
  refine EvP.bind (int_ev (a := 0) (by omega) (by omega)) (fun s hs => EvP.bind (int_ev (a := 0) (by omega) (by omega)) (fun l hl => ?_))
  exact round_loop ps (by omega) f hf ps.length 0 s l [] [] (by omega) hs rfl (fun i hi => by omega) hl rfl (fun i hi => by omega)
/-! ### sums of fractions (no statement is proved here) -/
def sumL (g : Int → Rat) : List Int → Rat
  | [] => 0
  | x :: l => g x + sumL g l
theorem sumL_perm (g : Int → Rat) {a b : List Int} (h : a.Perm b) : sumL g a = sumL g b := by
  induction h with
  | nil => rfl
  | cons x _ ih => show _ + _ = _ + _; rw [ih]
  | swap x y l => show _ + (_ + _) = _ + (_ + _); grind
  | trans _ _ h1 h2 => rw [h1, h2]
theorem sumL_app (g : Int → Rat) : ∀ (a b : List Int), sumL g (a ++ b) = sumL g a + sumL g b
  | [], b => by show sumL g b = 0 + sumL g b; grind
  | x :: a, b => by
    show g x + sumL g (a ++ b) = g x + sumL g a + sumL g b
    rw [sumL_app g a b]; grind
theorem sumL_idxs (g : Nat → Rat) : ∀ n, sumL (fun i => g i.toNat) (idxs n) = sumQ g n
  | 0 => rfl
  | n + 1 => by
    rw [idxs_succ, sumL_app, sumL_idxs g n]
    show _ + (g ((n : Int)).toNat + 0) = sumQ g n + g n
    rw [show ((n : Int)).toNat = n from rfl]; grind
theorem sumL_le (g : Int → Rat) : ∀ (l : List Int), (∀ x ∈ l, g x ≤ 1) → sumL g l ≤ ((l.length : Int) : Rat)
  | [], _ => by show (0 : Rat) ≤ ((0 : Int) : Rat); grind
  | x :: l, h => by
    have ih := sumL_le g l (fun y hy => h y (by simp [hy]))
    have hx := h x (by simp)
    have e : (((x :: l).length : Int) : Rat) = ((l.length : Int) : Rat) + 1 := by rw [List.length_cons, show ((l.length + 1 : Nat) : Int) = (l.length : Int) + 1 from rfl]; grind
    show g x + sumL g l ≤ _
    rw [e]; grind
theorem sumL_zero (g : Int → Rat) : ∀ (l : List Int), (∀ x ∈ l, g x ≤ 0) → sumL g l ≤ 0
  | [], _ => by show (0 : Rat) ≤ 0; grind
  | x :: l, h => by
    have ih := sumL_zero g l (fun y hy => h y (by simp [hy]))
    have hx := h x (by simp)
    show g x + sumL g l ≤ 0
    grind
/-- The taken fractions are positive. -/
theorem taken_pos (g : Nat → Rat) (L n : Nat) (hg : ∀ i, i < L → g i ≤ 1) (hn : sumQ g L = ((n : Int) : Rat)) : ∀ x ∈ (Srt.ssort (byFr g) (idxs L)).take n, 0 < g x.toNat := by
  intro x hx
  apply Classical.byContradiction
  intro hc
  have hc : g x.toNat ≤ 0 := by grind
  have hs := Srt.ssort_sorted (byFr_swo g) _ (idxs L) rfl
  have hp := Srt.ssort_perm (byFr_swo g) (idxs L)
  have hsum := sumL_perm (fun i => g i.toNat) hp
  rw [sumL_idxs, hn] at hsum
  generalize Srt.ssort (byFr g) (idxs L) = t at hx hs hp hsum
  obtain ⟨a, b, e⟩ := List.append_of_mem hx
  have et : t = a ++ x :: (b ++ t.drop n) := by
    conv => lhs; rw [← List.take_append_drop n t, e]
    simp
  have hal : a.length < n := by
    have := congrArg List.length e
    rw [List.length_take, List.length_append, List.length_cons] at this
    omega
  rw [et, sumL_app] at hsum
  have h1 := sumL_le (fun i => g i.toNat) a (fun y hy => hg y.toNat (by
    have hm := hp.mem_iff.1 (show y ∈ t by rw [et]; simp [hy])
    unfold idxs at hm
    obtain ⟨i, hi, rfl⟩ := List.mem_map.1 hm
    rw [List.mem_range] at hi
    omega))
  have h2 := sumL_zero (fun i => g i.toNat) (x :: (b ++ t.drop n)) (fun y hy => by
    rw [et] at hs
    rcases List.mem_cons.1 hy with rfl | hy
    · exact hc
    · have h := (List.pairwise_cons.1 (List.pairwise_append.1 hs).2.1).1 y hy
      unfold byFr at h
      have h := of_decide_eq_false h
      show g y.toNat ≤ 0
      grind)
  have h3 : ((a.length : Int) : Rat) < ((n : Int) : Rat) := by exact_mod_cast hal
  grind
theorem sumL_one (g : Int → Rat) : ∀ (l : List Int), (∀ x ∈ l, g x = 1) → sumL g l = ((l.length : Int) : Rat)
  | [], _ => by show (0 : Rat) = ((0 : Int) : Rat); grind
  | x :: l, h => by
    have ih := sumL_one g l (fun y hy => h y (by simp [hy]))
    have hx := h x (by simp)
    have e : (((x :: l).length : Int) : Rat) = ((l.length : Int) : Rat) + 1 := by rw [List.length_cons, show ((l.length + 1 : Nat) : Int) = (l.length : Int) + 1 from rfl]; grind
    show g x + sumL g l = _
    rw [e, ih, hx]; grind
theorem sumL_none (g : Int → Rat) : ∀ (l : List Int), (∀ x ∈ l, g x = 0) → sumL g l = 0
  | [], _ => rfl
  | x :: l, h => by
    have ih := sumL_none g l (fun y hy => h y (by simp [hy]))
    have hx := h x (by simp)
    show g x + sumL g l = 0
    rw [ih, hx]; grind
def takes (T : List Int) (i : Int) : Rat := if i ∈ T then 1 else 0
theorem takes_sum (g : Nat → Rat) (L n : Nat) (hn : n ≤ L) : sumQ (fun i => takes ((Srt.ssort (byFr g) (idxs L)).take n) (i : Int)) L = ((n : Int) : Rat) := by
  have hp := Srt.ssort_perm (byFr_swo g) (idxs L)
  have hil : (idxs L).length = L := by unfold idxs; simp
  have hsl := hp.length_eq
  have hnd : (Srt.ssort (byFr g) (idxs L)).Nodup := hp.nodup_iff.2 (by
    unfold idxs
    exact List.Pairwise.map _ (fun a b h e => h (by omega)) List.nodup_range)
  have hsum := sumL_perm (fun i => takes ((Srt.ssort (byFr g) (idxs L)).take n) ((i.toNat : Nat) : Int)) hp
  rw [sumL_idxs (fun i => takes ((Srt.ssort (byFr g) (idxs L)).take n) (i : Int))] at hsum
  rw [← hsum]
  have hpos : ∀ x ∈ Srt.ssort (byFr g) (idxs L), ((x.toNat : Nat) : Int) = x := fun x hx => by
    have hm := hp.mem_iff.1 hx
    unfold idxs at hm
    obtain ⟨i, hi, rfl⟩ := List.mem_map.1 hm
    rfl
  generalize Srt.ssort (byFr g) (idxs L) = t at hnd hpos hsl ⊢
  conv => lhs; rw [← List.take_append_drop n t]
  rw [sumL_app]
  have hdisj := (List.nodup_append.1 (by rw [List.take_append_drop]; exact hnd : (t.take n ++ t.drop n).Nodup)).2.2
  rw [sumL_one _ (t.take n) (fun x hx => ?_), sumL_none _ (t.drop n) (fun x hx => ?_), List.length_take, Nat.min_eq_left (by omega)]
  · grind
  · rw [hpos x (List.mem_of_mem_drop hx)]
    unfold takes
    rw [List.take_append_drop]
    rw [if_neg (fun hm => hdisj x hm x hx rfl)]
  · rw [hpos x (List.mem_of_mem_take hx)]
    unfold takes
    rw [List.take_append_drop]
    rw [if_pos hx]
theorem sumQ_congr {a b : Nat → Rat} : ∀ n, (∀ i, i < n → a i = b i) → sumQ a n = sumQ b n
  | 0, _ => rfl
  | n + 1, h => by
    show sumQ a n + a n = sumQ b n + b n
    rw [sumQ_congr n (fun i hi => h i (by omega)), h n (by omega)]
theorem sumQ_sub (a b : Nat → Rat) : ∀ n, sumQ (fun i => a i - b i) n = sumQ a n - sumQ b n
  | 0 => by show (0 : Rat) = 0 - 0; grind
  | n + 1 => by
    show sumQ (fun i => a i - b i) n + (a n - b n) = sumQ a n + a n - (sumQ b n + b n)
    rw [sumQ_sub a b n]; grind
theorem fit_int {n : Int} (h0 : -9223372036854775808 ≤ n) (h1 : n ≤ 9223372036854775807) : Fit (n : Rat) := by
  unfold Fit
  rw [Rat.num_intCast, Rat.den_intCast, txt_one]
  have := txt_len n.natAbs
  have := dl_i64 (n := n.natAbs) (by omega)
  exact ⟨by omega, by simp⟩
theorem outL_int (n : Int) : outL (n : Rat) = (if n < 0 then [45] else []) ++ txtN n.natAbs := by
  unfold outL
  rw [Rat.num_intCast, Rat.den_intCast, if_pos rfl, List.append_nil]
theorem ok_one : OutOk (ByteArray.mk #[49]) 1 := by
  have e := outL_int 1
  rw [if_neg (by omega), show (1 : Int).natAbs = 1 from rfl, txt_one] at e
  have h : OutOk (ByteArray.mk #[49]) ((1 : Int) : Rat) := ⟨by rw [e]; rfl, fit_int (by omega) (by omega)⟩
  exact h
theorem ok_mone : OutOk (ByteArray.mk #[45, 49]) (-1) := by
  have e := outL_int (-1)
  rw [if_pos (by omega), show (-1 : Int).natAbs = 1 from rfl, txt_one] at e
  have h : OutOk (ByteArray.mk #[45, 49]) ((-1 : Int) : Rat) := ⟨by rw [e]; rfl, fit_int (by omega) (by omega)⟩
  have e2 : ((-1 : Int) : Rat) = -1 := by grind
  rw [e2] at h
  exact h
theorem compare_bad {b : ByteArray} (hb : b.size ≤ 140737488355328) : EvP (fun k => rat_Compare.f k ByteArray.empty b) (fun r => r.2 ≠ 0) := by
  refine EvP.bind (checkAll_ex (xs := [ByteArray.empty, b]) (by simp) (fun x hx => ?_)) (fun r hr => EvP.neg (fun e => ?_) (EvP.ret (fun e => ?_)))
  · simp only [List.mem_cons, List.not_mem_nil, or_false] at hx
    rcases hx with rfl | rfl
    · show 0 ≤ _; omega
    · exact hb
  · obtain ⟨q, hq⟩ := hr e _ (List.mem_cons_self ..)
    exact no_empty q hq
  · obtain ⟨q, hq⟩ := hr e _ (List.mem_cons_self ..)
    exact no_empty q hq
end Go.Proofs.YtamgbcgfjhpedaaDoor.VE
