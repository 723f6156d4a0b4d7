/- The pure statement of the law SettleKept; what its row says is proved behind it. -/
import Derived.Test.YtamgbcgfjhpedaaDoorVpSet3
namespace Go.Proofs.YtamgbcgfjhpedaaDoor.VE
open Go Go.RowKit
set_option linter.unusedVariables false
attribute [local irreducible] wrap64
/-! ### settle: the fractions taken are positive; sums (no statement is proved here) -/
attribute [local irreducible] rd
def sumL (g : Int → Rat) : List Int → Rat
  | [] => 0
  | x :: l => g x + sumL g l
theorem sumL_perm (g : Int → Rat) {a b : List Int} (h : a.Perm b) : sumL g a = sumL g b := by
  induction h with
  | nil => rfl
  | cons x _ ih => show _ + _ = _ + _; rw [ih]
  | swap x y l => show _ + (_ + _) = _ + (_ + _); grind
  | trans _ _ h1 h2 => rw [h1, h2]
theorem sumL_app (g : Int → Rat) : ∀ (a b : List Int), sumL g (a ++ b) = sumL g a + sumL g b
  | [], b => by show sumL g b = 0 + sumL g b; grind
  | x :: a, b => by
    show g x + sumL g (a ++ b) = g x + sumL g a + sumL g b
    rw [sumL_app g a b]; grind
theorem sumL_idxs (g : Nat → Rat) : ∀ n, sumL (fun i => g i.toNat) (idxs n) = sumQ g n
  | 0 => rfl
  | n + 1 => by
    rw [idxs_succ, sumL_app, sumL_idxs g n]
    show _ + (g ((n : Int)).toNat + 0) = sumQ g n + g n
    rw [show ((n : Int)).toNat = n from rfl]; grind
theorem sumL_le (g : Int → Rat) : ∀ (l : List Int), (∀ x ∈ l, g x ≤ 1) → sumL g l ≤ ((l.length : Int) : Rat)
  | [], _ => by show (0 : Rat) ≤ ((0 : Int) : Rat); grind
  | x :: l, h => by
    have ih := sumL_le g l (fun y hy => h y (by simp [hy]))
    have hx := h x (by simp)
    have e : (((x :: l).length : Int) : Rat) = ((l.length : Int) : Rat) + 1 := by rw [List.length_cons, show ((l.length + 1 : Nat) : Int) = (l.length : Int) + 1 from rfl]; grind
    show g x + sumL g l ≤ _
    rw [e]; grind
theorem sumL_zero (g : Int → Rat) : ∀ (l : List Int), (∀ x ∈ l, g x ≤ 0) → sumL g l ≤ 0
  | [], _ => by show (0 : Rat) ≤ 0; grind
  | x :: l, h => by
    have ih := sumL_zero g l (fun y hy => h y (by simp [hy]))
    have hx := h x (by simp)
    show g x + sumL g l ≤ 0
    grind
/-- The taken fractions are positive. -/
theorem taken_pos (g : Nat → Rat) (L n : Nat) (hg : ∀ i, i < L → g i ≤ 1) (hn : sumQ g L = ((n : Int) : Rat)) : ∀ x ∈ (Srt.ssort (byFr g) (idxs L)).take n, 0 < g x.toNat := by
  intro x hx
  apply Classical.byContradiction
  intro hc
  have hc : g x.toNat ≤ 0 := by grind
  have hs := Srt.ssort_sorted (byFr_swo g) _ (idxs L) rfl
  have hp := Srt.ssort_perm (byFr_swo g) (idxs L)
  have hsum := sumL_perm (fun i => g i.toNat) hp
  rw [sumL_idxs, hn] at hsum
  generalize Srt.ssort (byFr g) (idxs L) = t at hx hs hp hsum
  obtain ⟨a, b, e⟩ := List.append_of_mem hx
  have et : t = a ++ x :: (b ++ t.drop n) := by
    conv => lhs; rw [← List.take_append_drop n t, e]
    simp
  have hal : a.length < n := by
    have := congrArg List.length e
    rw [List.length_take, List.length_append, List.length_cons] at this
    omega
  rw [et, sumL_app] at hsum
  have h1 := sumL_le (fun i => g i.toNat) a (fun y hy => hg y.toNat (by
    have hm := hp.mem_iff.1 (show y ∈ t by rw [et]; simp [hy])
    unfold idxs at hm
    obtain ⟨i, hi, rfl⟩ := List.mem_map.1 hm
    rw [List.mem_range] at hi
    omega))
  have h2 := sumL_zero (fun i => g i.toNat) (x :: (b ++ t.drop n)) (fun y hy => by
    rw [et] at hs
    rcases List.mem_cons.1 hy with rfl | hy
    · exact hc
    · have h := (List.pairwise_cons.1 (List.pairwise_append.1 hs).2.1).1 y hy
      unfold byFr at h
      have h := of_decide_eq_false h
      show g y.toNat ≤ 0
      grind)
  have h3 : ((a.length : Int) : Rat) < ((n : Int) : Rat) := by exact_mod_cast hal
  grind
/-! fine -/
theorem fidx_run (l : List Int) (hb : l.length ≤ 1000) : ∀ (m j : Nat), j + m = l.length → EvP (fun k => slices_IndexFunc_api_Errno.l2 k l (l.length : Int) (j : Int)) (fun r => 0 ≤ r ↔ ¬ ∀ x ∈ l.drop j, x = 0)
  | 0, j, hj => by
    rw [List.drop_eq_nil_of_le (by omega)]
    exact EvP.step (fun k => slices_IndexFunc_api_Errno.l2_eq k _ _ _) (EvP.neg (by omega) (EvP.ret ⟨fun e => by omega, fun e => absurd (fun x hx => by cases hx) e⟩))
  | m + 1, j, hj => by
    have hdr := rI64_drop (xs := l) (i := (j : Int)) (by omega) (by omega)
    rw [show ((j : Int)).toNat = j from rfl, show ((j : Int) + 1).toNat = j + 1 from rfl] at hdr
    have ih := fidx_run l hb m (j + 1) (by omega)
    rw [hdr]
    refine EvP.step (fun k => slices_IndexFunc_api_Errno.l2_eq k _ _ _) ?_
    rw [w64 (x := (j : Int) + 1) (by omega) (by omega)]
    generalize rI64 l (j : Int) = x
    refine EvP.pos (by omega) (EvP.pos (by omega) (EvP.pos (by omega) (EvP.bindE (a := !decide (x = 0)) (Ev.now _) (EvP.ite (fun h => EvP.ret ?_) (fun h => ih.mono (fun r hr => ?_))))))
    · have h : x ≠ 0 := by simpa using h
      exact ⟨fun _ e => h (e x (by simp)), fun _ => by omega⟩
    · have h : x = 0 := by simpa using h
      rw [hr]
      simp [h]
theorem fine_ev (l : List Int) (hb : l.length ≤ 1000) : EvP (fun k => gridhallkeep3_fine.f k l) (fun r => r = true ↔ ∀ x ∈ l, x = 0) := by
  refine EvP.bind (P := fun r => r = true ↔ ¬ ∀ x ∈ l, x = 0) (EvP.bind (fidx_run l hb l.length 0 (Nat.zero_add _)) (fun r hr => EvP.ret ?_)) (fun r hr => EvP.ret ?_)
  · rw [List.drop_zero] at hr
    rw [decide_eq_true_iff]
    exact hr
  · cases r
    · simp at hr ⊢
      exact hr
    · simp at hr ⊢
      exact hr
/-- The row's pure statement. -/
def SettleKept.Pure : Prop := ∀ (a0 : List ByteArray), OkV BY (.list 28 .str) a0 → ∃ k, gridhallkeep3_SettleKept.f k a0 = some true
theorem sumL_one (g : Int → Rat) : ∀ (l : List Int), (∀ x ∈ l, g x = 1) → sumL g l = ((l.length : Int) : Rat)
  | [], _ => by show (0 : Rat) = ((0 : Int) : Rat); grind
  | x :: l, h => by
    have ih := sumL_one g l (fun y hy => h y (by simp [hy]))
    have hx := h x (by simp)
    have e : (((x :: l).length : Int) : Rat) = ((l.length : Int) : Rat) + 1 := by rw [List.length_cons, show ((l.length + 1 : Nat) : Int) = (l.length : Int) + 1 from rfl]; grind
    show g x + sumL g l = _
    rw [e, ih, hx]; grind
theorem sumL_none (g : Int → Rat) : ∀ (l : List Int), (∀ x ∈ l, g x = 0) → sumL g l = 0
  | [], _ => rfl
  | x :: l, h => by
    have ih := sumL_none g l (fun y hy => h y (by simp [hy]))
    have hx := h x (by simp)
    show g x + sumL g l = 0
    rw [ih, hx]; grind
def takes (T : List Int) (i : Int) : Rat := if i ∈ T then 1 else 0
theorem takes_sum (g : Nat → Rat) (L n : Nat) (hn : n ≤ L) : sumQ (fun i => takes ((Srt.ssort (byFr g) (idxs L)).take n) (i : Int)) L = ((n : Int) : Rat) := by
  have hp := Srt.ssort_perm (byFr_swo g) (idxs L)
  have hil : (idxs L).length = L := by unfold idxs; simp
  have hsl := hp.length_eq
  have hnd : (Srt.ssort (byFr g) (idxs L)).Nodup := hp.nodup_iff.2 (by
    unfold idxs
    exact List.Pairwise.map _ (fun a b h e => h (by omega)) List.nodup_range)
  have hsum := sumL_perm (fun i => takes ((Srt.ssort (byFr g) (idxs L)).take n) ((i.toNat : Nat) : Int)) hp
  rw [sumL_idxs (fun i => takes ((Srt.ssort (byFr g) (idxs L)).take n) (i : Int))] at hsum
  rw [← hsum]
  have hpos : ∀ x ∈ Srt.ssort (byFr g) (idxs L), ((x.toNat : Nat) : Int) = x := fun x hx => by
    have hm := hp.mem_iff.1 hx
    unfold idxs at hm
    obtain ⟨i, hi, rfl⟩ := List.mem_map.1 hm
    rfl
  generalize Srt.ssort (byFr g) (idxs L) = t at hnd hpos hsl ⊢
  conv => lhs; rw [← List.take_append_drop n t]
  rw [sumL_app]
  have hdisj := (List.nodup_append.1 (by rw [List.take_append_drop]; exact hnd : (t.take n ++ t.drop n).Nodup)).2.2
  rw [sumL_one _ (t.take n) (fun x hx => ?_), sumL_none _ (t.drop n) (fun x hx => ?_), List.length_take, Nat.min_eq_left (by omega)]
  · grind
  · rw [hpos x (List.mem_of_mem_drop hx)]
    unfold takes
    rw [List.take_append_drop]
    rw [if_neg (fun hm => hdisj x hm x hx rfl)]
  · rw [hpos x (List.mem_of_mem_take hx)]
    unfold takes
    rw [List.take_append_drop]
    rw [if_pos hx]
theorem sumQ_congr {a b : Nat → Rat} : ∀ n, (∀ i, i < n → a i = b i) → sumQ a n = sumQ b n
  | 0, _ => rfl
  | n + 1, h => by
    show sumQ a n + a n = sumQ b n + b n
    rw [sumQ_congr n (fun i hi => h i (by omega)), h n (by omega)]
theorem sumQ_sub (a b : Nat → Rat) : ∀ n, sumQ (fun i => a i - b i) n = sumQ a n - sumQ b n
  | 0 => by show (0 : Rat) = 0 - 0; grind
  | n + 1 => by
    show sumQ (fun i => a i - b i) n + (a n - b n) = sumQ a n + a n - (sumQ b n + b n)
    rw [sumQ_sub a b n]; grind
theorem fit_int {n : Int} (h0 : -9223372036854775808 ≤ n) (h1 : n ≤ 9223372036854775807) : Fit (n : Rat) := by
  unfold Fit
  rw [Rat.num_intCast, Rat.den_intCast, txt_one]
  have := txt_len n.natAbs
  have := dl_i64 (n := n.natAbs) (by omega)
  exact ⟨by omega, by simp⟩
theorem outL_int (n : Int) : outL (n : Rat) = (if n < 0 then [45] else []) ++ txtN n.natAbs := by
  unfold outL
  rw [Rat.num_intCast, Rat.den_intCast, if_pos rfl, List.append_nil]
theorem ok_one : OutOk (ByteArray.mk #[49]) 1 := by
  have e := outL_int 1
  rw [if_neg (by omega), show (1 : Int).natAbs = 1 from rfl, txt_one] at e
  have h : OutOk (ByteArray.mk #[49]) ((1 : Int) : Rat) := ⟨by rw [e]; rfl, fit_int (by omega) (by omega)⟩
  exact h
theorem ok_mone : OutOk (ByteArray.mk #[45, 49]) (-1) := by
  have e := outL_int (-1)
  rw [if_pos (by omega), show (-1 : Int).natAbs = 1 from rfl, txt_one] at e
  have h : OutOk (ByteArray.mk #[45, 49]) ((-1 : Int) : Rat) := ⟨by rw [e]; rfl, fit_int (by omega) (by omega)⟩
  have e2 : ((-1 : Int) : Rat) = -1 := by grind
  rw [e2] at h
  exact h
theorem compare_bad {b : ByteArray} (hb : b.size ≤ 140737488355328) : EvP (fun k => rat_Compare.f k ByteArray.empty b) (fun r => r.2 ≠ 0) := by
  refine EvP.bind (checkAll_ex (xs := [ByteArray.empty, b]) (by simp) (fun x hx => ?_)) (fun r hr => EvP.neg (fun e => ?_) (EvP.ret (fun e => ?_)))
  · simp only [List.mem_cons, List.not_mem_nil, or_false] at hx
    rcases hx with rfl | rfl
    · show 0 ≤ _; omega
    · exact hb
  · obtain ⟨q, hq⟩ := hr e _ (List.mem_cons_self ..)
    exact no_empty q hq
  · obtain ⟨q, hq⟩ := hr e _ (List.mem_cons_self ..)
    exact no_empty q hq
theorem kept_run (ps : List ByteArray) (r : List Int) (hb : ps.length ≤ 9000000000000) (hl : r.length = ps.length) (f : Nat → Rat) (hf : ∀ i : Nat, i < ps.length → OutOk (rStr ps (i : Int)) (f i)) (hr : ∀ i : Nat, i < ps.length → -2000000000000000 ≤ rI64 r (i : Int) ∧ rI64 r (i : Int) ≤ 2000000000000000) (hd : ∀ i : Nat, i < ps.length → -1 < ((rI64 r (i : Int) : Int) : Rat) - f i ∧ ((rI64 r (i : Int) : Int) : Rat) - f i < 1) (h0 : sumQ (fun i => ((rI64 r (i : Int) : Int) : Rat) - f i) ps.length = 0) : ∀ (m j : Nat), j + m = ps.length → Fit (sumQ (fun i => ((rI64 r (i : Int) : Int) : Rat) - f i) j) →
    EvP (fun k => gridhallkeep3_SettleKept.l9 k ps r (ofBytes (outL (sumQ (fun i => ((rI64 r (i : Int) : Int) : Rat) - f i) j))) r (r.length : Int) (j : Int)) (fun x => x = true)
  | 0, j, hj, _ => by
    rw [show j = ps.length by omega, h0]
    refine EvP.step (fun k => gridhallkeep3_SettleKept.l9_eq k _ _ _ _ _ _) (EvP.neg (by omega) (EvP.pos rfl (EvP.ret ?_)))
    rw [hl, decide_eq_true rfl]
  | m + 1, j, hj, hF => by
    have hrj := hr j (by omega)
    have hdj := hd j (by omega)
    have hfj := hf j (by omega)
    have hFn := fit_int (n := rI64 r (j : Int)) (by omega) (by omega)
    have hof := ratOf_ev (n := rI64 r (j : Int)) (by omega) (by omega)
    rw [if_pos hFn] at hof
    have hsub := ratSub_ev (show OutOk (ofBytes (outL ((rI64 r (j : Int) : Int) : Rat))) ((rI64 r (j : Int) : Int) : Rat) from ⟨rfl, hFn⟩) hfj
    have next := kept_run ps r hb hl f hf hr hd h0 m (j + 1) (by omega)
    have es : sumQ (fun i => ((rI64 r (i : Int) : Int) : Rat) - f i) (j + 1) = sumQ (fun i => ((rI64 r (i : Int) : Int) : Rat) - f i) j + (((rI64 r (j : Int) : Int) : Rat) - f j) := rfl
    rw [es] at next
    generalize ((rI64 r (j : Int) : Int) : Rat) - f j = d at hsub hdj next
    generalize sumQ (fun i => ((rI64 r (i : Int) : Int) : Rat) - f i) j = S at hF next ⊢
    refine EvP.step (fun k => gridhallkeep3_SettleKept.l9_eq k _ _ _ _ _ _) (EvP.pos (by omega) (EvP.pos (by omega) (EvP.pos (by omega) (EvP.bindE hof (EvP.pos (by omega) (EvP.pos (by omega) (EvP.bindE hsub ?_)))))))
    by_cases hFd : Fit d
    · rw [if_pos hFd]
      have hdo : OutOk (ofBytes (outL d)) d := ⟨rfl, hFd⟩
      refine EvP.bindE (compare_ev hdo ok_mone) (EvP.bindE (compare_ev hdo ok_one) (EvP.bind (fine_ev _ (by simp)) (fun b hb => ?_)))
      have hb : b = true := hb.2 (by simp)
      have c1 : 0 < sgnQ (d - -1) := (sgnQ_pos _).2 (by grind)
      have c2 : sgnQ (d - 1) < 0 := (sgnQ_neg _).2 (by grind)
      refine EvP.pos hb (EvP.neg (show ¬ sgnQ (d - -1) ≤ 0 by omega) (EvP.neg (show ¬ 0 ≤ sgnQ (d - 1) by omega) (EvP.bindE (ratAdd_ev (show OutOk (ofBytes (outL S)) S from ⟨rfl, hF⟩) hdo) ?_)))
      by_cases hFs : Fit (S + d)
      · rw [if_pos hFs]
        refine EvP.pos rfl ?_
        rw [w64 (x := (j : Int) + 1) (by omega) (by omega)]
        exact next hFs
      · rw [if_neg hFs]
        exact EvP.neg (by decide) (EvP.ret rfl)
    · rw [if_neg hFd]
      refine EvP.bind (compare_bad (b := ByteArray.mk #[45, 49]) (by decide)) (fun r6 _ => EvP.bind (compare_bad (b := ByteArray.mk #[49]) (by decide)) (fun r7 _ => EvP.bind (fine_ev _ (by simp)) (fun b hb => EvP.neg (fun e => ?_) (EvP.bind (fine_ev _ (by simp)) (fun b' hb' => EvP.ret ?_)))))
      · have := hb.1 e 2 (by simp)
        omega
      · have : b' ≠ true := fun e => by have := hb'.1 e 2 (by simp); omega
        simp [this]
theorem third : Ev (fun k => settle_Round.f k [ByteArray.mk #[49, 47, 50], ByteArray.mk #[49, 47, 51], ByteArray.mk #[49, 47, 54]]) ([1, 0, 0], 0) := Ev.far 100 (fun k => by kernel_rfl)
theorem third2 : Ev (fun k => slices_Equal_int.f k [1, 0, 0] [1, 0, 0]) true := Ev.far 10 (fun k => by kernel_rfl)
theorem Pure.SettleKept : SettleKept.Pure := by
  intro a0 ok
  have hs : ∀ x ∈ a0, x.size ≤ 140737488355328 := fun x hx => Nat.le_trans (ok.2 x hx) (by omega)
  refine EvP.rounds (EvP.bindE third (EvP.pos rfl (EvP.bindE third2 (EvP.pos rfl ?_))))
  refine EvP.bind (round_ex hs) (fun r hr => EvP.ite (fun e => ?_) (fun e => ?_))
  · obtain ⟨f, n, g1, g2, g3, g4, g5⟩ := hr.2 e
    have hn : a0.length * 16 ≤ 140737488351232 := ok.1
    have ht : ∀ i : Nat, i < a0.length → ((rI64 r.1 (i : Int) : Int) : Rat) - f i = takes ((Srt.ssort (byFr fun i => fr (f i)) (idxs a0.length)).take n) (i : Int) - fr (f i) := by
      intro i hi
      rw [(g5 i hi).2]
      unfold takes fr
      split <;> grind
    have hF : Fit (sumQ (fun i => ((rI64 r.1 (i : Int) : Int) : Rat) - f i) 0) := fit_int (n := 0) (by omega) (by omega)
    refine kept_run a0 r.1 (by omega) g4 f g1 (fun i hi => ?_) (fun i hi => ?_) ?_ a0.length 0 (Nat.zero_add _) hF
    · have h1 := (g5 i hi).1
      rw [(g5 i hi).2]
      split <;> omega
    · rw [ht i hi]
      have h1 := fr_rng (f i)
      by_cases hm : (i : Int) ∈ (Srt.ssort (byFr fun i => fr (f i)) (idxs a0.length)).take n
      · have h2 := taken_pos (fun i => fr (f i)) a0.length n (fun i _ => by have := (fr_rng (f i)).2; grind) g2 _ hm
        have h2 : 0 < fr (f i) := h2
        unfold takes
        rw [if_pos hm]
        constructor <;> grind
      · unfold takes
        rw [if_neg hm]
        constructor <;> grind
    · rw [sumQ_congr _ ht, sumQ_sub, takes_sum (fun i => fr (f i)) a0.length n g3, g2]
      grind
  · rw [hr.1 e]
    exact EvP.ret rfl
end Go.Proofs.YtamgbcgfjhpedaaDoor.VE
