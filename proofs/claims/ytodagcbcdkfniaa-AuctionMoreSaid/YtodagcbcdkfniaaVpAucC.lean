import Derived.Test.YtodagcbcdkfniaaVpAucB
namespace Go.Proofs.Ytodagcbcdkfniaa.VE
open Go Go.RowKit
set_option linter.unusedVariables false
attribute [local irreducible] wrap64
/-! ### within, fine, Surplus, Verify; no statement is proved here -/
theorem within_ev (a lo hi : Int) (ha : -9223372036854775808 ≤ a ∧ a ≤ 9223372036854775807) (h : lo ≤ hi) (h1 : -4611686018427387904 ≤ lo) (h2 : hi ≤ 4611686018427387904) (h3 : hi - lo ≤ 1000000000000000000) : EvP (fun k => gridhallkeep3_within.f k a lo hi) (fun r => lo ≤ r ∧ r ≤ hi) := by
  unfold gridhallkeep3_within.f
  rw [w64 (x := hi - lo) (by omega) (by omega), w64 (x := hi - lo + 1) (by omega) (by omega)]
  refine EvP.pos (by omega) (EvP.pos (by omega) (EvP.ret ?_))
  generalize hs : hi - lo + 1 = s
  have t1 : -s < Int.tmod a s ∧ Int.tmod a s < s := by
    have a1 := Int.tmod_lt_of_pos a (b := s) (by omega)
    have a2 := Int.lt_tmod_of_pos a (b := s) (by omega)
    omega
  rw [w64 (x := Int.tmod a s + s) (by omega) (by omega)]
  have t2 : 0 ≤ Int.tmod (Int.tmod a s + s) s ∧ Int.tmod (Int.tmod a s + s) s < s := ⟨Int.tmod_nonneg _ (by omega), Int.tmod_lt_of_pos _ (by omega)⟩
  rw [w64 (x := lo + _) (by omega) (by omega)]
  omega
theorem fine_loop (l : List Int) (hl : l.length ≤ 1000) : ∀ (n : Nat) (i : Int), 0 ≤ i → (l.length : Int) - i = n → Ev (fun k => slices_IndexFunc_api_Errno.l2 k l (l.length : Int) i) (if (l.drop i.toNat).all (fun e => decide (e = 0)) = true then -1 else i + ((l.drop i.toNat).takeWhile (fun e => decide (e = 0))).length) := by
  intro n
  induction n with
  | zero =>
    intro i h0 h1
    rw [drop_end (by omega)]
    exact Ev.step (fun k => slices_IndexFunc_api_Errno.l2_eq k _ _ _) (Ev.neg (by omega) (Ev.now _))
  | succ n ih =>
    intro i h0 h1
    have hlt : i < (l.length : Int) := by omega
    rw [drop_rd (t := .int .i64) (xs := l) h0 hlt]
    refine Ev.step (fun k => slices_IndexFunc_api_Errno.l2_eq k _ _ _) (Ev.pos hlt (Ev.pos h0 (Ev.pos hlt ?_)))
    refine Ev.bind (a := !decide (rd (.int .i64) l i = 0)) (Ev.now _) ?_
    have ih' := ih (i + 1) (by omega) (by omega)
    rw [w64 (x := i + 1) (by omega) (by omega)]
    by_cases hz : rd (.int .i64) l i = 0
    · refine Ev.neg (by simp [hz]) ?_
      simp only [List.all_cons, List.takeWhile_cons, hz, decide_true, Bool.true_and, if_true, List.length_cons]
      have e : i + (((l.drop (i + 1).toNat).takeWhile (fun e => decide (e = 0))).length + 1 : Nat) = i + 1 + (((l.drop (i + 1).toNat).takeWhile (fun e => decide (e = 0))).length : Int) := by omega
      rw [e]
      exact ih'
    · refine Ev.pos (by simp [hz]) ?_
      simp only [List.all_cons, List.takeWhile_cons, hz, decide_false, Bool.false_and, Bool.false_eq_true, if_false, List.length_nil]
      simpa using Ev.now i
theorem fine_ev (l : List Int) (hl : l.length ≤ 1000) : Ev (fun k => gridhallkeep3_fine.f k l) (l.all (fun e => decide (e = 0))) := by
  have h := fine_loop l hl l.length 0 (by omega) (by omega)
  unfold gridhallkeep3_fine.f slices_ContainsFunc_api_Errno.f slices_IndexFunc_api_Errno.f
  refine Ev.bind (Ev.bind h (Ev.now _)) ?_
  rw [show (0 : Int).toNat = 0 from rfl, List.drop_zero]
  cases hb : l.all (fun e => decide (e = 0)) with
  | true => simpa using Ev.now true
  | false =>
    simp only [Bool.false_eq_true, if_false]
    rw [decide_eq_true (p := (0 : Int) ≤ 0 + ((l.takeWhile (fun e => decide (e = 0))).length : Int)) (by omega)]
    exact Ev.now _
/-- The surplus at a price. -/
def sur (P : Int) : List Ord → List Int → Int
  | o :: l, f :: fs => (if o.2.1 = true then f * (o.2.2.2 - P) else f * (P - o.2.2.2)) + sur P l fs
  | _, _ => 0
theorem valid_loop (l : List Ord) (fs : List Int) (hf : fs.length = l.length) (hl : l.length ≤ 32) (p q : Int) : ∀ (n : Nat) (i : Int), 0 ≤ i → (l.length : Int) - i = n → EvP (fun k => auction_valid.l7 k l (l.length : Int) i p q fs) (fun e => (e = 0 → ∀ (j : Nat) o f, i ≤ (j : Int) → At l fs j o f → 0 ≤ f ∧ f ≤ o.2.2.1) ∧ ((∀ (j : Nat) o f, i ≤ (j : Int) → At l fs j o f → 0 ≤ f ∧ f ≤ o.2.2.1) → e = 0)) := by
  intro n
  induction n with
  | zero =>
    intro i h0 h1
    refine EvP.step (fun k => auction_valid.l7_eq k _ _ _ _ _ _) (EvP.neg (by omega) (EvP.ret ⟨fun _ j o f hj ha => ?_, fun _ => rfl⟩))
    have := (List.getElem?_eq_some_iff.1 ha.1).1
    omega
  | succ n ih =>
    intro i h0 h1
    have hlt : i < (l.length : Int) := by omega
    have hlf : i < (fs.length : Int) := by omega
    have ha : At l fs i.toNat (rd Y2 l i) (rd (.int .i64) fs i) := by
      unfold rd
      rw [List.getD_eq_getElem?_getD, List.getD_eq_getElem?_getD, List.getElem?_eq_getElem (by omega), List.getElem?_eq_getElem (by omega)]
      exact ⟨List.getElem?_eq_getElem (by omega), List.getElem?_eq_getElem (by omega)⟩
    refine EvP.step (fun k => auction_valid.l7_eq k _ _ _ _ _ _) (EvP.pos hlt (EvP.pos h0 (EvP.pos hlt (EvP.pos h0 (EvP.pos hlf ?_)))))
    rw [w64 (x := i + 1) (by omega) (by omega)]
    refine EvP.ite (fun hn => EvP.ret ⟨by omega, fun h => ?_⟩) (fun hn => EvP.pos h0 (EvP.pos hlf (EvP.ite (fun hn' => EvP.ret ⟨by omega, fun h => ?_⟩) (fun hn' => ?_))))
    · have h := (h i.toNat _ _ (by omega) ha).1
      exact absurd hn (Int.not_lt.2 h)
    · have h := (h i.toNat _ _ (by omega) ha).2
      exact absurd hn' (Int.not_lt.2 h)
    · refine (ih (i + 1) (by omega) (by omega)).mono (fun e he => ⟨fun hz j o f hj hb => ?_, fun h => he.2 (fun j o f hj => h j o f (by omega))⟩)
      by_cases hji : i + 1 ≤ (j : Int)
      · exact he.1 hz j o f hji hb
      · have e1 : j = i.toNat := by omega
        subst e1
        have := ha.1.symm.trans hb.1
        have := ha.2.symm.trans hb.2
        simp only [Option.some.injEq] at *
        subst_vars
        exact ⟨Int.not_lt.1 hn, Int.not_lt.1 hn'⟩
theorem valid_ev (l : List Ord) (hl : OkL l) (hc : Ev (fun k => auction_Check.f k l) 0) (p q : Int) (fs : List Int) : EvP (fun k => auction_valid.f k l (p, q, fs)) (fun e => (e = 0 ↔ Fits l fs)) := by
  unfold auction_valid.f
  refine EvP.bindE hc (EvP.pos rfl (EvP.ite (fun h => ?_) (fun h => EvP.ret ⟨by omega, fun hf => ?_⟩)))
  · have h : (fs.length : Int) = (l.length : Int) := h
    refine (valid_loop l fs (by omega) hl.len p q l.length 0 (by omega) (by omega)).mono (fun e he => ⟨fun hz => ⟨by omega, fun j o f ha => he.1 hz j o f (by omega) ha⟩, fun hf => he.2 (fun j o f _ ha => hf.rng j o f ha)⟩)
  · have := hf.len
    exact absurd (show (fs.length : Int) = (l.length : Int) by omega) h
theorem sur_loop (l : List Ord) (hl : OkL l) (fs : List Int) (hf : Fits l fs) (P q : Int) (hP : -2000000 ≤ P ∧ P ≤ 2000000) : ∀ (n : Nat) (i x : Int), 0 ≤ i → (l.length : Int) - i = n → -(1000000000000 * i) ≤ x → x ≤ 1000000000000 * i → Ev (fun k => auction_Surplus.l8 k x l (l.length : Int) i P q fs) (x + sur P (l.drop i.toNat) (fs.drop i.toNat), 0) := by
  have hll := hl.len
  have hff := hf.len
  intro n
  induction n with
  | zero =>
    intro i x h0 h1 h2 h3
    rw [drop_end (xs := l) (by omega)]
    have : x + sur P [] (fs.drop i.toNat) = x := by simp [sur]
    rw [this]
    exact Ev.step (fun k => auction_Surplus.l8_eq k _ _ _ _ _ _ _) (Ev.neg (by omega) (Ev.now _))
  | succ n ih =>
    intro i x h0 h1 h2 h3
    have hlt : i < (l.length : Int) := by omega
    have hlf : i < (fs.length : Int) := by omega
    have ha : At l fs i.toNat (rd Y2 l i) (fl fs i) := by
      unfold fl rd
      rw [List.getD_eq_getElem?_getD, List.getD_eq_getElem?_getD, List.getElem?_eq_getElem (by omega), List.getElem?_eq_getElem (by omega)]
      exact ⟨List.getElem?_eq_getElem (by omega), List.getElem?_eq_getElem (by omega)⟩
    have r1 := hf.rng _ _ _ ha
    have r2 := hl.pw _ (rd_mem (t := Y2) h0 hlt)
    have r3 := hl.pr _ (rd_mem (t := Y2) h0 hlt)
    rw [drop_rd (t := Y2) h0 hlt, drop_rd (t := .int .i64) (xs := fs) h0 hlf]
    refine Ev.step (fun k => auction_Surplus.l8_eq k _ _ _ _ _ _ _) (Ev.pos hlt (Ev.pos h0 (Ev.pos hlt ?_)))
    rw [w64 (x := i + 1) (by omega) (by omega)]
    unfold sur
    have m1 := mul_abs (a := fl fs i) (b := (rd Y2 l i).2.2.2 - P) (A := 100000) (B := 3000000) (by omega) (by omega) (by omega) (by omega)
    have m2 := mul_abs (a := fl fs i) (b := P - (rd Y2 l i).2.2.2) (A := 100000) (B := 3000000) (by omega) (by omega) (by omega) (by omega)
    simp only [fl] at m1 m2
    refine Ev.ite (fun hb => Ev.pos h0 (Ev.pos hlf ?_)) (fun hb => Ev.pos h0 (Ev.pos hlf ?_))
    · rw [if_pos hb, w64 (x := (rd Y2 l i).2.2.2 - P) (by omega) (by omega), w64 (x := rd (.int .i64) fs i * _) (by omega) (by omega), w64 (x := x + _) (by omega) (by omega), ← Int.add_assoc]
      exact ih (i + 1) _ (by omega) (by omega) (by omega) (by omega)
    · rw [if_neg hb, w64 (x := P - (rd Y2 l i).2.2.2) (by omega) (by omega), w64 (x := rd (.int .i64) fs i * _) (by omega) (by omega), w64 (x := x + _) (by omega) (by omega), ← Int.add_assoc]
      exact ih (i + 1) _ (by omega) (by omega) (by omega) (by omega)
theorem surplus_ev (l : List Ord) (hl : OkL l) (hc : Ev (fun k => auction_Check.f k l) 0) (fs : List Int) (hf : Fits l fs) (P q : Int) (hP : -2000000 ≤ P ∧ P ≤ 2000000) : Ev (fun k => auction_Surplus.f k l (P, q, fs)) (sur P l fs, 0) := by
  obtain ⟨e, he, h1⟩ := valid_ev l hl hc P q fs
  have hz := h1.2 hf
  subst hz
  unfold auction_Surplus.f
  refine Ev.bind he (Ev.pos rfl (Ev.neg (by show ¬ P < _; omega) (Ev.neg (by show ¬ _ < P; omega) ?_)))
  have := sur_loop l hl fs hf P q hP l.length 0 0 (by omega) (by omega) (by omega) (by omega)
  simpa using this
/-- The price matters only as the two sides differ. -/
theorem sur_shift (P R : Int) : ∀ (l : List Ord) (fs : List Int), fs.length = l.length → sur P l fs = sur R l fs + (R - P) * (sideSum true l fs - sideSum false l fs)
  | [], fs, _ => by simp [sur, sideSum]
  | _ :: _, [], h => by simp at h
  | o :: l, f :: fs, h => by
    have ih := sur_shift P R l fs (by simpa using h)
    unfold sur sideSum
    rw [ih]
    have e : (R - P) * (f + sideSum true l fs - sideSum false l fs) = f * (R - P) + (R - P) * (sideSum true l fs - sideSum false l fs) := by
      rw [show f + sideSum true l fs - sideSum false l fs = f + (sideSum true l fs - sideSum false l fs) by omega, Int.mul_add, Int.mul_comm f]
    have e2 : (R - P) * (sideSum true l fs - (f + sideSum false l fs)) = -(f * (R - P)) + (R - P) * (sideSum true l fs - sideSum false l fs) := by
      rw [show sideSum true l fs - (f + sideSum false l fs) = -f + (sideSum true l fs - sideSum false l fs) by omega, Int.mul_add, Int.mul_comm f, Int.mul_neg]
    cases hb : o.2.1 with
    | true =>
      simp only [if_true, Bool.true_eq_false, if_false, Int.zero_add]
      rw [e]
      have : f * (o.2.2.2 - P) = f * (o.2.2.2 - R) + f * (R - P) := by rw [← Int.mul_add]; congr 1; omega
      omega
    | false =>
      simp only [if_true, Bool.false_eq_true, if_false, Int.zero_add]
      rw [e2]
      have : f * (P - o.2.2.2) = f * (R - o.2.2.2) - f * (R - P) := by rw [← Int.mul_sub]; congr 1; omega
      omega
/-- Fills that fit to a price have the greatest surplus at it. -/
theorem sur_best (P : Int) : ∀ (l : List Ord) (fs gs : List Int), Fits l fs → Fits l gs → (∀ j o f, At l fs j o f → lowUp o f → o.2.2.2 ≤ P) → (∀ j o f, At l fs j o f → highDn o f → P ≤ o.2.2.2) → sur P l gs ≤ sur P l fs ∧ 0 ≤ sur P l fs
  | [], fs, gs, _, _, _, _ => by simp [sur]
  | _ :: _, [], gs, h, _, _, _ => by have := h.len; simp at this
  | _ :: _, _ :: _, [], _, h, _, _ => by have := h.len; simp at this
  | o :: l, f :: fs, g :: gs, h1, h2, h3, h4 => by
    have ih := sur_best P l fs gs h1.tail h2.tail (fun j p x hj => h3 _ _ _ (hj.cons _ _)) (fun j p x hj => h4 _ _ _ (hj.cons _ _))
    have a := h1.head
    have b := h2.head
    have lu := h3 0 o f (At.zero _ _ _ _)
    have hd := h4 0 o f (At.zero _ _ _ _)
    unfold sur
    have step : ∀ d : Int, (f < o.2.2.1 → d ≤ 0) → (0 < f → 0 ≤ d) → g * d ≤ f * d ∧ 0 ≤ f * d := by
      intro d d1 d2
      rcases Int.lt_trichotomy d 0 with hd | hd | hd
      · have : f = 0 := by omega
        subst this
        have := Int.mul_nonneg (a := g) (b := -d) (by omega) (by omega)
        rw [Int.mul_neg] at this
        rw [Int.zero_mul]; omega
      · subst hd; simp
      · have : f = o.2.2.1 := by omega
        have h1 := Int.mul_nonneg (a := f - g) (b := d) (by omega) (by omega)
        have h2 := Int.mul_nonneg (a := f) (b := d) (by omega) (by omega)
        rw [Int.sub_mul] at h1; omega
    by_cases hb : o.2.1 = true
    · rw [if_pos hb, if_pos hb]
      have := step (o.2.2.2 - P) (fun h => by have := lu (Or.inl ⟨hb, h⟩); omega) (fun h => by have := hd (Or.inl ⟨hb, h⟩); omega)
      omega
    · rw [if_neg hb, if_neg hb]
      have := step (P - o.2.2.2) (fun h => by have := hd (Or.inr ⟨hb, h⟩); omega) (fun h => by have := lu (Or.inr ⟨hb, h⟩); omega)
      omega
/-- The bounds stay in range. -/
theorem bnds_rng {l : List Ord} {fs : List Int} (hp : ∀ o ∈ l, -1000000 ≤ o.2.2.2 ∧ o.2.2.2 ≤ 1000000) {r : Int × Int} (b : Bnds l fs (-2000000) 2000000 r) : -2000000 ≤ r.1 ∧ r.1 ≤ 1000000 ∧ -1000000 ≤ r.2 ∧ r.2 ≤ 2000000 := by
  have hm : ∀ j o f, At l fs j o f → o ∈ l := fun j o f hj => List.mem_of_getElem? hj.1
  refine ⟨b.l0, ?_, ?_, b.h0⟩
  · rcases b.l2 with e | ⟨i, o, f, ho, hu, e⟩
    · omega
    · have := hp o (hm _ _ _ ho); omega
  · rcases b.h2 with e | ⟨i, o, f, ho, hu, e⟩
    · omega
    · have := hp o (hm _ _ _ ho); omega
/-- The price of a cleared auction. -/
theorem priceOf_eq {l : List Ord} {fs : List Int} {Q : Int} (hl : OkL l) (h : Cleared l fs Q) (hQ : 0 < Q) : Bnds l fs (-2000000) 2000000 (boundsL l fs (-2000000) 2000000) ∧ priceOf l fs Q = (boundsL l fs (-2000000) 2000000).1 + Int.tdiv ((boundsL l fs (-2000000) 2000000).2 - (boundsL l fs (-2000000) 2000000).1) 2 ∧ (boundsL l fs (-2000000) 2000000).1 ≤ priceOf l fs Q ∧ priceOf l fs Q ≤ (boundsL l fs (-2000000) 2000000).2 := by
  have b := boundsL_bnds l fs (-2000000) 2000000 h.len
  have hr := bnds_rng hl.pr b
  have hlh := h.lh hl.pr b
  have hi := half_in hlh
  unfold priceOf
  rw [if_pos hQ]
  generalize boundsL l fs (-2000000) 2000000 = r at *
  rw [w64 (x := r.2 - r.1) (by omega) (by omega), w64 (x := Int.tdiv (r.2 - r.1) 2) (by omega) (by omega), w64 (x := r.1 + _) (by omega) (by omega)]
  exact ⟨b, rfl, hi⟩
theorem priceOf_rng {l : List Ord} {fs : List Int} {Q : Int} (hl : OkL l) (h : Cleared l fs Q) : -2000000 ≤ priceOf l fs Q ∧ priceOf l fs Q ≤ 2000000 := by
  by_cases hQ : 0 < Q
  · obtain ⟨b, _, h1, h2⟩ := priceOf_eq hl h hQ
    have := bnds_rng hl.pr b
    omega
  · unfold priceOf
    rw [if_neg hQ]; omega
theorem sold_ev : Ev (fun k => gridhallkeep3_sold.f k) true := Ev.far 100 (fun k => by kernel_rfl)
end Go.Proofs.Ytodagcbcdkfniaa.VE
