import Derived.Test.YtodagcbcdkfniaaVpDuB
namespace Go.Proofs.Ytodagcbcdkfniaa.VE
open Go Go.RowKit
set_option linter.unusedVariables false
attribute [local irreducible] wrap64
/-! ### package dual: Step (no statement is proved here) -/
def addL : List Int → Nat → List Int → List Int
  | [], _, s => s
  | x :: r, j, s => addL r (j + 1) (s.set j (wrap64 (rI64 s (j : Int) + mx x 0)))
theorem addL_length : ∀ (xs : List Int) (j : Nat) (s : List Int), (addL xs j s).length = s.length
  | [], _, _ => rfl
  | x :: r, j, s => by simp only [addL]; rw [addL_length r, List.length_set]
def sumsOf (f : Un → List Int × Int × Int) : List Un → List Int → List Int
  | [], s => s
  | u :: r, s => sumsOf f r (addL (f u).1 0 s)
theorem sumsOf_length (f : Un → List Int × Int × Int) : ∀ (l : List Un) (s : List Int), (sumsOf f l s).length = s.length
  | [], _ => rfl
  | u :: r, s => by simp only [sumsOf]; rw [sumsOf_length f r, addL_length]
/-- The schedules at prices. -/
def Scheds (l : List Un) (p : List Int) (f : Un → List Int × Int × Int) : Prop := ∀ u ∈ l, Ev (fun k => dual_Single.f k u p) (f u) ∧ SingleP u p (f u)
theorem scheds_some {l : List Un} {dm p : List Int} (h : AllB l dm p) : ∃ f, Scheds l p f := by
  have : ∀ u : Un, ∃ r, u ∈ l → Ev (fun k => dual_Single.f k u p) r ∧ SingleP u p r := by
    intro u
    by_cases hu : u ∈ l
    · obtain ⟨r, h1, h2⟩ := single_ev (h.ok u hu) (by have := h.plen; have := h.dlen; omega) h.inP
      exact ⟨r, fun _ => ⟨h1, h2⟩⟩
    · exact ⟨([], 0, 0), fun h => absurd h hu⟩
  exact ⟨fun u => Classical.choose (this u), fun u hu => Classical.choose_spec (this u) hu⟩
theorem sums_inner (dm p : List Int) (bY : Int) (l : List Un) (L : Int) (i : Int) (xs : List Int) (hxs : xs.length ≤ 1000) (r : List Int × Int) : ∀ (d j : Nat) (s : List Int), xs.length - j = d → j ≤ xs.length → xs.length ≤ s.length → Ev (fun k => dual_Step.l8 k dm p bY l L (wrap64 (i + 1)) (addL (xs.drop j) j s)) r → Ev (fun k => dual_Step.l12 k dm p bY l L i xs (xs.length : Int) (j : Int) s) r := by
  intro d
  induction d with
  | zero =>
    intro j s hd h1 hs he
    rw [List.drop_eq_nil_of_le (by omega)] at he
    exact Ev.step (fun k => dual_Step.l12_eq k _ _ _ _ _ _ _ _ _ _) (Ev.neg (by omega) he)
  | succ d ih =>
    intro j s hd h1 hs he
    have w1 : wrap64 ((j : Int) + 1) = ((j + 1 : Nat) : Int) := by rw [w64 (by omega) (by omega)]; omega
    have dV : xs.drop j = rI64 xs (j : Int) :: xs.drop (j + 1) := by
      have := rI64_drop (xs := xs) (i := (j : Int)) (by omega) (by omega)
      rw [show ((j : Int)).toNat = j by omega, show ((j : Int) + 1).toNat = j + 1 by omega] at this
      exact this
    rw [dV] at he
    refine Ev.step (fun k => dual_Step.l12_eq k _ _ _ _ _ _ _ _ _ _) (Ev.pos (by omega) (Ev.pos (by omega) (Ev.pos (by omega) (Ev.pos (by omega) (Ev.pos (by omega) (Ev.pos (by omega) (Ev.pos (by omega) ?_)))))))
    rw [w1, show ((j : Int)).toNat = j by omega]
    exact ih (j + 1) _ (by omega) (by omega) (by rw [List.length_set]; exact hs) he
theorem sums_outer {l : List Un} {dm p : List Int} (h : AllB l dm p) {f : Un → List Int × Int × Int} (hf : Scheds l p f) (bY : Int) (r : List Int × Int) : ∀ (d : Nat) (i : Int) (s : List Int), 0 ≤ i → (l.length : Int) - i = d → s.length = p.length → Ev (fun k => dual_Step.l19 k dm bY p (p.length : Int) 0 (sumsOf f (l.drop i.toNat) s) (List.replicate p.length 0)) r → Ev (fun k => dual_Step.l8 k dm p bY l (l.length : Int) i s) r := by
  have hl := h.len
  have hdl := h.dlen
  have hpl := h.plen
  intro d
  induction d with
  | zero =>
    intro i s h0 hd hs he
    rw [drop_end (by omega)] at he
    refine Ev.step (fun k => dual_Step.l8_eq k _ _ _ _ _ _ _) (Ev.neg (by omega) (Ev.pos (by omega) (Ev.pos (by omega) (Ev.pos (by omega) ?_))))
    rw [show ((p.length : Int)).toNat = p.length by omega]
    exact he
  | succ d ih =>
    intro i s h0 hd hs he
    have hlt : i < (l.length : Int) := by omega
    have w1 : wrap64 (i + 1) = i + 1 := w64 (by omega) (by omega)
    obtain ⟨g1, g2⟩ := hf _ (rY10_mem h0 hlt)
    have g3 := g2.len
    rw [rY10_drop h0 hlt] at he
    refine Ev.step (fun k => dual_Step.l8_eq k _ _ _ _ _ _ _) (Ev.pos hlt (Ev.pos h0 (Ev.pos hlt (Ev.bind g1 ?_))))
    refine sums_inner dm p bY l _ i _ (by omega) r _ 0 s rfl (by omega) (by omega) ?_
    rw [w1, List.drop_zero]
    exact ih (i + 1) _ (by omega) (by omega) (by rw [addL_length]; exact hs) he
/-- The price behind a step. -/
def mvP (s d p bY : Int) : Int := mx (-2000000) (mn (if s < d then p + bY else if d < s then p - bY else p) 2000000)
theorem step_loop (dm p s : List Int) (bY : Int) (hb0 : 1 ≤ bY) (hb1 : bY ≤ 1000000) (hp : InP p) (hpl : p.length ≤ 8) (hd : dm.length = p.length) (hs : s.length = p.length) : ∀ (d t : Nat) (out : List Int), p.length - t = d → t ≤ p.length → out.length = p.length → (∀ j : Nat, j < t → rI64 out (j : Int) = mvP (rI64 s (j : Int)) (rI64 dm (j : Int)) (rI64 p (j : Int)) bY) → EvP (fun k => dual_Step.l19 k dm bY p (p.length : Int) (t : Int) s out) (fun r => r.2 = 0 ∧ r.1.length = p.length ∧ ∀ j : Nat, j < p.length → rI64 r.1 (j : Int) = mvP (rI64 s (j : Int)) (rI64 dm (j : Int)) (rI64 p (j : Int)) bY) := by
  intro d
  induction d with
  | zero =>
    intro t out hdd ht hol ho
    exact EvP.step (fun k => dual_Step.l19_eq k _ _ _ _ _ _ _) (EvP.neg (by omega) (EvP.ret ⟨rfl, hol, fun j hj => ho j (by omega)⟩))
  | succ d ih =>
    intro t out hdd ht hol ho
    have w1 : wrap64 ((t : Int) + 1) = ((t + 1 : Nat) : Int) := by rw [w64 (by omega) (by omega)]; omega
    have hpr := hp _ (rI64_mem (xs := p) (i := (t : Int)) (by omega) (by omega))
    have w2 : wrap64 (rI64 p (t : Int) + bY) = rI64 p (t : Int) + bY := w64 (by omega) (by omega)
    have w3 : wrap64 (rI64 p (t : Int) - bY) = rI64 p (t : Int) - bY := w64 (by omega) (by omega)
    have go : ∀ v, v = mvP (rI64 s (t : Int)) (rI64 dm (t : Int)) (rI64 p (t : Int)) bY → EvP (fun k => dual_Step.l19 k dm bY p (p.length : Int) ((t + 1 : Nat) : Int) s (out.set (t : Int).toNat v)) (fun r => r.2 = 0 ∧ r.1.length = p.length ∧ ∀ j : Nat, j < p.length → rI64 r.1 (j : Int) = mvP (rI64 s (j : Int)) (rI64 dm (j : Int)) (rI64 p (j : Int)) bY) := by
      intro v hv
      refine ih (t + 1) _ (by omega) (by omega) (by rw [List.length_set]; exact hol) (fun j hj => ?_)
      rw [rI64_set v (by omega) (by omega) (by omega)]
      split
      · rename_i e
        obtain rfl : j = t := by omega
        exact hv
      · exact ho j (by omega)
    refine EvP.step (fun k => dual_Step.l19_eq k _ _ _ _ _ _ _) (EvP.pos (by omega) (EvP.pos (by omega) (EvP.pos (by omega) (EvP.pos (by omega) (EvP.pos (by omega) (EvP.pos (by omega) (EvP.pos (by omega) ?_)))))))
    rw [w1, w2, w3]
    refine EvP.ite (fun h1 => EvP.pos (by omega) (EvP.pos (by omega) (go _ ?_))) (fun h1 => EvP.pos (by omega) (EvP.pos (by omega) (EvP.pos (by omega) (EvP.pos (by omega) (EvP.ite (fun h2 => EvP.pos (by omega) (EvP.pos (by omega) (go _ ?_))) (fun h2 => EvP.pos (by omega) (EvP.pos (by omega) (go _ ?_))))))))
    · unfold mvP; rw [if_pos h1]
    · unfold mvP; rw [if_neg h1, if_pos h2]
    · unfold mvP; rw [if_neg h1, if_neg h2]
structure StepP (l : List Un) (dm p : List Int) (bY : Int) (r : List Int × Int) : Prop where
  bad : r.2 ≠ 0 → r.1 = []
  all : r.2 = 0 → AllB l dm p
  by0 : r.2 = 0 → 1 ≤ bY ∧ bY ≤ 1000000
  len : r.2 = 0 → r.1.length = p.length
  val : r.2 = 0 → ∀ f, Scheds l p f → ∀ j : Nat, j < p.length → rI64 r.1 (j : Int) = mvP (rI64 (sumsOf f l (List.replicate p.length 0)) (j : Int)) (rI64 dm (j : Int)) (rI64 p (j : Int)) bY
theorem step_ev (l : List Un) (hs : SzL l) (dm p : List Int) (bY : Int) : EvP (fun k => dual_Step.f k l dm p bY) (StepP l dm p bY) := by
  unfold dual_Step.f
  refine EvP.bind (bound_ev l hs dm p) (fun b hb => EvP.ite (fun h => ?_) (fun h => EvP.ret ⟨fun _ => rfl, fun h' => absurd h' h, fun h' => absurd h' h, fun h' => absurd h' h, fun h' => absurd h' h⟩))
  have hB := hb.all h
  have bad : ∀ g : Nat → Option (List Int × Int), (∀ k, g k = some ([], 1)) → EvP g (StepP l dm p bY) := fun g hg => ⟨([], 1), ⟨0, fun k _ => hg k⟩, ⟨fun _ => rfl, fun h => absurd h (by decide), fun h => absurd h (by decide), fun h => absurd h (by decide), fun h => absurd h (by decide)⟩⟩
  refine EvP.ite (fun _ => bad _ (fun _ => rfl)) (fun h1 => ?_)
  refine EvP.ite (fun _ => bad _ (fun _ => rfl)) (fun h2 => ?_)
  have hpl := hB.plen
  have hdl := hB.dlen
  obtain ⟨f, hf⟩ := scheds_some hB
  obtain ⟨r, hr, q1, q2, q3⟩ := step_loop dm p (sumsOf f l (List.replicate p.length 0)) bY (by omega) (by omega) hB.inP (by omega) (by omega) (by rw [sumsOf_length]; simp) p.length 0 (List.replicate p.length 0) (by omega) (by omega) (by simp) (fun j hj => by omega)
  have e0 := sums_outer hB hf bY r l.length 0 (List.replicate p.length 0) (by omega) (by omega) (by simp) (by simpa using hr)
  refine ⟨r, Ev.pos (by omega) (Ev.pos (by omega) (Ev.pos (by omega) ?_)), ⟨fun h => absurd q1 h, fun _ => hB, fun _ => by omega, fun _ => q2, fun _ g hg j hj => ?_⟩⟩
  · rw [show ((dm.length : Int)).toNat = p.length by omega]
    exact e0
  · have same : ∀ (m : List Un), (∀ u ∈ m, u ∈ l) → ∀ s, sumsOf g m s = sumsOf f m s := by
      intro m
      induction m with
      | nil => intro _ s; rfl
      | cons u m ihm =>
        intro hm s
        have : g u = f u := Ev.det (hg u (hm u List.mem_cons_self)).1 (hf u (hm u List.mem_cons_self)).1
        simp only [sumsOf, this]
        exact ihm (fun v hv => hm v (List.mem_cons_of_mem _ hv)) _
    rw [same l (fun _ h => h)]
    exact q3 j hj
end Go.Proofs.Ytodagcbcdkfniaa.VE
