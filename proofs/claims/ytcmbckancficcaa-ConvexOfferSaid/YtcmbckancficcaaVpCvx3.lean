import Derived.Test.YtcmbckancficcaaVpCvx2
namespace Go.Proofs.Ytcmbckancficcaa.VE
open Go Go.RowKit
set_option linter.unusedVariables false
attribute [local irreducible] wrap64
/-! ### Conjugate, Convolve (no statement is proved here) -/
theorem conj_loop (l : List Pc) (hl : l.length ≤ 64) (hp : ∀ p ∈ l, (0 ≤ p.1 ∧ p.1 ≤ 2000000) ∧ (-10000000 ≤ p.2 ∧ p.2 ≤ 10000000)) (hs : l.Pairwise fun p q => p.2 < q.2) (s : Int) (hS : -10000000 ≤ s ∧ s ≤ 10000000) : ∀ (n : Nat) (i a v : Int), 0 ≤ i → (l.length : Int) - i = n → -1000000 - 2000000 * i ≤ a → a ≤ 1000000 + 2000000 * i → -(1000000000000000 + 20000000000000 * i) ≤ v → v ≤ 1000000000000000 + 20000000000000 * i → Ev (fun k => convexpl_Conjugate.l8 k s a v l (l.length : Int) i) (s * a - v + lin (fun t => pos (s - t)) (l.drop i.toNat), 0) := by
  intro n
  induction n with
  | zero =>
    intro i a v h0 h1 ha1 ha2 hv1 hv2
    have m := mul_abs (a := s) (b := a) (A := 10000000) (B := 200000000) (by omega) (by omega) (by omega) (by omega)
    rw [drop_end (by omega), show lin (fun t => pos (s - t)) [] = 0 from rfl, Int.add_zero]
    refine Ev.step (fun k => convexpl_Conjugate.l8_eq k _ _ _ _ _ _) (Ev.neg (by omega) ?_)
    rw [w64 (x := s * a) (by omega) (by omega), w64 (x := s * a - v) (by omega) (by omega)]
    exact Ev.now _
  | succ n ih =>
    intro i a v h0 h1 ha1 ha2 hv1 hv2
    have hlt : i < (l.length : Int) := by omega
    obtain ⟨⟨p0, p1⟩, p2, p3⟩ := hp _ (rY0_mem h0 hlt)
    have m := mul_abs (a := s) (b := a) (A := 10000000) (B := 200000000) (by omega) (by omega) (by omega) (by omega)
    have hs' : (l.drop i.toNat).Pairwise fun p q => p.2 < q.2 := hs.sublist (List.drop_sublist _ _)
    rw [rY0_drop h0 hlt] at hs' ⊢
    refine Ev.step (fun k => convexpl_Conjugate.l8_eq k _ _ _ _ _ _) (Ev.pos hlt (Ev.pos h0 (Ev.pos hlt ?_)))
    refine Ev.ite (fun hc => ?_) (fun hc => ?_)
    · have e : lin (fun t => pos (s - t)) (rY0 l i :: l.drop (i + 1).toNat) = 0 := by
        rw [lin_cons]
        have e1 : pos (s - (rY0 l i).2) = 0 := by unfold pos; rw [if_neg (by omega)]
        rw [e1, lin_above _ (s := (rY0 l i).2) (fun t ht => by unfold pos; rw [if_neg (by omega)]) _ (List.pairwise_cons.1 hs').1, Int.mul_zero]; rfl
      rw [e, Int.add_zero, w64 (x := s * a) (by omega) (by omega), w64 (x := s * a - v) (by omega) (by omega)]
      exact Ev.now _
    · have m2 := mul_abs (a := (rY0 l i).1) (b := (rY0 l i).2) (A := 2000000) (B := 10000000) (by omega) (by omega) (by omega) (by omega)
      rw [w64 (x := i + 1) (by omega) (by omega), w64 (x := a + (rY0 l i).1) (by omega) (by omega), w64 (x := (rY0 l i).1 * (rY0 l i).2) (by omega) (by omega), w64 (x := v + _) (by omega) (by omega)]
      have := ih (i + 1) (a + (rY0 l i).1) (v + (rY0 l i).1 * (rY0 l i).2) (by omega) (by omega) (by omega) (by omega) (by omega) (by omega)
      rw [lin_cons]
      have e1 : pos (s - (rY0 l i).2) = s - (rY0 l i).2 := by unfold pos; rw [if_pos (by omega)]
      rw [e1]
      have e2 : s * (a + (rY0 l i).1) - (v + (rY0 l i).1 * (rY0 l i).2) + lin (fun t => pos (s - t)) (l.drop (i + 1).toNat) = s * a - v + ((rY0 l i).1 * (s - (rY0 l i).2) + lin (fun t => pos (s - t)) (l.drop (i + 1).toNat)) := by
        rw [Int.mul_add, Int.mul_sub, Int.mul_comm (rY0 l i).1 s]; omega
      rw [e2] at this
      exact this
def conj (f : Cv) (s : Int) : Int := s * f.1 - f.2.1 + lin (fun t => pos (s - t)) f.2.2
theorem conj_ev (f : Cv) (s : Int) : EvP (fun k => convexpl_Conjugate.f k f s) (fun r => (r.2 ≠ 0 ∧ r.1 = 0) ∨ (Valid f ∧ (-10000000 ≤ s ∧ s ≤ 10000000) ∧ r = (conj f s, 0))) := by
  unfold convexpl_Conjugate.f
  refine EvP.bind (ccheck_ev f) (fun e he => EvP.ite (fun hz => ?_) (fun hz => EvP.ret (Or.inl ⟨hz, rfl⟩)))
  have hV := he.1 hz
  have hf := hV.2.1
  have hv := hV.2.2.1
  refine EvP.ite (fun h => EvP.ret (Or.inl ⟨by decide, rfl⟩)) (fun c1 => EvP.ite (fun h => EvP.ret (Or.inl ⟨by decide, rfl⟩)) (fun c2 => ?_))
  have := conj_loop f.2.2 hV.1 (fun p hp => ⟨⟨hV.ok.sp.nn p hp, hV.ok.long p hp⟩, hV.ok.slope p hp⟩) hV.ok.sp.s s (by omega) f.2.2.length 0 f.1 f.2.1 (by omega) (by omega) (by omega) (by omega) (by omega) (by omega)
  exact EvP.of this (Or.inr ⟨hV, by omega, rfl⟩)
theorem conj_ge {f : Cv} (h : Valid f) {x : Int} (h0 : f.1 ≤ x) (h1 : x ≤ hi f) (s : Int) : s * x - V f x ≤ conj f s := by
  have := conj_bound s f.2.2 (x - f.1) h.ok.sp.nn (by omega) (by unfold hi at h1; omega)
  unfold V conj
  rw [Int.mul_sub] at this
  omega
theorem grow_ev (n : Int) (h0 : 0 ≤ n) (h1 : n ≤ 1000000) : Ev (fun k => slices_Grow_api_ConvexPiece.f k n) [] := by
  unfold slices_Grow_api_ConvexPiece.f
  refine Ev.neg (by omega) (Ev.step (fun k => slices_Grow_api_ConvexPiece.l3_eq k _) ?_)
  rw [w64 (x := (0 : Int) - 0) (by omega) (by omega), w64 (x := n - (0 - 0)) (by omega) (by omega)]
  refine Ev.ite (fun h => Ev.pos (by omega) (Ev.pos (by omega) (Ev.pos (by omega) (Ev.pos (by omega) (Ev.pos (by omega) (Ev.pos (by omega) (Ev.pos (by omega) ?_))))))) (fun h => Ev.now _)
  simpa using Ev.now ([] : List Pc)
theorem concat_ev (a b : List Pc) (ha : a.length ≤ 1000) (hb : b.length ≤ 1000) : Ev (fun k => slices_Concat_api_ConvexPiece.f k [a, b]) (a ++ b) := by
  unfold slices_Concat_api_ConvexPiece.f
  have r0 : rd (.list 60 Y0) [a, b] 0 = a := rfl
  have r1 : rd (.list 60 Y0) [a, b] 1 = b := rfl
  have hl : (([a, b] : List (List Pc)).length : Int) = 2 := rfl
  have w0 : wrap64 (0 + 1) = 1 := by rw [w64] <;> omega
  have w1 : wrap64 (1 + 1) = 2 := by rw [w64] <;> omega
  rw [hl]
  refine Ev.step (fun k => slices_Concat_api_ConvexPiece.l3_eq k _ _ _ _ _) (Ev.pos (by omega) (Ev.pos (by omega) ?_))
  rw [hl, r0, w64 (x := 0 + (a.length : Int)) (by omega) (by omega), w0]
  refine Ev.pos (by omega) (Ev.neg (by omega) ?_)
  refine Ev.step (fun k => slices_Concat_api_ConvexPiece.l3_eq k _ _ _ _ _) (Ev.pos (by omega) (Ev.pos (by omega) ?_))
  rw [hl, r1, w64 (x := 0 + (a.length : Int) + (b.length : Int)) (by omega) (by omega), w1]
  refine Ev.pos (by omega) (Ev.neg (by omega) ?_)
  refine Ev.step (fun k => slices_Concat_api_ConvexPiece.l3_eq k _ _ _ _ _) (Ev.neg (by omega) ?_)
  refine Ev.bind (grow_ev _ (by omega) (by omega)) ?_
  rw [hl]
  refine Ev.step (fun k => slices_Concat_api_ConvexPiece.l11_eq k _ _ _ _) (Ev.pos (by omega) (Ev.pos (by omega) ?_))
  rw [hl, r0, w0, List.nil_append]
  refine Ev.pos (by omega) (Ev.pos (by rw [List.length_nil]; omega) ?_)
  refine Ev.step (fun k => slices_Concat_api_ConvexPiece.l11_eq k _ _ _ _) (Ev.pos (by omega) (Ev.pos (by omega) ?_))
  rw [hl, r1, w1]
  refine Ev.pos (by omega) (Ev.pos (by omega) ?_)
  exact Ev.step (fun k => slices_Concat_api_ConvexPiece.l11_eq k _ _ _ _) (Ev.neg (by omega) (Ev.now _))
def conv (f g : Cv) : Cv := (f.1 + g.1, f.2.1 + g.2.1, nrm (f.2.2 ++ g.2.2))
theorem convolve_ev (f g : Cv) : EvP (fun k => convexpl_Convolve.f k f g) (fun r => (r.2 ≠ 0 ∧ r.1 = (0, 0, [])) ∨ (Valid f ∧ Valid g ∧ Valid (conv f g) ∧ r = (conv f g, 0))) := by
  unfold convexpl_Convolve.f convexpl_both.f
  refine EvP.bind (P := fun e => (e = 0 ↔ Valid f ∧ Valid g)) ?_ (fun e he => EvP.ite (fun hz => ?_) (fun hz => EvP.ret (Or.inl ⟨hz, rfl⟩)))
  · refine EvP.bind (ccheck_ev f) (fun e he => EvP.ite (fun hz => ?_) (fun hz => EvP.ret ⟨fun h => absurd h hz, fun h => absurd (he.2 h.1) hz⟩))
    refine EvP.bind (ccheck_ev g) (fun e' he' => EvP.ret ⟨fun h => ⟨he.1 hz, he'.1 h⟩, fun h => he'.2 h.2⟩)
  · obtain ⟨hF, hG⟩ := he.1 hz
    have f1 := hF.1
    have g1 := hG.1
    have f2 := hF.2.1
    have g2 := hG.2.1
    have f3 := hF.2.2.1
    have g3 := hG.2.2.1
    refine EvP.bindE (concat_ev f.2.2 g.2.2 (by omega) (by omega)) ?_
    rw [w64 (x := f.1 + g.1) (by omega) (by omega), w64 (x := f.2.1 + g.2.1) (by omega) (by omega)]
    refine EvP.bind (made_ev _ _ (f.2.2 ++ g.2.2) (by rw [List.length_append]; omega) (fun p hp => ?_)) (fun r hr => ?_)
    · rcases List.mem_append.1 hp with hp | hp
      · exact ⟨hF.ok.sp.nn p hp, by have := hF.ok.long p hp; omega⟩
      · exact ⟨hG.ok.sp.nn p hp, by have := hG.ok.long p hp; omega⟩
    · cases hr with
      | ok s hv => exact EvP.ret (Or.inr ⟨hF, hG, hv, rfl⟩)
      | bad s hv => exact EvP.ret (Or.inl ⟨by show (2 : Int) ≠ 0; decide, rfl⟩)
end Go.Proofs.Ytcmbckancficcaa.VE
