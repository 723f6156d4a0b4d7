/- The pure statement of the law DualSteps; what its row says is proved behind it. -/
import Derived.Test.YtodagcbcdkfniaaVpDuSt
namespace Go.Proofs.Ytodagcbcdkfniaa.VE
open Go Go.RowKit
set_option linter.unusedVariables false
attribute [local irreducible] wrap64
/-- The row's pure statement. -/
def DualSteps.Pure : Prop := ∀ (a0 : List ((ByteArray × Int × Int × Int × Int × Int × Int × Int) × (ByteArray × List (Int × Int)) × Bool × Int × Int)) (a1 : List Int) (a2 : List Int) (a3 : Int), OkV BY (.list 33 (.pair (.pair .str (.pair (.int .i64) (.pair (.int .i64) (.pair (.int .i64) (.pair (.int .i64) (.pair (.int .i64) (.pair (.int .i64) (.int .i64)))))))) (.pair (.pair .str (.list 72 (.pair (.int .i64) (.int .i64)))) (.pair .bool (.pair (.int .i64) (.int .i64)))))) a0 → OkV BY (.list 3 (.int .i64)) a1 → OkV BY (.list 3 (.int .i64)) a2 → OkV BY (.int .i64) a3 → ∃ k, gridhallkeep3_DualSteps.f k a0 a1 a2 a3 = some true
theorem lw_inner (dm p : List Int) (bY : Int) (x : List Int) (l : List Un) (L i : Int) (xs : List Int) (hxs : xs.length ≤ 1000) (r : Bool) : ∀ (d j : Nat) (s : List Int), xs.length - j = d → j ≤ xs.length → xs.length ≤ s.length → Ev (fun k => gridhallkeep3_DualSteps.l11 k dm p bY x l L (wrap64 (i + 1)) (addL (xs.drop j) j s)) r → Ev (fun k => gridhallkeep3_DualSteps.l17 k dm p bY x l L i xs (xs.length : Int) (j : Int) s) r := by
  intro d
  induction d with
  | zero =>
    intro j s hd h1 hs he
    rw [List.drop_eq_nil_of_le (by omega)] at he
    exact Ev.step (fun k => gridhallkeep3_DualSteps.l17_eq k _ _ _ _ _ _ _ _ _ _ _) (Ev.neg (by omega) he)
  | succ d ih =>
    intro j s hd h1 hs he
    have w1 : wrap64 ((j : Int) + 1) = ((j + 1 : Nat) : Int) := by rw [w64 (by omega) (by omega)]; omega
    have dV : xs.drop j = rI64 xs (j : Int) :: xs.drop (j + 1) := by
      have := rI64_drop (xs := xs) (i := (j : Int)) (by omega) (by omega)
      rw [show ((j : Int)).toNat = j by omega, show ((j : Int) + 1).toNat = j + 1 by omega] at this
      exact this
    rw [dV] at he
    refine Ev.step (fun k => gridhallkeep3_DualSteps.l17_eq k _ _ _ _ _ _ _ _ _ _ _) (Ev.pos (by omega) (Ev.pos (by omega) (Ev.pos (by omega) (Ev.pos (by omega) (Ev.pos (by omega) (Ev.pos (by omega) (Ev.pos (by omega) ?_)))))))
    rw [w1, show ((j : Int)).toNat = j by omega]
    exact ih (j + 1) _ (by omega) (by omega) (by rw [List.length_set]; exact hs) he
theorem lw_outer {l : List Un} {dm p : List Int} (h : AllB l dm p) {f : Un → List Int × Int × Int} (hf : Scheds l p f) (bY : Int) (x : List Int) (r : Bool) : ∀ (d : Nat) (i : Int) (s : List Int), 0 ≤ i → (l.length : Int) - i = d → s.length = p.length → Ev (fun k => gridhallkeep3_DualSteps.l23 k dm p bY x (x.length : Int) 0 (sumsOf f (l.drop i.toNat) s)) r → Ev (fun k => gridhallkeep3_DualSteps.l11 k dm p bY x l (l.length : Int) i s) r := by
  have hl := h.len
  have hdl := h.dlen
  have hpl := h.plen
  intro d
  induction d with
  | zero =>
    intro i s h0 hd hs he
    rw [drop_end (by omega)] at he
    exact Ev.step (fun k => gridhallkeep3_DualSteps.l11_eq k _ _ _ _ _ _ _ _) (Ev.neg (by omega) he)
  | succ d ih =>
    intro i s h0 hd hs he
    have hlt : i < (l.length : Int) := by omega
    have w1 : wrap64 (i + 1) = i + 1 := w64 (by omega) (by omega)
    obtain ⟨g1, g2⟩ := hf _ (rY10_mem h0 hlt)
    have g3 := g2.len
    rw [rY10_drop h0 hlt] at he
    refine Ev.step (fun k => gridhallkeep3_DualSteps.l11_eq k _ _ _ _ _ _ _ _) (Ev.pos hlt (Ev.pos h0 (Ev.pos hlt (Ev.bind g1 (Ev.pos g2.err (Ev.pos (by omega) ?_))))))
    refine lw_inner dm p bY x l _ i _ (by omega) r _ 0 s rfl (by omega) (by omega) ?_
    rw [w1, List.drop_zero]
    exact ih (i + 1) _ (by omega) (by omega) (by rw [addL_length]; exact hs) he
theorem lw_last (dm p s x : List Int) (bY : Int) (hb0 : 1 ≤ bY) (hb1 : bY ≤ 1000000) (hp : InP p) (hpl : p.length ≤ 8) (hd : dm.length = p.length) (hs : s.length = p.length) (hx : x.length = p.length) (hm : ∀ j : Nat, j < p.length → rI64 x (j : Int) = mvP (rI64 s (j : Int)) (rI64 dm (j : Int)) (rI64 p (j : Int)) bY) : ∀ (d t : Nat), p.length - t = d → t ≤ p.length → Ev (fun k => gridhallkeep3_DualSteps.l23 k dm p bY x (x.length : Int) (t : Int) s) true := by
  intro d
  induction d with
  | zero =>
    intro t hdd ht
    exact Ev.step (fun k => gridhallkeep3_DualSteps.l23_eq k _ _ _ _ _ _ _) (Ev.neg (by omega) (Ev.now _))
  | succ d ih =>
    intro t hdd ht
    have w1 : wrap64 ((t : Int) + 1) = ((t + 1 : Nat) : Int) := by rw [w64 (by omega) (by omega)]; omega
    have hpr := hp _ (rI64_mem (xs := p) (i := (t : Int)) (by omega) (by omega))
    have hmv := hm t (by omega)
    have cont := ih (t + 1) (by omega) (by omega)
    have htp : (t : Int) < (p.length : Int) := by omega
    have htx : (t : Int) < (x.length : Int) := by omega
    have hts : (t : Int) < (s.length : Int) := by omega
    have htd : (t : Int) < (dm.length : Int) := by omega
    have ht0 : (0 : Int) ≤ (t : Int) := by omega
    refine Ev.step (fun k => gridhallkeep3_DualSteps.l23_eq k _ _ _ _ _ _ _) (Ev.pos htx (Ev.pos ht0 (Ev.pos htx (Ev.pos ht0 (Ev.pos htp ?_)))))
    rw [w1]
    generalize rI64 x (t : Int) = a at *
    generalize rI64 p (t : Int) = b at *
    generalize rI64 s (t : Int) = c at *
    generalize rI64 dm (t : Int) = e at *
    have hq : (-2000000 ≤ a ∧ a ≤ 2000000) ∧ ((c < e ∧ (a = b + bY ∨ a = 2000000 ∧ 2000000 ≤ b + bY)) ∨ (e < c ∧ (a = b - bY ∨ a = -2000000 ∧ b - bY ≤ -2000000)) ∨ (c = e ∧ a = b)) := by
      unfold mvP mn mx at hmv
      revert hmv
      repeat' split
      all_goals (intro hmv; omega)
    clear hmv
    have w2 : wrap64 (a - b) = a - b := w64 (by omega) (by omega)
    have w3 : wrap64 (0 - bY) = -bY := by rw [w64 (by omega) (by omega)]; omega
    rw [w2, w3]
    refine Ev.neg (by omega) (Ev.neg (by omega) (Ev.pos ht0 (Ev.pos hts (Ev.pos ht0 (Ev.pos htd ?_)))))
    have last : ∀ {h : 0 ≤ (t : Int)}, ¬ (0 < a - b ∧ e < c) → Ev (fun k => if 0 < a - b then if 0 ≤ (t : Int) then if (t : Int) < (s.length : Int) then if 0 ≤ (t : Int) then if (t : Int) < (dm.length : Int) then if e < c then some false else gridhallkeep3_DualSteps.l23 k dm p bY x (x.length : Int) ((t + 1 : Nat) : Int) s else none else none else none else none else gridhallkeep3_DualSteps.l23 k dm p bY x (x.length : Int) ((t + 1 : Nat) : Int) s) true := by
      intro _ hn
      refine Ev.ite (fun g => Ev.pos ht0 (Ev.pos hts (Ev.pos ht0 (Ev.pos htd (Ev.neg (by omega) cont))))) (fun _ => cont)
    refine Ev.ite (fun _ => last (h := ht0) (by omega)) (fun hne => ?_)
    have hne' : ¬ (c = e ↔ a - b = 0) := fun hi => hne (decide_eq_decide.2 hi)
    refine Ev.ite (fun _ => last (h := ht0) (by omega)) (fun h1 => Ev.ite (fun _ => last (h := ht0) (by omega)) (fun h2 => ?_))
    exfalso
    apply hne'
    omega
def aloneU : Un := ((ByteArray.mk #[65], 0, 20, 20, 20, 1, 1, 9), (ByteArray.mk #[65], [(10, 5), (10, 8)]), false, 5, 0)
theorem alone_ev : Ev (fun k => gridhallkeep3_alone.f k) aloneU := Ev.far 1 (fun k => by kernel_rfl)
theorem alone_step : Ev (fun k => dual_Step.f k [aloneU] [12] [0] 3) ([3], 0) := Ev.far 60 (fun k => by kernel_rfl)
theorem Pure.DualSteps : DualSteps.Pure := by
  intro l dm p bY hl _ _ _
  have hs : SzL l := fun u hu => by
    have := hl.2 u hu
    exact ⟨this.1.1, this.2.1.1⟩
  refine Ev.rounds ?_
  unfold gridhallkeep3_DualSteps.f
  refine Ev.bind alone_ev (Ev.bind alone_step (Ev.pos rfl (Ev.bind (a := true) (Ev.far 20 (fun k => by kernel_rfl)) (Ev.pos rfl ?_))))
  obtain ⟨x, hx, h⟩ := step_ev l hs dm p bY
  refine Ev.bind hx ?_
  refine Ev.ite (fun hz => ?_) (fun hz => ?_)
  · have hB := h.all hz
    have hpl := hB.plen
    have hdl := hB.dlen
    have hxl := h.len hz
    obtain ⟨b0, b1⟩ := h.by0 hz
    obtain ⟨f, hf⟩ := scheds_some hB
    refine Ev.pos (by omega) (Ev.pos (by omega) (Ev.pos (by omega) (Ev.pos (by omega) ?_)))
    rw [show ((p.length : Int)).toNat = p.length by omega]
    refine lw_outer hB hf bY x.1 true l.length 0 (List.replicate p.length 0) (by omega) (by omega) (by simp) ?_
    rw [Int.toNat_zero, List.drop_zero]
    exact lw_last dm p _ x.1 bY b0 b1 hB.inP (by omega) (by omega) (by rw [sumsOf_length]; simp) hxl (fun j hj => h.val hz f hf j hj) p.length 0 (by omega) (by omega)
  · rw [h.bad hz]
    exact Ev.now _
end Go.Proofs.Ytodagcbcdkfniaa.VE
