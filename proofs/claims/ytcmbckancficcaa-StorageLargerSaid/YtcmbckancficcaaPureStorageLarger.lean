/- The pure statement of the law StorageLarger; what its row says is proved behind it. -/
import Derived.Test.YtcmbckancficcaaVpStor2
namespace Go.Proofs.Ytcmbckancficcaa.VE
open Go Go.RowKit
set_option linter.unusedVariables false
attribute [local irreducible] wrap64
/-- The row's pure statement. -/
def StorageLarger.Pure : Prop := ∀ (a0 : Int × Int × Int × Int × Int) (a1 : List Int) (a2 : Int), OkV BY (.pair (.int .i64) (.pair (.int .i64) (.pair (.int .i64) (.pair (.int .i64) (.int .i64))))) a0 → OkV BY (.list 3 (.int .i64)) a1 → OkV BY (.int .i64) a2 → ∃ k, gridhallkeep3_StorageLarger.f k a0 a1 a2 = some true
theorem SRun.larger {s s' : Pl} (hc : s.1 ≤ s'.1) (hd : s.2.1 ≤ s'.2.1) (hk : s.2.2.1 ≤ s'.2.2.1) {x k z : Int} {ps cs : List Int} (h : SRun s x ps cs k z) : SRun s' x ps cs k z := by
  induction h with
  | nil x => exact .nil x
  | cons x p c k z ps cs h1 h2 _ ih => exact .cons _ _ _ _ _ _ _ (by omega) (by omega) ih
theorem Pure.StorageLarger : StorageLarger.Pure := by
  intro s ps more h0 h1 h2
  apply EvP.rounds
  unfold gridhallkeep3_StorageLarger.f
  refine EvP.bindE stores_ev (EvP.pos rfl ?_)
  refine EvP.bind (sbest_ev s ps) (fun r hr => EvP.bind (within_ev more 0 50 h2 (by omega) (by omega) (by omega) (by omega)) (fun m hm => ?_))
  refine EvP.bind (sbest_ev (wrap64 (s.1 + m), wrap64 (s.2.1 + m), wrap64 (s.2.2.1 + m), s.2.2.2) ps) (fun q hq => EvP.bindE (fine_ev [r.2.2, q.2.2] (by simp)) (EvP.ite (fun hf => EvP.ret ?_) (fun _ => EvP.ret rfl)))
  simp only [List.all_cons, List.all_nil, Bool.and_true, Bool.and_eq_true, decide_eq_true_eq] at hf
  refine decide_eq_true ?_
  rcases hr with ⟨hs, hp, hr⟩ | ⟨_, _, _, r3⟩
  case inr => exact absurd hf.1 r3
  rcases hq with ⟨hs', hp', hq⟩ | ⟨_, _, _, q3⟩
  case inr => exact absurd hf.2 q3
  have c1 := hs.c
  have c2 := hs.d
  have c3 := hs.k
  cases hr with
  | large => exact absurd hf.1 (by decide)
  | none e he _ => exact absurd hf.1 he
  | ok out k z h he _ =>
    generalize hs2 : ((wrap64 (s.1 + m), wrap64 (s.2.1 + m), wrap64 (s.2.2.1 + m), s.2.2.2) : Pl) = s' at *
    cases hq with
    | large => exact absurd hf.2 (by decide)
    | none e he _ => exact absurd hf.2 he
    | ok out' k' z' h' he' hm' =>
      have g1 : s'.1 = s.1 + m := by rw [← hs2]; show wrap64 (s.1 + m) = _; rw [w64 (by omega) (by omega)]
      have g2 : s'.2.1 = s.2.1 + m := by rw [← hs2]; show wrap64 (s.2.1 + m) = _; rw [w64 (by omega) (by omega)]
      have g3 : s'.2.2.1 = s.2.2.1 + m := by rw [← hs2]; show wrap64 (s.2.2.1 + m) = _; rw [w64 (by omega) (by omega)]
      have g4 : s'.2.2.2 = s.2.2.2 := by rw [← hs2]
      have := h.larger (s' := s') (by omega) (by omega) (by omega)
      exact hm' out k z (by rw [g4]; exact this) (by rw [g4]; exact he)
end Go.Proofs.Ytcmbckancficcaa.VE
