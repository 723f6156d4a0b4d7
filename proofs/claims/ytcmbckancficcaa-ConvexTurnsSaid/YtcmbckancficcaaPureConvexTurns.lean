/- The pure statement of the law ConvexTurns; what its row says is proved behind it. -/
import Derived.Test.YtcmbckancficcaaVpCvx2
namespace Go.Proofs.Ytcmbckancficcaa.VE
open Go Go.RowKit
set_option linter.unusedVariables false
attribute [local irreducible] wrap64
/-- The row's pure statement. -/
def ConvexTurns.Pure : Prop := ∀ (a0 : Int × Int × List (Int × Int)) (a1 : Int) (a2 : Int), OkV BY (.pair (.int .i64) (.pair (.int .i64) (.list 60 (.pair (.int .i64) (.int .i64))))) a0 → OkV BY (.int .i64) a1 → OkV BY (.int .i64) a2 → ∃ k, gridhallkeep3_ConvexTurns.f k a0 a1 a2 = some true
theorem Pure.ConvexTurns : ConvexTurns.Pure := by
  intro f x y h0 h1 h2
  apply EvP.rounds
  unfold gridhallkeep3_ConvexTurns.f
  refine EvP.bindE (a := (0, 0, [(10, 5), (10, 8)])) (Ev.now _) (EvP.bindE (a := ((-20, 130, [(10, -8), (10, -5)]), 0)) (Ev.far 60 (fun k => by kernel_rfl)) (EvP.pos rfl (EvP.pos rfl (EvP.pos rfl ?_))))
  refine EvP.bind (turn_ev f) (fun r hr => ?_)
  rcases hr with ⟨hr, hr0⟩ | ⟨hV, hT, rfl⟩
  · exact EvP.neg hr (EvP.ret (by rw [hr0]; rfl))
  · have hl := hV.1
    refine EvP.pos rfl (EvP.bindE (turn_yes hT (by rw [turned_turned hV]; exact hV)) ?_)
    rw [turned_turned hV]
    refine EvP.bind (move_ev f x y) (fun m hm => EvP.bind (move_ev m.1 (wrap64 (0 - x)) (wrap64 (0 - y))) (fun n hn => ?_))
    refine EvP.pos rfl (EvP.bindE (same_ev f f (by omega)) (EvP.pos (by simp) (EvP.bindE (fine_ev [m.2, n.2] (by simp)) ?_)))
    refine EvP.ite (fun hf => ?_) (fun hf => EvP.ret rfl)
    simp only [List.all_cons, List.all_nil, Bool.and_true, Bool.and_eq_true, decide_eq_true_eq] at hf
    rcases hm with ⟨hm, _⟩ | ⟨_, hx, hy, hmV, rfl⟩
    · exact absurd hf.1 hm
    · rcases hn with ⟨hn, _⟩ | ⟨_, _, _, hnV, rfl⟩
      · exact absurd hf.2 hn
      · rw [w64 (x := 0 - x) (by omega) (by omega), w64 (x := 0 - y) (by omega) (by omega)]
        have e : ((f.1 + x + (0 - x), f.2.1 + y + (0 - y), f.2.2) : Cv) = f := by
          rw [show f.1 + x + (0 - x) = f.1 by omega, show f.2.1 + y + (0 - y) = f.2.1 by omega]
        refine EvP.bindE (same_ev _ f (by show f.2.2.length ≤ 1000; omega)) (EvP.ret ?_)
        exact decide_eq_true e
end Go.Proofs.Ytcmbckancficcaa.VE
