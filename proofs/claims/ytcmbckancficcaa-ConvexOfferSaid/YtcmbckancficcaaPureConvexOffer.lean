/- The pure statement of the law ConvexOffer; what its row says is proved behind it. -/
import Derived.Test.YtcmbckancficcaaVpOff
namespace Go.Proofs.Ytcmbckancficcaa.VE
open Go Go.RowKit
set_option linter.unusedVariables false
attribute [local irreducible] wrap64
/-- The row's pure statement. -/
def ConvexOffer.Pure : Prop := ∀ (a0 : ByteArray × List (Int × Int)) (a1 : Int), OkV BY (.pair .str (.list 99 (.pair (.int .i64) (.int .i64)))) a0 → OkV BY (.int .i64) a1 → ∃ k, gridhallkeep3_ConvexOffer.f k a0 a1 = some true
theorem Pure.ConvexOffer : ConvexOffer.Pure := by
  intro o x h0 h1
  obtain ⟨s, ps⟩ := o
  apply EvP.rounds
  unfold gridhallkeep3_ConvexOffer.f
  refine EvP.bindE (a := (ByteArray.mk #[65], [(10, 5), (10, 8)])) (Ev.now _) (EvP.bindE (a := ((0, 0, [(10, 5), (10, 8)]), 0)) (Ev.far 60 (fun k => by kernel_rfl)) (EvP.pos rfl ?_))
  refine EvP.bindE (a := (0, 0, [(10, 5), (10, 8)])) (Ev.now _) (EvP.bindE (a := true) (Ev.far 60 (fun k => by kernel_rfl)) (EvP.pos rfl (EvP.bindE slopes_ev (EvP.pos rfl ?_))))
  refine EvP.bind (of_ev s h0.1 ps) (fun r hr => ?_)
  rcases hr with ⟨hr, hr0⟩ | ⟨hc, hO, hV, rfl⟩
  · exact EvP.neg hr (EvP.ret (by rw [hr0]; rfl))
  · refine EvP.pos rfl (EvP.bindE (cost_ev hc hO x) (EvP.bind (at_ev (0, 0, nrm ps) x) (fun w hw => ?_)))
    have hi0 : hi (0, 0, nrm ps) = total ps := by
      show 0 + total (nrm ps) = total ps
      rw [total_nrm]; omega
    have iw := hw.iff
    rw [hi0] at iw
    by_cases hx : 0 ≤ x ∧ x ≤ total ps
    · have hw0 : w.2 = 0 := iw.2 ⟨hV, hx⟩
      rw [if_pos hx]
      refine EvP.pos (by rw [decide_eq_true hw0]; rfl) (EvP.ret (decide_eq_true ?_))
      rw [hw.val hw0]
      show vAt ps x = 0 + vAt (nrm ps) (x - 0)
      rw [Int.sub_zero, vAt_nrm hO.nn hO.srt x hx.1]; omega
    · have hw0 : w.2 ≠ 0 := fun h => hx (iw.1 h).2
      rw [if_neg hx]
      refine EvP.pos (by rw [decide_eq_false hw0]; rfl) (EvP.ret (decide_eq_true ?_))
      exact (hw.zero hw0).symm
end Go.Proofs.Ytcmbckancficcaa.VE
