/- The pure statement of the law StorageKept; what its row says is proved behind it. -/
import Derived.Test.YtcmbckancficcaaVpStor2
namespace Go.Proofs.Ytcmbckancficcaa.VE
open Go Go.RowKit
set_option linter.unusedVariables false
attribute [local irreducible] wrap64
/-- The row's pure statement. -/
def StorageKept.Pure : Prop := ∀ (a0 : Int × Int × Int × Int × Int) (a1 : List Int) (a2 : List Int), OkV BY (.pair (.int .i64) (.pair (.int .i64) (.pair (.int .i64) (.pair (.int .i64) (.int .i64))))) a0 → OkV BY (.list 3 (.int .i64)) a1 → OkV BY (.list 3 (.int .i64)) a2 → ∃ k, gridhallkeep3_StorageKept.f k a0 a1 a2 = some true
theorem Pure.StorageKept : StorageKept.Pure := by
  intro s ps cs h0 h1 h2
  apply EvP.rounds
  unfold gridhallkeep3_StorageKept.f
  refine EvP.bindE (a := ([1], 4, 0)) (Ev.far 60 (fun k => by kernel_rfl)) (EvP.pos rfl (EvP.pos rfl (EvP.bindE stores_ev (EvP.pos rfl ?_))))
  refine EvP.bind (sbest_ev s ps) (fun r hr => EvP.bind (run_ev s ps cs) (fun q hq => ?_))
  rcases hr with ⟨hs, hp, hr⟩ | ⟨hn, r1, r2, r3⟩
  · rcases hq with ⟨_, _, hq⟩ | ⟨hq, _⟩
    case inr => exact absurd ⟨hs, hp⟩ hq
    cases hr with
    | ok out k z h he hm =>
      refine EvP.pos rfl (EvP.bind (run_ev s ps out) (fun t ht => ?_))
      rcases ht with ⟨_, _, ht⟩ | ⟨ht, _⟩
      case inr => exact absurd ⟨hs, hp⟩ ht
      cases ht with
      | bad e _ hb => exact (hb k z h he).elim
      | ok o2 k2 z2 h' he' _ _ =>
        obtain ⟨e1, e2⟩ := h.det h'
        subst e1 e2
        refine EvP.pos rfl (EvP.pos rfl ?_)
        cases hq with
        | bad e he _ => exact EvP.neg he (EvP.ret rfl)
        | ok o3 k3 z3 h3 he3 _ _ => exact EvP.pos rfl (EvP.ret (decide_eq_true (hm cs k3 z3 h3 he3)))
    | large =>
      refine EvP.neg (by decide) (EvP.pos rfl (EvP.pos rfl (EvP.ite (fun _ => EvP.ret rfl) (fun _ => EvP.ret rfl))))
    | none e he hn =>
      refine EvP.neg he (EvP.pos rfl (EvP.pos rfl ?_))
      cases hq with
      | bad e he _ => exact EvP.neg he (EvP.ret rfl)
      | ok o3 k3 z3 h3 he3 _ _ => exact (hn cs k3 z3 h3 he3).elim
  · rcases hq with ⟨hs, hp, _⟩ | ⟨_, _, _, q3⟩
    · exact absurd ⟨hs, hp⟩ hn
    · exact EvP.neg r3 (EvP.pos (by rw [r1]; rfl) (EvP.pos r2 (EvP.neg q3 (EvP.ret rfl))))
end Go.Proofs.Ytcmbckancficcaa.VE
