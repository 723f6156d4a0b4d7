/- The pure statement of the law ConvexParts; what its row says is proved behind it. -/
import Derived.Test.YtcmbckancficcaaVpCvx2
namespace Go.Proofs.Ytcmbckancficcaa.VE
open Go Go.RowKit
set_option linter.unusedVariables false
attribute [local irreducible] wrap64
/-- The row's pure statement. -/
def ConvexParts.Pure : Prop := ∀ (a0 : Int × Int × List (Int × Int)) (a1 : Int) (a2 : Int), OkV BY (.pair (.int .i64) (.pair (.int .i64) (.list 60 (.pair (.int .i64) (.int .i64))))) a0 → OkV BY (.int .i64) a1 → OkV BY (.int .i64) a2 → ∃ k, gridhallkeep3_ConvexParts.f k a0 a1 a2 = some true
theorem High_ev (f : Cv) : EvP (fun k => convexpl_High.f k f) (fun r => (r.2 ≠ 0 ∧ r.1 = 0) ∨ (Valid f ∧ r = (hi f, 0))) := by
  unfold convexpl_High.f
  refine EvP.bind (ccheck_ev f) (fun e he => EvP.ite (fun hz => ?_) (fun hz => EvP.ret (Or.inl ⟨hz, rfl⟩)))
  have hV := he.1 hz
  exact EvP.bindE (high_ev hV) (EvP.ret (Or.inr ⟨hV, rfl⟩))
theorem Pure.ConvexParts : ConvexParts.Pure := by
  intro f at' x h0 h1 h2
  apply EvP.rounds
  unfold gridhallkeep3_ConvexParts.f
  refine EvP.bindE slopes_ev (EvP.pos rfl (EvP.bind (High_ev f) (fun r hr => ?_)))
  rcases hr with ⟨hr, hr0⟩ | ⟨hV, rfl⟩
  · exact EvP.neg hr (EvP.ret (by rw [hr0]; rfl))
  · have hh := hV.hi_ge
    have hf := hV.2.1
    refine EvP.pos rfl (EvP.bind (within_ev at' f.1 (hi f) h1 hh.1 (by omega) (by omega) (by omega)) (fun a ha => ?_))
    refine EvP.bindE (restrict_ev hV (Int.le_refl _) ha.1 ha.2) (EvP.bindE (restrict_ev hV ha.1 ha.2 (Int.le_refl _)) ?_)
    obtain ⟨a1, a2, a3⟩ := part_valid hV (Int.le_refl _) ha.1 ha.2
    obtain ⟨b1, b2, b3⟩ := part_valid hV ha.1 ha.2 (Int.le_refl _)
    refine EvP.bind (at_ev (part' f f.1 a) x) (fun u hu => EvP.bind (at_ev (part' f a (hi f)) x) (fun v hv => EvP.bind (at_ev f x) (fun w hw => ?_)))
    have iu := hu.iff
    have iv := hv.iff
    have iw := hw.iff
    rw [a2] at iu
    rw [b2] at iv
    have iu : u.2 = 0 ↔ f.1 ≤ x ∧ x ≤ a := ⟨fun h => (iu.1 h).2, fun h => iu.2 ⟨a1, h⟩⟩
    have iv : v.2 = 0 ↔ a ≤ x ∧ x ≤ hi f := ⟨fun h => (iv.1 h).2, fun h => iv.2 ⟨b1, h⟩⟩
    have iw : w.2 = 0 ↔ f.1 ≤ x ∧ x ≤ hi f := ⟨fun h => (iw.1 h).2, fun h => iw.2 ⟨hV, h⟩⟩
    have eu : u.2 = 0 → u.1 = w.1 := fun h => by
      have := iu.1 h
      rw [hu.val h, hw.val (iw.2 (by omega)), a3 x this.1 this.2]
    have ev : v.2 = 0 → v.1 = w.1 := fun h => by
      have := iv.1 h
      rw [hv.val h, hw.val (iw.2 (by omega)), b3 x this.1 this.2]
    refine EvP.bindE (fine_ev [0, 0] (by decide)) (EvP.pos rfl ?_)
    have last : EvP (fun k => if v.2 = 0 then some (decide (v.1 = w.1)) else some true) (fun r => r = true) := EvP.ite (fun h => EvP.ret (decide_eq_true (ev h))) (fun _ => EvP.ret rfl)
    refine EvP.ite (fun hu0 => ?_) (fun hu0 => ?_)
    · have hw0 : w.2 = 0 := by
        have := iu.1 hu0
        exact iw.2 (by omega)
      exact EvP.pos (by simp [hw0]) (EvP.pos hu0 (EvP.pos (eu hu0) last))
    · refine EvP.pos ?_ (EvP.neg hu0 last)
      by_cases hv0 : v.2 = 0
      · have := iv.1 hv0
        rw [decide_eq_true hv0, decide_eq_true (iw.2 (by omega))]
      · rw [decide_eq_false hv0, decide_eq_false (fun hw0 => by
          have := iw.1 hw0
          rcases Int.le_total x a with h | h
          · exact hu0 (iu.2 (by omega))
          · exact hv0 (iv.2 (by omega)))]
end Go.Proofs.Ytcmbckancficcaa.VE
