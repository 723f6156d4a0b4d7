/- The pure statement of the law AuctionMore; what its row says is proved behind it. -/
import Derived.Test.YtodagcbcdkfniaaVpAucC
namespace Go.Proofs.Ytodagcbcdkfniaa.VE
open Go Go.RowKit
set_option linter.unusedVariables false
attribute [local irreducible] wrap64
/-- The row's pure statement. -/
def AuctionMore.Pure : Prop := ∀ (a0 : List (ByteArray × Bool × Int × Int)) (a1 : ByteArray × Bool × Int × Int), OkV BY (.list 49 (.pair .str (.pair .bool (.pair (.int .i64) (.int .i64))))) a0 → OkV BY (.pair .str (.pair .bool (.pair (.int .i64) (.int .i64)))) a1 → ∃ k, gridhallkeep3_AuctionMore.f k a0 a1 = some true
theorem both_same {α : Type} (x : Option α) : both x x = x := by
  unfold both
  split <;> first | rfl | exact absurd rfl (by assumption)
theorem clone_ev (l : List Ord) (h : l.length * 40 ≤ 140737488355328) : Ev (fun k => slices_Clone_api_AuctionOrder.f k l) l := by
  unfold slices_Clone_api_AuctionOrder.f
  rw [List.nil_append, List.length_nil, Nat.zero_add, if_pos h]
  by_cases hl : l.length = 0
  · have : l = [] := List.eq_nil_of_length_eq_zero hl
    rw [if_pos hl, this, both_same]
    exact Ev.now _
  · rw [if_neg hl]
    exact Ev.now _
theorem Pure.AuctionMore : AuctionMore.Pure := by
  intro l o h0 h1
  have hn : Named l := fun o ho => (h0.2 o ho).1
  have hn' : Named (l ++ [(o.1, false, o.2.2)]) := fun x hx => by
    rcases List.mem_append.1 hx with hx | hx
    · exact hn x hx
    · rw [List.mem_singleton] at hx; subst hx; exact h1.1
  have hlen : l.length * 40 ≤ 140737488351232 := h0.1
  apply EvP.rounds
  unfold gridhallkeep3_AuctionMore.f
  refine EvP.bindE sold_ev (EvP.pos rfl (EvP.bind (clear_ev l hn) (fun r hr => EvP.bindE (clone_ev l (by omega)) (EvP.pos (by rw [List.length_singleton]; omega) (EvP.bind (clear_ev _ hn') (fun s hs => ?_))))))
  refine EvP.bindE (fine_ev [r.2, s.2] (by simp)) ?_
  cases hr with
  | bad e he hc => exact EvP.neg (by simp [he]) (EvP.ret rfl)
  | ok fs Q hl hc hC hQ =>
    cases hs with
    | bad e he hc => exact EvP.neg (by simp [he]) (EvP.ret rfl)
    | ok gs R hl' hc' hC' hR =>
      refine EvP.pos rfl (EvP.pos (more_power rfl hC hC') (EvP.ite (fun _ => EvP.ret rfl) (fun hz => EvP.ret ?_)))
      have hz : Q ≠ 0 := hz
      have hQR := more_power rfl hC hC'
      obtain ⟨b, e1, _⟩ := priceOf_eq hl hC (by omega)
      obtain ⟨c, e2, _⟩ := priceOf_eq hl' hC' (by omega)
      refine decide_eq_true ?_
      show priceOf _ gs R ≤ priceOf l fs Q
      rw [e1, e2]
      exact more_price rfl hC hC' hl'.pr b c
end Go.Proofs.Ytodagcbcdkfniaa.VE
