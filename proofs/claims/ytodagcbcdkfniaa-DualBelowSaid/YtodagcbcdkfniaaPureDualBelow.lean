/- The pure statement of the law DualBelow; what its row says is proved behind it. -/
import Derived.Test.YtodagcbcdkfniaaVpCA
namespace Go.Proofs.Ytodagcbcdkfniaa.VE
open Go Go.RowKit
set_option linter.unusedVariables false
attribute [local irreducible] wrap64
/-- The row's pure statement. -/
def DualBelow.Pure : Prop := ∀ (a0 : List ((ByteArray × Int × Int × Int × Int × Int × Int × Int) × (ByteArray × List (Int × Int)) × Bool × Int × Int)) (a1 : List Int) (a2 : List Int) (a3 : List (List Int)), OkV BY (.list 33 (.pair (.pair .str (.pair (.int .i64) (.pair (.int .i64) (.pair (.int .i64) (.pair (.int .i64) (.pair (.int .i64) (.pair (.int .i64) (.int .i64)))))))) (.pair (.pair .str (.list 72 (.pair (.int .i64) (.int .i64)))) (.pair .bool (.pair (.int .i64) (.int .i64)))))) a0 → OkV BY (.list 3 (.int .i64)) a1 → OkV BY (.list 3 (.int .i64)) a2 → OkV BY (.list 23 (.list 3 (.int .i64))) a3 → ∃ k, gridhallkeep3_DualBelow.f k a0 a1 a2 a3 = some true
theorem alone_ev : Ev (fun k => gridhallkeep3_alone.f k) aloneU := Ev.far 1 (fun k => by kernel_rfl)
theorem alone_bound : Ev (fun k => dual_Bound.f k [aloneU] [12] [5]) (60, 0) := Ev.far 60 (fun k => by kernel_rfl)
theorem alone_cost : Ev (fun k => commit_Cost.f k [aloneU] [12] [[12]]) (75, 0) := Ev.far 40 (fun k => by kernel_rfl)
theorem Pure.DualBelow : DualBelow.Pure := by
  intro l dm p s hl _ _ _
  have hs : SzL l := fun u hu => by
    have := hl.2 u hu
    exact ⟨this.1.1, this.2.1.1⟩
  refine Ev.rounds ?_
  unfold gridhallkeep3_DualBelow.f
  refine Ev.bind alone_ev (Ev.bind alone_bound (Ev.pos rfl (Ev.pos rfl (Ev.bind alone_ev (Ev.bind alone_cost (Ev.pos rfl (Ev.pos rfl ?_)))))))
  obtain ⟨d, hd, hD⟩ := bound_ev l hs dm p
  obtain ⟨c, hc, hC⟩ := ccost_ev l hs dm s
  obtain ⟨b, hb, hB⟩ := cbest_ev l hs dm
  refine Ev.bind hd (Ev.bind hc (Ev.bind hb (Ev.ite (fun hz => ?_) (fun hz => Ev.pos (hD.bad hz) (Ev.now _)))))
  have last : Ev (fun k => if b.2.2 = 0 then some (decide (d.1 ≤ b.2.1)) else some true) true := by
    refine Ev.ite (fun h0 => ?_) (fun _ => Ev.now _)
    rw [decide_eq_true (bound_le hD hz (hB.good h0))]
    exact Ev.now _
  exact Ev.pos hz (Ev.ite (fun h0 => Ev.pos (bound_le hD hz (hC.ok h0).2) last) (fun _ => last))
end Go.Proofs.Ytodagcbcdkfniaa.VE
