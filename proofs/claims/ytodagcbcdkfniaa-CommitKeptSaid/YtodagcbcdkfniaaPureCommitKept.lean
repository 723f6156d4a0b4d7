/- The pure statement of the law CommitKept; what its row says is proved behind it. -/
import Derived.Test.YtodagcbcdkfniaaVpCA
namespace Go.Proofs.Ytodagcbcdkfniaa.VE
open Go Go.RowKit
set_option linter.unusedVariables false
attribute [local irreducible] wrap64
/-- The row's pure statement. -/
def CommitKept.Pure : Prop := ∀ (a0 : List ((ByteArray × Int × Int × Int × Int × Int × Int × Int) × (ByteArray × List (Int × Int)) × Bool × Int × Int)) (a1 : List Int) (a2 : List (List Int)), OkV BY (.list 33 (.pair (.pair .str (.pair (.int .i64) (.pair (.int .i64) (.pair (.int .i64) (.pair (.int .i64) (.pair (.int .i64) (.pair (.int .i64) (.int .i64)))))))) (.pair (.pair .str (.list 72 (.pair (.int .i64) (.int .i64)))) (.pair .bool (.pair (.int .i64) (.int .i64)))))) a0 → OkV BY (.list 3 (.int .i64)) a1 → OkV BY (.list 23 (.list 3 (.int .i64))) a2 → ∃ k, gridhallkeep3_CommitKept.f k a0 a1 a2 = some true
theorem alone_ev : Ev (fun k => gridhallkeep3_alone.f k) aloneU := Ev.far 1 (fun k => by kernel_rfl)
theorem alone_best : Ev (fun k => commit_Best.f k [aloneU] [12, 0]) ([[12, -1]], 75, 0) := Ev.far 60 (fun k => by kernel_rfl)
theorem alone_cost : Ev (fun k => commit_Cost.f k [aloneU] [12] [[12]]) (75, 0) := Ev.far 40 (fun k => by kernel_rfl)
theorem Pure.CommitKept : CommitKept.Pure := by
  intro l dm other hl _ _
  have hs : SzL l := fun u hu => by
    have := hl.2 u hu
    exact ⟨this.1.1, this.2.1.1⟩
  refine Ev.rounds ?_
  unfold gridhallkeep3_CommitKept.f
  refine Ev.bind alone_ev (Ev.bind alone_best (Ev.pos rfl (Ev.pos rfl (Ev.bind alone_ev (Ev.bind alone_cost (Ev.pos rfl (Ev.pos rfl ?_)))))))
  obtain ⟨b, hb, hB⟩ := cbest_ev l hs dm
  obtain ⟨c, hc, hC⟩ := ccost_ev l hs dm other
  refine Ev.bind hb (Ev.bind hc (Ev.ite (fun hz => ?_) (fun hz => ?_)))
  · obtain ⟨d, hd, hD⟩ := ccost_ev l hs dm b.1
    have e := hD.conv (hB.all hz) _ (hB.good hz)
    subst e
    refine Ev.bind hd (Ev.pos rfl (Ev.pos rfl (Ev.ite (fun h0 => ?_) (fun _ => Ev.now _))))
    obtain ⟨hA, hS⟩ := hC.ok h0
    have := (hB.min hA other c.1 hS).2
    rw [decide_eq_true this]
    exact Ev.now _
  · obtain ⟨e1, e2⟩ := hB.bad hz
    have h0 : c.2 ≠ 0 := fun h0 => by
      obtain ⟨hA, hS⟩ := hC.ok h0
      exact hz (hB.min hA other c.1 hS).1
    refine Ev.pos (by rw [e1]; rfl) (Ev.pos e2 ?_)
    rw [decide_eq_false h0]
    exact Ev.now _
end Go.Proofs.Ytodagcbcdkfniaa.VE
