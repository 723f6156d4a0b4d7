/- The law DispatchSum over numbers and lists: the powers of Best have the sum demand and the cost that Cost returns, and no powers of this sum cost less. -/
import Derived.Test.YtllggbembbfabaaLDispatch
import Derived.Test.YtllggbembbfabaaLServed
import Derived.Test.YtllggbembbfabaaStateDispatchSum
import Derived.Test.YtllggbembbfabaaPx54
namespace Go.Proofs.Ytllggbembbfabaa.P
set_option linter.unusedVariables false
open Go.RowKit Go.Proofs.YtllggbembbfabaaW.PrintWords Go.Proofs.YtllggbembbfabaaW.PrintMore Go.Proofs.Ytllggbembbfabaa.Opn Go.Proofs.Ytllggbembbfabaa.Evp
theorem dispatchSum_pure : DispatchSum.Pure := by
  intro l demand other hl _ _
  have ho : okOffers l := fun o h => (hl.2 o h).1
  refine Ev.rounds ?_
  unfold gridhallkeep3_DispatchSum.f
  refine Ev.bind served_ev (Ev.pos rfl ?_)
  obtain ⟨ps, n, e, hb, _, h⟩ := best_any l ho demand
  refine Ev.bind hb ?_
  rcases h with ⟨h1, rfl, rfl⟩ | ⟨h1, hbo⟩
  · exact Ev.neg h1 (Ev.pos rfl (Ev.now _))
  · refine Ev.pos h1 ?_
    obtain ⟨m, s, f, hc, hcc⟩ := dcost_any l ho ps
    obtain ⟨c, t, g, hd, hdd⟩ := dcost_any l ho other
    refine Ev.bind hc (Ev.bind hd ?_)
    have hcc' : f = 0 ∧ m = costA l ps ∧ s = sumI ps := by
      rcases hcc with ⟨a, _, _, _, b, c⟩ | ⟨_, _, _, a⟩
      · exact ⟨a, b, c⟩
      · exact absurd hbo.inA (a hbo.all)
    refine Ev.pos hcc'.1 (Ev.pos (by rw [hcc'.2.1]; exact hbo.cost) (Ev.pos (by rw [hcc'.2.2]; exact hbo.sum) ?_))
    refine Ev.ite (fun hg => Ev.ite (fun ht => ?_) (fun _ => Ev.now _)) (fun _ => Ev.now _)
    rcases hdd with ⟨_, _, _, hin, rfl, rfl⟩ | ⟨a, _⟩
    · have := hbo.least hin ht
      rw [decide_eq_true (show costA l other ≥ n by omega)]
      exact Ev.now _
    · exact absurd hg a
end Go.Proofs.Ytllggbembbfabaa.P
namespace Go.Proofs.Ytllggbembbfabaa.Pure
open Go.Proofs.Ytllggbembbfabaa.P
theorem DispatchSum : DispatchSum.Pure := dispatchSum_pure
end Go.Proofs.Ytllggbembbfabaa.Pure
