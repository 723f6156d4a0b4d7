/- The law WelfareBound over numbers and lists: Waste is at most Total, and equal to it at the prices of dispatch.Price. -/
import Derived.Test.YtlfhabekhfahbaaLWelfare
import Derived.Test.YtlfhabekhfahbaaLFine
import Derived.Test.YtlfhabekhfahbaaLWithin
import Derived.Test.YtlfhabekhfahbaaStateWelfareBound
import Derived.Test.YtlfhabekhfahbaaPx9
import Derived.Test.YtlfhabekhfahbaaPx17
import Derived.Test.YtlfhabekhfahbaaPx20
import Derived.Test.YtlfhabekhfahbaaPx26
import Derived.Test.YtlfhabekhfahbaaPx27
namespace Go.Proofs.Ytlfhabekhfahbaa.P
set_option linter.unusedVariables false
open Go.RowKit Go.Proofs.YtlfhabekhfahbaaW.PrintWords Go.Proofs.YtlfhabekhfahbaaW.PrintMore Go.Proofs.Ytlfhabekhfahbaa.Opn Go.Proofs.Ytlfhabekhfahbaa.Evp
theorem welfareBound_pure : WelfareBound.Pure := by
  intro l ps at_ other hl _ _ _
  have ho : okOffers l := fun o h => (hl.2 o h).1
  refine Ev.rounds ?_
  unfold gridhallkeep3_WelfareBound.f gridhallkeep3_two.f
  have t1 : Ev (fun k => welfare_Waste.f k [⟨⟨#[65]⟩, [⟨10, 5⟩, ⟨10, 8⟩]⟩, ⟨⟨#[66]⟩, [⟨10, 5⟩, ⟨10, 8⟩]⟩] [12, 8]) (6, 0) := Ev.of (fun k => welfare_Waste.mono _ _ k) (k := 40) (by decide +kernel)
  have t2 : Ev (fun k => gridhallkeep3_envies.f k) true := Ev.of (fun k => gridhallkeep3_envies.mono k) (k := 40) (by decide +kernel)
  refine Ev.binds (Ev.binds (Ev.bind t1 (Ev.pos rfl (Ev.pos rfl (Ev.bind t2 ?_)))))
  refine Ev.step (fun k => by rw [gridhallkeep3_WelfareBound.j0]) (Ev.neg (by decide) ?_)
  obtain ⟨n, s, e, hc, hcc⟩ := dcost_any l ho ps
  rcases hcc with ⟨rfl, hall, hok, hin, rfl, rfl⟩ | ⟨h1, rfl, rfl, _⟩
  · obtain ⟨bs, n, hb, hchk, hbo⟩ := best_of_sum ho hall hok hin
    have hw := waste_in ho hall hok hin hb hbo
    refine Ev.bind hw (Ev.pos rfl (Ev.bind hc ?_))
    obtain ⟨low, high, f, hp, hcf, hpp⟩ := price_any l ho (sumI ps)
    have f0 : f = 0 := Ev.det hcf hchk
    subst f0
    obtain ⟨_, _, _, _, _, _, hlow, hhigh⟩ : (0 : Int) = 0 ∧ _ := by
      rcases hpp with h | h
      · exact absurd rfl h.1
      · exact h
    have hord := price_order hok.v hlow hhigh
    refine Ev.bind hp (Ev.bind (fine_true (by simp) (by simp)) (Ev.pos rfl ?_))
    obtain ⟨q1, hw1, q10, q11⟩ := within_some (low := -2000000) (high := 2000000) other (by omega) (by omega) (by omega)
    obtain ⟨q2, hw2, q20, q21⟩ := within_some (low := low) (high := high) at_ (by omega) hord.2.1 (by omega)
    simp only
    rw [hw1]
    refine Ev.binds (Ev.bind (total_in ho hall hok hin q10 q11) ?_)
    rw [hw2]
    refine Ev.binds (Ev.bind (total_in ho hall hok hin (by omega) (by omega)) ?_)
    have hleast : Ev (fun k => welfare_Least.f k l ps) (low, totalW low l ps, 0) := by
      unfold welfare_Least.f
      exact Ev.bind hc (Ev.pos rfl (Ev.bind hp (Ev.pos rfl (Ev.bind (total_in ho hall hok hin hord.1 (by omega)) (Ev.now _)))))
    refine Ev.bind hleast (Ev.bind (fine_true (by simp) (by simp)) (Ev.pos rfl ?_))
    simp only
    have same : ∀ q, low ≤ q → q ≤ high → totalW q l ps = costA l ps - n := by
      intro q a b
      have d := totalW_diff (q := q) hin hbo.inA
      rw [totalW_earns hok.v (best_earns hbo hlow hhigh a b), hbo.sum, hbo.cost, Int.sub_self, Int.mul_zero] at d
      omega
    have d1 := totalW_diff (q := q1) hin hbo.inA
    rw [hbo.sum, hbo.cost, Int.sub_self, Int.mul_zero] at d1
    have n1 := totalW_nonneg (q := q1) hok.v hbo.inA
    have hle := hbo.least hin rfl
    rw [same q2 q20 q21, same low (Int.le_refl _) hord.2.1]
    refine Ev.pos (by omega) (Ev.pos (by omega) (Ev.pos (by trivial) (Ev.pos (by trivial) ?_)))
    simp only [BEq.rfl]
    exact Ev.now _
  · have hw : Ev (fun k => welfare_Waste.f k l ps) (0, e) := by
      unfold welfare_Waste.f
      exact Ev.bind hc (Ev.neg h1 (Ev.now _))
    exact Ev.bind hw (Ev.neg h1 (Ev.now _))
end Go.Proofs.Ytlfhabekhfahbaa.P
namespace Go.Proofs.Ytlfhabekhfahbaa.Pure
open Go.Proofs.Ytlfhabekhfahbaa.P
theorem WelfareBound : WelfareBound.Pure := welfareBound_pure
end Go.Proofs.Ytlfhabekhfahbaa.Pure
