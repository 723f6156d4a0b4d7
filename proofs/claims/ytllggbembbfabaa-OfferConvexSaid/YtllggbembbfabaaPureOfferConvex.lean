/- The law OfferConvex over numbers and lists: the cost of one more unit is the price of the next one, which never falls. -/
import Derived.Test.YtllggbembbfabaaLOffer
import Derived.Test.YtllggbembbfabaaLFine
import Derived.Test.YtllggbembbfabaaStateOfferConvex
import Derived.Test.YtllggbembbfabaaPx35
import Derived.Test.YtllggbembbfabaaPx39
namespace Go.Proofs.Ytllggbembbfabaa.P
set_option linter.unusedVariables false
open Go.RowKit Go.Proofs.YtllggbembbfabaaW.PrintWords Go.Proofs.YtllggbembbfabaaW.PrintMore Go.Proofs.Ytllggbembbfabaa.Opn Go.Proofs.Ytllggbembbfabaa.Evp
theorem costs_ev : Ev (fun k => gridhallkeep3_costs.f k) true := Ev.of (fun k => gridhallkeep3_costs.mono k) (k := 30) (by decide +kernel)
theorem offerConvex_pure : OfferConvex.Pure := by
  intro o p ho hp
  obtain ⟨e, he⟩ := Checked.some o.f0 o.f1 ho.1
  refine Ev.rounds ?_
  unfold gridhallkeep3_OfferConvex.f
  refine Ev.bind costs_ev (Ev.pos rfl ?_)
  obtain ⟨a, ea, hea, ha⟩ := cost_any he p
  obtain ⟨b, eb, heb, hb⟩ := cost_any he (wrap64 (p + 1))
  obtain ⟨c, ec, hec, hc⟩ := cost_any he (wrap64 (p + 2))
  obtain ⟨l, n, em, hem, hm⟩ := marginal_any he p
  refine Ev.bind hea (Ev.bind heb (Ev.bind hec (Ev.bind hem ?_)))
  simp only
  by_cases hall : ∀ x ∈ [ea, eb, ec, em], x = 0
  · refine Ev.bind (fine_true (by simp) hall) (Ev.pos rfl ?_)
    have z1 := hall ea (by simp)
    have z2 := hall eb (by simp)
    have z3 := hall ec (by simp)
    have z4 := hall em (by simp)
    have e0 : e = 0 := by omega
    subst e0
    have hv := he.valid
    have hs := hv.sum
    have ga : 0 ≤ p ∧ p ≤ sumO o.f1 ∧ a = costO o.f1 p := by omega
    rw [w64 (x := p + 1) (by omega) (by omega)] at hb
    rw [w64 (x := p + 2) (by omega) (by omega)] at hc
    have gb : 0 ≤ p + 1 ∧ p + 1 ≤ sumO o.f1 ∧ b = costO o.f1 (p + 1) := by omega
    have gc : 0 ≤ p + 2 ∧ p + 2 ≤ sumO o.f1 ∧ c = costO o.f1 (p + 2) := by omega
    have gm : n = nextO o.f1 p := by omega
    have b1 := costO_bound (p := p) hv.range (by omega)
    have b2 := costO_bound (p := p + 1) hv.range (by omega)
    have b3 := costO_bound (p := p + 2) hv.range (by omega)
    have s1 := costO_succ (st := o.f1) (p := p) hv.range (by omega) (by omega)
    have s2 := costO_succ (st := o.f1) (p := p + 1) hv.range (by omega) (by omega)
    have s3 := nextO_mono (p := p) hv.range hv.rising
    rw [show p + 1 + 1 = p + 2 by omega] at s2
    rw [w64 (x := b - a) (by omega) (by omega), w64 (x := c - b) (by omega) (by omega)]
    refine Ev.pos (by omega) ?_
    rw [decide_eq_true (show c - b ≥ b - a by omega)]
    exact Ev.now _
  · exact Ev.bind (fine_false (by simp) hall) (Ev.neg (by simp) (Ev.now _))
end Go.Proofs.Ytllggbembbfabaa.P
namespace Go.Proofs.Ytllggbembbfabaa.Pure
open Go.Proofs.Ytllggbembbfabaa.P
theorem OfferConvex : OfferConvex.Pure := offerConvex_pure
end Go.Proofs.Ytllggbembbfabaa.Pure
