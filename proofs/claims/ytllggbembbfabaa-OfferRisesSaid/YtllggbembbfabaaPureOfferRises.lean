/- The law OfferRises over numbers and lists: at a higher price the supply and the profit are not less. -/
import Derived.Test.YtllggbembbfabaaLOffer
import Derived.Test.YtllggbembbfabaaLFine
import Derived.Test.YtllggbembbfabaaLWithin
import Derived.Test.YtllggbembbfabaaStateOfferRises
import Derived.Test.YtllggbembbfabaaPx34
import Derived.Test.YtllggbembbfabaaPx40
import Derived.Test.YtllggbembbfabaaPx43
namespace Go.Proofs.Ytllggbembbfabaa.P
set_option linter.unusedVariables false
open Go.RowKit Go.Proofs.YtllggbembbfabaaW.PrintWords Go.Proofs.YtllggbembbfabaaW.PrintMore Go.Proofs.Ytllggbembbfabaa.Opn Go.Proofs.Ytllggbembbfabaa.Evp
theorem gainO_rise {st : List OStep} {p q : Int} (hv : ValidO st) (h : p ≤ q) : gainO st p (lowO st p) ≤ gainO st q (lowO st q) := by
  have hb := lowO_bounds (p := p) hv.range
  have m := (gainO_best (p := q) (x := lowO st p) hv.range hv.rising (by omega) (by omega)).1
  have hh : p * lowO st p ≤ q * lowO st p := Int.mul_le_mul_of_nonneg_right h hb.1
  unfold gainO at m ⊢
  omega
theorem offerRises_pure : OfferRises.Pure := by
  intro o price more0 ho hp1 hp2
  obtain ⟨e, he⟩ := Checked.some o.f0 o.f1 ho.1
  refine Ev.rounds ?_
  unfold gridhallkeep3_OfferRises.f gridhallkeep3_two.f
  have t1 : Ev (fun k => offer_Supply.f k (⟨#[65]⟩ : ByteArray) [⟨10, 5⟩, ⟨10, 8⟩] 6) (10, 10, 0) := Ev.of (fun k => offer_Supply.mono _ _ _ k) (k := 30) (by decide +kernel)
  refine Ev.binds (Ev.bind t1 (Ev.pos rfl (Ev.pos rfl ?_)))
  refine Ev.step (fun k => by rw [gridhallkeep3_OfferRises.j0]) (Ev.neg (by decide) ?_)
  obtain ⟨more, hw, w0, w1⟩ := within_some (low := 0) (high := 100000) more0 (by omega) (by omega) (by omega)
  rw [hw]
  refine Ev.binds ?_
  obtain ⟨a, b, e1, h1, g1⟩ := supply_any he price
  obtain ⟨c, d, e2, h2, g2⟩ := supply_any he (wrap64 (price + more))
  obtain ⟨m, e3, h3, g3⟩ := profit_any he price
  obtain ⟨n, e4, h4, g4⟩ := profit_any he (wrap64 (price + more))
  refine Ev.bind h1 (Ev.bind h2 (Ev.bind h3 (Ev.bind h4 ?_)))
  simp only
  by_cases hall : ∀ x ∈ [e1, e2, e3, e4], x = 0
  · refine Ev.bind (fine_true (by simp) hall) (Ev.pos rfl ?_)
    have z1 := hall e1 (by simp)
    have z2 := hall e2 (by simp)
    have z3 := hall e3 (by simp)
    have z4 := hall e4 (by simp)
    have e0 : e = 0 := by omega
    subst e0
    have hv := he.valid
    have q1 : -2000000 ≤ price ∧ price ≤ 2000000 ∧ a = lowO o.f1 price ∧ b = highO o.f1 price := by omega
    rw [w64 (x := price + more) (by omega) (by omega)] at g2 g4
    have q2 : c = lowO o.f1 (price + more) ∧ d = highO o.f1 (price + more) := by omega
    have q3 : m = gainO o.f1 price (lowO o.f1 price) := by omega
    have q4 : n = gainO o.f1 (price + more) (lowO o.f1 (price + more)) := by omega
    have r := lowO_mono (p := price) (q := price + more) (by omega) hv.range
    have r2 := gainO_rise (p := price) (q := price + more) hv (by omega)
    have fin : decide (m ≤ n) = true := decide_eq_true (by omega)
    refine Ev.pos (by omega) (Ev.pos (by omega) (Ev.ite (fun c0 => ?_) (fun c0 => Ev.pos (by have := r.2.2 (by omega); omega) ?_)))
    · rw [fin]; exact Ev.now _
    · rw [fin]; exact Ev.now _
  · exact Ev.bind (fine_false (by simp) hall) (Ev.neg (by simp) (Ev.now _))
end Go.Proofs.Ytllggbembbfabaa.P
namespace Go.Proofs.Ytllggbembbfabaa.Pure
open Go.Proofs.Ytllggbembbfabaa.P
theorem OfferRises : OfferRises.Pure := offerRises_pure
end Go.Proofs.Ytllggbembbfabaa.Pure
