/- The law OfferBest over numbers and lists: no power earns more than Profit, and both powers of Supply do. -/
import Derived.Test.YtllggbembbfabaaLOffer
import Derived.Test.YtllggbembbfabaaLFine
import Derived.Test.YtllggbembbfabaaStateOfferBest
import Derived.Test.YtllggbembbfabaaPx34
import Derived.Test.YtllggbembbfabaaPx41
import Derived.Test.YtllggbembbfabaaPx42
namespace Go.Proofs.Ytllggbembbfabaa.P
set_option linter.unusedVariables false
open Go.RowKit Go.Proofs.YtllggbembbfabaaW.PrintWords Go.Proofs.YtllggbembbfabaaW.PrintMore Go.Proofs.Ytllggbembbfabaa.Opn Go.Proofs.Ytllggbembbfabaa.Evp
theorem offerBest_pure : OfferBest.Pure := by
  intro o price power ho hp1 hp2
  obtain ⟨e, he⟩ := Checked.some o.f0 o.f1 ho.1
  refine Ev.rounds ?_
  unfold gridhallkeep3_OfferBest.f gridhallkeep3_two.f
  have t1 : Ev (fun k => offer_Profit.f k (⟨#[65]⟩ : ByteArray) [⟨10, 5⟩, ⟨10, 8⟩] 8) (30, 0) := Ev.of (fun k => offer_Profit.mono _ _ _ k) (k := 30) (by decide +kernel)
  refine Ev.binds (Ev.bind t1 (Ev.pos rfl ?_))
  refine Ev.step (fun k => by rw [gridhallkeep3_OfferBest.j0]) (Ev.neg (by decide) ?_)
  obtain ⟨n, en, hen, hn⟩ := profit_any he price
  obtain ⟨low, high, es, hes, hs⟩ := supply_any he price
  obtain ⟨c, ec, hec, hc⟩ := cost_any he power
  obtain ⟨a, ea, hea, ha⟩ := cost_any he low
  obtain ⟨b, eb, heb, hb⟩ := cost_any he high
  refine Ev.bind hen (Ev.bind hes (Ev.bind hec (Ev.bind hea (Ev.bind heb ?_))))
  simp only
  by_cases hall : ∀ x ∈ [en, es], x = 0
  · refine Ev.bind (fine_true (by simp) hall) (Ev.pos rfl ?_)
    have z1 := hall en (by simp)
    have z2 := hall es (by simp)
    have e0 : e = 0 := by omega
    subst e0
    have hv := he.valid
    have hsum := hv.sum
    obtain ⟨_, _, hp3, hp4, rfl, rfl⟩ : (0 : Int) = 0 ∧ es = 0 ∧ -2000000 ≤ price ∧ price ≤ 2000000 ∧ low = lowO o.f1 price ∧ high = highO o.f1 price := by
      rcases hs with h | h
      · exact h
      · exact absurd z2 h.1
    have hn' : n = gainO o.f1 price (lowO o.f1 price) := by omega
    have hlb := lowO_bounds (p := price) hv.range
    have ha' : ea = 0 ∧ a = costO o.f1 (lowO o.f1 price) := by omega
    have hb' : eb = 0 ∧ b = costO o.f1 (highO o.f1 price) := by omega
    have hall2 : ∀ x ∈ [ea, eb], x = 0 := by
      intro x hx
      simp only [List.mem_cons, List.not_mem_nil, or_false] at hx
      omega
    refine Ev.bind (fine_true (by simp) hall2) (Ev.pos rfl ?_)
    have g1 := gainO_bound (x := lowO o.f1 price) hv hp3 hp4 (by omega) (by omega)
    have g2 := gainO_bound (x := highO o.f1 price) hv hp3 hp4 (by omega) (by omega)
    have m2 := (gainO_best (p := price) (x := highO o.f1 price) hv.range hv.rising (by omega) (by omega)).2.2 ⟨by omega, by omega⟩
    rw [w64 (x := price * lowO o.f1 price) (by omega) (by omega), w64 (x := price * lowO o.f1 price - a) (by omega) (by omega), w64 (x := price * highO o.f1 price) (by omega) (by omega), w64 (x := price * highO o.f1 price - b) (by omega) (by omega)]
    refine Ev.pos (by rw [hn', ha'.2]; rfl) (Ev.pos (by rw [hn', ← m2, hb'.2]; rfl) (Ev.pos (by omega) ?_))
    refine Ev.ite (fun hce => ?_) (fun _ => Ev.now _)
    have hc' : 0 ≤ power ∧ power ≤ sumO o.f1 ∧ c = costO o.f1 power := by omega
    have g3 := gainO_bound (x := power) hv hp3 hp4 hc'.1 hc'.2.1
    have m3 := gainO_best (p := price) (x := power) hv.range hv.rising hc'.1 hc'.2.1
    rw [w64 (x := price * power) (by omega) (by omega), w64 (x := price * power - c) (by omega) (by omega)]
    have e3 : price * power - c = gainO o.f1 price power := by rw [hc'.2.2]; rfl
    rw [e3, hn']
    refine Ev.pos m3.1 (Ev.ite (fun c1 => Ev.ite (fun c2 => ?_) (fun c2 => ?_)) (fun c1 => Ev.ite (fun c2 => ?_) (fun c2 => ?_)))
    · have := m3.2.1 c2
      rw [decide_eq_true this.2]
      exact Ev.now _
    · have : ¬ power ≤ highO o.f1 price := fun h => c2 (m3.2.2 ⟨c1, h⟩)
      rw [decide_eq_false this]
      exact Ev.now _
    · exact absurd (m3.2.1 c2).1 c1
    · exact Ev.now _
  · refine Ev.bind (fine_false (by simp) hall) (Ev.neg (by simp) ?_)
    have h2 : en = es ∧ n = 0 := by
      by_cases z1 : en = 0
      · have : es ≠ 0 := by
          intro z2
          apply hall
          intro x hx
          simp only [List.mem_cons, List.not_mem_nil, or_false] at hx
          omega
        omega
      · omega
    refine Ev.pos h2.1 ?_
    rw [h2.2]
    exact Ev.now _
end Go.Proofs.Ytllggbembbfabaa.P
namespace Go.Proofs.Ytllggbembbfabaa.Pure
open Go.Proofs.Ytllggbembbfabaa.P
theorem OfferBest : OfferBest.Pure := offerBest_pure
end Go.Proofs.Ytllggbembbfabaa.Pure
