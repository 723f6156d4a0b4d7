/- welfare.Waste over numbers and lists. -/
import Derived.Test.YtlfhabekhfahbaaLDispatch
import Derived.Test.YtlfhabekhfahbaaPx3
import Derived.Test.YtlfhabekhfahbaaPx6
import Derived.Test.YtlfhabekhfahbaaPx11
import Derived.Test.YtlfhabekhfahbaaPx16
import Derived.Test.YtlfhabekhfahbaaPx17
namespace Go.Proofs.Ytlfhabekhfahbaa.P
set_option linter.unusedVariables false
open Go.RowKit Go.Proofs.YtlfhabekhfahbaaW.PrintWords Go.Proofs.YtlfhabekhfahbaaW.PrintMore Go.Proofs.Ytlfhabekhfahbaa.Opn Go.Proofs.Ytlfhabekhfahbaa.Evp
theorem dcost_in {l : List Offer} (ho : okOffers l) (hc : Ev (fun k => offer_CheckAll.f k l) 0) {ps : List Int} (hin : InA l ps) : Ev (fun k => dispatch_Cost.f k l ps) (costA l ps, sumI ps, 0) := by
  obtain ⟨n, s, e, h, hh⟩ := dcost_any l ho ps
  rcases hh with ⟨rfl, _, _, _, rfl, rfl⟩ | ⟨_, _, _, h2⟩
  · exact h
  · exact absurd hin (h2 hc)
/-- For powers of the offers: Best of their sum. -/
theorem best_of_sum {l : List Offer} (ho : okOffers l) (hc : Ev (fun k => offer_CheckAll.f k l) 0) (h : AllOk l) {ps : List Int} (hin : InA l ps) : ∃ bs n, Ev (fun k => dispatch_Best.f k l (sumI ps)) (bs, n, 0) ∧ Ev (fun k => dispatch_check.f k l (sumI ps)) 0 ∧ BestOf l (sumI ps) bs n := by
  have hb := costA_bound h.v hin
  obtain ⟨bs, n, e, he, hce, hh⟩ := best_any l ho (sumI ps)
  obtain ⟨e', he', _, h2⟩ := dispatch_check_some l ho (sumI ps)
  have e0 : e = 0 := by
    rw [Ev.det hce he']
    exact h2 hc hb.2.2.1 hb.2.2.2
  subst e0
  rcases hh with hh | hh
  · exact absurd rfl hh.1
  · exact ⟨bs, n, he, hce, hh.2⟩
theorem waste_in {l : List Offer} (ho : okOffers l) (hc : Ev (fun k => offer_CheckAll.f k l) 0) (h : AllOk l) {ps : List Int} (hin : InA l ps) {bs : List Int} {n : Int} (hb : Ev (fun k => dispatch_Best.f k l (sumI ps)) (bs, n, 0)) (hbo : BestOf l (sumI ps) bs n) : Ev (fun k => welfare_Waste.f k l ps) (costA l ps - n, 0) := by
  have hlen := h.1
  have c1 := costA_bound h.v hin
  have c2 := costA_bound h.v hbo.inA
  have c3 := hbo.cost
  unfold welfare_Waste.f
  refine Ev.bind (dcost_in ho hc hin) (Ev.pos rfl (Ev.bind hb (Ev.pos rfl ?_)))
  simp only
  rw [w64 (by omega) (by omega)]
  exact Ev.now _
end Go.Proofs.Ytlfhabekhfahbaa.P
