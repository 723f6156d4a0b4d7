/- What the printed functions Waste, Envy, Total and Least of package welfare answer (lemmas; no statement is proved here). -/
import Derived.Test.YtlfhabekhfahbaaLDispatch
import Derived.Test.YtlfhabekhfahbaaLPrices
import Derived.Test.YtlfhabekhfahbaaPx3
import Derived.Test.YtlfhabekhfahbaaPx6
import Derived.Test.YtlfhabekhfahbaaPx11
import Derived.Test.YtlfhabekhfahbaaPx16
import Derived.Test.YtlfhabekhfahbaaPx17
import Derived.Test.YtlfhabekhfahbaaPx19
import Derived.Test.YtlfhabekhfahbaaPx24
namespace Go.Proofs.Ytlfhabekhfahbaa.P
set_option linter.unusedVariables false
set_option linter.unusedSimpArgs false
open Go.RowKit Go.Proofs.YtlfhabekhfahbaaW.PrintWords Go.Proofs.YtlfhabekhfahbaaW.PrintMore Go.Proofs.Ytlfhabekhfahbaa.Opn Go.Proofs.Ytlfhabekhfahbaa.Evp

/-- How much more all could earn at a price. -/
def totalW (q : Int) : List Offer → List Int → Int
  | o :: r, x :: xs => (gainO o.f1 q (lowO o.f1 q) - gainO o.f1 q x) + totalW q r xs
  | _, _ => 0
theorem totalW_nonneg {q : Int} : ∀ {l : List Offer} {xs : List Int}, AllV l → InA l xs → 0 ≤ totalW q l xs
  | [], [], _, _ => Int.le_refl _
  | o :: r, x :: xs, hv, h => by
    have hvo := hv o List.mem_cons_self
    have g := (gainO_best (p := q) (x := x) hvo.range hvo.rising h.1 h.2.1).1
    have ih := totalW_nonneg (q := q) hv.tail h.2.2
    simp only [totalW]
    omega
  | [], _ :: _, _, h => h.elim
  | _ :: _, [], _, h => h.elim
/-- Against powers of the same sum: the costs' difference lies in between. -/
theorem totalW_diff {q : Int} : ∀ {l : List Offer} {xs ys : List Int}, InA l xs → InA l ys → totalW q l xs - totalW q l ys = (costA l xs - costA l ys) - q * (sumI xs - sumI ys)
  | [], [], [], _, _ => by simp [totalW, costA, sumI]
  | o :: r, x :: xs, y :: ys, h, h' => by
    have ih := totalW_diff (q := q) h.2.2 h'.2.2
    simp only [totalW, costA, sumI, gainO]
    rw [Int.mul_sub] at ih ⊢
    rw [Int.mul_add, Int.mul_add]
    omega
  | [], _ :: _, _, h, _ => h.elim
  | _ :: _, [], _, h, _ => h.elim
  | [], [], _ :: _, _, h => h.elim
  | _ :: _, _ :: _, [], _, h => h.elim
theorem totalW_earns {q : Int} : ∀ {l : List Offer} {xs : List Int}, AllV l → Earns q l xs → totalW q l xs = 0
  | [], [], _, _ => rfl
  | o :: r, x :: xs, hv, h => by
    have hvo := hv o List.mem_cons_self
    have hb := lowO_bounds (p := q) hvo.range
    have h1 := h.1
    have h2 := h.2.1
    have g := (gainO_best (p := q) (x := x) hvo.range hvo.rising (by omega) (by omega)).2.2 ⟨h1, h2⟩
    have ih := totalW_earns hv.tail h.2.2
    simp only [totalW]
    omega
  | [], _ :: _, _, h => h.elim
  | _ :: _, [], _, h => h.elim

theorem envy_in {nm : ByteArray} {st : List OStep} (h : Checked nm st 0) {x q : Int} (h0 : 0 ≤ x) (h1 : x ≤ sumO st) (q0 : -2000000 ≤ q) (q1 : q ≤ 2000000) : Ev (fun k => welfare_Envy.f k nm st x q) (gainO st q (lowO st q) - gainO st q x, 0) := by
  have hv := h.valid
  have hb := lowO_bounds (p := q) hv.range
  have g1 := gainO_bound (x := x) hv q0 q1 h0 h1
  have g2 := gainO_bound (x := lowO st q) hv q0 q1 (by omega) (by omega)
  unfold welfare_Envy.f
  refine Ev.bind (offer_Cost_in h.ev hv h0 h1) (Ev.pos rfl (Ev.bind (offer_Profit_in h.ev hv q0 q1) (Ev.pos rfl ?_)))
  simp only
  rw [w64 (x := q * x) (by omega) (by omega), w64 (x := q * x - costO st x) (by omega) (by omega), w64 (by omega) (by omega)]
  exact Ev.now _
theorem total_loop {l : List Offer} (h : AllOk l) (ps : List Int) (hin : InA l ps) {q : Int} (q0 : -2000000 ≤ q) (q1 : q ≤ 2000000) : ∀ (d : Nat) (i acc : Int), 0 ≤ i → i ≤ (l.length : Int) → (l.length : Int) - i = d → -(600000000000 * i) ≤ acc → acc ≤ 600000000000 * i → InA (l.drop i.toNat) (ps.drop i.toNat) →
    Ev (fun k => welfare_Total.l0 k ps q acc l (l.length : Int) i) (acc + totalW q (l.drop i.toNat) (ps.drop i.toNat), 0) := by
  have hlen := h.1
  have hpl := hin.length
  intro d
  induction d with
  | zero =>
    intro i acc h0 h1 hd ha hb hi
    refine Ev.step (fun k => by rw [welfare_Total.l0]) ?_
    rw [drop_end (xs := l) (by omega)]
    simp only [totalW, Int.add_zero]
    exact Ev.neg (by omega) (Ev.now _)
  | succ d ih =>
    intro i acc h0 h1 hd ha hb hi
    refine Ev.step (fun k => by rw [welfare_Total.l0]) ?_
    refine Ev.pos (by omega) (Ev.pos h0 (Ev.pos (by omega) (Ev.pos (by omega) ?_)))
    have hp : ps.drop i.toNat = rd ps i :: ps.drop (i + 1).toNat := drop_getD 0 h0 (by omega)
    rw [dropO h0 (by omega), hp] at hi
    rw [dropO h0 (by omega), hp]
    have hx := h.2 (rd_T29 l i) (getD_mem h0 (by omega))
    have hv := hx.valid
    have hlb := lowO_bounds (p := q) hv.range
    have hi1 := hi.1
    have hi2 := hi.2.1
    refine Ev.bind (envy_in hx hi1 hi2 q0 q1) (Ev.pos rfl ?_)
    have g1 := gainO_bound (x := rd ps i) hv q0 q1 hi1 hi2
    have g2 := gainO_bound (x := lowO (rd_T29 l i).f1 q) hv q0 q1 (by omega) (by omega)
    have e : -600000000000 ≤ gainO (rd_T29 l i).f1 q (lowO (rd_T29 l i).f1 q) - gainO (rd_T29 l i).f1 q (rd ps i) ∧ gainO (rd_T29 l i).f1 q (lowO (rd_T29 l i).f1 q) - gainO (rd_T29 l i).f1 q (rd ps i) ≤ 600000000000 := by
      unfold gainO
      omega
    simp only
    rw [w64 (x := acc + _) (by omega) (by omega), w64 (x := i + 1) (by omega) (by omega)]
    simp only [totalW]
    rw [← Int.add_assoc]
    exact ih (i + 1) _ (by omega) (by omega) (by omega) (by omega) (by omega) hi.2.2
theorem dcost_in {l : List Offer} (ho : okOffers l) (hc : Ev (fun k => offer_CheckAll.f k l) 0) {ps : List Int} (hin : InA l ps) : Ev (fun k => dispatch_Cost.f k l ps) (costA l ps, sumI ps, 0) := by
  obtain ⟨n, s, e, h, hh⟩ := dcost_any l ho ps
  rcases hh with ⟨rfl, _, _, _, rfl, rfl⟩ | ⟨_, _, _, h2⟩
  · exact h
  · exact absurd hin (h2 hc)
theorem total_in {l : List Offer} (ho : okOffers l) (hc : Ev (fun k => offer_CheckAll.f k l) 0) (h : AllOk l) {ps : List Int} (hin : InA l ps) {q : Int} (q0 : -2000000 ≤ q) (q1 : q ≤ 2000000) : Ev (fun k => welfare_Total.f k l ps q) (totalW q l ps, 0) := by
  unfold welfare_Total.f
  refine Ev.bind (dcost_in ho hc hin) (Ev.pos rfl ?_)
  have := total_loop h ps hin q0 q1 l.length 0 0 (by omega) (by omega) (by omega) (by omega) (by omega) (by simpa using hin)
  simpa using this
/-- For powers of the offers: Best of their sum. -/
theorem best_of_sum {l : List Offer} (ho : okOffers l) (hc : Ev (fun k => offer_CheckAll.f k l) 0) (h : AllOk l) {ps : List Int} (hin : InA l ps) : ∃ bs n, Ev (fun k => dispatch_Best.f k l (sumI ps)) (bs, n, 0) ∧ Ev (fun k => dispatch_check.f k l (sumI ps)) 0 ∧ BestOf l (sumI ps) bs n := by
  have hb := costA_bound h.v hin
  obtain ⟨bs, n, e, he, hce, hh⟩ := best_any l ho (sumI ps)
  obtain ⟨e', he', _, h2⟩ := dispatch_check_some l ho (sumI ps)
  have e0 : e = 0 := by
    rw [Ev.det hce he']
    exact h2 hc hb.2.2.1 hb.2.2.2
  subst e0
  rcases hh with hh | hh
  · exact absurd rfl hh.1
  · exact ⟨bs, n, he, hce, hh.2⟩
theorem waste_in {l : List Offer} (ho : okOffers l) (hc : Ev (fun k => offer_CheckAll.f k l) 0) (h : AllOk l) {ps : List Int} (hin : InA l ps) {bs : List Int} {n : Int} (hb : Ev (fun k => dispatch_Best.f k l (sumI ps)) (bs, n, 0)) (hbo : BestOf l (sumI ps) bs n) : Ev (fun k => welfare_Waste.f k l ps) (costA l ps - n, 0) := by
  have hlen := h.1
  have c1 := costA_bound h.v hin
  have c2 := costA_bound h.v hbo.inA
  have c3 := hbo.cost
  unfold welfare_Waste.f
  refine Ev.bind (dcost_in ho hc hin) (Ev.pos rfl (Ev.bind hb (Ev.pos rfl ?_)))
  simp only
  rw [w64 (by omega) (by omega)]
  exact Ev.now _
end Go.Proofs.Ytlfhabekhfahbaa.P
