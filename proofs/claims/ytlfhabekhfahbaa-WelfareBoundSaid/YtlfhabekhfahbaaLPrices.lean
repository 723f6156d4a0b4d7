/- The prices between which the powers of Best earn most (lemmas; no statement is proved here). -/
import Derived.Test.YtlfhabekhfahbaaLDispatch
import Derived.Test.YtlfhabekhfahbaaPx13
namespace Go.Proofs.Ytlfhabekhfahbaa.P
set_option linter.unusedVariables false
open Go.RowKit Go.Proofs.YtlfhabekhfahbaaW.PrintWords Go.Proofs.YtlfhabekhfahbaaW.PrintMore Go.Proofs.Ytlfhabekhfahbaa.Opn Go.Proofs.Ytlfhabekhfahbaa.Evp
/-- Powers that earn most at p have at most what is offered below q, and the sum of that: they are just that. -/
theorem earns_above {p q : Int} (hpq : p < q) : ∀ {l : List Offer} {xs : List Int}, AllV l → Earns p l xs → lowA q l ≤ sumI xs → Earns q l xs ∧ sumI xs ≤ lowA q l
  | [], [], _, _, _ => ⟨trivial, by simp [sumI, lowA]⟩
  | o :: r, x :: xs, hv, h, hs => by
    have hvo := hv o List.mem_cons_self
    have hm := lowO_mono (p := p) (q := q) (by omega) hvo.range
    have hb := lowO_bounds (p := q) hvo.range
    have h2 := hm.2.2 hpq
    have hle : ∀ {l : List Offer} {xs : List Int}, AllV l → Earns p l xs → sumI xs ≤ lowA q l := by
      intro l
      induction l with
      | nil => intro xs _ h; cases xs with
        | nil => simp [sumI, lowA]
        | cons _ _ => exact h.elim
      | cons o r ih => intro xs hv h; cases xs with
        | nil => exact h.elim
        | cons y ys =>
          have a := ih hv.tail h.2.2
          have b := (lowO_mono (p := p) (q := q) (by omega) (hv o List.mem_cons_self).range).2.2 hpq
          have c := h.2.1
          simp only [sumI, lowA]
          omega
    have hr := hle hv.tail h.2.2
    have hx := h.2.1
    simp only [sumI, lowA] at hs ⊢
    have ih := earns_above hpq hv.tail h.2.2 (by omega)
    exact ⟨⟨by omega, by omega, ih.1⟩, by omega⟩
  | [], _ :: _, _, h, _ => h.elim
  | _ :: _, [], _, h, _ => h.elim
theorem earns_zero {q : Int} : ∀ {l : List Offer}, AllV l → lowA q l ≤ 0 → Earns q l (List.replicate l.length 0)
  | [], _, _ => trivial
  | o :: r, hv, hs => by
    have hb := lowO_bounds (p := q) (hv o List.mem_cons_self).range
    have hr := lowA_bound (p := q) hv.tail
    simp only [lowA] at hs
    exact ⟨by omega, by omega, earns_zero hv.tail (by omega)⟩
/-- At every price between the two the powers earn most. -/
theorem best_earns {l : List Offer} {demand n : Int} {ps : List Int} (h : BestOf l demand ps n) {low high : Int} (hlow : if 0 < demand then Ev (fun k => dispatch_marginal.f k l demand) low ∧ Marg l demand low else low = -2000000)
    (hhigh : if demand < sumA l then Ev (fun k => dispatch_marginal.f k l (demand + 1)) high ∧ Marg l (demand + 1) high else high = 2000000) {q : Int} (h1 : low ≤ q) (h2 : q ≤ high) : Earns q l ps := by
  have hv := h.ok.v
  have hla : lowA q l ≤ demand := by
    by_cases c : demand < sumA l
    · rw [if_pos c] at hhigh
      have := (lowA_mono (p := q) (q := high) h2 hv).1
      have := hhigh.2.less
      omega
    · have := lowA_bound (p := q) hv
      have := h.le
      omega
  by_cases d0 : 0 < demand
  · rw [if_pos d0] at hlow
    obtain ⟨m, hm, hmg, he⟩ := h.earns d0
    have hml : m = low := Ev.det hm hlow.1
    by_cases c : q = m
    · rw [c]; exact he
    · exact (earns_above (p := m) (q := q) (by omega) hv he (by rw [h.sum]; exact hla)).1
  · have dz : demand = 0 := by have := h.lo; omega
    rw [(h.zero dz).1]
    exact earns_zero hv (by omega)
theorem price_order {l : List Offer} (hv : AllV l) {demand low high : Int} (hlow : if 0 < demand then Ev (fun k => dispatch_marginal.f k l demand) low ∧ Marg l demand low else low = -2000000)
    (hhigh : if demand < sumA l then Ev (fun k => dispatch_marginal.f k l (demand + 1)) high ∧ Marg l (demand + 1) high else high = 2000000) : -2000000 ≤ low ∧ low ≤ high ∧ high ≤ 2000000 := by
  by_cases c1 : 0 < demand
  · rw [if_pos c1] at hlow
    have a := hlow.2.lo
    have b := hlow.2.hi
    by_cases c2 : demand < sumA l
    · rw [if_pos c2] at hhigh
      have c := hhigh.2.hi
      have := hlow.2.least high (by have := hhigh.2.offers; omega) hhigh.2.price
      omega
    · rw [if_neg c2] at hhigh
      omega
  · rw [if_neg c1] at hlow
    by_cases c2 : demand < sumA l
    · rw [if_pos c2] at hhigh
      have a := hhigh.2.lo
      have b := hhigh.2.hi
      omega
    · rw [if_neg c2] at hhigh
      omega
end Go.Proofs.Ytlfhabekhfahbaa.P
