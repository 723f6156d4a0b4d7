/- The law DispatchPrices over numbers and lists: at the prices of Price all powers of Best have the greatest profit. -/
import Derived.Test.YtllggbembbfabaaLDispatch
import Derived.Test.YtllggbembbfabaaLServed
import Derived.Test.YtllggbembbfabaaLFine
import Derived.Test.YtllggbembbfabaaLWithin
import Derived.Test.YtllggbembbfabaaStateDispatchPrices
import Derived.Test.YtllggbembbfabaaPx48
import Derived.Test.YtllggbembbfabaaPx56
namespace Go.Proofs.Ytllggbembbfabaa.P
set_option linter.unusedVariables false
open Go.RowKit Go.Proofs.YtllggbembbfabaaW.PrintWords Go.Proofs.YtllggbembbfabaaW.PrintMore Go.Proofs.Ytllggbembbfabaa.Opn Go.Proofs.Ytllggbembbfabaa.Evp
/-- Powers that earn most at p have at most what is offered below q, and the sum of that: they are just that. -/
theorem earns_above {p q : Int} (hpq : p < q) : ∀ {l : List Offer} {xs : List Int}, AllV l → Earns p l xs → lowA q l ≤ sumI xs → Earns q l xs ∧ sumI xs ≤ lowA q l
  | [], [], _, _, _ => ⟨trivial, by simp [sumI, lowA]⟩
  | o :: r, x :: xs, hv, h, hs => by
    have hvo := hv o List.mem_cons_self
    have hm := lowO_mono (p := p) (q := q) (by omega) hvo.range
    have hb := lowO_bounds (p := q) hvo.range
    have h2 := hm.2.2 hpq
    have hle : ∀ {l : List Offer} {xs : List Int}, AllV l → Earns p l xs → sumI xs ≤ lowA q l := by
      intro l
      induction l with
      | nil => intro xs _ h; cases xs with
        | nil => simp [sumI, lowA]
        | cons _ _ => exact h.elim
      | cons o r ih => intro xs hv h; cases xs with
        | nil => exact h.elim
        | cons y ys =>
          have a := ih hv.tail h.2.2
          have b := (lowO_mono (p := p) (q := q) (by omega) (hv o List.mem_cons_self).range).2.2 hpq
          have c := h.2.1
          simp only [sumI, lowA]
          omega
    have hr := hle hv.tail h.2.2
    have hx := h.2.1
    simp only [sumI, lowA] at hs ⊢
    have ih := earns_above hpq hv.tail h.2.2 (by omega)
    exact ⟨⟨by omega, by omega, ih.1⟩, by omega⟩
  | [], _ :: _, _, h, _ => h.elim
  | _ :: _, [], _, h, _ => h.elim
theorem earns_zero {q : Int} : ∀ {l : List Offer}, AllV l → lowA q l ≤ 0 → Earns q l (List.replicate l.length 0)
  | [], _, _ => trivial
  | o :: r, hv, hs => by
    have hb := lowO_bounds (p := q) (hv o List.mem_cons_self).range
    have hr := lowA_bound (p := q) hv.tail
    simp only [lowA] at hs
    exact ⟨by omega, by omega, earns_zero hv.tail (by omega)⟩
/-- At every price between the two the powers earn most. -/
theorem best_earns {l : List Offer} {demand n : Int} {ps : List Int} (h : BestOf l demand ps n) {low high : Int} (hlow : if 0 < demand then Ev (fun k => dispatch_marginal.f k l demand) low ∧ Marg l demand low else low = -2000000)
    (hhigh : if demand < sumA l then Ev (fun k => dispatch_marginal.f k l (demand + 1)) high ∧ Marg l (demand + 1) high else high = 2000000) {q : Int} (h1 : low ≤ q) (h2 : q ≤ high) : Earns q l ps := by
  have hv := h.ok.v
  have hla : lowA q l ≤ demand := by
    by_cases c : demand < sumA l
    · rw [if_pos c] at hhigh
      have := (lowA_mono (p := q) (q := high) h2 hv).1
      have := hhigh.2.less
      omega
    · have := lowA_bound (p := q) hv
      have := h.le
      omega
  by_cases d0 : 0 < demand
  · rw [if_pos d0] at hlow
    obtain ⟨m, hm, hmg, he⟩ := h.earns d0
    have hml : m = low := Ev.det hm hlow.1
    by_cases c : q = m
    · rw [c]; exact he
    · exact (earns_above (p := m) (q := q) (by omega) hv he (by rw [h.sum]; exact hla)).1
  · have dz : demand = 0 := by have := h.lo; omega
    rw [(h.zero dz).1]
    exact earns_zero hv (by omega)
theorem price_order {l : List Offer} (hv : AllV l) {demand low high : Int} (hlow : if 0 < demand then Ev (fun k => dispatch_marginal.f k l demand) low ∧ Marg l demand low else low = -2000000)
    (hhigh : if demand < sumA l then Ev (fun k => dispatch_marginal.f k l (demand + 1)) high ∧ Marg l (demand + 1) high else high = 2000000) : -2000000 ≤ low ∧ low ≤ high ∧ high ≤ 2000000 := by
  by_cases c1 : 0 < demand
  · rw [if_pos c1] at hlow
    have a := hlow.2.lo
    have b := hlow.2.hi
    by_cases c2 : demand < sumA l
    · rw [if_pos c2] at hhigh
      have c := hhigh.2.hi
      have := hlow.2.least high (by have := hhigh.2.offers; omega) hhigh.2.price
      omega
    · rw [if_neg c2] at hhigh
      omega
  · rw [if_neg c1] at hlow
    by_cases c2 : demand < sumA l
    · rw [if_pos c2] at hhigh
      have a := hhigh.2.lo
      have b := hhigh.2.hi
      omega
    · rw [if_neg c2] at hhigh
      omega
theorem prices_loop {l : List Offer} (h : AllOk l) {ps : List Int} (hpl : ps.length = l.length) {low high q : Int} (hlh : low ≤ high) (q0 : -2000000 ≤ q) (q1 : q ≤ 2000000) : ∀ (d : Nat) (i : Int), 0 ≤ i → i ≤ (l.length : Int) → (l.length : Int) - i = d → Earns q (l.drop i.toNat) (ps.drop i.toNat) →
    Ev (fun k => gridhallkeep3_DispatchPrices.l0 k ps low high q l (l.length : Int) i) true := by
  have hlen := h.1
  intro d
  induction d with
  | zero =>
    intro i h0 h1 hd he
    refine Ev.step (fun k => by rw [gridhallkeep3_DispatchPrices.l0]) ?_
    refine Ev.neg (by omega) ?_
    rw [decide_eq_true hlh]
    exact Ev.now _
  | succ d ih =>
    intro i h0 h1 hd he
    refine Ev.step (fun k => by rw [gridhallkeep3_DispatchPrices.l0]) ?_
    refine Ev.pos (by omega) (Ev.pos h0 (Ev.pos (by omega) ?_))
    have hp : ps.drop i.toNat = rd ps i :: ps.drop (i + 1).toNat := drop_getD 0 h0 (by omega)
    rw [dropO h0 (by omega), hp] at he
    have hx := h.2 (rd_T60 l i) (getD_mem h0 (by omega))
    have e1 := he.1
    have e2 := he.2.1
    refine Ev.bind (offer_Supply_in hx.ev hx.valid q0 q1) (Ev.pos rfl (Ev.pos (by omega) (Ev.neg (by simp only; omega) (Ev.neg (by simp only; omega) ?_))))
    rw [w64 (by omega) (by omega)]
    exact ih (i + 1) (by omega) (by omega) (by omega) he.2.2
theorem dispatchPrices_pure : DispatchPrices.Pure := by
  intro l demand at_ hl _ _
  have ho : okOffers l := fun o h => (hl.2 o h).1
  refine Ev.rounds ?_
  unfold gridhallkeep3_DispatchPrices.f
  refine Ev.bind served_ev (Ev.pos rfl ?_)
  obtain ⟨ps, n, e, hb, hce, h⟩ := best_any l ho demand
  obtain ⟨low, high, f, hp, hcf, hpp⟩ := price_any l ho demand
  have hef : e = f := Ev.det hce hcf
  subst hef
  refine Ev.bind hb (Ev.bind hp ?_)
  simp only
  by_cases e0 : e = 0
  · subst e0
    have hall : ∀ x ∈ [(0 : Int), 0], x = 0 := by simp
    refine Ev.bind (fine_true (by simp) hall) (Ev.pos rfl ?_)
    have hbo : BestOf l demand ps n := by
      rcases h with h | h
      · exact absurd rfl h.1
      · exact h.2
    obtain ⟨_, _, _, _, _, _, hlow, hhigh⟩ : (0 : Int) = 0 ∧ _ := by
      rcases hpp with h | h
      · exact absurd rfl h.1
      · exact h
    have hord := price_order hbo.ok.v hlow hhigh
    obtain ⟨q, hw, w0, w1⟩ := within_some (low := low) (high := high) at_ (by omega) (by omega) (by omega)
    rw [hw]
    refine Ev.binds ?_
    exact prices_loop hbo.ok hbo.inA.length hord.2.1 (by omega) (by omega) l.length 0 (by omega) (by omega) (by omega) (by simpa using best_earns hbo hlow hhigh w0 w1)
  · have hall : ¬ ∀ x ∈ [e, e], x = 0 := fun h => e0 (h e (by simp))
    refine Ev.bind (fine_false (by simp) hall) (Ev.neg (by simp) ?_)
    simp only [BEq.rfl]
    exact Ev.now _
end Go.Proofs.Ytllggbembbfabaa.P
namespace Go.Proofs.Ytllggbembbfabaa.Pure
open Go.Proofs.Ytllggbembbfabaa.P
theorem DispatchPrices : DispatchPrices.Pure := dispatchPrices_pure
end Go.Proofs.Ytllggbembbfabaa.Pure
