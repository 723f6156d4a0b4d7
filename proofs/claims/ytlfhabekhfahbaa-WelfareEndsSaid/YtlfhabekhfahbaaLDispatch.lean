/- What the printed functions of package dispatch answer, in plain words (lemmas; no statement is proved here). -/
import Derived.Test.YtlfhabekhfahbaaLOffer
import Derived.Test.YtlfhabekhfahbaaPx3
import Derived.Test.YtlfhabekhfahbaaPx6
import Derived.Test.YtlfhabekhfahbaaPx10
import Derived.Test.YtlfhabekhfahbaaPx11
import Derived.Test.YtlfhabekhfahbaaPx12
import Derived.Test.YtlfhabekhfahbaaPx13
import Derived.Test.YtlfhabekhfahbaaPx15
import Derived.Test.YtlfhabekhfahbaaPx16
import Derived.Test.YtlfhabekhfahbaaPx23
namespace Go.Proofs.Ytlfhabekhfahbaa.P
set_option linter.unusedVariables false
set_option linter.unusedSimpArgs false
open Go.RowKit Go.Proofs.YtlfhabekhfahbaaW.PrintWords Go.Proofs.YtlfhabekhfahbaaW.PrintMore Go.Proofs.Ytlfhabekhfahbaa.Opn Go.Proofs.Ytlfhabekhfahbaa.Evp

abbrev Offer := S29
def okOffers (l : List Offer) : Prop := ∀ o ∈ l, StrOk o.f0
theorem dropO {l : List Offer} {i : Int} (h0 : 0 ≤ i) (h1 : i < (l.length : Int)) : l.drop i.toNat = rd_T29 l i :: l.drop (i + 1).toNat := drop_getD _ h0 h1
def AllOk (l : List Offer) : Prop := l.length ≤ 10 ∧ ∀ o ∈ l, Checked o.f0 o.f1 0

theorem offer_CheckAll_loop (l : List Offer) (hl : l.length ≤ 10) (ho : okOffers l) : ∀ (d : Nat) (i : Int), 0 ≤ i → i ≤ (l.length : Int) → (l.length : Int) - i = d →
    EvP (fun k => offer_CheckAll.l0 k l l (l.length : Int) i) (fun e => 0 ≤ e ∧ e ≤ 7 ∧ (e = 0 → ∀ o ∈ l.drop i.toNat, Checked o.f0 o.f1 0)) := by
  intro d
  induction d with
  | zero =>
    intro i h0 h1 hd
    refine EvP.step (fun k => by rw [offer_CheckAll.l0]) ?_
    refine EvP.neg (by omega) (EvP.ret ⟨by omega, by omega, fun _ => ?_⟩)
    rw [drop_end (by omega)]
    intro o h
    cases h
  | succ d ih =>
    intro i h0 h1 hd
    refine EvP.step (fun k => by rw [offer_CheckAll.l0]) ?_
    refine EvP.pos (by omega) (EvP.pos h0 (EvP.pos (by omega) ?_))
    rw [dropO h0 (by omega)]
    obtain ⟨x, hx⟩ : ∃ x, x = rd_T29 l i := ⟨_, rfl⟩
    rw [← hx]
    have hxm : x ∈ l := by rw [hx]; exact getD_mem h0 (by omega)
    obtain ⟨e, he⟩ := Checked.some x.f0 x.f1 (ho x hxm)
    refine EvP.bindE he.ev (EvP.ite (fun c => ?_) (fun c => EvP.ret ⟨he.lo, by have := he.hi; omega, fun h => absurd h c⟩))
    subst c
    refine EvP.pos (by omega) (EvP.binds ?_)
    -- the names before
    have inner : ∀ (d2 : Nat) (j : Int), 0 ≤ j → j ≤ ((l.take i.toNat).length : Int) → ((l.take i.toNat).length : Int) - j = d2 →
        EvP (fun k => offer_CheckAll.l1 k l l (l.length : Int) i (l.take i.toNat) ((l.take i.toNat).length : Int) j x.f0 x.f1) (fun e => 0 ≤ e ∧ e ≤ 7 ∧ (e = 0 → ∀ o ∈ x :: l.drop (i + 1).toNat, Checked o.f0 o.f1 0)) := by
      have hlt : (l.take i.toNat).length ≤ 10 := by rw [List.length_take]; omega
      intro d2
      induction d2 with
      | zero =>
        intro j j0 j1 jd
        refine EvP.step (fun k => by rw [offer_CheckAll.l1]) ?_
        refine EvP.neg (by omega) ?_
        rw [w64 (by omega) (by omega)]
        refine (ih (i + 1) (by omega) (by omega) (by omega)).mono fun e2 h2 => ⟨h2.1, h2.2.1, fun h o hm => ?_⟩
        rcases List.mem_cons.1 hm with rfl | hm
        · exact he
        · exact h2.2.2 h o hm
      | succ d2 ih2 =>
        intro j j0 j1 jd
        refine EvP.step (fun k => by rw [offer_CheckAll.l1]) ?_
        refine EvP.pos (by omega) (EvP.pos j0 (EvP.pos (by omega) ?_))
        rw [w64 (by omega) (by omega)]
        exact EvP.ite (fun _ => EvP.ret ⟨by omega, by omega, fun h => by omega⟩) (fun _ => ih2 (j + 1) (by omega) (by omega) (by omega))
    exact inner (l.take i.toNat).length 0 (by omega) (by omega) (by omega)
theorem checkAll_some (l : List Offer) (ho : okOffers l) : ∃ e, Ev (fun k => offer_CheckAll.f k l) e ∧ 0 ≤ e ∧ e ≤ 7 ∧ (e = 0 → AllOk l) := by
  have h : EvP (fun k => offer_CheckAll.f k l) (fun e => 0 ≤ e ∧ e ≤ 7 ∧ (e = 0 → AllOk l)) := by
    unfold offer_CheckAll.f
    refine EvP.ite (fun c => EvP.ret ⟨by omega, by omega, fun h => by omega⟩) (fun c => ?_)
    refine (offer_CheckAll_loop l (by omega) ho l.length 0 (by omega) (by omega) (by omega)).mono fun e he => ⟨he.1, he.2.1, fun h => ⟨by omega, by simpa using he.2.2 h⟩⟩
  exact h

/-! sums over all offers -/
def sumA : List Offer → Int
  | [] => 0
  | o :: r => sumO o.f1 + sumA r
def lowA (p : Int) : List Offer → Int
  | [] => 0
  | o :: r => lowO o.f1 p + lowA p r
def highA (p : Int) : List Offer → Int
  | [] => 0
  | o :: r => highO o.f1 p + highA p r
def AllV (l : List Offer) : Prop := ∀ o ∈ l, ValidO o.f1
theorem AllOk.v {l : List Offer} (h : AllOk l) : AllV l := fun o ho => (h.2 o ho).valid
theorem AllV.tail {o : Offer} {r : List Offer} (h : AllV (o :: r)) : AllV r := fun x hx => h x (List.mem_cons_of_mem _ hx)
theorem AllV.drop {l : List Offer} (h : AllV l) (n : Nat) : AllV (l.drop n) := fun x hx => h x (List.mem_of_mem_drop hx)
theorem sumA_bound : ∀ {l : List Offer}, AllV l → 0 ≤ sumA l ∧ sumA l ≤ 100000 * l.length
  | [], _ => by simp [sumA]
  | o :: r, h => by
    have h1 := (h o List.mem_cons_self).sum
    have h2 := sumA_bound h.tail
    simp only [sumA, List.length_cons]
    omega
theorem lowA_bound {p : Int} : ∀ {l : List Offer}, AllV l → 0 ≤ lowA p l ∧ lowA p l ≤ highA p l ∧ highA p l ≤ sumA l
  | [], _ => by simp [lowA, highA, sumA]
  | o :: r, h => by
    have h1 := lowO_bounds (p := p) (h o List.mem_cons_self).range
    have h2 := lowA_bound (p := p) h.tail
    simp only [lowA, highA, sumA]
    omega
theorem lowA_mono {p q : Int} (hpq : p ≤ q) : ∀ {l : List Offer}, AllV l → lowA p l ≤ lowA q l ∧ highA p l ≤ highA q l ∧ (p < q → highA p l ≤ lowA q l)
  | [], _ => by simp [lowA, highA]
  | o :: r, h => by
    have h1 := lowO_mono hpq (h o List.mem_cons_self).range
    have h2 := lowA_mono hpq h.tail
    simp only [lowA, highA]
    refine ⟨by omega, by omega, fun hlt => ?_⟩
    have := h1.2.2 hlt
    have := h2.2.2 hlt
    omega
def IsPrice (l : List Offer) (p : Int) : Prop := ∃ o ∈ l, ∃ s ∈ o.f1, s.f1 = p

theorem dispatch_sum_loop (l : List Offer) (hl : l.length ≤ 10) (hv : AllV l) : ∀ (d : Nat) (i acc : Int), 0 ≤ i → i ≤ (l.length : Int) → (l.length : Int) - i = d → 0 ≤ acc → acc ≤ 100000 * i →
    Ev (fun k => dispatch_sum.l0 k acc l (l.length : Int) i) (acc + sumA (l.drop i.toNat)) := by
  intro d
  induction d with
  | zero =>
    intro i acc h0 h1 hd ha hb
    refine Ev.step (fun k => by rw [dispatch_sum.l0]) ?_
    rw [drop_end (by omega)]
    simp only [sumA, Int.add_zero]
    exact Ev.neg (by omega) (Ev.now _)
  | succ d ih =>
    intro i acc h0 h1 hd ha hb
    refine Ev.step (fun k => by rw [dispatch_sum.l0]) ?_
    refine Ev.pos (by omega) (Ev.pos h0 (Ev.pos (by omega) ?_))
    have hx : ValidO (rd_T29 l i).f1 := hv _ (getD_mem (d := z29) h0 (show i < (l.length : Int) by omega))
    rw [dropO h0 (by omega)]
    refine Ev.bind (offer_Most_ev _ hx) ?_
    have hs := hx.sum
    rw [w64 (x := acc + _) (by omega) (by omega), w64 (x := i + 1) (by omega) (by omega)]
    simp only [sumA]
    rw [← Int.add_assoc]
    exact ih (i + 1) _ (by omega) (by omega) (by omega) (by omega) (by omega)
theorem dispatch_sum_ev {l : List Offer} (h : AllOk l) : Ev (fun k => dispatch_sum.f k l) (sumA l) := by
  unfold dispatch_sum.f
  have := dispatch_sum_loop l h.1 h.v l.length 0 0 (by omega) (by omega) (by omega) (by omega) (by omega)
  simpa using this
theorem dispatch_check_some (l : List Offer) (ho : okOffers l) (demand : Int) : ∃ e, Ev (fun k => dispatch_check.f k l demand) e ∧ (e = 0 → Ev (fun k => offer_CheckAll.f k l) 0 ∧ AllOk l ∧ 0 ≤ demand ∧ demand ≤ 1000000 ∧ demand ≤ sumA l) ∧ (Ev (fun k => offer_CheckAll.f k l) 0 → 0 ≤ demand → demand ≤ sumA l → e = 0) := by
  obtain ⟨c, hc, _, _, hcc⟩ := checkAll_some l ho
  have h : EvP (fun k => dispatch_check.f k l demand) (fun e => (e = 0 → Ev (fun k => offer_CheckAll.f k l) 0 ∧ AllOk l ∧ 0 ≤ demand ∧ demand ≤ 1000000 ∧ demand ≤ sumA l) ∧ (Ev (fun k => offer_CheckAll.f k l) 0 → 0 ≤ demand → demand ≤ sumA l → e = 0)) := by
    unfold dispatch_check.f
    refine EvP.bindE hc (EvP.ite (fun h => ?_) (fun h => EvP.ret ⟨fun h' => absurd h' h, fun h' => absurd (Ev.det hc h') h⟩))
    subst h
    have hok := hcc rfl
    have hs := sumA_bound hok.v
    have hlen := hok.1
    have j0 : ∀ b : Bool, (b = true ↔ ¬ (0 ≤ demand ∧ demand ≤ 1000000)) → EvP (fun k => dispatch_check.j0 k l demand b) (fun e => (e = 0 → Ev (fun k => offer_CheckAll.f k l) 0 ∧ AllOk l ∧ 0 ≤ demand ∧ demand ≤ 1000000 ∧ demand ≤ sumA l) ∧ (Ev (fun k => offer_CheckAll.f k l) 0 → 0 ≤ demand → demand ≤ sumA l → e = 0)) := by
      intro b g
      refine EvP.step (fun k => by rw [dispatch_check.j0]) ?_
      refine EvP.ite (fun hb => EvP.ret ⟨fun h => by omega, fun _ h1 h2 => ?_⟩) (fun hb => EvP.bindE (dispatch_sum_ev hok) (EvP.ite (fun hc2 => EvP.ret ⟨fun h => by omega, fun _ _ h2 => by omega⟩) (fun hc2 => EvP.ret ⟨fun _ => ?_, fun _ _ _ => rfl⟩)))
      · exact absurd ⟨h1, by omega⟩ (g.1 hb)
      · obtain ⟨g1, g2⟩ := Classical.byContradiction fun h => hb (g.2 h)
        exact ⟨hc, hok, g1, g2, by omega⟩
    exact EvP.ite (fun _ => j0 _ (by simp; omega)) (fun _ => j0 _ (by simp; omega))
  exact h

/-! the power that is offered -/
theorem offered_inner (l : List Offer) (hl : l.length ≤ 10) (price : Int) (at_ : Bool) (i : Int) (st : List OStep) (hst : st.length ≤ 12) (hr : RangeO st) (r : Int) : ∀ (d : Nat) (j acc : Int), 0 ≤ j → j ≤ (st.length : Int) → (st.length : Int) - j = d → 0 ≤ acc → acc ≤ 10000000 + 100000 * j →
    Ev (fun k => dispatch_offered.l0 k price at_ (acc + if at_ = true then highO (st.drop j.toNat) price else lowO (st.drop j.toNat) price) l (l.length : Int) (wrap64 (i + 1))) r →
    Ev (fun k => dispatch_offered.l1 k price at_ acc l (l.length : Int) i st (st.length : Int) j) r := by
  intro d
  induction d with
  | zero =>
    intro j acc h0 h1 hd ha hb hh
    refine Ev.step (fun k => by rw [dispatch_offered.l1]) ?_
    rw [drop_end (by omega)] at hh
    simp only [highO, lowO, ite_self, Int.add_zero] at hh
    exact Ev.neg (by omega) hh
  | succ d ih =>
    intro j acc h0 h1 hd ha hb hh
    refine Ev.step (fun k => by rw [dispatch_offered.l1]) ?_
    refine Ev.pos (by omega) (Ev.pos h0 (Ev.pos (by omega) ?_))
    have hx := hr _ (getD_mem (d := z52) h0 (show j < (st.length : Int) by omega))
    rw [dropS h0 (by omega)] at hh
    have hx : 1 ≤ (rd_T52 st j).f0 ∧ (rd_T52 st j).f0 ≤ 100000 ∧ _ := hx
    obtain ⟨x, hxx⟩ : ∃ x, x = rd_T52 st j := ⟨_, rfl⟩
    rw [← hxx] at hh hx ⊢
    rw [w64 (x := acc + x.f0) (by omega) (by omega), w64 (x := j + 1) (by omega) (by omega)]
    simp only [highO, lowO] at hh
    refine Ev.ite (fun c => ?_) (fun c => Ev.ite (fun ca => Ev.ite (fun c2 => ?_) (fun c2 => ?_)) (fun ca => ?_))
    · refine ih (j + 1) _ (by omega) (by omega) (by omega) (by omega) (by omega) ?_
      cases at_ with
      | true =>
        simp only [if_true] at hh ⊢
        rw [if_pos (by omega), ← Int.add_assoc] at hh
        exact hh
      | false =>
        simp only [Bool.false_eq_true, if_false] at hh ⊢
        rw [if_pos c, ← Int.add_assoc] at hh
        exact hh
    · refine ih (j + 1) _ (by omega) (by omega) (by omega) (by omega) (by omega) ?_
      subst ca
      simp only [if_true] at hh ⊢
      rw [if_pos (by omega), ← Int.add_assoc] at hh
      exact hh
    · refine ih (j + 1) _ (by omega) (by omega) (by omega) (by omega) (by omega) ?_
      subst ca
      simp only [if_true] at hh ⊢
      rw [if_neg (by omega), Int.zero_add] at hh
      exact hh
    · have ca' : at_ = false := by simpa using ca
      subst ca'
      refine ih (j + 1) _ (by omega) (by omega) (by omega) (by omega) (by omega) ?_
      simp only [Bool.false_eq_true, if_false] at hh ⊢
      rw [if_neg c, Int.zero_add] at hh
      exact hh
theorem offered_loop (l : List Offer) (hl : l.length ≤ 10) (hv : AllV l) (price : Int) (at_ : Bool) : ∀ (d : Nat) (i acc : Int), 0 ≤ i → i ≤ (l.length : Int) → (l.length : Int) - i = d → 0 ≤ acc → acc ≤ 100000 * i →
    Ev (fun k => dispatch_offered.l0 k price at_ acc l (l.length : Int) i) (acc + if at_ = true then highA price (l.drop i.toNat) else lowA price (l.drop i.toNat)) := by
  intro d
  induction d with
  | zero =>
    intro i acc h0 h1 hd ha hb
    refine Ev.step (fun k => by rw [dispatch_offered.l0]) ?_
    rw [drop_end (by omega)]
    simp only [highA, lowA, ite_self, Int.add_zero]
    exact Ev.neg (by omega) (Ev.now _)
  | succ d ih =>
    intro i acc h0 h1 hd ha hb
    refine Ev.step (fun k => by rw [dispatch_offered.l0]) ?_
    refine Ev.pos (by omega) (Ev.pos h0 (Ev.pos (by omega) ?_))
    have hx : ValidO (rd_T29 l i).f1 := hv _ (getD_mem (d := z29) h0 (show i < (l.length : Int) by omega))
    rw [dropO h0 (by omega)]
    have hb1 := lowO_bounds (p := price) hx.range
    have hb2 := hx.sum
    refine offered_inner l hl price at_ i _ hx.1 hx.range _ (rd_T29 l i).f1.length 0 acc (by omega) (by omega) (by omega) ha (by omega) ?_
    rw [w64 (by omega) (by omega)]
    simp only [Int.toNat_zero, List.drop_zero, highA, lowA]
    have h := ih (i + 1) (acc + if at_ = true then highO (rd_T29 l i).f1 price else lowO (rd_T29 l i).f1 price) (by omega) (by omega) (by omega) (by split <;> omega) (by split <;> omega)
    cases at_ with
    | true => simp only [if_true] at h ⊢; rw [← Int.add_assoc]; exact h
    | false => simp only [Bool.false_eq_true, if_false] at h ⊢; rw [← Int.add_assoc]; exact h
theorem offered_at {l : List Offer} (h : AllOk l) (price : Int) : Ev (fun k => dispatch_offered.f k l price true) (highA price l) := by
  unfold dispatch_offered.f
  have := offered_loop l h.1 h.v price true l.length 0 0 (by omega) (by omega) (by omega) (by omega) (by omega)
  simpa using this
theorem offered_below {l : List Offer} (h : AllOk l) (price : Int) : Ev (fun k => dispatch_offered.f k l price false) (lowA price l) := by
  unfold dispatch_offered.f
  have := offered_loop l h.1 h.v price false l.length 0 0 (by omega) (by omega) (by omega) (by omega) (by omega)
  simpa using this

/-! the marginal price -/
/-- What is known of the least price so far, with the steps that have been seen. -/
def BestSo (l : List Offer) (demand best : Int) (seen : Int → Prop) : Prop := (best = 2000000 ∨ IsPrice l best ∧ demand ≤ highA best l) ∧ best ≤ 2000000 ∧ ∀ p, seen p → demand ≤ highA p l → best ≤ p
theorem marginal_inner {l : List Offer} (h : AllOk l) (demand : Int) (i : Int) (x : Offer) (hx : x ∈ l) (P : Int → Prop) : ∀ (d : Nat) (j best : Int) (seen : Int → Prop), 0 ≤ j → j ≤ (x.f1.length : Int) → (x.f1.length : Int) - j = d →
    BestSo l demand best seen → (∀ b, BestSo l demand b (fun p => seen p ∨ ∃ s ∈ x.f1.drop j.toNat, s.f1 = p) → EvP (fun k => dispatch_marginal.l0 k l demand b l (l.length : Int) (wrap64 (i + 1))) P) →
    EvP (fun k => dispatch_marginal.l1 k l demand best l (l.length : Int) i x.f1 (x.f1.length : Int) j) P := by
  have hv := (h.2 x hx).valid
  have hvl := hv.1
  intro d
  induction d with
  | zero =>
    intro j best seen h0 h1 hd hb hh
    refine EvP.step (fun k => by rw [dispatch_marginal.l1]) ?_
    refine EvP.neg (by omega) (hh best ⟨hb.1, hb.2.1, fun p hp => hb.2.2 p ?_⟩)
    rcases hp with hp | ⟨s, hs, _⟩
    · exact hp
    · rw [drop_end (by omega)] at hs
      cases hs
  | succ d ih =>
    intro j best seen h0 h1 hd hb hh
    refine EvP.step (fun k => by rw [dispatch_marginal.l1]) ?_
    refine EvP.pos (by omega) (EvP.pos h0 (EvP.pos (by omega) ?_))
    have hdr := dropS (l := x.f1) h0 (by omega)
    have hm : rd_T52 x.f1 j ∈ x.f1 := getD_mem h0 (by omega)
    obtain ⟨s, hs⟩ : ∃ s, s = rd_T52 x.f1 j := ⟨_, rfl⟩
    rw [← hs] at hdr hm ⊢
    have hrg := hv.range s hm
    rw [w64 (x := j + 1) (by omega) (by omega)]
    have next : ∀ b, BestSo l demand b (fun p => seen p ∨ s.f1 = p) → EvP (fun k => dispatch_marginal.l1 k l demand b l (l.length : Int) i x.f1 (x.f1.length : Int) (j + 1)) P := by
      intro b hb'
      refine ih (j + 1) b _ (by omega) (by omega) (by omega) hb' (fun b2 h2 => hh b2 ⟨h2.1, h2.2.1, fun p hp => h2.2.2 p ?_⟩)
      rcases hp with hp | ⟨t, ht, hp⟩
      · exact Or.inl (Or.inl hp)
      · rw [hdr] at ht
        rcases List.mem_cons.1 ht with rfl | ht
        · exact Or.inl (Or.inr hp)
        · exact Or.inr ⟨t, ht, hp⟩
    refine EvP.ite (fun c => EvP.bindE (offered_at h s.f1) (EvP.ite (fun c2 => next _ ⟨Or.inr ⟨⟨x, hx, s, hm, rfl⟩, c2⟩, by omega, fun p hp hd2 => ?_⟩) (fun c2 => next _ ⟨hb.1, hb.2.1, fun p hp hd2 => ?_⟩))) (fun c => next _ ⟨hb.1, hb.2.1, fun p hp hd2 => ?_⟩)
    · rcases hp with hp | rfl
      · have := hb.2.2 p hp hd2; omega
      · omega
    · rcases hp with hp | rfl
      · exact hb.2.2 p hp hd2
      · omega
    · rcases hp with hp | rfl
      · exact hb.2.2 p hp hd2
      · omega
theorem marginal_loop {l : List Offer} (h : AllOk l) (demand : Int) : ∀ (d : Nat) (i best : Int) (seen : Int → Prop), 0 ≤ i → i ≤ (l.length : Int) → (l.length : Int) - i = d → BestSo l demand best seen →
    EvP (fun k => dispatch_marginal.l0 k l demand best l (l.length : Int) i) (fun b => BestSo l demand b (fun p => seen p ∨ IsPrice (l.drop i.toNat) p)) := by
  have hlen := h.1
  intro d
  induction d with
  | zero =>
    intro i best seen h0 h1 hd hb
    refine EvP.step (fun k => by rw [dispatch_marginal.l0]) ?_
    refine EvP.neg (by omega) (EvP.ret ⟨hb.1, hb.2.1, fun p hp => hb.2.2 p ?_⟩)
    rcases hp with hp | ⟨o, ho, _⟩
    · exact hp
    · rw [drop_end (by omega)] at ho
      cases ho
  | succ d ih =>
    intro i best seen h0 h1 hd hb
    refine EvP.step (fun k => by rw [dispatch_marginal.l0]) ?_
    refine EvP.pos (by omega) (EvP.pos h0 (EvP.pos (by omega) ?_))
    have hdr := dropO (l := l) h0 (by omega)
    refine marginal_inner h demand i (rd_T29 l i) (getD_mem h0 (by omega)) _ (rd_T29 l i).f1.length 0 best seen (by omega) (by omega) (by omega) hb (fun b hb' => ?_)
    rw [w64 (by omega) (by omega)]
    refine (ih (i + 1) b _ (by omega) (by omega) (by omega) hb').mono fun b2 h2 => ⟨h2.1, h2.2.1, fun p hp => h2.2.2 p ?_⟩
    rcases hp with hp | ⟨o, ho, s, hs, hp⟩
    · exact Or.inl (Or.inl hp)
    · rw [hdr] at ho
      rcases List.mem_cons.1 ho with rfl | ho
      · exact Or.inl (Or.inr ⟨s, by simpa using hs, hp⟩)
      · exact Or.inr ⟨o, ho, s, hs, hp⟩
/-- The steps below a price: their greatest price offers as much. -/
theorem lowO_split {st : List OStep} (hr : RangeO st) {m p : Int} (hpm : p < m) (h : ∀ s ∈ st, s.f1 < m → s.f1 ≤ p) : lowO st m = highO st p := by
  induction st with
  | nil => rfl
  | cons s r ih =>
    have h1 := h s List.mem_cons_self
    simp only [lowO, highO]
    rw [ih hr.tail (fun t ht => h t (List.mem_cons_of_mem _ ht))]
    split <;> split <;> omega
theorem lowA_split {l : List Offer} (hv : AllV l) {m p : Int} (hpm : p < m) (h : ∀ q, IsPrice l q → q < m → q ≤ p) : lowA m l = highA p l := by
  induction l with
  | nil => rfl
  | cons o r ih =>
    simp only [lowA, highA]
    rw [ih hv.tail (fun q hq => h q (by obtain ⟨o', h1, h2⟩ := hq; exact ⟨o', List.mem_cons_of_mem _ h1, h2⟩)), lowO_split (hv o List.mem_cons_self).range hpm (fun s hs => h s.f1 ⟨o, List.mem_cons_self, s, hs, rfl⟩)]
theorem lowO_pos {st : List OStep} {m : Int} (h : 0 < lowO st m) : ∃ s ∈ st, s.f1 < m := by
  induction st with
  | nil => simp [lowO] at h
  | cons s r ih =>
    simp only [lowO] at h
    by_cases c : s.f1 < m
    · exact ⟨s, List.mem_cons_self, c⟩
    · rw [if_neg c] at h
      obtain ⟨t, ht, hc⟩ := ih (by omega)
      exact ⟨t, List.mem_cons_of_mem _ ht, hc⟩
theorem lowA_pos {l : List Offer} {m : Int} (h : 0 < lowA m l) : ∃ q, IsPrice l q ∧ q < m := by
  induction l with
  | nil => simp [lowA] at h
  | cons o r ih =>
    simp only [lowA] at h
    by_cases c : 0 < lowO o.f1 m
    · obtain ⟨s, hs, hc⟩ := lowO_pos c
      exact ⟨s.f1, ⟨o, List.mem_cons_self, s, hs, rfl⟩, hc⟩
    · obtain ⟨q, ⟨o', h1, h2⟩, hq⟩ := ih (by omega)
      exact ⟨q, ⟨o', List.mem_cons_of_mem _ h1, h2⟩, hq⟩
/-- Among the prices below m there is a greatest one. -/
theorem greatest_below {l : List Offer} {m : Int} (lo : Int) (hlo : ∀ q, IsPrice l q → lo ≤ q) : ∀ (n : Nat) (q : Int), IsPrice l q → q < m → m - q ≤ n → ∃ p, IsPrice l p ∧ p < m ∧ ∀ q', IsPrice l q' → q' < m → q' ≤ p
  | 0, q, _, h1, h2 => by omega
  | n + 1, q, hq, h1, h2 => by
    by_cases c : ∃ q', IsPrice l q' ∧ q' < m ∧ q < q'
    · obtain ⟨q', a, b, c⟩ := c
      exact greatest_below lo hlo n q' a b (by omega)
    · exact ⟨q, hq, h1, fun q' a b => Int.not_lt.1 fun hc => c ⟨q', a, b, hc⟩⟩
theorem highO_all {st : List OStep} (hr : RangeO st) {p : Int} (h : 1000000 ≤ p) : highO st p = sumO st := by
  induction st with
  | nil => rfl
  | cons s r ih =>
    have := hr s List.mem_cons_self
    simp only [highO, sumO]
    rw [if_pos (by omega), ih hr.tail]
theorem highA_all {l : List Offer} (hv : AllV l) {p : Int} (h : 1000000 ≤ p) : highA p l = sumA l := by
  induction l with
  | nil => rfl
  | cons o r ih =>
    simp only [highA, sumA]
    rw [highO_all (hv o List.mem_cons_self).range h, ih hv.tail]
theorem lowA_none {l : List Offer} (hv : AllV l) {p : Int} (h : p ≤ -1000000) : lowA p l = 0 := by
  induction l with
  | nil => rfl
  | cons o r ih =>
    simp only [lowA]
    rw [lowO_zero (fun t ht => by have := (hv o List.mem_cons_self).range t ht; omega), ih hv.tail]
    rfl
/-- The least price at which a demand is offered. -/
structure Marg (l : List Offer) (demand m : Int) : Prop where
  price : IsPrice l m
  lo : -1000000 ≤ m
  hi : m ≤ 1000000
  offers : demand ≤ highA m l
  less : lowA m l < demand
  least : ∀ p, demand ≤ highA p l → IsPrice l p → m ≤ p
theorem isPrice_range {l : List Offer} (hv : AllV l) {p : Int} (h : IsPrice l p) : -1000000 ≤ p ∧ p ≤ 1000000 := by
  obtain ⟨o, ho, s, hs, rfl⟩ := h
  have := (hv o ho).range s hs
  omega
theorem marginal_ev {l : List Offer} (h : AllOk l) {demand : Int} (h0 : 0 < demand) (h1 : demand ≤ sumA l) : ∃ m, Ev (fun k => dispatch_marginal.f k l demand) m ∧ Marg l demand m := by
  have hv := h.v
  have hh := marginal_loop h demand l.length 0 2000000 (fun _ => False) (by omega) (by omega) (by omega) ⟨Or.inl rfl, by omega, fun p hp => hp.elim⟩
  simp only [Int.toNat_zero, List.drop_zero, false_or] at hh
  obtain ⟨m, hm, hb1, hb2, hb3⟩ := hh
  refine ⟨m, by unfold dispatch_marginal.f; exact hm, ?_⟩
  -- there is a price at which all is offered
  have top : lowA 1000001 l = sumA l := by
    have a := lowA_bound (p := 1000001) hv
    have b := lowA_mono (p := 1000000) (q := 1000001) (by omega) hv
    have c := highA_all hv (p := 1000000) (by omega)
    have := b.2.2 (by omega)
    omega
  obtain ⟨q, hq, _⟩ := lowA_pos (l := l) (m := 1000001) (by omega)
  obtain ⟨p, hp, _, hpm⟩ := greatest_below (l := l) (m := 1000001) (-1000000) (fun q hq => (isPrice_range hv hq).1) (1000001 - q).toNat q hq (by have := (isPrice_range hv hq).2; omega) (by omega)
  have hpr := isPrice_range hv hp
  have hph : highA p l = sumA l := by rw [← lowA_split hv (m := 1000001) (p := p) (by omega) hpm]; exact top
  have hmp := hb3 p hp (by omega)
  have hmi : IsPrice l m ∧ demand ≤ highA m l := by
    rcases hb1 with hb1 | hb1
    · omega
    · exact hb1
  have hmr := isPrice_range hv hmi.1
  refine ⟨hmi.1, hmr.1, hmr.2, hmi.2, ?_, fun p hp1 hp2 => hb3 p hp2 hp1⟩
  refine Classical.byContradiction fun hc => ?_
  obtain ⟨q1, hq1, hq1m⟩ := lowA_pos (l := l) (m := m) (by omega)
  obtain ⟨p1, hp1, hp1m, hp1g⟩ := greatest_below (l := l) (m := m) (-1000000) (fun q hq => (isPrice_range hv hq).1) (m - q1).toNat q1 hq1 hq1m (by omega)
  have e := lowA_split hv hp1m hp1g
  have := hb3 p1 hp1 (by omega)
  omega

/-! the powers of Best -/
def fillP (p : Int) : Int → List Offer → List Int
  | _, [] => []
  | left, o :: r => (lowO o.f1 p + mn left (highO o.f1 p - lowO o.f1 p)) :: fillP p (left - mn left (highO o.f1 p - lowO o.f1 p)) r
/-- Powers that earn most at a price. -/
def Earns (p : Int) : List Offer → List Int → Prop
  | [], [] => True
  | o :: r, x :: xs => lowO o.f1 p ≤ x ∧ x ≤ highO o.f1 p ∧ Earns p r xs
  | _, _ => False
def sumI : List Int → Int
  | [] => 0
  | x :: r => x + sumI r
theorem fillP_earns {p : Int} : ∀ {l : List Offer} {left : Int}, AllV l → 0 ≤ left → left ≤ highA p l - lowA p l → Earns p l (fillP p left l) ∧ sumI (fillP p left l) = lowA p l + left
  | [], left, _, h0, h1 => by
    simp only [highA, lowA] at h1
    simp only [fillP, Earns, sumI, lowA, true_and]
    omega
  | o :: r, left, hv, h0, h1 => by
    have hb := lowO_bounds (p := p) (hv o List.mem_cons_self).range
    have hr := lowA_bound (p := p) hv.tail
    simp only [highA, lowA] at h1
    have hm := mn_le left (highO o.f1 p - lowO o.f1 p)
    have ih := fillP_earns (p := p) (l := r) (left := left - mn left (highO o.f1 p - lowO o.f1 p)) hv.tail (by omega) (by omega)
    simp only [fillP, Earns, sumI, lowA]
    refine ⟨⟨by omega, by omega, ih.1⟩, ?_⟩
    rw [ih.2]
    omega
theorem Earns.length {p : Int} : ∀ {l : List Offer} {xs : List Int}, Earns p l xs → xs.length = l.length
  | [], [], _ => rfl
  | o :: r, x :: xs, h => by simp [Earns.length h.2.2]
  | [], _ :: _, h => h.elim
  | _ :: _, [], h => h.elim
def costA : List Offer → List Int → Int
  | o :: r, x :: xs => costO o.f1 x + costA r xs
  | _, _ => 0
/-- Powers of the offers. -/
def InA : List Offer → List Int → Prop
  | [], [] => True
  | o :: r, x :: xs => 0 ≤ x ∧ x ≤ sumO o.f1 ∧ InA r xs
  | _, _ => False
theorem Earns.inA {p : Int} : ∀ {l : List Offer} {xs : List Int}, AllV l → Earns p l xs → InA l xs
  | [], [], _, _ => trivial
  | o :: r, x :: xs, hv, h => by
    have hb := lowO_bounds (p := p) (hv o List.mem_cons_self).range
    exact ⟨by have := h.1; omega, by have := h.2.1; omega, Earns.inA hv.tail h.2.2⟩
  | [], _ :: _, _, h => h.elim
  | _ :: _, [], _, h => h.elim
theorem InA.length : ∀ {l : List Offer} {xs : List Int}, InA l xs → xs.length = l.length
  | [], [], _ => rfl
  | o :: r, x :: xs, h => by simp [InA.length h.2.2]
  | [], _ :: _, h => h.elim
  | _ :: _, [], h => h.elim
theorem costA_bound : ∀ {l : List Offer} {xs : List Int}, AllV l → InA l xs → -(100000000000 * (l.length : Int)) ≤ costA l xs ∧ costA l xs ≤ 100000000000 * (l.length : Int) ∧ 0 ≤ sumI xs ∧ sumI xs ≤ sumA l
  | [], [], _, _ => by simp [costA, sumI, sumA]
  | o :: r, x :: xs, hv, h => by
    have hvo := hv o List.mem_cons_self
    have hs := hvo.sum
    have hc := costO_bound (p := x) hvo.range h.1
    have hx := h.2.1
    have hx0 := h.1
    have ih := costA_bound hv.tail h.2.2
    simp only [costA, sumI, sumA, List.length_cons]
    omega
  | [], _ :: _, _, h => h.elim
  | _ :: _, [], _, h => h.elim
/-- No powers of the same sum cost less than those that earn most at a price. -/
theorem earns_least {p : Int} : ∀ {l : List Offer} {xs ys : List Int}, AllV l → Earns p l xs → InA l ys → p * sumI ys - costA l ys ≤ p * sumI xs - costA l xs
  | [], [], [], _, _, _ => by simp [sumI, costA]
  | o :: r, x :: xs, y :: ys, hv, hx, hy => by
    have hvo := hv o List.mem_cons_self
    have hb := lowO_bounds (p := p) hvo.range
    have hx1 := hx.1
    have hx2 := hx.2.1
    have g1 := (gainO_best (p := p) (x := x) hvo.range hvo.rising (by omega) (by omega)).2.2 ⟨hx1, hx2⟩
    have g2 := (gainO_best (p := p) (x := y) hvo.range hvo.rising hy.1 hy.2.1).1
    have ih := earns_least hv.tail hx.2.2 hy.2.2
    unfold gainO at g1 g2
    simp only [sumI, costA, Int.mul_add]
    omega
  | [], _ :: _, _, _, h, _ => h.elim
  | _ :: _, [], _, _, h, _ => h.elim
  | [], [], _ :: _, _, _, h => h.elim
  | _ :: _, _ :: _, [], _, _, h => h.elim

theorem set_mid {xs : List Int} {d : Nat} {i : Int} {v : Int} (h : (xs.length : Int) = i) : (xs ++ List.replicate (d + 1) 0).set i.toNat v = xs ++ [v] ++ List.replicate d 0 := by
  have e : i.toNat = xs.length := by omega
  rw [e, List.replicate_succ, List.set_append_right _ _ (Nat.le_refl _), Nat.sub_self, List.set_cons_zero, List.append_assoc]
  rfl
theorem drop_at {xs ys : List Int} {i : Int} (h : (xs.length : Int) = i) : (xs ++ ys).drop i.toNat = ys := by
  have e : i.toNat = xs.length := by omega
  rw [e, List.drop_left]
theorem costs_loop {l : List Offer} (h : AllOk l) (ps : List Int) (hin : InA l ps) : ∀ (d : Nat) (i acc : Int), 0 ≤ i → i ≤ (l.length : Int) → (l.length : Int) - i = d → -(100000000000 * i) ≤ acc → acc ≤ 100000000000 * i → InA (l.drop i.toNat) (ps.drop i.toNat) →
    Ev (fun k => dispatch_costs.l0 k ps acc l (l.length : Int) i) (ps, acc + costA (l.drop i.toNat) (ps.drop i.toNat), 0) := by
  have hlen := h.1
  have hpl := hin.length
  intro d
  induction d with
  | zero =>
    intro i acc h0 h1 hd ha hb hi
    refine Ev.step (fun k => by rw [dispatch_costs.l0]) ?_
    rw [drop_end (xs := l) (by omega)]
    simp only [costA, Int.add_zero]
    exact Ev.neg (by omega) (Ev.now _)
  | succ d ih =>
    intro i acc h0 h1 hd ha hb hi
    refine Ev.step (fun k => by rw [dispatch_costs.l0]) ?_
    refine Ev.pos (by omega) (Ev.pos h0 (Ev.pos (by omega) (Ev.pos (by omega) ?_)))
    have hp : ps.drop i.toNat = rd ps i :: ps.drop (i + 1).toNat := drop_getD 0 h0 (by omega)
    rw [dropO h0 (by omega), hp] at hi
    rw [dropO h0 (by omega), hp]
    have hx := h.2 (rd_T29 l i) (getD_mem h0 (by omega))
    refine Ev.bind (offer_Cost_in hx.ev hx.valid hi.1 hi.2.1) ?_
    have hc := costO_bound (p := rd ps i) hx.valid.range hi.1
    have hs := hx.valid.sum
    have hi2 := hi.2.1
    have hi1 := hi.1
    simp only
    rw [w64 (x := acc + _) (by omega) (by omega), w64 (x := i + 1) (by omega) (by omega)]
    simp only [costA]
    rw [← Int.add_assoc]
    exact ih (i + 1) _ (by omega) (by omega) (by omega) (by omega) (by omega) hi.2.2
theorem costs_ev2 {l : List Offer} (h : AllOk l) {ps : List Int} (hin : InA l ps) : Ev (fun k => dispatch_costs.f k l ps) (ps, costA l ps, 0) := by
  unfold dispatch_costs.f
  have := costs_loop h ps hin l.length 0 0 (by omega) (by omega) (by omega) (by omega) (by omega) (by simpa using hin)
  simpa using this
theorem best_loop {l : List Offer} (h : AllOk l) (p : Int) (hp0 : -2000000 ≤ p) (hp1 : p ≤ 2000000) (left0 : Int) : ∀ (d : Nat) (i left : Int) (done : List Int), 0 ≤ i → i ≤ (l.length : Int) → (l.length : Int) - i = d → (done.length : Int) = i → 0 ≤ left → left ≤ 1000000 →
    InA l (done ++ fillP p left (l.drop i.toNat)) →
    Ev (fun k => dispatch_Best.l0 k l (done ++ List.replicate d 0) p left l (l.length : Int) i) (done ++ fillP p left (l.drop i.toNat), costA l (done ++ fillP p left (l.drop i.toNat)), 0) := by
  have hlen := h.1
  intro d
  induction d with
  | zero =>
    intro i left done h0 h1 hd hdn hl0 hl1 hin
    refine Ev.step (fun k => by rw [dispatch_Best.l0]) ?_
    rw [drop_end (by omega)] at hin ⊢
    simp only [fillP, List.append_nil, List.replicate_zero] at hin ⊢
    exact Ev.neg (by omega) (Ev.bind (costs_ev2 h hin) (Ev.now _))
  | succ d ih =>
    intro i left done h0 h1 hd hdn hl0 hl1 hin
    refine Ev.step (fun k => by rw [dispatch_Best.l0]) ?_
    refine Ev.pos (by omega) (Ev.pos h0 (Ev.pos (by omega) ?_))
    have hx := h.2 (rd_T29 l i) (getD_mem h0 (by omega))
    refine Ev.bind (offer_Supply_in hx.ev hx.valid hp0 hp1) (Ev.pos (by simp; omega) ?_)
    have hb := lowO_bounds (p := p) hx.valid.range
    have hs := hx.valid.sum
    rw [dropO h0 (by omega)] at hin ⊢
    simp only [fillP] at hin ⊢
    rw [w64 (x := highO (rd_T29 l i).f1 p - lowO (rd_T29 l i).f1 p) (by omega) (by omega)]
    have hm := mn_le left (highO (rd_T29 l i).f1 p - lowO (rd_T29 l i).f1 p)
    rw [w64 (x := lowO (rd_T29 l i).f1 p + _) (by omega) (by omega), w64 (x := left - _) (by omega) (by omega), w64 (x := i + 1) (by omega) (by omega), set_mid hdn]
    have hh := ih (i + 1) (left - mn left (highO (rd_T29 l i).f1 p - lowO (rd_T29 l i).f1 p)) (done ++ [lowO (rd_T29 l i).f1 p + mn left (highO (rd_T29 l i).f1 p - lowO (rd_T29 l i).f1 p)]) (by omega) (by omega) (by omega) (by simp; omega) (by omega) (by omega) (by rw [List.append_assoc]; exact hin)
    rw [show ∀ (v : Int) (r : List Int), done ++ [v] ++ r = done ++ v :: r from fun v r => by rw [List.append_assoc, List.singleton_append]] at hh ⊢
    rw [show ∀ (v : Int) (r : List Int), done ++ [v] ++ r = done ++ v :: r from fun v r => by rw [List.append_assoc, List.singleton_append]] at hh
    exact hh

theorem zeros_in : ∀ {l : List Offer}, AllV l → InA l (List.replicate l.length 0) ∧ sumI (List.replicate l.length 0) = 0 ∧ costA l (List.replicate l.length 0) = 0
  | [], _ => by simp [InA, sumI, costA]
  | o :: r, hv => by
    have hvo := hv o List.mem_cons_self
    have ih := zeros_in hv.tail
    simp only [List.length_cons, List.replicate_succ, InA, sumI, costA]
    rw [costO_zero hvo.range, ih.2.1, ih.2.2]
    exact ⟨⟨by omega, hvo.sum.1, ih.1⟩, rfl, rfl⟩
theorem zeros_of_sum : ∀ {l : List Offer} {xs : List Int}, InA l xs → sumI xs = 0 → xs = List.replicate l.length 0
  | [], [], _, _ => rfl
  | o :: r, x :: xs, h, hs => by
    have hn : ∀ {l : List Offer} {xs : List Int}, InA l xs → 0 ≤ sumI xs := by
      intro l
      induction l with
      | nil => intro xs h; cases xs with
        | nil => simp [sumI]
        | cons _ _ => exact h.elim
      | cons o r ih => intro xs h; cases xs with
        | nil => exact h.elim
        | cons y ys => have := ih h.2.2; have := h.1; simp only [sumI]; omega
    have h1 := hn h.2.2
    have h0 := h.1
    simp only [sumI] at hs
    rw [zeros_of_sum h.2.2 (by omega), show x = 0 by omega]
    rfl
  | [], _ :: _, h, _ => h.elim
  | _ :: _, [], h, _ => h.elim

/-- What Best answers: an error and nothing beside; or powers with the sum demand that earn most at the marginal price. -/
structure BestOf (l : List Offer) (demand : Int) (ps : List Int) (n : Int) : Prop where
  all : Ev (fun k => offer_CheckAll.f k l) 0
  ok : AllOk l
  lo : 0 ≤ demand
  hi : demand ≤ 1000000
  le : demand ≤ sumA l
  inA : InA l ps
  sum : sumI ps = demand
  cost : costA l ps = n
  zero : demand = 0 → ps = List.replicate l.length 0 ∧ n = 0
  earns : 0 < demand → ∃ m, Ev (fun k => dispatch_marginal.f k l demand) m ∧ Marg l demand m ∧ Earns m l ps
theorem BestOf.least {l : List Offer} {demand n : Int} {ps : List Int} (h : BestOf l demand ps n) {ys : List Int} (hy : InA l ys) (hs : sumI ys = demand) : n ≤ costA l ys := by
  by_cases h0 : demand = 0
  · have := zeros_of_sum hy (by omega)
    rw [this, (zeros_in h.ok.v).2.2, (h.zero h0).2]
    exact Int.le_refl _
  · obtain ⟨m, _, hm, he⟩ := h.earns (by have := h.lo; omega)
    have := earns_least h.ok.v he hy
    rw [hs, h.sum, h.cost] at this
    omega
theorem best_any (l : List Offer) (ho : okOffers l) (demand : Int) : ∃ ps n e, Ev (fun k => dispatch_Best.f k l demand) (ps, n, e) ∧ Ev (fun k => dispatch_check.f k l demand) e ∧ ((e ≠ 0 ∧ ps = [] ∧ n = 0) ∨ (e = 0 ∧ BestOf l demand ps n)) := by
  obtain ⟨e, he, hp, _⟩ := dispatch_check_some l ho demand
  by_cases e0 : e = 0
  · subst e0
    obtain ⟨hall, hok, d0, d1, d2⟩ := hp rfl
    have hlen := hok.1
    have hv := hok.v
    by_cases dz : demand = 0
    · refine ⟨List.replicate l.length 0, 0, 0, ?_, he, Or.inr ⟨rfl, hall, hok, d0, d1, d2, (zeros_in hv).1, by rw [(zeros_in hv).2.1, dz], (zeros_in hv).2.2, fun _ => ⟨rfl, rfl⟩, fun h => by omega⟩⟩
      unfold dispatch_Best.f
      refine Ev.bind he (Ev.pos rfl (Ev.pos (by omega) (Ev.pos (by omega) (Ev.binds (Ev.pos dz ?_)))))
      rw [Int.toNat_natCast]
      exact Ev.now _
    · obtain ⟨m, hm, hmg⟩ := marginal_ev hok (by omega) d2
      have hl := lowA_bound (p := m) hv
      have f := fillP_earns (p := m) (l := l) (left := demand - lowA m l) hv (by have := hmg.less; omega) (by have := hmg.offers; omega)
      have hin := f.1.inA hv
      refine ⟨fillP m (demand - lowA m l) l, costA l (fillP m (demand - lowA m l) l), 0, ?_, he, Or.inr ⟨rfl, hall, hok, d0, d1, d2, hin, by rw [f.2]; omega, rfl, fun h => absurd h dz, fun _ => ⟨m, hm, hmg, f.1⟩⟩⟩
      unfold dispatch_Best.f
      have hlo := hmg.lo
      have hhi := hmg.hi
      have hless := hmg.less
      refine Ev.bind he (Ev.pos rfl (Ev.pos (by omega) (Ev.pos (by omega) (Ev.binds (Ev.neg dz (Ev.bind hm (Ev.bind (offered_below hok m) ?_)))))))
      rw [w64 (by omega) (by omega), Int.toNat_natCast]
      have := best_loop hok m (by omega) (by omega) 0 l.length 0 (demand - lowA m l) [] (by omega) (by omega) (by omega) (by simp) (by omega) (by omega) (by simpa using hin)
      simpa using this
  · refine ⟨[], 0, e, ?_, he, Or.inl ⟨e0, rfl, rfl⟩⟩
    unfold dispatch_Best.f
    exact Ev.bind he (Ev.neg e0 (Ev.now _))

/-! Cost -/
theorem dcost_loop {l : List Offer} (h : AllOk l) (ps : List Int) (hpl : ps.length = l.length) : ∀ (d : Nat) (i n all : Int), 0 ≤ i → i ≤ (l.length : Int) → (l.length : Int) - i = d → -(100000000000 * i) ≤ n → n ≤ 100000000000 * i → 0 ≤ all → all ≤ 100000 * i →
    EvP (fun k => dispatch_Cost.l0 k ps n all l (l.length : Int) i) (fun r => (r.2.2 = 0 ∧ InA (l.drop i.toNat) (ps.drop i.toNat) ∧ r.1 = n + costA (l.drop i.toNat) (ps.drop i.toNat) ∧ r.2.1 = all + sumI (ps.drop i.toNat)) ∨ (r.2.2 ≠ 0 ∧ r.1 = 0 ∧ r.2.1 = 0 ∧ ¬ InA (l.drop i.toNat) (ps.drop i.toNat))) := by
  have hlen := h.1
  intro d
  induction d with
  | zero =>
    intro i n all h0 h1 hd ha hb hc he
    refine EvP.step (fun k => by rw [dispatch_Cost.l0]) ?_
    rw [drop_end (xs := l) (by omega), drop_end (xs := ps) (by omega)]
    refine EvP.neg (by omega) (EvP.ret (Or.inl ⟨rfl, trivial, ?_, ?_⟩))
    · simp [costA]
    · simp [sumI]
  | succ d ih =>
    intro i n all h0 h1 hd ha hb hc he
    refine EvP.step (fun k => by rw [dispatch_Cost.l0]) ?_
    refine EvP.pos (by omega) (EvP.pos h0 (EvP.pos (by omega) (EvP.pos (by omega) ?_)))
    have hp : ps.drop i.toNat = rd ps i :: ps.drop (i + 1).toNat := drop_getD 0 h0 (by omega)
    rw [dropO h0 (by omega), hp]
    have hx := h.2 (rd_T29 l i) (getD_mem h0 (by omega))
    obtain ⟨c, e, hce, hcc⟩ := cost_any hx (rd ps i)
    refine EvP.bindE hce ?_
    rcases hcc with ⟨_, rfl, g0, g1, rfl⟩ | ⟨g, rfl, _, g2⟩
    · have hcb := costO_bound (p := rd ps i) hx.valid.range g0
      have hs := hx.valid.sum
      refine EvP.pos rfl ?_
      rw [w64 (x := n + _) (by simp only; omega) (by simp only; omega), w64 (x := all + rd ps i) (by omega) (by omega), w64 (x := i + 1) (by omega) (by omega)]
      refine (ih (i + 1) _ _ (by omega) (by omega) (by omega) (by simp only; omega) (by simp only; omega) (by omega) (by omega)).mono fun r hr => ?_
      simp only [InA, costA, sumI]
      rcases hr with ⟨r1, r2, r3, r4⟩ | ⟨r1, r2, r3, r4⟩
      · exact Or.inl ⟨r1, ⟨g0, g1, r2⟩, by rw [r3]; simp only; omega, by omega⟩
      · exact Or.inr ⟨r1, r2, r3, fun hh => r4 hh.2.2⟩
    · refine EvP.neg g (EvP.ret (Or.inr ⟨g, rfl, rfl, fun hh => ?_⟩))
      have := g2 rfl
      have h1 := hh.1
      have h2 := hh.2.1
      omega
/-- What Cost answers. -/
theorem dcost_any (l : List Offer) (ho : okOffers l) (ps : List Int) : ∃ n s e, Ev (fun k => dispatch_Cost.f k l ps) (n, s, e) ∧
    ((e = 0 ∧ Ev (fun k => offer_CheckAll.f k l) 0 ∧ AllOk l ∧ InA l ps ∧ n = costA l ps ∧ s = sumI ps) ∨ (e ≠ 0 ∧ n = 0 ∧ s = 0 ∧ (Ev (fun k => offer_CheckAll.f k l) 0 → ¬ InA l ps))) := by
  obtain ⟨c, hc, _, _, hcc⟩ := checkAll_some l ho
  by_cases c0 : c = 0
  · subst c0
    have hok := hcc rfl
    by_cases hl : ps.length = l.length
    · obtain ⟨⟨n, s, e⟩, hr, h⟩ := dcost_loop hok ps hl l.length 0 0 0 (by omega) (by omega) (by omega) (by omega) (by omega) (by omega) (by omega)
      simp only [Int.toNat_zero, List.drop_zero, Int.zero_add] at h
      refine ⟨n, s, e, ?_, ?_⟩
      · unfold dispatch_Cost.f
        exact Ev.bind hc (Ev.pos rfl (Ev.pos (by omega) hr))
      · rcases h with ⟨h1, h2, h3, h4⟩ | ⟨h1, h2, h3, h4⟩
        · exact Or.inl ⟨h1, hc, hok, h2, h3, h4⟩
        · exact Or.inr ⟨h1, h2, h3, fun _ => h4⟩
    · refine ⟨0, 0, 3, ?_, Or.inr ⟨by omega, rfl, rfl, fun _ h => hl h.length⟩⟩
      unfold dispatch_Cost.f
      exact Ev.bind hc (Ev.pos rfl (Ev.neg (by omega) (Ev.now _)))
  · refine ⟨0, 0, c, ?_, Or.inr ⟨c0, rfl, rfl, fun h => absurd (Ev.det hc h) c0⟩⟩
    unfold dispatch_Cost.f
    exact Ev.bind hc (Ev.neg c0 (Ev.now _))

/-! Price -/
theorem price_any (l : List Offer) (ho : okOffers l) (demand : Int) : ∃ low high e, Ev (fun k => dispatch_Price.f k l demand) (low, high, e) ∧ Ev (fun k => dispatch_check.f k l demand) e ∧
    ((e ≠ 0 ∧ low = 0 ∧ high = 0) ∨ (e = 0 ∧ Ev (fun k => offer_CheckAll.f k l) 0 ∧ AllOk l ∧ 0 ≤ demand ∧ demand ≤ 1000000 ∧ demand ≤ sumA l ∧ (if 0 < demand then Ev (fun k => dispatch_marginal.f k l demand) low ∧ Marg l demand low else low = -2000000) ∧ (if demand < sumA l then Ev (fun k => dispatch_marginal.f k l (demand + 1)) high ∧ Marg l (demand + 1) high else high = 2000000))) := by
  obtain ⟨e, he, hp, _⟩ := dispatch_check_some l ho demand
  by_cases e0 : e = 0
  · subst e0
    obtain ⟨hall, hok, d0, d1, d2⟩ := hp rfl
    obtain ⟨low, hlow⟩ : ∃ low, if 0 < demand then Ev (fun k => dispatch_marginal.f k l demand) low ∧ Marg l demand low else low = -2000000 := by
      split
      · next h => exact marginal_ev hok h d2
      · exact ⟨_, rfl⟩
    obtain ⟨high, hhigh⟩ : ∃ high, if demand < sumA l then Ev (fun k => dispatch_marginal.f k l (demand + 1)) high ∧ Marg l (demand + 1) high else high = 2000000 := by
      split
      · next h => exact marginal_ev hok (by omega) (by omega)
      · exact ⟨_, rfl⟩
    refine ⟨low, high, 0, ?_, he, Or.inr ⟨rfl, hall, hok, d0, d1, d2, hlow, hhigh⟩⟩
    unfold dispatch_Price.f
    have j0 : Ev (fun k => dispatch_Price.j0 k l demand low 2000000) (low, high, 0) := by
      refine Ev.step (fun k => by rw [dispatch_Price.j0]) (Ev.bind (dispatch_sum_ev hok) ?_)
      refine Ev.ite (fun h => ?_) (fun h => ?_)
      · rw [if_pos h] at hhigh
        rw [w64 (by omega) (by omega)]
        exact Ev.bind hhigh.1 (Ev.now _)
      · rw [if_neg h] at hhigh
        rw [hhigh]
        exact Ev.now _
    refine Ev.bind he (Ev.pos rfl (Ev.ite (fun h => ?_) (fun h => ?_)))
    · rw [if_pos (show 0 < demand by omega)] at hlow
      exact Ev.bind hlow.1 j0
    · rw [if_neg (show ¬ 0 < demand by omega)] at hlow
      rw [← hlow]
      exact j0
  · refine ⟨0, 0, e, ?_, he, Or.inl ⟨e0, rfl, rfl⟩⟩
    unfold dispatch_Price.f
    exact Ev.bind he (Ev.neg e0 (Ev.now _))
end Go.Proofs.Ytlfhabekhfahbaa.P
