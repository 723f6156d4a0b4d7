/- welfare.Move: the transfer of a unit that saves most. -/
import Derived.Test.YtlfhabekhfahbaaLWaste
import Derived.Test.YtlfhabekhfahbaaPx3
import Derived.Test.YtlfhabekhfahbaaPx8
namespace Go.Proofs.Ytlfhabekhfahbaa.P
set_option linter.unusedVariables false
open Go.RowKit Go.Proofs.YtlfhabekhfahbaaW.PrintWords Go.Proofs.YtlfhabekhfahbaaW.PrintMore Go.Proofs.Ytlfhabekhfahbaa.Opn Go.Proofs.Ytlfhabekhfahbaa.Evp
theorem lastO_bound : ∀ {st : List OStep} {a p : Int}, RangeO st → -2000000 ≤ a → a ≤ 2000000 → -2000000 ≤ lastO a st p ∧ lastO a st p ≤ 2000000
  | [], a, p, _, h0, h1 => by simp only [lastO]; omega
  | s :: r, a, p, h, h0, h1 => by
    have hx := h s List.mem_cons_self
    simp only [lastO]
    have hb : -2000000 ≤ (if 0 < p then s.f1 else a) ∧ (if 0 < p then s.f1 else a) ≤ 2000000 := by split <;> omega
    by_cases c : p < s.f0
    · rw [if_pos c]
      exact hb
    · rw [if_neg c]
      exact lastO_bound h.tail hb.1 hb.2
theorem nextO_bound : ∀ {st : List OStep} {p : Int}, RangeO st → -2000000 ≤ nextO st p ∧ nextO st p ≤ 2000000
  | [], p, _ => by simp only [nextO]; omega
  | s :: r, p, h => by
    have hx := h s List.mem_cons_self
    simp only [nextO]
    by_cases c : p < s.f0
    · rw [if_pos c]
      omega
    · rw [if_neg c]
      exact nextO_bound h.tail
theorem lastO_zero {a : Int} : ∀ {st : List OStep}, RangeO st → lastO a st 0 = a
  | [], _ => rfl
  | s :: r, h => by
    have hx := h s List.mem_cons_self
    simp only [lastO]
    rw [if_pos (by omega), if_neg (by omega)]
theorem lastO_next : ∀ {st : List OStep} {a p : Int}, RangeO st → 0 < p → p ≤ sumO st → lastO a st p = nextO st (p - 1)
  | [], a, p, _, h0, h1 => by simp only [sumO] at h1; omega
  | s :: r, a, p, h, h0, h1 => by
    have hx := h s List.mem_cons_self
    simp only [sumO] at h1
    simp only [lastO, nextO]
    rw [if_pos h0]
    by_cases c : p < s.f0
    · rw [if_pos c, if_pos (by omega)]
    · rw [if_neg c]
      by_cases c2 : p = s.f0
      · rw [if_pos (by omega), show p - s.f0 = 0 by omega, lastO_zero h.tail]
      · rw [if_neg (by omega), lastO_next h.tail (by omega) (by omega), show p - s.f0 - 1 = p - 1 - s.f0 by omega]
theorem low_next {q : Int} : ∀ {st : List OStep} {x : Int}, RangeO st → Rising st → 0 ≤ x → x ≤ sumO st → (x < sumO st → q ≤ nextO st x) → lowO st q ≤ x
  | [], x, _, _, h0, _, _ => by simp only [lowO]; exact h0
  | s :: r, x, h, hs, h0, h1, hq => by
    have hx := h s List.mem_cons_self
    have hb := lowO_bounds (p := q) h.tail
    simp only [sumO] at h1 hq
    simp only [nextO] at hq
    have hsn := sumO_nonneg h.tail
    simp only [lowO]
    by_cases c : x < s.f0
    · have q1 := hq (by omega)
      rw [if_pos c] at q1
      rw [if_neg (by omega), lowO_zero (fun t ht => by have := hs.1 t ht; omega)]
      omega
    · have i := low_next (x := x - s.f0) h.tail hs.2 (by omega) (by omega) (fun g => by have := hq (by omega); rw [if_neg c] at this; exact this)
      split <;> omega
theorem high_next {q : Int} : ∀ {st : List OStep} {x : Int}, RangeO st → Rising st → 0 ≤ x → x ≤ sumO st → (0 < x → nextO st (x - 1) ≤ q) → x ≤ highO st q
  | [], x, _, _, h0, h1, _ => by simp only [sumO] at h1; simp only [highO]; omega
  | s :: r, x, h, hs, h0, h1, hq => by
    have hx := h s List.mem_cons_self
    have hb := lowO_bounds (p := q) h.tail
    simp only [sumO] at h1
    simp only [nextO] at hq
    simp only [highO]
    by_cases z : x = 0
    · split <;> omega
    · have q1 := hq (by omega)
      by_cases c : x ≤ s.f0
      · rw [if_pos (by omega)] at q1
        rw [if_pos (by omega)]
        omega
      · rw [if_neg (by omega)] at q1
        have n1 : s.f1 ≤ nextO r (x - 1 - s.f0) := nextO_ge (by omega) hs.1
        have i := high_next (q := q) (x := x - s.f0) h.tail hs.2 (by omega) (by omega) (fun g => by rw [show x - s.f0 - 1 = x - 1 - s.f0 by omega]; exact q1)
        rw [if_pos (by omega)]
        omega
theorem InA.drop : ∀ (n : Nat) {l : List Offer} {xs : List Int}, InA l xs → InA (l.drop n) (xs.drop n)
  | 0, l, xs, h => by simpa using h
  | n + 1, [], [], _ => by simp [InA]
  | n + 1, o :: r, x :: xs, h => by simpa using InA.drop n h.2.2
  | n + 1, [], _ :: _, h => h.elim
  | n + 1, _ :: _, [], h => h.elim
theorem InA.at_ {l : List Offer} {ps : List Int} (h : InA l ps) {i : Int} (h0 : 0 ≤ i) (h1 : i < (l.length : Int)) : 0 ≤ rd ps i ∧ rd ps i ≤ sumO (rd_T29 l i).f1 := by
  have hl := h.length
  have d := InA.drop i.toNat h
  have hp : ps.drop i.toNat = rd ps i :: ps.drop (i + 1).toNat := drop_getD 0 h0 (by omega)
  rw [dropO h0 h1, hp] at d
  exact ⟨d.1, d.2.1⟩
/-- One power changed. -/
theorem InA.set_nat : ∀ (n : Nat) {l : List Offer} {xs : List Int} {v : Int}, InA l xs → n < l.length → 0 ≤ v → v ≤ sumO (l.getD n z29).f1 →
    InA l (xs.set n v) ∧ sumI (xs.set n v) = sumI xs - xs.getD n 0 + v ∧ costA l (xs.set n v) = costA l xs - costO (l.getD n z29).f1 (xs.getD n 0) + costO (l.getD n z29).f1 v
  | _, [], _, _, _, h1, _, _ => by simp at h1
  | _, _ :: _, [], _, h, _, _, _ => h.elim
  | 0, o :: r, x :: xs, v, h, h1, v0, v1 => by
    simp only [List.getD_cons_zero] at v1
    simp only [List.set_cons_zero, InA, sumI, costA, List.getD_cons_zero]
    exact ⟨⟨v0, v1, h.2.2⟩, by omega, by omega⟩
  | n + 1, o :: r, x :: xs, v, h, h1, v0, v1 => by
    simp only [List.getD_cons_succ] at v1
    obtain ⟨a, b, c⟩ := InA.set_nat n (v := v) h.2.2 (by simpa using h1) v0 v1
    simp only [List.set_cons_succ, InA, sumI, costA, List.getD_cons_succ]
    exact ⟨⟨h.1, h.2.1, a⟩, by omega, by omega⟩
def lastI (l : List Offer) (ps : List Int) (i : Int) : Int := lastO (-2000000) (rd_T29 l i).f1 (rd ps i)
def nextI (l : List Offer) (ps : List Int) (i : Int) : Int := nextO (rd_T29 l i).f1 (rd ps i)
/-- A unit can be moved. -/
def PairI (l : List Offer) (ps : List Int) (i k : Int) : Prop := 0 ≤ i ∧ i < (l.length : Int) ∧ 0 ≤ k ∧ k < (l.length : Int) ∧ i ≠ k ∧ 0 < rd ps i ∧ rd ps k < sumO (rd_T29 l k).f1
def MoveSo (l : List Offer) (ps : List Int) (f t b : Int) (seen : Int → Int → Prop) : Prop :=
  (b = 0 ∨ PairI l ps f t ∧ b = lastI l ps f - nextI l ps t) ∧ 0 ≤ b ∧ b ≤ 4000000 ∧ ∀ i k, seen i k → PairI l ps i k → lastI l ps i - nextI l ps k ≤ b
theorem MoveSo.more {l : List Offer} {ps : List Int} {f t b : Int} {s s' : Int → Int → Prop} (h : MoveSo l ps f t b s) (hs : ∀ i k, s' i k → PairI l ps i k → s i k ∨ lastI l ps i - nextI l ps k ≤ b) : MoveSo l ps f t b s' :=
  ⟨h.1, h.2.1, h.2.2.1, fun i k a p => (hs i k a p).elim (fun g => h.2.2.2 i k g p) (fun g => g)⟩
theorem move_inner {l : List Offer} {ps : List Int} (h : AllOk l) (hin : InA l ps) {R : Int × Int × Int × Int → Prop} (i : Int) (i0 : 0 ≤ i) (i1 : i < (l.length : Int))
    (K : ∀ f t b, MoveSo l ps f t b (fun i' _ => i' < i + 1) → ∃ r, Ev (fun k => welfare_Move.l0 k l ps f t b l (l.length : Int) (wrap64 (i + 1))) r ∧ R r) :
    ∀ (d : Nat) (j f t b : Int), 0 ≤ j → j ≤ (l.length : Int) → (l.length : Int) - j = d → MoveSo l ps f t b (fun i' k' => i' < i ∨ i' = i ∧ k' < j) →
    ∃ r, Ev (fun k => welfare_Move.l1 k l ps f t b i (lastI l ps i) l (l.length : Int) i l (l.length : Int) j) r ∧ R r := by
  have hlen := h.1
  have hpl := hin.length
  intro d
  induction d with
  | zero =>
    intro j f t b h0 h1 hd hm
    obtain ⟨r, hr, hR⟩ := K f t b (hm.more (fun i' k' a p => .inl (by
      have := p.2.2.2.1
      by_cases c : i' = i
      · exact .inr ⟨c, by omega⟩
      · exact .inl (by omega))))
    refine ⟨r, Ev.step (fun k => by rw [welfare_Move.l1]) (Ev.neg (by omega) hr), hR⟩
  | succ d ih =>
    intro j f t b h0 h1 hd hm
    have hx := h.2 (rd_T29 l j) (getD_mem h0 (by omega))
    have hxi := h.2 (rd_T29 l i) (getD_mem i0 i1)
    have pj := hin.at_ h0 (by omega)
    have nb := nextO_bound (p := rd ps j) hx.valid.range
    have lb := lastO_bound (a := -2000000) (p := rd ps i) hxi.valid.range (by omega) (by omega)
    have hmg := offer_Marginal_in hx.ev hx.valid pj.1 pj.2
    have hw : wrap64 (j + 1) = j + 1 := w64 (by omega) (by omega)
    have hil : i < (ps.length : Int) := by omega
    by_cases c1 : i = j
    · obtain ⟨r, hr, hR⟩ := ih (j + 1) f t b (by omega) (by omega) (by omega) (hm.more (fun i' k' a p => .inl (by
        have := p.2.2.2.2.1
        omega)))
      refine ⟨r, Ev.step (fun k => by rw [welfare_Move.l1]) (Ev.pos (by omega) (Ev.pos h0 (Ev.pos (by omega) (Ev.pos (by omega) (Ev.bind hmg (Ev.pos c1 ?_)))))), hR⟩
      rw [hw]
      exact hr
    · by_cases c2 : rd ps i > 0
      · by_cases c3 : rd ps j < sumO (rd_T29 l j).f1
        · have pr : PairI l ps i j := ⟨i0, i1, h0, by omega, c1, c2, c3⟩
          have hw2 : wrap64 (lastI l ps i - nextO (rd_T29 l j).f1 (rd ps j)) = lastI l ps i - nextI l ps j := w64 (by unfold lastI; omega) (by unfold lastI; omega)
          have lI : lastI l ps i - nextI l ps j ≤ 4000000 := by unfold lastI nextI; omega
          by_cases c4 : lastI l ps i - nextI l ps j > b
          · obtain ⟨r, hr, hR⟩ := ih (j + 1) i j (lastI l ps i - nextI l ps j) (by omega) (by omega) (by omega) ⟨.inr ⟨pr, rfl⟩, by have := hm.2.1; omega, lI, fun i' k' a p => by
              by_cases g : i' < i ∨ i' = i ∧ k' < j
              · have := hm.2.2.2 i' k' g p
                omega
              · obtain ⟨rfl, rfl⟩ : i' = i ∧ k' = j := by omega
                exact Int.le_refl _⟩
            refine ⟨r, Ev.step (fun k => by rw [welfare_Move.l1]) (Ev.pos (by omega) (Ev.pos h0 (Ev.pos (by omega) (Ev.pos (by omega) (Ev.bind hmg (Ev.neg c1 (Ev.pos i0 (Ev.pos hil (Ev.pos c2 (Ev.bind (offer_Most_ev _ hx.valid) (Ev.pos c3 ?_))))))))))), hR⟩
            simp only
            rw [hw2, hw]
            exact Ev.pos c4 hr
          · obtain ⟨r, hr, hR⟩ := ih (j + 1) f t b (by omega) (by omega) (by omega) (hm.more (fun i' k' a p => by
              by_cases g : i' < i ∨ i' = i ∧ k' < j
              · exact .inl g
              · obtain ⟨rfl, rfl⟩ : i' = i ∧ k' = j := by omega
                exact .inr (by omega)))
            refine ⟨r, Ev.step (fun k => by rw [welfare_Move.l1]) (Ev.pos (by omega) (Ev.pos h0 (Ev.pos (by omega) (Ev.pos (by omega) (Ev.bind hmg (Ev.neg c1 (Ev.pos i0 (Ev.pos hil (Ev.pos c2 (Ev.bind (offer_Most_ev _ hx.valid) (Ev.pos c3 ?_))))))))))), hR⟩
            simp only
            rw [hw2, hw]
            exact Ev.neg c4 hr
        · obtain ⟨r, hr, hR⟩ := ih (j + 1) f t b (by omega) (by omega) (by omega) (hm.more (fun i' k' a p => .inl (by
            by_cases g : i' < i ∨ i' = i ∧ k' < j
            · exact g
            · obtain ⟨rfl, rfl⟩ : i' = i ∧ k' = j := by omega
              exact absurd p.2.2.2.2.2.2 c3)))
          refine ⟨r, Ev.step (fun k => by rw [welfare_Move.l1]) (Ev.pos (by omega) (Ev.pos h0 (Ev.pos (by omega) (Ev.pos (by omega) (Ev.bind hmg (Ev.neg c1 (Ev.pos i0 (Ev.pos hil (Ev.pos c2 (Ev.bind (offer_Most_ev _ hx.valid) (Ev.neg c3 ?_))))))))))), hR⟩
          rw [hw]
          exact hr
      · obtain ⟨r, hr, hR⟩ := ih (j + 1) f t b (by omega) (by omega) (by omega) (hm.more (fun i' k' a p => .inl (by
          by_cases g : i' < i ∨ i' = i ∧ k' < j
          · exact g
          · obtain ⟨rfl, rfl⟩ : i' = i ∧ k' = j := by omega
            exact absurd p.2.2.2.2.2.1 c2)))
        refine ⟨r, Ev.step (fun k => by rw [welfare_Move.l1]) (Ev.pos (by omega) (Ev.pos h0 (Ev.pos (by omega) (Ev.pos (by omega) (Ev.bind hmg (Ev.neg c1 (Ev.pos i0 (Ev.pos hil (Ev.neg c2 ?_))))))))), hR⟩
        rw [hw]
        exact hr
/-- What Move answers for powers of the offers. -/
def MoveRes (l : List Offer) (ps : List Int) (r : Int × Int × Int × Int) : Prop :=
  (r.2.2.2 = 8 ∧ ∀ i k, PairI l ps i k → lastI l ps i - nextI l ps k ≤ 0) ∨ (r.2.2.2 = 0 ∧ PairI l ps r.1 r.2.1 ∧ 0 < r.2.2.1 ∧ r.2.2.1 = lastI l ps r.1 - nextI l ps r.2.1 ∧ r.2.2.1 ≤ 4000000)
theorem move_loop {l : List Offer} {ps : List Int} (h : AllOk l) (hin : InA l ps) : ∀ (d : Nat) (i f t b : Int), 0 ≤ i → i ≤ (l.length : Int) → (l.length : Int) - i = d → MoveSo l ps f t b (fun i' _ => i' < i) →
    ∃ r, Ev (fun k => welfare_Move.l0 k l ps f t b l (l.length : Int) i) r ∧ MoveRes l ps r := by
  have hlen := h.1
  have hpl := hin.length
  intro d
  induction d with
  | zero =>
    intro i f t b h0 h1 hd hm
    by_cases c : b = 0
    · exact ⟨(0, 0, 0, 8), Ev.step (fun k => by rw [welfare_Move.l0]) (Ev.neg (by omega) (Ev.pos c (Ev.now _))), .inl ⟨rfl, fun i' k' p => by
        have := hm.2.2.2 i' k' (by have := p.2.1; omega) p
        omega⟩⟩
    · refine ⟨(f, t, b, 0), Ev.step (fun k => by rw [welfare_Move.l0]) (Ev.neg (by omega) (Ev.neg c (Ev.now _))), .inr ?_⟩
      rcases hm.1 with g | g
      · exact absurd g c
      · exact ⟨rfl, g.1, by have := hm.2.1; simp only; omega, g.2, hm.2.2.1⟩
  | succ d ih =>
    intro i f t b h0 h1 hd hm
    have hx := h.2 (rd_T29 l i) (getD_mem h0 (by omega))
    have pj := hin.at_ h0 (by omega)
    have hmg := offer_Marginal_in hx.ev hx.valid pj.1 pj.2
    have hw : wrap64 (i + 1) = i + 1 := w64 (by omega) (by omega)
    obtain ⟨r, hr, hR⟩ := move_inner h hin (R := MoveRes l ps) i h0 (by omega) (fun f' t' b' hm' => by
      rw [hw]
      exact ih (i + 1) f' t' b' (by omega) (by omega) (by omega) hm') l.length 0 f t b (by omega) (by omega) (by omega) (hm.more (fun i' k' a p => .inl (by have := p.2.2.1; omega)))
    refine ⟨r, Ev.step (fun k => by rw [welfare_Move.l0]) (Ev.pos (by omega) (Ev.pos h0 (Ev.pos (by omega) (Ev.pos (by omega) (Ev.bind hmg ?_))))), hR⟩
    exact hr
theorem move_in {l : List Offer} (ho : okOffers l) (hc : Ev (fun k => offer_CheckAll.f k l) 0) (h : AllOk l) {ps : List Int} (hin : InA l ps) : ∃ r, Ev (fun k => welfare_Move.f k l ps) r ∧ MoveRes l ps r := by
  obtain ⟨r, hr, hR⟩ := move_loop h hin l.length 0 0 0 0 (by omega) (by omega) (by omega) ⟨.inl rfl, by omega, by omega, fun i k a p => by have := p.1; omega⟩
  exact ⟨r, by unfold welfare_Move.f; exact Ev.bind (dcost_in ho hc hin) (Ev.pos rfl hr), hR⟩
/-- What a move does. -/
theorem move_does {l : List Offer} (h : AllOk l) {ps : List Int} (hin : InA l ps) {i k : Int} (p : PairI l ps i k) :
    InA l ((ps.set i.toNat (rd ps i - 1)).set k.toNat (rd ps k + 1)) ∧ sumI ((ps.set i.toNat (rd ps i - 1)).set k.toNat (rd ps k + 1)) = sumI ps ∧
    costA l ((ps.set i.toNat (rd ps i - 1)).set k.toNat (rd ps k + 1)) = costA l ps - (lastI l ps i - nextI l ps k) := by
  obtain ⟨i0, i1, k0, k1, hne, hi, hk⟩ := p
  have pi := hin.at_ i0 i1
  have pk := hin.at_ k0 k1
  have hpl := hin.length
  have vi := (h.2 (rd_T29 l i) (getD_mem i0 i1)).valid
  have vk := (h.2 (rd_T29 l k) (getD_mem k0 k1)).valid
  obtain ⟨a1, a2, a3⟩ := InA.set_nat i.toNat (v := rd ps i - 1) hin (by omega) (by omega) (by have := pi.2; unfold rd_T29 at this; omega)
  have hrk : (ps.set i.toNat (rd ps i - 1)).getD k.toNat 0 = rd ps k := by
    unfold rd
    simp only [List.getD_eq_getElem?_getD]
    rw [List.getElem?_set_ne (by omega)]
  obtain ⟨b1, b2, b3⟩ := InA.set_nat k.toNat (v := rd ps k + 1) a1 (by omega) (by omega) (by unfold rd_T29 at hk; omega)
  rw [hrk] at b2 b3
  have e1 : ps.getD i.toNat 0 = rd ps i := rfl
  have e2 : l.getD i.toNat z29 = rd_T29 l i := rfl
  have e3 : l.getD k.toNat z29 = rd_T29 l k := rfl
  rw [e1] at a2 a3
  rw [e2] at a3
  rw [e3] at b3
  refine ⟨b1, by omega, ?_⟩
  have c1 := costO_succ (p := rd ps i - 1) vi.range (by omega) (by omega)
  rw [show rd ps i - 1 + 1 = rd ps i by omega] at c1
  have c2 := costO_succ (p := rd ps k) vk.range pk.1 hk
  have c3 := lastO_next (a := -2000000) vi.range hi pi.2
  unfold lastI nextI
  omega
theorem earns_at {q : Int} : ∀ {l : List Offer} {ps : List Int}, InA l ps → (∀ n, n < l.length → lowO (l.getD n z29).f1 q ≤ ps.getD n 0 ∧ ps.getD n 0 ≤ highO (l.getD n z29).f1 q) → Earns q l ps
  | [], [], _, _ => trivial
  | o :: r, x :: xs, h, g => by
    have g0 := g 0 (by simp)
    simp only [List.getD_cons_zero] at g0
    exact ⟨g0.1, g0.2, earns_at h.2.2 (fun n hn => by have := g (n + 1) (by simpa using hn); simpa only [List.getD_cons_succ] using this)⟩
  | [], _ :: _, h, _ => h.elim
  | _ :: _, [], h, _ => h.elim
theorem greatest_last {l : List Offer} {ps : List Int} : ∀ (n : Nat), (∃ m : Int, 0 ≤ m ∧ m < n ∧ 0 < rd ps m ∧ ∀ j : Int, 0 ≤ j → j < n → 0 < rd ps j → lastI l ps j ≤ lastI l ps m) ∨ (∀ j : Int, 0 ≤ j → j < n → rd ps j ≤ 0)
  | 0 => .inr (fun j a b => by omega)
  | n + 1 => by
    by_cases c : 0 < rd ps (n : Int)
    · rcases greatest_last (l := l) (ps := ps) n with ⟨m, m0, m1, mp, hm⟩ | hz
      · by_cases g : lastI l ps m ≤ lastI l ps n
        · refine .inl ⟨n, by omega, by omega, c, fun j a b p => ?_⟩
          by_cases e : j = n
          · rw [e]
            exact Int.le_refl _
          · have := hm j a (by omega) p
            omega
        · refine .inl ⟨m, m0, by omega, mp, fun j a b p => ?_⟩
          by_cases e : j = n
          · rw [e]
            omega
          · exact hm j a (by omega) p
      · refine .inl ⟨n, by omega, by omega, c, fun j a b p => ?_⟩
        by_cases e : j = n
        · rw [e]
          exact Int.le_refl _
        · have := hz j a (by omega)
          omega
    · rcases greatest_last (l := l) (ps := ps) n with ⟨m, m0, m1, mp, hm⟩ | hz
      · refine .inl ⟨m, m0, by omega, mp, fun j a b p => ?_⟩
        by_cases e : j = n
        · rw [e] at p
          exact absurd p c
        · exact hm j a (by omega) p
      · refine .inr (fun j a b => ?_)
        by_cases e : j = n
        · rw [e]
          omega
        · exact hz j a (by omega)
/-- Where no move saves anything, all powers earn most at one price. -/
theorem no_move {l : List Offer} (h : AllOk l) {ps : List Int} (hin : InA l ps) (hn : ∀ i k, PairI l ps i k → lastI l ps i - nextI l ps k ≤ 0) : ∃ q, Earns q l ps := by
  have key : ∃ q, (∀ j : Int, 0 ≤ j → j < (l.length : Int) → 0 < rd ps j → lastI l ps j ≤ q) ∧ (∀ j : Int, 0 ≤ j → j < (l.length : Int) → rd ps j < sumO (rd_T29 l j).f1 → q ≤ nextI l ps j) := by
    rcases greatest_last (l := l) (ps := ps) l.length with ⟨m, m0, m1, mp, hm⟩ | hz
    · refine ⟨lastI l ps m, hm, fun j a b p => ?_⟩
      by_cases e : m = j
      · subst e
        have vm := (h.2 (rd_T29 l m) (getD_mem m0 m1)).valid
        have pm := hin.at_ m0 m1
        have c3 := lastO_next (a := -2000000) vm.range mp pm.2
        have c4 := nextO_mono (p := rd ps m - 1) vm.range vm.rising
        rw [show rd ps m - 1 + 1 = rd ps m by omega] at c4
        unfold lastI nextI
        omega
      · have := hn m j ⟨m0, m1, a, b, e, mp, p⟩
        omega
    · refine ⟨-2000000, fun j a b p => ?_, fun j a b p => ?_⟩
      · have := hz j a b
        omega
      · exact (nextO_bound (h.2 (rd_T29 l j) (getD_mem a b)).valid.range).1
  obtain ⟨q, q1, q2⟩ := key
  refine ⟨q, earns_at hin (fun n hn => ?_)⟩
  have a : (0 : Int) ≤ (n : Int) := by omega
  have b : (n : Int) < (l.length : Int) := by omega
  have v := (h.2 (rd_T29 l n) (getD_mem a b)).valid
  have p := hin.at_ a b
  have e1 : ps.getD n 0 = rd ps (n : Int) := rfl
  have e2 : l.getD n z29 = rd_T29 l (n : Int) := rfl
  rw [e1, e2]
  refine ⟨low_next v.range v.rising p.1 p.2 (fun g => q2 n a b g), high_next v.range v.rising p.1 p.2 (fun g => ?_)⟩
  have := q1 n a b g
  unfold lastI at this
  rw [lastO_next v.range g p.2] at this
  exact this
end Go.Proofs.Ytlfhabekhfahbaa.P
