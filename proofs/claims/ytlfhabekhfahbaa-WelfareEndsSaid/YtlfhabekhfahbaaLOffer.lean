/- What the printed functions of package offer answer, in plain words (lemmas; no statement is proved here). -/
import Derived.Test.YtlfhabekhfahbaaEvp
import Derived.Test.YtlfhabekhfahbaaOk
import Derived.Test.YtlfhabekhfahbaaPx1
import Derived.Test.YtlfhabekhfahbaaPx2
import Derived.Test.YtlfhabekhfahbaaPx4
import Derived.Test.YtlfhabekhfahbaaPx5
import Derived.Test.YtlfhabekhfahbaaPx7
import Derived.Test.YtlfhabekhfahbaaPx14
import Derived.Test.YtlfhabekhfahbaaPx20
namespace Go.Proofs.Ytlfhabekhfahbaa.P
set_option linter.unusedVariables false
set_option linter.unusedSimpArgs false
open Go.RowKit Go.Proofs.YtlfhabekhfahbaaW.PrintWords Go.Proofs.YtlfhabekhfahbaaW.PrintMore Go.Proofs.Ytlfhabekhfahbaa.Opn Go.Proofs.Ytlfhabekhfahbaa.Evp

abbrev OStep := S52
theorem dropS {l : List OStep} {i : Int} (h0 : 0 ≤ i) (h1 : i < (l.length : Int)) : l.drop i.toNat = rd_T52 l i :: l.drop (i + 1).toNat := drop_getD _ h0 h1

/-! names -/
theorem offer_named_loop (s : ByteArray) (hs : StrOk s) : ∀ (d : Nat) (i : Int), 0 ≤ i → i ≤ (s.size : Int) → (s.size : Int) - i = d → EvP (fun k => offer_named.l0 k s (s.size : Int) i) (fun _ => True) := by
  unfold StrOk at hs
  intro d
  induction d with
  | zero =>
    intro i h0 h1 hd
    refine EvP.step (fun k => by rw [offer_named.l0]) ?_
    exact EvP.neg (by omega) (EvP.ret trivial)
  | succ d ih =>
    intro i h0 h1 hd
    refine EvP.step (fun k => by rw [offer_named.l0]) ?_
    refine EvP.pos (by omega) (EvP.pos h0 (EvP.pos (by omega) ?_))
    have h := ih (i + 1) (by omega) (by omega) (by omega)
    rw [w64 (by omega) (by omega)]
    repeat' (with_reducible refine EvP.ite (fun _ => ?_) (fun _ => ?_))
    all_goals first | exact EvP.ret trivial | exact h
theorem offer_named_some (s : ByteArray) (hs : StrOk s) : ∃ b, Ev (fun k => offer_named.f k s) b := by
  have h : EvP (fun k => offer_named.f k s) (fun _ => True) := by
    unfold offer_named.f
    have hj : ∀ b, EvP (fun k => offer_named.j0 k s b) (fun _ => True) := by
      intro b
      refine EvP.step (fun k => by rw [offer_named.j0]) ?_
      exact EvP.ite (fun _ => EvP.ret trivial) (fun _ => offer_named_loop s hs s.size 0 (by omega) (by omega) (by omega))
    refine EvP.ite (fun _ => hj _) (fun h1 => EvP.ite (fun _ => hj _) (fun _ => ?_))
    have h2 : 0 < (s.size : Int) := by
      rcases Nat.eq_zero_or_pos s.size with h | h
      · exact absurd (toList_nil h) h1
      · omega
    exact EvP.pos h2 (EvP.ite (fun _ => hj _) (fun _ => hj _))
  obtain ⟨b, hb, _⟩ := h
  exact ⟨b, hb⟩


/-! the check -/
def okFrom : Int → Option Int → List OStep → Prop
  | _, _, [] => True
  | acc, prev, s :: r => 1 ≤ s.f0 ∧ s.f0 ≤ 100000 ∧ -1000000 ≤ s.f1 ∧ s.f1 ≤ 1000000 ∧ (∀ p, prev = some p → p ≤ s.f1) ∧ acc + s.f0 ≤ 100000 ∧ okFrom (acc + s.f0) (some s.f1) r
def prevAt (st : List OStep) (i : Int) : Option Int := if 0 < i then some (rd_T52 st (i - 1)).f1 else none
def ValidO (st : List OStep) : Prop := st.length ≤ 12 ∧ okFrom 0 none st

theorem offer_Check_loop (nm : ByteArray) (st : List OStep) (hl : st.length ≤ 12) : ∀ (d : Nat) (i acc : Int), 0 ≤ i → i ≤ (st.length : Int) → (st.length : Int) - i = d → 0 ≤ acc → acc ≤ 100000 →
    EvP (fun k => offer_Check.l0 k acc st (st.length : Int) i nm st) (fun e => 0 ≤ e ∧ e ≤ 4 ∧ (e = 0 ↔ okFrom acc (prevAt st i) (st.drop i.toNat))) := by
  intro d
  induction d with
  | zero =>
    intro i acc h0 h1 hd ha hb
    refine EvP.step (fun k => by rw [offer_Check.l0]) ?_
    refine EvP.neg (by omega) (EvP.ret ⟨by omega, by omega, ?_⟩)
    rw [drop_end (by omega)]
    simp [okFrom]
  | succ d ih =>
    intro i acc h0 h1 hd ha hb
    refine EvP.step (fun k => by rw [offer_Check.l0]) ?_
    refine EvP.pos (by omega) (EvP.pos h0 (EvP.pos (by omega) ?_))
    rw [dropS h0 (by omega)]
    obtain ⟨x, hx⟩ : ∃ x, x = rd_T52 st i := ⟨_, rfl⟩
    rw [← hx]
    -- the second test
    have j2 : ∀ b : Bool, 1 ≤ x.f0 → x.f0 ≤ 100000 → -1000000 ≤ x.f1 → x.f1 ≤ 1000000 → (b = true ↔ ¬ ∀ p, prevAt st i = some p → p ≤ x.f1) →
        EvP (fun k => offer_Check.j2 k acc st (st.length : Int) i b nm st x.f0 x.f1) (fun e => 0 ≤ e ∧ e ≤ 4 ∧ (e = 0 ↔ okFrom acc (prevAt st i) (x :: st.drop (i + 1).toNat))) := by
      intro b g1 g2 g3 g4 g5
      refine EvP.step (fun k => by rw [offer_Check.j2]) ?_
      refine EvP.ite (fun hb' => EvP.ret ⟨by omega, by omega, ?_⟩) (fun hb' => ?_)
      · have := g5.1 hb'
        simp only [okFrom]
        constructor
        · intro h; omega
        · intro h; exact absurd h.2.2.2.2.1 this
      · have g6 : ∀ p, prevAt st i = some p → p ≤ x.f1 := Classical.byContradiction fun h => hb' (g5.2 h)
        rw [w64 (by omega) (by omega)]
        refine EvP.ite (fun hc => EvP.ret ⟨by omega, by omega, ?_⟩) (fun hc => ?_)
        · simp only [okFrom]
          constructor
          · intro h; omega
          · intro h; omega
        · have h := ih (i + 1) (acc + x.f0) (by omega) (by omega) (by omega) (by omega) (by omega)
          rw [w64 (by omega) (by omega)]
          refine h.mono fun e he => ⟨he.1, he.2.1, he.2.2.trans ?_⟩
          have hp : prevAt st (i + 1) = some x.f1 := by
            unfold prevAt
            rw [if_pos (by omega), show i + 1 - 1 = i by omega, ← hx]
          rw [hp]
          simp only [okFrom]
          constructor
          · intro h; exact ⟨g1, g2, g3, g4, g6, by omega, h⟩
          · intro h; exact h.2.2.2.2.2.2
    have j1 : ∀ b : Bool, (b = true ↔ ¬ (1 ≤ x.f0 ∧ x.f0 ≤ 100000 ∧ -1000000 ≤ x.f1 ∧ x.f1 ≤ 1000000)) →
        EvP (fun k => offer_Check.j1 k acc i st (st.length : Int) i b nm st x.f0 x.f1) (fun e => 0 ≤ e ∧ e ≤ 4 ∧ (e = 0 ↔ okFrom acc (prevAt st i) (x :: st.drop (i + 1).toNat))) := by
      intro b g
      refine EvP.step (fun k => by rw [offer_Check.j1]) ?_
      refine EvP.ite (fun hb' => EvP.ret ⟨by omega, by omega, ?_⟩) (fun hb' => ?_)
      · have := g.1 hb'
        simp only [okFrom]
        constructor
        · intro h; omega
        · intro h; exact absurd ⟨h.1, h.2.1, h.2.2.1, h.2.2.2.1⟩ this
      · obtain ⟨g1, g2, g3, g4⟩ := Classical.byContradiction fun h => hb' (g.2 h)
        refine EvP.ite (fun hi => ?_) (fun hi => ?_)
        · rw [w64 (by omega) (by omega)]
          refine EvP.pos (by omega) (EvP.pos (by omega) (j2 _ g1 g2 g3 g4 ?_))
          unfold prevAt
          rw [if_pos (by omega)]
          simp
        · refine j2 _ g1 g2 g3 g4 ?_
          unfold prevAt
          rw [if_neg (by omega)]
          simp
    refine EvP.ite (fun c => j1 _ (by simp; omega)) (fun c1 => EvP.ite (fun c => j1 _ (by simp; omega)) (fun c2 => EvP.ite (fun c => j1 _ (by simp; omega)) (fun c3 => j1 _ (by simp; omega))))

/-- What Check answers: 0 for named and valid offers alone. -/
theorem offer_Check_some (nm : ByteArray) (st : List OStep) (hs : StrOk nm) : ∃ e, Ev (fun k => offer_Check.f k nm st) e ∧ 0 ≤ e ∧ e ≤ 6 ∧ (e = 0 ↔ Ev (fun k => offer_named.f k nm) true ∧ ValidO st) := by
  obtain ⟨b, hb⟩ := offer_named_some nm hs
  have h : EvP (fun k => offer_Check.f k nm st) (fun e => 0 ≤ e ∧ e ≤ 6 ∧ (e = 0 ↔ Ev (fun k => offer_named.f k nm) true ∧ ValidO st)) := by
    unfold offer_Check.f
    refine EvP.bindE hb ?_
    refine EvP.ite (fun hb' => ?_) (fun hb' => EvP.ret ⟨by omega, by omega, ?_⟩)
    · subst hb'
      refine EvP.ite (fun hc => EvP.ret ⟨by omega, by omega, ?_⟩) (fun hc => ?_)
      · constructor
        · intro h; omega
        · intro h; have := h.2.1; omega
      · refine (offer_Check_loop nm st (by omega) st.length 0 0 (by omega) (by omega) (by omega) (by omega) (by omega)).mono fun e he => ⟨he.1, by omega, he.2.2.trans ?_⟩
        constructor
        · intro h; exact ⟨hb, by omega, h⟩
        · intro h; exact h.2.2
    · constructor
      · intro h; omega
      · intro h; exact absurd (Ev.det hb h.1) hb'
  obtain ⟨e, he, hp⟩ := h
  exact ⟨e, he, hp⟩

/-! what a valid offer bears -/
def RangeO (st : List OStep) : Prop := ∀ s ∈ st, 1 ≤ s.f0 ∧ s.f0 ≤ 100000 ∧ -1000000 ≤ s.f1 ∧ s.f1 ≤ 1000000
def sumO : List OStep → Int
  | [] => 0
  | s :: r => s.f0 + sumO r
/-- Prices never fall. -/
def Rising : List OStep → Prop
  | [] => True
  | s :: r => (∀ t ∈ r, s.f1 ≤ t.f1) ∧ Rising r
theorem okFrom_range : ∀ {st : List OStep} {acc : Int} {p : Option Int}, okFrom acc p st → RangeO st
  | [], _, _, _ => fun s h => by cases h
  | s :: r, acc, p, h => fun t ht => by
    rcases List.mem_cons.1 ht with rfl | ht
    · exact ⟨h.1, h.2.1, h.2.2.1, h.2.2.2.1⟩
    · exact okFrom_range h.2.2.2.2.2.2 t ht
theorem okFrom_le : ∀ {st : List OStep} {acc q : Int}, okFrom acc (some q) st → ∀ t ∈ st, q ≤ t.f1
  | [], _, _, _ => fun t h => by cases h
  | s :: r, acc, q, h => fun t ht => by
    have h1 := h.2.2.2.2.1 q rfl
    rcases List.mem_cons.1 ht with rfl | ht
    · exact h1
    · have := okFrom_le h.2.2.2.2.2.2 t ht
      omega
theorem okFrom_rising : ∀ {st : List OStep} {acc : Int} {p : Option Int}, okFrom acc p st → Rising st
  | [], _, _, _ => trivial
  | s :: r, acc, p, h => ⟨okFrom_le h.2.2.2.2.2.2, okFrom_rising h.2.2.2.2.2.2⟩
theorem okFrom_sum : ∀ {st : List OStep} {acc : Int} {p : Option Int}, acc ≤ 100000 → okFrom acc p st → acc + sumO st ≤ 100000
  | [], acc, _, ha, _ => by simp [sumO]; exact ha
  | s :: r, acc, p, ha, h => by
    have := okFrom_sum h.2.2.2.2.2.1 h.2.2.2.2.2.2
    simp only [sumO]
    omega
theorem sumO_nonneg : ∀ {st : List OStep}, RangeO st → 0 ≤ sumO st
  | [], _ => by simp [sumO]
  | s :: r, h => by
    have h1 := h s List.mem_cons_self
    have h2 := sumO_nonneg (st := r) (fun t ht => h t (List.mem_cons_of_mem _ ht))
    simp only [sumO]
    omega
theorem ValidO.range {st : List OStep} (h : ValidO st) : RangeO st := okFrom_range h.2
theorem ValidO.rising {st : List OStep} (h : ValidO st) : Rising st := okFrom_rising h.2
theorem ValidO.sum {st : List OStep} (h : ValidO st) : 0 ≤ sumO st ∧ sumO st ≤ 100000 := ⟨sumO_nonneg h.range, by have := okFrom_sum (by omega) h.2; omega⟩
theorem RangeO.tail {s : OStep} {r : List OStep} (h : RangeO (s :: r)) : RangeO r := fun t ht => h t (List.mem_cons_of_mem _ ht)
theorem RangeO.drop {st : List OStep} (h : RangeO st) (n : Nat) : RangeO (st.drop n) := fun t ht => h t (List.mem_of_mem_drop ht)

/-! the power of an offer -/
theorem offer_Most_loop (st : List OStep) (hl : st.length ≤ 12) (hr : RangeO st) : ∀ (d : Nat) (i acc : Int), 0 ≤ i → i ≤ (st.length : Int) → (st.length : Int) - i = d → 0 ≤ acc → acc ≤ 100000 * (12 - d) →
    Ev (fun k => offer_Most.l0 k acc st (st.length : Int) i) (acc + sumO (st.drop i.toNat)) := by
  intro d
  induction d with
  | zero =>
    intro i acc h0 h1 hd ha hb
    refine Ev.step (fun k => by rw [offer_Most.l0]) ?_
    rw [drop_end (by omega)]
    simp only [sumO, Int.add_zero]
    exact Ev.neg (by omega) (Ev.now _)
  | succ d ih =>
    intro i acc h0 h1 hd ha hb
    refine Ev.step (fun k => by rw [offer_Most.l0]) ?_
    refine Ev.pos (by omega) (Ev.pos h0 (Ev.pos (by omega) ?_))
    rw [dropS h0 (by omega)]
    have hx := hr (rd_T52 st i) (getD_mem h0 (by omega))
    show Ev (fun k => offer_Most.l0 k (wrap64 (acc + (rd_T52 st i).f0)) st (st.length : Int) (wrap64 (i + 1))) _
    rw [w64 (by omega) (by omega), w64 (by omega) (by omega)]
    have h := ih (i + 1) (acc + (rd_T52 st i).f0) (by omega) (by omega) (by omega) (by omega) (by omega)
    simp only [sumO]
    rw [← Int.add_assoc]
    exact h
theorem offer_Most_ev (nm : ByteArray) {st : List OStep} (h : ValidO st) : Ev (fun k => offer_Most.f k nm st) (sumO st) := by
  unfold offer_Most.f
  have := offer_Most_loop st h.1 h.range st.length 0 0 (by omega) (by omega) (by omega) (by omega) (by have := h.1; omega)
  simpa using this

/-! costs -/
def costO : List OStep → Int → Int
  | [], _ => 0
  | s :: r, p => mn p s.f0 * s.f1 + costO r (p - mn p s.f0)
/-- A price times a number of units lies within a million times the units. -/
theorem price_mul {n p : Int} (hn : 0 ≤ n) (h1 : -1000000 ≤ p) (h2 : p ≤ 1000000) : -(1000000 * n) ≤ n * p ∧ n * p ≤ 1000000 * n := by
  have e1 : 0 ≤ n * (1000000 - p) := Int.mul_nonneg hn (by omega)
  have e2 : 0 ≤ n * (1000000 + p) := Int.mul_nonneg hn (by omega)
  rw [Int.mul_sub] at e1
  rw [Int.mul_add] at e2
  omega
theorem costO_bound : ∀ {st : List OStep} {p : Int}, RangeO st → 0 ≤ p → -(1000000 * p) ≤ costO st p ∧ costO st p ≤ 1000000 * p
  | [], p, _, hp => by simp only [costO]; omega
  | s :: r, p, h, hp => by
    have hs := h s List.mem_cons_self
    have hm := mn_le p s.f0
    have h1 := price_mul (n := mn p s.f0) (p := s.f1) (by omega) hs.2.2.1 hs.2.2.2
    have h2 := costO_bound (st := r) (p := p - mn p s.f0) h.tail (by omega)
    simp only [costO]
    omega
theorem costO_zero : ∀ {st : List OStep}, RangeO st → costO st 0 = 0
  | [], _ => rfl
  | s :: r, h => by
    have hs := h s List.mem_cons_self
    have hm : mn 0 s.f0 = 0 := by unfold mn; rw [if_neg (by omega)]
    simp only [costO, hm, Int.zero_mul, Int.sub_zero, Int.zero_add]
    exact costO_zero h.tail
theorem offer_Cost_loop (st : List OStep) (hl : st.length ≤ 12) (hr : RangeO st) : ∀ (d : Nat) (i p acc : Int), 0 ≤ i → i ≤ (st.length : Int) → (st.length : Int) - i = d → 0 ≤ p → p ≤ 100000 →
    -(1000000 * (100000 - p)) ≤ acc → acc ≤ 1000000 * (100000 - p) → Ev (fun k => offer_Cost.l0 k p acc st (st.length : Int) i) (acc + costO (st.drop i.toNat) p, 0) := by
  intro d
  induction d with
  | zero =>
    intro i p acc h0 h1 hd hp hp2 ha hb
    refine Ev.step (fun k => by rw [offer_Cost.l0]) ?_
    rw [drop_end (by omega)]
    simp only [costO, Int.add_zero]
    exact Ev.neg (by omega) (Ev.now _)
  | succ d ih =>
    intro i p acc h0 h1 hd hp hp2 ha hb
    refine Ev.step (fun k => by rw [offer_Cost.l0]) ?_
    refine Ev.pos (by omega) (Ev.pos h0 (Ev.pos (by omega) ?_))
    rw [dropS h0 (by omega)]
    have hx := hr (rd_T52 st i) (getD_mem h0 (by omega))
    have hm := mn_le p (rd_T52 st i).f0
    have hq := price_mul (n := mn p (rd_T52 st i).f0) (p := (rd_T52 st i).f1) (by omega) hx.2.2.1 hx.2.2.2
    show Ev (fun k => offer_Cost.l0 k (wrap64 (p - mn p (rd_T52 st i).f0)) (wrap64 (acc + wrap64 (mn p (rd_T52 st i).f0 * (rd_T52 st i).f1))) st (st.length : Int) (wrap64 (i + 1))) _
    rw [w64 (x := p - mn p (rd_T52 st i).f0) (by omega) (by omega), w64 (x := mn p (rd_T52 st i).f0 * (rd_T52 st i).f1) (by omega) (by omega), w64 (by omega) (by omega), w64 (by omega) (by omega)]
    have h := ih (i + 1) (p - mn p (rd_T52 st i).f0) (acc + mn p (rd_T52 st i).f0 * (rd_T52 st i).f1) (by omega) (by omega) (by omega) (by omega) (by omega) (by omega) (by omega)
    simp only [costO]
    rw [← Int.add_assoc]
    exact h
theorem offer_Cost_bad {nm : ByteArray} {st : List OStep} {e : Int} (h : Ev (fun k => offer_Check.f k nm st) e) (he : e ≠ 0) (p : Int) : Ev (fun k => offer_Cost.f k nm st p) (0, e) := by
  unfold offer_Cost.f
  exact Ev.bind h (Ev.neg he (Ev.now _))
theorem offer_Cost_out {nm : ByteArray} {st : List OStep} (h : Ev (fun k => offer_Check.f k nm st) 0) (hv : ValidO st) {p : Int} (hp : p < 0 ∨ sumO st < p) : Ev (fun k => offer_Cost.f k nm st p) (0, 4) := by
  unfold offer_Cost.f
  have hj : Ev (fun k => offer_Cost.j0 k p true nm st) (0, 4) := Ev.step (fun k => by rw [offer_Cost.j0]) (Ev.pos rfl (Ev.now _))
  refine Ev.bind h (Ev.pos rfl (Ev.ite (fun _ => hj) (fun hn => Ev.bind (offer_Most_ev nm hv) ?_)))
  rw [decide_eq_true (show p > sumO st by omega)]
  exact hj
theorem offer_Cost_in {nm : ByteArray} {st : List OStep} (h : Ev (fun k => offer_Check.f k nm st) 0) (hv : ValidO st) {p : Int} (h0 : 0 ≤ p) (h1 : p ≤ sumO st) : Ev (fun k => offer_Cost.f k nm st p) (costO st p, 0) := by
  unfold offer_Cost.f
  refine Ev.bind h (Ev.pos rfl (Ev.neg (by omega) (Ev.bind (offer_Most_ev nm hv) ?_)))
  rw [decide_eq_false (show ¬ p > sumO st by omega)]
  refine Ev.step (fun k => by rw [offer_Cost.j0]) (Ev.neg (by simp) ?_)
  have := hv.sum
  have hh := offer_Cost_loop st hv.1 hv.range st.length 0 p 0 (by omega) (by omega) (by omega) (by omega) (by omega) (by omega) (by omega)
  simpa using hh

/-! marginal prices -/
def nextO : List OStep → Int → Int
  | [], _ => 2000000
  | s :: r, p => if p < s.f0 then s.f1 else nextO r (p - s.f0)
def lastO : Int → List OStep → Int → Int
  | last, [], _ => last
  | last, s :: r, p => if p < s.f0 then (if 0 < p then s.f1 else last) else lastO (if 0 < p then s.f1 else last) r (p - s.f0)
theorem offer_Marginal_loop (st : List OStep) (hl : st.length ≤ 12) (hr : RangeO st) (p : Int) : ∀ (d : Nat) (i at_ last : Int), 0 ≤ i → i ≤ (st.length : Int) → (st.length : Int) - i = d → 0 ≤ at_ → at_ ≤ 100000 * (12 - d) → at_ ≤ p →
    Ev (fun k => offer_Marginal.l0 k p last 2000000 at_ st (st.length : Int) i) (lastO last (st.drop i.toNat) (p - at_), nextO (st.drop i.toNat) (p - at_), 0) := by
  intro d
  induction d with
  | zero =>
    intro i at_ last h0 h1 hd ha hb hp
    refine Ev.step (fun k => by rw [offer_Marginal.l0]) ?_
    rw [drop_end (by omega)]
    simp only [nextO, lastO]
    exact Ev.neg (by omega) (Ev.now _)
  | succ d ih =>
    intro i at_ last h0 h1 hd ha hb hp
    refine Ev.step (fun k => by rw [offer_Marginal.l0]) ?_
    refine Ev.pos (by omega) (Ev.pos h0 (Ev.pos (by omega) ?_))
    rw [dropS h0 (by omega)]
    have hx := hr (rd_T52 st i) (getD_mem h0 (by omega))
    obtain ⟨x, hxx⟩ : ∃ x, x = rd_T52 st i := ⟨_, rfl⟩
    rw [← hxx] at hx ⊢
    rw [w64 (x := at_ + x.f0) (by omega) (by omega), w64 (x := i + 1) (by omega) (by omega)]
    simp only [nextO, lastO]
    have e : p - at_ - x.f0 = p - (at_ + x.f0) := by omega
    refine Ev.ite (fun c => Ev.ite (fun c2 => ?_) (fun c2 => ?_)) (fun c => Ev.ite (fun c2 => ?_) (fun c2 => ?_))
    · have e1 : p - at_ < x.f0 := by omega
      have e2 : 0 < p - at_ := by omega
      rw [if_pos e1, if_pos e1, if_pos e2]
      exact Ev.now _
    · have e1 : ¬ p - at_ < x.f0 := by omega
      have e2 : 0 < p - at_ := by omega
      rw [if_neg e1, if_neg e1, if_pos e2, e]
      exact ih (i + 1) (at_ + x.f0) x.f1 (by omega) (by omega) (by omega) (by omega) (by omega) (by omega)
    · have e1 : p - at_ < x.f0 := by omega
      have e2 : ¬ 0 < p - at_ := by omega
      rw [if_pos e1, if_pos e1, if_neg e2]
      exact Ev.now _
    · omega
theorem offer_Marginal_bad {nm : ByteArray} {st : List OStep} {e : Int} (h : Ev (fun k => offer_Check.f k nm st) e) (he : e ≠ 0) (p : Int) : Ev (fun k => offer_Marginal.f k nm st p) (0, 0, e) := by
  unfold offer_Marginal.f
  exact Ev.bind h (Ev.neg he (Ev.now _))
theorem offer_Marginal_out {nm : ByteArray} {st : List OStep} (h : Ev (fun k => offer_Check.f k nm st) 0) (hv : ValidO st) {p : Int} (hp : p < 0 ∨ sumO st < p) : Ev (fun k => offer_Marginal.f k nm st p) (0, 0, 4) := by
  unfold offer_Marginal.f
  have hj : Ev (fun k => offer_Marginal.j0 k p true nm st) (0, 0, 4) := Ev.step (fun k => by rw [offer_Marginal.j0]) (Ev.pos rfl (Ev.now _))
  refine Ev.bind h (Ev.pos rfl (Ev.ite (fun _ => hj) (fun hn => Ev.bind (offer_Most_ev nm hv) ?_)))
  rw [decide_eq_true (show p > sumO st by omega)]
  exact hj
theorem offer_Marginal_in {nm : ByteArray} {st : List OStep} (h : Ev (fun k => offer_Check.f k nm st) 0) (hv : ValidO st) {p : Int} (h0 : 0 ≤ p) (h1 : p ≤ sumO st) : Ev (fun k => offer_Marginal.f k nm st p) (lastO (-2000000) st p, nextO st p, 0) := by
  unfold offer_Marginal.f
  refine Ev.bind h (Ev.pos rfl (Ev.neg (by omega) (Ev.bind (offer_Most_ev nm hv) ?_)))
  rw [decide_eq_false (show ¬ p > sumO st by omega)]
  refine Ev.step (fun k => by rw [offer_Marginal.j0]) (Ev.neg (by simp) ?_)
  have := hv.1
  have hh := offer_Marginal_loop st hv.1 hv.range p st.length 0 0 (-2000000) (by omega) (by omega) (by omega) (by omega) (by omega) (by omega)
  simpa using hh

/-! supply and profit -/
def lowO : List OStep → Int → Int
  | [], _ => 0
  | s :: r, p => (if s.f1 < p then s.f0 else 0) + lowO r p
def highO : List OStep → Int → Int
  | [], _ => 0
  | s :: r, p => (if s.f1 ≤ p then s.f0 else 0) + highO r p
theorem lowO_bounds : ∀ {st : List OStep} {p : Int}, RangeO st → 0 ≤ lowO st p ∧ lowO st p ≤ highO st p ∧ highO st p ≤ sumO st
  | [], p, _ => by simp [lowO, highO, sumO]
  | s :: r, p, h => by
    have hs := h s List.mem_cons_self
    have := lowO_bounds (st := r) (p := p) h.tail
    simp only [lowO, highO, sumO]
    split <;> split <;> omega
theorem offer_Supply_loop (st : List OStep) (hl : st.length ≤ 12) (hr : RangeO st) (p : Int) : ∀ (d : Nat) (i a b : Int), 0 ≤ i → i ≤ (st.length : Int) → (st.length : Int) - i = d → 0 ≤ a → a ≤ 100000 * (12 - d) → 0 ≤ b → b ≤ 100000 * (12 - d) →
    Ev (fun k => offer_Supply.l0 k p a b st (st.length : Int) i) (a + lowO (st.drop i.toNat) p, b + highO (st.drop i.toNat) p, 0) := by
  intro d
  induction d with
  | zero =>
    intro i a b h0 h1 hd ha ha2 hb hb2
    refine Ev.step (fun k => by rw [offer_Supply.l0]) ?_
    rw [drop_end (by omega)]
    simp only [lowO, highO, Int.add_zero]
    exact Ev.neg (by omega) (Ev.now _)
  | succ d ih =>
    intro i a b h0 h1 hd ha ha2 hb hb2
    refine Ev.step (fun k => by rw [offer_Supply.l0]) ?_
    refine Ev.pos (by omega) (Ev.pos h0 (Ev.pos (by omega) ?_))
    rw [dropS h0 (by omega)]
    have hx := hr (rd_T52 st i) (getD_mem h0 (by omega))
    obtain ⟨x, hxx⟩ : ∃ x, x = rd_T52 st i := ⟨_, rfl⟩
    rw [← hxx] at hx ⊢
    rw [w64 (x := a + x.f0) (by omega) (by omega), w64 (x := b + x.f0) (by omega) (by omega), w64 (x := i + 1) (by omega) (by omega)]
    simp only [lowO, highO]
    refine Ev.ite (fun c => Ev.ite (fun c2 => ?_) (fun c2 => ?_)) (fun c => Ev.ite (fun c2 => ?_) (fun c2 => ?_))
    · rw [if_pos c, if_pos c2, ← Int.add_assoc, ← Int.add_assoc]
      exact ih (i + 1) (a + x.f0) (b + x.f0) (by omega) (by omega) (by omega) (by omega) (by omega) (by omega) (by omega)
    · omega
    · rw [if_neg c, if_pos c2, Int.zero_add, ← Int.add_assoc]
      exact ih (i + 1) a (b + x.f0) (by omega) (by omega) (by omega) (by omega) (by omega) (by omega) (by omega)
    · rw [if_neg c, if_neg c2, Int.zero_add, Int.zero_add]
      exact ih (i + 1) a b (by omega) (by omega) (by omega) (by omega) (by omega) (by omega) (by omega)
theorem offer_Supply_bad {nm : ByteArray} {st : List OStep} {e : Int} (h : Ev (fun k => offer_Check.f k nm st) e) (he : e ≠ 0) (p : Int) : Ev (fun k => offer_Supply.f k nm st p) (0, 0, e) := by
  unfold offer_Supply.f
  exact Ev.bind h (Ev.neg he (Ev.now _))
theorem offer_Supply_out {nm : ByteArray} {st : List OStep} (h : Ev (fun k => offer_Check.f k nm st) 0) {p : Int} (hp : p < -2000000 ∨ 2000000 < p) : Ev (fun k => offer_Supply.f k nm st p) (0, 0, 4) := by
  unfold offer_Supply.f
  have hj : Ev (fun k => offer_Supply.j0 k p true nm st) (0, 0, 4) := Ev.step (fun k => by rw [offer_Supply.j0]) (Ev.pos rfl (Ev.now _))
  refine Ev.bind h (Ev.pos rfl (Ev.ite (fun _ => hj) (fun hn => ?_)))
  rw [decide_eq_true (show p > 2000000 by omega)]
  exact hj
theorem offer_Supply_in {nm : ByteArray} {st : List OStep} (h : Ev (fun k => offer_Check.f k nm st) 0) (hv : ValidO st) {p : Int} (h0 : -2000000 ≤ p) (h1 : p ≤ 2000000) : Ev (fun k => offer_Supply.f k nm st p) (lowO st p, highO st p, 0) := by
  unfold offer_Supply.f
  refine Ev.bind h (Ev.pos rfl (Ev.neg (by omega) ?_))
  rw [decide_eq_false (show ¬ p > 2000000 by omega)]
  refine Ev.step (fun k => by rw [offer_Supply.j0]) (Ev.neg (by simp) ?_)
  have := hv.1
  have hh := offer_Supply_loop st hv.1 hv.range p st.length 0 0 0 (by omega) (by omega) (by omega) (by omega) (by omega) (by omega) (by omega)
  simpa using hh
theorem offer_Profit_bad {nm : ByteArray} {st : List OStep} {e : Int} (h : Ev (fun k => offer_Check.f k nm st) e) (he : e ≠ 0) (p : Int) : Ev (fun k => offer_Profit.f k nm st p) (0, e) := by
  unfold offer_Profit.f
  exact Ev.bind (offer_Supply_bad h he p) (Ev.neg he (Ev.now _))
theorem offer_Profit_out {nm : ByteArray} {st : List OStep} (h : Ev (fun k => offer_Check.f k nm st) 0) {p : Int} (hp : p < -2000000 ∨ 2000000 < p) : Ev (fun k => offer_Profit.f k nm st p) (0, 4) := by
  unfold offer_Profit.f
  exact Ev.bind (offer_Supply_out h hp) (Ev.neg (by simp) (Ev.now _))
theorem offer_Profit_in {nm : ByteArray} {st : List OStep} (h : Ev (fun k => offer_Check.f k nm st) 0) (hv : ValidO st) {p : Int} (h0 : -2000000 ≤ p) (h1 : p ≤ 2000000) : Ev (fun k => offer_Profit.f k nm st p) (p * lowO st p - costO st (lowO st p), 0) := by
  unfold offer_Profit.f
  have hb := lowO_bounds (p := p) hv.range
  have hs := hv.sum
  refine Ev.bind (offer_Supply_in h hv h0 h1) (Ev.pos rfl (Ev.bind (offer_Cost_in h hv hb.1 (by omega)) ?_))
  have hm := mul_abs (a := p) (b := lowO st p) (A := 2000000) (B := 100000) (by omega) (by omega) (by omega) (by omega)
  have hc := costO_bound (p := lowO st p) hv.range hb.1
  rw [w64 (x := p * lowO st p) (by omega) (by omega), w64 (by simp only; omega) (by simp only; omega)]
  exact Ev.now _

/-! the mathematics of an offer -/
theorem costO_succ : ∀ {st : List OStep} {p : Int}, RangeO st → 0 ≤ p → p < sumO st → costO st (p + 1) - costO st p = nextO st p
  | [], p, _, h0, h1 => by simp only [sumO] at h1; omega
  | s :: r, p, h, h0, h1 => by
    have hs := h s List.mem_cons_self
    simp only [sumO] at h1
    simp only [costO, nextO]
    by_cases c : p < s.f0
    · rw [if_pos c]
      have e1 : mn p s.f0 = p := by unfold mn; rw [if_neg (by omega)]
      have e2 : mn (p + 1) s.f0 = p + 1 := by unfold mn; rw [if_neg (by omega)]
      rw [e1, e2, Int.sub_self, Int.sub_self, costO_zero h.tail, Int.add_mul]
      omega
    · rw [if_neg c]
      have e1 : mn p s.f0 = s.f0 := by unfold mn; split <;> omega
      have e2 : mn (p + 1) s.f0 = s.f0 := by unfold mn; rw [if_pos (by omega)]
      rw [e1, e2]
      have := costO_succ (st := r) (p := p - s.f0) h.tail (by omega) (by omega)
      rw [show p + 1 - s.f0 = p - s.f0 + 1 by omega]
      omega
theorem nextO_ge {q : Int} (hq : q ≤ 2000000) : ∀ {st : List OStep} {p : Int}, (∀ t ∈ st, q ≤ t.f1) → q ≤ nextO st p
  | [], p, _ => by simp only [nextO]; exact hq
  | s :: r, p, h => by
    simp only [nextO]
    split
    · exact h s List.mem_cons_self
    · exact nextO_ge hq (fun t ht => h t (List.mem_cons_of_mem _ ht))
theorem nextO_mono : ∀ {st : List OStep} {p : Int}, RangeO st → Rising st → nextO st p ≤ nextO st (p + 1)
  | [], p, _, _ => by simp [nextO]
  | s :: r, p, h, hs => by
    have hx := h s List.mem_cons_self
    simp only [nextO]
    by_cases c : p < s.f0
    · rw [if_pos c]
      by_cases c2 : p + 1 < s.f0
      · rw [if_pos c2]
        exact Int.le_refl _
      · rw [if_neg c2]
        exact nextO_ge (by omega) hs.1
    · rw [if_neg c, if_neg (by omega), show p + 1 - s.f0 = p - s.f0 + 1 by omega]
      exact nextO_mono h.tail hs.2
theorem lowO_zero {p : Int} : ∀ {st : List OStep}, (∀ t ∈ st, p ≤ t.f1) → lowO st p = 0
  | [], _ => rfl
  | s :: r, h => by
    have := h s List.mem_cons_self
    simp only [lowO]
    rw [if_neg (by omega), lowO_zero (fun t ht => h t (List.mem_cons_of_mem _ ht))]
    rfl
theorem highO_zero {p : Int} : ∀ {st : List OStep}, (∀ t ∈ st, p < t.f1) → highO st p = 0
  | [], _ => rfl
  | s :: r, h => by
    have := h s List.mem_cons_self
    simp only [highO]
    rw [if_neg (by omega), highO_zero (fun t ht => h t (List.mem_cons_of_mem _ ht))]
    rfl
def gainO (st : List OStep) (p x : Int) : Int := p * x - costO st x
/-- No power earns more than the least supply, and just those between both supplies earn as much. -/
theorem gainO_best {p : Int} : ∀ {st : List OStep} {x : Int}, RangeO st → Rising st → 0 ≤ x → x ≤ sumO st → gainO st p x ≤ gainO st p (lowO st p) ∧ (gainO st p x = gainO st p (lowO st p) ↔ lowO st p ≤ x ∧ x ≤ highO st p)
  | [], x, _, _, h0, h1 => by
    simp only [sumO] at h1
    obtain rfl : x = 0 := by omega
    simp [gainO, lowO, highO]
  | s :: r, x, h, hs, h0, h1 => by
    have hx := h s List.mem_cons_self
    simp only [sumO] at h1
    have hb := lowO_bounds (p := p) h.tail
    -- the gain of a power that the first step alone serves, and of a greater one
    have g1 : ∀ y, 0 ≤ y → y ≤ s.f0 → gainO (s :: r) p y = (p - s.f1) * y := by
      intro y hy0 hy1
      have e : mn y s.f0 = y := by unfold mn; rw [if_neg (by omega)]
      simp only [gainO, costO, e, Int.sub_self, costO_zero h.tail]
      rw [Int.sub_mul, Int.mul_comm y s.f1]
      omega
    have g2 : ∀ y, s.f0 ≤ y → gainO (s :: r) p y = (p - s.f1) * s.f0 + gainO r p (y - s.f0) := by
      intro y hy1
      have e : mn y s.f0 = s.f0 := by unfold mn; split <;> omega
      simp only [gainO, costO, e]
      rw [Int.sub_mul, Int.mul_sub, Int.mul_comm s.f0 s.f1]
      omega
    have z0 : gainO r p 0 = 0 := by simp [gainO, costO_zero h.tail]
    have i0 := gainO_best (st := r) (x := 0) (p := p) h.tail hs.2 (by omega) (sumO_nonneg h.tail)
    rw [z0] at i0
    simp only [lowO, highO]
    by_cases c : s.f1 < p
    · rw [if_pos c, if_pos (by omega), g2 (s.f0 + lowO r p) (by omega), show s.f0 + lowO r p - s.f0 = lowO r p by omega]
      by_cases c2 : x < s.f0
      · rw [g1 x h0 (by omega)]
        have hq : 0 < (p - s.f1) * (s.f0 - x) := Int.mul_pos (by omega) (by omega)
        rw [Int.mul_sub] at hq
        constructor
        · omega
        · constructor
          · intro; omega
          · intro; omega
      · rw [g2 x (by omega)]
        have i1 := gainO_best (st := r) (x := x - s.f0) (p := p) h.tail hs.2 (by omega) (by omega)
        refine ⟨by omega, ?_⟩
        constructor
        · intro he
          have := i1.2.1 (by omega)
          omega
        · intro he
          have := i1.2.2 (by omega)
          omega
    · have hl : lowO r p = 0 := lowO_zero (fun t ht => by have := hs.1 t ht; omega)
      rw [if_neg c, hl, Int.add_zero, g1 0 (by omega) (by omega), Int.mul_zero]
      rw [hl, z0] at i0
      by_cases c1 : s.f1 = p
      · rw [if_pos (by omega)]
        by_cases c2 : x < s.f0
        · rw [g1 x h0 (by omega), show p - s.f1 = 0 by omega, Int.zero_mul]
          constructor
          · omega
          · constructor
            · intro; omega
            · intro; rfl
        · rw [g2 x (by omega), show p - s.f1 = 0 by omega, Int.zero_mul, Int.zero_add]
          have i1 := gainO_best (st := r) (x := x - s.f0) (p := p) h.tail hs.2 (by omega) (by omega)
          rw [hl, z0] at i1
          refine ⟨i1.1, ?_⟩
          constructor
          · intro he
            have := i1.2.1 he
            omega
          · intro he
            exact i1.2.2 (by omega)
      · rw [if_neg (by omega), highO_zero (fun t ht => by have := hs.1 t ht; omega)]
        by_cases c2 : x < s.f0
        · rw [g1 x h0 (by omega)]
          have hq : 0 ≤ (s.f1 - p) * x := Int.mul_nonneg (by omega) h0
          have hneg : (p - s.f1) * x = -((s.f1 - p) * x) := by rw [← Int.neg_mul]; congr 1; omega
          rw [hneg]
          refine ⟨by omega, ?_⟩
          constructor
          · intro he
            have h3 : (s.f1 - p) * x = 0 := by omega
            rcases Int.mul_eq_zero.1 h3 with h4 | h4 <;> omega
          · intro he
            obtain rfl : x = 0 := by omega
            simp
        · rw [g2 x (by omega)]
          have i1 := gainO_best (st := r) (x := x - s.f0) (p := p) h.tail hs.2 (by omega) (by omega)
          rw [hl, z0] at i1
          have hq : 0 < (s.f1 - p) * s.f0 := Int.mul_pos (by omega) (by omega)
          have hneg : (p - s.f1) * s.f0 = -((s.f1 - p) * s.f0) := by rw [← Int.neg_mul]; congr 1; omega
          rw [hneg]
          refine ⟨by omega, ?_⟩
          constructor
          · intro he; omega
          · intro he; omega
theorem lowO_mono {p q : Int} (h : p ≤ q) : ∀ {st : List OStep}, RangeO st → lowO st p ≤ lowO st q ∧ highO st p ≤ highO st q ∧ (p < q → highO st p ≤ lowO st q)
  | [], _ => by simp [lowO, highO]
  | s :: r, hr => by
    have hs := hr s List.mem_cons_self
    have := lowO_mono h (st := r) hr.tail
    simp only [lowO, highO]
    refine ⟨?_, ?_, fun hq => ?_⟩
    · split <;> split <;> omega
    · split <;> split <;> omega
    · have := this.2.2 hq
      split <;> split <;> omega

/-! whatever the power or the price -/
structure Checked (nm : ByteArray) (st : List OStep) (e : Int) : Prop where
  ev : Ev (fun k => offer_Check.f k nm st) e
  lo : 0 ≤ e
  hi : e ≤ 6
  iff : e = 0 ↔ Ev (fun k => offer_named.f k nm) true ∧ ValidO st
theorem Checked.some (nm : ByteArray) (st : List OStep) (hs : StrOk nm) : ∃ e, Checked nm st e := by
  obtain ⟨e, h1, h2, h3, h4⟩ := offer_Check_some nm st hs
  exact ⟨e, h1, h2, h3, h4⟩
theorem Checked.valid {nm : ByteArray} {st : List OStep} (h : Checked nm st 0) : ValidO st := (h.iff.1 rfl).2
theorem cost_any {nm : ByteArray} {st : List OStep} {e : Int} (h : Checked nm st e) (p : Int) : ∃ c e', Ev (fun k => offer_Cost.f k nm st p) (c, e') ∧
    ((e = 0 ∧ e' = 0 ∧ 0 ≤ p ∧ p ≤ sumO st ∧ c = costO st p) ∨ (e' ≠ 0 ∧ c = 0 ∧ (e ≠ 0 → e' = e) ∧ (e = 0 → e' = 4 ∧ (p < 0 ∨ sumO st < p)))) := by
  by_cases he : e = 0
  · subst he
    by_cases hp : 0 ≤ p ∧ p ≤ sumO st
    · exact ⟨_, _, offer_Cost_in h.ev h.valid hp.1 hp.2, Or.inl ⟨rfl, rfl, hp.1, hp.2, rfl⟩⟩
    · exact ⟨_, _, offer_Cost_out h.ev h.valid (by omega), Or.inr ⟨by omega, rfl, fun hh => absurd rfl hh, fun _ => ⟨rfl, by omega⟩⟩⟩
  · exact ⟨_, _, offer_Cost_bad h.ev he p, Or.inr ⟨he, rfl, fun _ => rfl, fun hh => absurd hh he⟩⟩
theorem marginal_any {nm : ByteArray} {st : List OStep} {e : Int} (h : Checked nm st e) (p : Int) : ∃ a b e', Ev (fun k => offer_Marginal.f k nm st p) (a, b, e') ∧
    ((e = 0 ∧ e' = 0 ∧ 0 ≤ p ∧ p ≤ sumO st ∧ a = lastO (-2000000) st p ∧ b = nextO st p) ∨ e' ≠ 0) := by
  by_cases he : e = 0
  · subst he
    by_cases hp : 0 ≤ p ∧ p ≤ sumO st
    · exact ⟨_, _, _, offer_Marginal_in h.ev h.valid hp.1 hp.2, Or.inl ⟨rfl, rfl, hp.1, hp.2, rfl, rfl⟩⟩
    · exact ⟨_, _, _, offer_Marginal_out h.ev h.valid (by omega), Or.inr (by omega)⟩
  · exact ⟨_, _, _, offer_Marginal_bad h.ev he p, Or.inr he⟩
theorem supply_any {nm : ByteArray} {st : List OStep} {e : Int} (h : Checked nm st e) (p : Int) : ∃ a b e', Ev (fun k => offer_Supply.f k nm st p) (a, b, e') ∧
    ((e = 0 ∧ e' = 0 ∧ -2000000 ≤ p ∧ p ≤ 2000000 ∧ a = lowO st p ∧ b = highO st p) ∨ (e' ≠ 0 ∧ a = 0 ∧ b = 0 ∧ (e ≠ 0 → e' = e) ∧ (e = 0 → e' = 4 ∧ (p < -2000000 ∨ 2000000 < p)))) := by
  by_cases he : e = 0
  · subst he
    by_cases hp : -2000000 ≤ p ∧ p ≤ 2000000
    · exact ⟨_, _, _, offer_Supply_in h.ev h.valid hp.1 hp.2, Or.inl ⟨rfl, rfl, hp.1, hp.2, rfl, rfl⟩⟩
    · exact ⟨_, _, _, offer_Supply_out h.ev (by omega), Or.inr ⟨by omega, rfl, rfl, fun hh => absurd rfl hh, fun _ => ⟨rfl, by omega⟩⟩⟩
  · exact ⟨_, _, _, offer_Supply_bad h.ev he p, Or.inr ⟨he, rfl, rfl, fun _ => rfl, fun hh => absurd hh he⟩⟩
theorem profit_any {nm : ByteArray} {st : List OStep} {e : Int} (h : Checked nm st e) (p : Int) : ∃ n e', Ev (fun k => offer_Profit.f k nm st p) (n, e') ∧
    ((e = 0 ∧ e' = 0 ∧ -2000000 ≤ p ∧ p ≤ 2000000 ∧ n = gainO st p (lowO st p)) ∨ (e' ≠ 0 ∧ n = 0 ∧ (e ≠ 0 → e' = e) ∧ (e = 0 → e' = 4 ∧ (p < -2000000 ∨ 2000000 < p)))) := by
  by_cases he : e = 0
  · subst he
    by_cases hp : -2000000 ≤ p ∧ p ≤ 2000000
    · exact ⟨_, _, offer_Profit_in h.ev h.valid hp.1 hp.2, Or.inl ⟨rfl, rfl, hp.1, hp.2, rfl⟩⟩
    · exact ⟨_, _, offer_Profit_out h.ev (by omega), Or.inr ⟨by omega, rfl, fun hh => absurd rfl hh, fun _ => ⟨rfl, by omega⟩⟩⟩
  · exact ⟨_, _, offer_Profit_bad h.ev he p, Or.inr ⟨he, rfl, fun _ => rfl, fun hh => absurd hh he⟩⟩
theorem gainO_bound {st : List OStep} {p x : Int} (hv : ValidO st) (h0 : -2000000 ≤ p) (h1 : p ≤ 2000000) (hx0 : 0 ≤ x) (hx1 : x ≤ sumO st) : -200000000000 ≤ p * x ∧ p * x ≤ 200000000000 ∧ -100000000000 ≤ costO st x ∧ costO st x ≤ 100000000000 := by
  have hs := hv.sum
  have hm := mul_abs (a := p) (b := x) (A := 2000000) (B := 100000) (by omega) (by omega) (by omega) (by omega)
  have hc := costO_bound (p := x) hv.range hx0
  omega
end Go.Proofs.Ytlfhabekhfahbaa.P
