/- Texts of the claim, put together: Px10, LOffer, Px6, Px7, Px8, Px9, Px12, Px13, Px45, LDispatch, LMerge, LSortG. -/
import Derived.Test.YtfcifmbddikflaaCReserveKept14
import Derived.Test.YtfcifmbddikflaaCReserveKept18
import Derived.Test.YtfcifmbddikflaaCReserveKept16
import Derived.Test.YtfcifmbddikflaaCReserveKept17
import Derived.Test.YtfcifmbddikflaaCReserveKept30
import Derived.Test.YtfcifmbddikflaaCReserveKept15
import Derived.Test.YtfcifmbddikflaaCReserveKept19
import Derived.Test.YtfcifmbddikflaaCReserveKept21
namespace Go.Proofs.Ytfcifmbddikflaa.P
open Go.RowKit Go.Proofs.YtfcifmbddikflaaW.PrintWords Go.Proofs.YtfcifmbddikflaaW.PrintLast Go.Proofs.YtfcifmbddikflaaW.PrintMore
attribute [local go_sem] qbi qbg qbp qbo qa5 qa4 qbh qbf
set_option linter.unusedVariables false
set_option linter.unusedSimpArgs false
end Go.Proofs.Ytfcifmbddikflaa.P
namespace Go.Proofs.Ytfcifmbddikflaa.P
set_option linter.unusedVariables false
set_option linter.unusedSimpArgs false
open Go.RowKit Go.Proofs.YtfcifmbddikflaaW.PrintWords Go.Proofs.YtfcifmbddikflaaW.PrintMore Go.Proofs.Ytfcifmbddikflaa.Opn Go.Proofs.Ytfcifmbddikflaa.Evp
abbrev OStep := S41
theorem dropS {l : List OStep} {i : Int} (h0 : 0 ≤ i) (h1 : i < (l.length : Int)) : l.drop i.toNat = qaI l i :: l.drop (i + 1).toNat := drop_getD _ h0 h1
theorem offer_named_loop (s : ByteArray) (hs : StrOk s) : ∀ (d : Nat) (i : Int), 0 ≤ i → i ≤ (s.size : Int) → (s.size : Int) - i = d → EvP (fun k => qaJ.l0 k s (s.size : Int) i) (fun _ => True) := by
  unfold StrOk at hs
  intro d; induction d with
  | zero =>
    intro i h0 h1 hd; refine EvP.step (fun k => by rw [qaJ.l0]) ?_
    exact EvP.neg (by omega) (EvP.ret trivial)
  | succ d ih =>
    intro i h0 h1 hd; refine EvP.step (fun k => by rw [qaJ.l0]) ?_
    refine EvP.pos (by omega) (EvP.pos h0 (EvP.pos (by omega) ?_))
    have h := ih (i + 1) (by omega) (by omega) (by omega)
    rw [w64 (by omega) (by omega)]; repeat' (with_reducible refine EvP.ite (fun _ => ?_) (fun _ => ?_))
    all_goals first | exact EvP.ret trivial | exact h
theorem offer_named_some (s : ByteArray) (hs : StrOk s) : ∃ b, Ev (fun k => qaJ.f k s) b := by
  have h : EvP (fun k => qaJ.f k s) (fun _ => True) := by
    unfold qaJ.f
    have hj : ∀ b, EvP (fun k => qaJ.j0 k s b) (fun _ => True) := by
      intro b; refine EvP.step (fun k => by rw [qaJ.j0]) ?_
      exact EvP.ite (fun _ => EvP.ret trivial) (fun _ => offer_named_loop s hs s.size 0 (by omega) (by omega) (by omega))
    refine EvP.ite (fun _ => hj _) (fun h1 => EvP.ite (fun _ => hj _) (fun _ => ?_))
    have h2 : 0 < (s.size : Int) := by
      rcases Nat.eq_zero_or_pos s.size with h | h
      · exact absurd (toList_nil h) h1
      · omega
    exact EvP.pos h2 (EvP.ite (fun _ => hj _) (fun _ => hj _))
  obtain ⟨b, hb, _⟩ := h
  exact ⟨b, hb⟩
def okFrom : Int → Option Int → List OStep → Prop
  | _, _, [] => True
  | acc, prev, s :: r => 1 ≤ s.f0 ∧ s.f0 ≤ 100000 ∧ -1000000 ≤ s.f1 ∧ s.f1 ≤ 1000000 ∧ (∀ p, prev = some p → p ≤ s.f1) ∧ acc + s.f0 ≤ 100000 ∧ okFrom (acc + s.f0) (some s.f1) r
def prevAt (st : List OStep) (i : Int) : Option Int := if 0 < i then some (qaI st (i - 1)).f1 else none
def ValidO (st : List OStep) : Prop := st.length ≤ 12 ∧ okFrom 0 none st
theorem offer_Check_loop (nm : ByteArray) (st : List OStep) (hl : st.length ≤ 12) : ∀ (d : Nat) (i acc : Int), 0 ≤ i → i ≤ (st.length : Int) → (st.length : Int) - i = d → 0 ≤ acc → acc ≤ 100000 →
    EvP (fun k => qaE.l0 k acc st (st.length : Int) i nm st) (fun e => 0 ≤ e ∧ e ≤ 4 ∧ (e = 0 ↔ okFrom acc (prevAt st i) (st.drop i.toNat))) := by
  intro d; induction d with
  | zero =>
    intro i acc h0 h1 hd ha hb; refine EvP.step (fun k => by rw [qaE.l0]) ?_
    refine EvP.neg (by omega) (EvP.ret ⟨by omega, by omega, ?_⟩)
    rw [drop_end (by omega)]; simp [okFrom]
  | succ d ih =>
    intro i acc h0 h1 hd ha hb; refine EvP.step (fun k => by rw [qaE.l0]) ?_
    refine EvP.pos (by omega) (EvP.pos h0 (EvP.pos (by omega) ?_))
    rw [dropS h0 (by omega)]; obtain ⟨x, hx⟩ : ∃ x, x = qaI st i := ⟨_, rfl⟩
    rw [← hx]; -- the second test
    have j2 : ∀ b : Bool, 1 ≤ x.f0 → x.f0 ≤ 100000 → -1000000 ≤ x.f1 → x.f1 ≤ 1000000 → (b = true ↔ ¬ ∀ p, prevAt st i = some p → p ≤ x.f1) →
        EvP (fun k => qaE.j2 k acc st (st.length : Int) i b nm st x.f0 x.f1) (fun e => 0 ≤ e ∧ e ≤ 4 ∧ (e = 0 ↔ okFrom acc (prevAt st i) (x :: st.drop (i + 1).toNat))) := by
      intro b g1 g2 g3 g4 g5; refine EvP.step (fun k => by rw [qaE.j2]) ?_
      refine EvP.ite (fun hb' => EvP.ret ⟨by omega, by omega, ?_⟩) (fun hb' => ?_)
      · have := g5.1 hb'
        simp only [okFrom]
        constructor
        · intro h; omega
        · intro h; exact absurd h.2.2.2.2.1 this
      · have g6 : ∀ p, prevAt st i = some p → p ≤ x.f1 := Classical.byContradiction fun h => hb' (g5.2 h)
        rw [w64 (by omega) (by omega)]; refine EvP.ite (fun hc => EvP.ret ⟨by omega, by omega, ?_⟩) (fun hc => ?_)
        · simp only [okFrom]
          constructor
          · intro h; omega
          · intro h; omega
        · have h := ih (i + 1) (acc + x.f0) (by omega) (by omega) (by omega) (by omega) (by omega)
          rw [w64 (by omega) (by omega)]; refine h.mono fun e he => ⟨he.1, he.2.1, he.2.2.trans ?_⟩
          have hp : prevAt st (i + 1) = some x.f1 := by
            unfold prevAt
            rw [if_pos (by omega), show i + 1 - 1 = i by omega, ← hx]
          rw [hp]; simp only [okFrom]
          constructor
          · intro h; exact ⟨g1, g2, g3, g4, g6, by omega, h⟩
          · intro h; exact h.2.2.2.2.2.2
    have j1 : ∀ b : Bool, (b = true ↔ ¬ (1 ≤ x.f0 ∧ x.f0 ≤ 100000 ∧ -1000000 ≤ x.f1 ∧ x.f1 ≤ 1000000)) →
        EvP (fun k => qaE.j1 k acc i st (st.length : Int) i b nm st x.f0 x.f1) (fun e => 0 ≤ e ∧ e ≤ 4 ∧ (e = 0 ↔ okFrom acc (prevAt st i) (x :: st.drop (i + 1).toNat))) := by
      intro b g; refine EvP.step (fun k => by rw [qaE.j1]) ?_
      refine EvP.ite (fun hb' => EvP.ret ⟨by omega, by omega, ?_⟩) (fun hb' => ?_)
      · have := g.1 hb'
        simp only [okFrom]
        constructor
        · intro h; omega
        · intro h; exact absurd ⟨h.1, h.2.1, h.2.2.1, h.2.2.2.1⟩ this
      · obtain ⟨g1, g2, g3, g4⟩ := Classical.byContradiction fun h => hb' (g.2 h)
        refine EvP.ite (fun hi => ?_) (fun hi => ?_)
        · rw [w64 (by omega) (by omega)]; refine EvP.pos (by omega) (EvP.pos (by omega) (j2 _ g1 g2 g3 g4 ?_))
          unfold prevAt
          rw [if_pos (by omega)]; simp
        · refine j2 _ g1 g2 g3 g4 ?_
          unfold prevAt
          rw [if_neg (by omega)]; simp
    refine EvP.ite (fun c => j1 _ (by simp; omega)) (fun c1 => EvP.ite (fun c => j1 _ (by simp; omega)) (fun c2 => EvP.ite (fun c => j1 _ (by simp; omega)) (fun c3 => j1 _ (by simp; omega))))
theorem offer_Check_some (nm : ByteArray) (st : List OStep) (hs : StrOk nm) : ∃ e, Ev (fun k => qaE.f k nm st) e ∧ 0 ≤ e ∧ e ≤ 6 ∧ (e = 0 ↔ Ev (fun k => qaJ.f k nm) true ∧ ValidO st) := by
  obtain ⟨b, hb⟩ := offer_named_some nm hs
  have h : EvP (fun k => qaE.f k nm st) (fun e => 0 ≤ e ∧ e ≤ 6 ∧ (e = 0 ↔ Ev (fun k => qaJ.f k nm) true ∧ ValidO st)) := by
    unfold qaE.f
    refine EvP.bindE hb ?_
    refine EvP.ite (fun hb' => ?_) (fun hb' => EvP.ret ⟨by omega, by omega, ?_⟩)
    · subst hb'; refine EvP.ite (fun hc => EvP.ret ⟨by omega, by omega, ?_⟩) (fun hc => ?_)
      · constructor
        · intro h; omega
        · intro h; have := h.2.1; omega
      · refine (offer_Check_loop nm st (by omega) st.length 0 0 (by omega) (by omega) (by omega) (by omega) (by omega)).mono fun e he => ⟨he.1, by omega, he.2.2.trans ?_⟩
        constructor
        · intro h; exact ⟨hb, by omega, h⟩
        · intro h; exact h.2.2
    · constructor
      · intro h; omega
      · intro h; exact absurd (Ev.det hb h.1) hb'
  obtain ⟨e, he, hp⟩ := h
  exact ⟨e, he, hp⟩
def RangeO (st : List OStep) : Prop := ∀ s ∈ st, 1 ≤ s.f0 ∧ s.f0 ≤ 100000 ∧ -1000000 ≤ s.f1 ∧ s.f1 ≤ 1000000
def sumO : List OStep → Int
  | [] => 0
  | s :: r => s.f0 + sumO r
def Rising : List OStep → Prop
  | [] => True
  | s :: r => (∀ t ∈ r, s.f1 ≤ t.f1) ∧ Rising r
theorem okFrom_range : ∀ {st : List OStep} {acc : Int} {p : Option Int}, okFrom acc p st → RangeO st
  | [], _, _, _ => fun s h => by cases h
  | s :: r, acc, p, h => fun t ht => by
    rcases List.mem_cons.1 ht with rfl | ht
    · exact ⟨h.1, h.2.1, h.2.2.1, h.2.2.2.1⟩
    · exact okFrom_range h.2.2.2.2.2.2 t ht
theorem okFrom_le : ∀ {st : List OStep} {acc q : Int}, okFrom acc (some q) st → ∀ t ∈ st, q ≤ t.f1
  | [], _, _, _ => fun t h => by cases h
  | s :: r, acc, q, h => fun t ht => by
    have h1 := h.2.2.2.2.1 q rfl
    rcases List.mem_cons.1 ht with rfl | ht
    · exact h1
    · have := okFrom_le h.2.2.2.2.2.2 t ht
      omega
theorem okFrom_rising : ∀ {st : List OStep} {acc : Int} {p : Option Int}, okFrom acc p st → Rising st
  | [], _, _, _ => trivial
  | s :: r, acc, p, h => ⟨okFrom_le h.2.2.2.2.2.2, okFrom_rising h.2.2.2.2.2.2⟩
theorem okFrom_sum : ∀ {st : List OStep} {acc : Int} {p : Option Int}, acc ≤ 100000 → okFrom acc p st → acc + sumO st ≤ 100000
  | [], acc, _, ha, _ => by simp [sumO]; exact ha
  | s :: r, acc, p, ha, h => by
    have := okFrom_sum h.2.2.2.2.2.1 h.2.2.2.2.2.2
    simp only [sumO]
    omega
theorem sumO_nonneg : ∀ {st : List OStep}, RangeO st → 0 ≤ sumO st
  | [], _ => by simp [sumO]
  | s :: r, h => by
    have h1 := h s List.mem_cons_self
    have h2 := sumO_nonneg (st := r) (fun t ht => h t (List.mem_cons_of_mem _ ht))
    simp only [sumO]
    omega
theorem ValidO.range {st : List OStep} (h : ValidO st) : RangeO st := okFrom_range h.2
theorem ValidO.rising {st : List OStep} (h : ValidO st) : Rising st := okFrom_rising h.2
theorem ValidO.sum {st : List OStep} (h : ValidO st) : 0 ≤ sumO st ∧ sumO st ≤ 100000 := ⟨sumO_nonneg h.range, by have := okFrom_sum (by omega) h.2; omega⟩
theorem RangeO.tail {s : OStep} {r : List OStep} (h : RangeO (s :: r)) : RangeO r := fun t ht => h t (List.mem_cons_of_mem _ ht)
theorem RangeO.drop {st : List OStep} (h : RangeO st) (n : Nat) : RangeO (st.drop n) := fun t ht => h t (List.mem_of_mem_drop ht)
theorem offer_Most_loop (st : List OStep) (hl : st.length ≤ 12) (hr : RangeO st) : ∀ (d : Nat) (i acc : Int), 0 ≤ i → i ≤ (st.length : Int) → (st.length : Int) - i = d → 0 ≤ acc → acc ≤ 100000 * (12 - d) →
    Ev (fun k => qaP.l0 k acc st (st.length : Int) i) (acc + sumO (st.drop i.toNat)) := by
  intro d; induction d with
  | zero =>
    intro i acc h0 h1 hd ha hb; refine Ev.step (fun k => by rw [qaP.l0]) ?_
    rw [drop_end (by omega)]; simp only [sumO, Int.add_zero]
    exact Ev.neg (by omega) (Ev.now _)
  | succ d ih =>
    intro i acc h0 h1 hd ha hb; refine Ev.step (fun k => by rw [qaP.l0]) ?_
    refine Ev.pos (by omega) (Ev.pos h0 (Ev.pos (by omega) ?_))
    rw [dropS h0 (by omega)]; have hx := hr (qaI st i) (getD_mem h0 (by omega))
    show Ev (fun k => qaP.l0 k (wrap64 (acc + (qaI st i).f0)) st (st.length : Int) (wrap64 (i + 1))) _
    rw [w64 (by omega) (by omega), w64 (by omega) (by omega)]; have h := ih (i + 1) (acc + (qaI st i).f0) (by omega) (by omega) (by omega) (by omega) (by omega)
    simp only [sumO]
    rw [← Int.add_assoc]; exact h
theorem offer_Most_ev (nm : ByteArray) {st : List OStep} (h : ValidO st) : Ev (fun k => qaP.f k nm st) (sumO st) := by
  unfold qaP.f
  have := offer_Most_loop st h.1 h.range st.length 0 0 (by omega) (by omega) (by omega) (by omega) (by have := h.1; omega)
  simpa using this
def costO : List OStep → Int → Int
  | [], _ => 0
  | s :: r, p => mn p s.f0 * s.f1 + costO r (p - mn p s.f0)
theorem price_mul {n p : Int} (hn : 0 ≤ n) (h1 : -1000000 ≤ p) (h2 : p ≤ 1000000) : -(1000000 * n) ≤ n * p ∧ n * p ≤ 1000000 * n := by
  have e1 : 0 ≤ n * (1000000 - p) := Int.mul_nonneg hn (by omega)
  have e2 : 0 ≤ n * (1000000 + p) := Int.mul_nonneg hn (by omega)
  rw [Int.mul_sub] at e1; rw [Int.mul_add] at e2; omega
theorem costO_bound : ∀ {st : List OStep} {p : Int}, RangeO st → 0 ≤ p → -(1000000 * p) ≤ costO st p ∧ costO st p ≤ 1000000 * p
  | [], p, _, hp => by simp only [costO]; omega
  | s :: r, p, h, hp => by
    have hs := h s List.mem_cons_self
    have hm := mn_le p s.f0
    have h1 := price_mul (n := mn p s.f0) (p := s.f1) (by omega) hs.2.2.1 hs.2.2.2
    have h2 := costO_bound (st := r) (p := p - mn p s.f0) h.tail (by omega)
    simp only [costO]
    omega
theorem costO_zero : ∀ {st : List OStep}, RangeO st → costO st 0 = 0
  | [], _ => rfl
  | s :: r, h => by
    have hs := h s List.mem_cons_self
    have hm : mn 0 s.f0 = 0 := by unfold mn; rw [if_neg (by omega)]
    simp only [costO, hm, Int.zero_mul, Int.sub_zero, Int.zero_add]
    exact costO_zero h.tail
theorem offer_Cost_loop (st : List OStep) (hl : st.length ≤ 12) (hr : RangeO st) : ∀ (d : Nat) (i p acc : Int), 0 ≤ i → i ≤ (st.length : Int) → (st.length : Int) - i = d → 0 ≤ p → p ≤ 100000 →
    -(1000000 * (100000 - p)) ≤ acc → acc ≤ 1000000 * (100000 - p) → Ev (fun k => qaR.l0 k p acc st (st.length : Int) i) (acc + costO (st.drop i.toNat) p, 0) := by
  intro d; induction d with
  | zero =>
    intro i p acc h0 h1 hd hp hp2 ha hb; refine Ev.step (fun k => by rw [qaR.l0]) ?_
    rw [drop_end (by omega)]; simp only [costO, Int.add_zero]
    exact Ev.neg (by omega) (Ev.now _)
  | succ d ih =>
    intro i p acc h0 h1 hd hp hp2 ha hb; refine Ev.step (fun k => by rw [qaR.l0]) ?_
    refine Ev.pos (by omega) (Ev.pos h0 (Ev.pos (by omega) ?_))
    rw [dropS h0 (by omega)]; have hx := hr (qaI st i) (getD_mem h0 (by omega))
    have hm := mn_le p (qaI st i).f0
    have hq := price_mul (n := mn p (qaI st i).f0) (p := (qaI st i).f1) (by omega) hx.2.2.1 hx.2.2.2
    show Ev (fun k => qaR.l0 k (wrap64 (p - mn p (qaI st i).f0)) (wrap64 (acc + wrap64 (mn p (qaI st i).f0 * (qaI st i).f1))) st (st.length : Int) (wrap64 (i + 1))) _
    rw [w64 (x := p - mn p (qaI st i).f0) (by omega) (by omega), w64 (x := mn p (qaI st i).f0 * (qaI st i).f1) (by omega) (by omega), w64 (by omega) (by omega), w64 (by omega) (by omega)]; have h := ih (i + 1) (p - mn p (qaI st i).f0) (acc + mn p (qaI st i).f0 * (qaI st i).f1) (by omega) (by omega) (by omega) (by omega) (by omega) (by omega) (by omega)
    simp only [costO]
    rw [← Int.add_assoc]; exact h
theorem offer_Cost_in {nm : ByteArray} {st : List OStep} (h : Ev (fun k => qaE.f k nm st) 0) (hv : ValidO st) {p : Int} (h0 : 0 ≤ p) (h1 : p ≤ sumO st) : Ev (fun k => qaR.f k nm st p) (costO st p, 0) := by
  unfold qaR.f
  refine Ev.bind h (Ev.pos rfl (Ev.neg (by omega) (Ev.bind (offer_Most_ev nm hv) ?_)))
  rw [decide_eq_false (show ¬ p > sumO st by omega)]; refine Ev.step (fun k => by rw [qaR.j0]) (Ev.neg (by simp) ?_)
  have := hv.sum
  have hh := offer_Cost_loop st hv.1 hv.range st.length 0 p 0 (by omega) (by omega) (by omega) (by omega) (by omega) (by omega) (by omega)
  simpa using hh
def lowO : List OStep → Int → Int
  | [], _ => 0
  | s :: r, p => (if s.f1 < p then s.f0 else 0) + lowO r p
def highO : List OStep → Int → Int
  | [], _ => 0
  | s :: r, p => (if s.f1 ≤ p then s.f0 else 0) + highO r p
theorem lowO_bounds : ∀ {st : List OStep} {p : Int}, RangeO st → 0 ≤ lowO st p ∧ lowO st p ≤ highO st p ∧ highO st p ≤ sumO st
  | [], p, _ => by simp [lowO, highO, sumO]
  | s :: r, p, h => by
    have hs := h s List.mem_cons_self
    have := lowO_bounds (st := r) (p := p) h.tail
    simp only [lowO, highO, sumO]
    split <;> split <;> omega
theorem lowO_zero {p : Int} : ∀ {st : List OStep}, (∀ t ∈ st, p ≤ t.f1) → lowO st p = 0
  | [], _ => rfl
  | s :: r, h => by
    have := h s List.mem_cons_self
    simp only [lowO]
    rw [if_neg (by omega), lowO_zero (fun t ht => h t (List.mem_cons_of_mem _ ht))]; rfl
theorem highO_zero {p : Int} : ∀ {st : List OStep}, (∀ t ∈ st, p < t.f1) → highO st p = 0
  | [], _ => rfl
  | s :: r, h => by
    have := h s List.mem_cons_self
    simp only [highO]
    rw [if_neg (by omega), highO_zero (fun t ht => h t (List.mem_cons_of_mem _ ht))]; rfl
def gainO (st : List OStep) (p x : Int) : Int := p * x - costO st x
theorem gainO_best {p : Int} : ∀ {st : List OStep} {x : Int}, RangeO st → Rising st → 0 ≤ x → x ≤ sumO st → gainO st p x ≤ gainO st p (lowO st p) ∧ (gainO st p x = gainO st p (lowO st p) ↔ lowO st p ≤ x ∧ x ≤ highO st p)
  | [], x, _, _, h0, h1 => by
    simp only [sumO] at h1
    obtain rfl : x = 0 := by omega
    simp [gainO, lowO, highO]
  | s :: r, x, h, hs, h0, h1 => by
    have hx := h s List.mem_cons_self
    simp only [sumO] at h1
    have hb := lowO_bounds (p := p) h.tail
    -- the gain of a power that the first step alone serves, and of a greater one
    have g1 : ∀ y, 0 ≤ y → y ≤ s.f0 → gainO (s :: r) p y = (p - s.f1) * y := by
      intro y hy0 hy1; have e : mn y s.f0 = y := by unfold mn; rw [if_neg (by omega)]
      simp only [gainO, costO, e, Int.sub_self, costO_zero h.tail]
      rw [Int.sub_mul, Int.mul_comm y s.f1]; omega
    have g2 : ∀ y, s.f0 ≤ y → gainO (s :: r) p y = (p - s.f1) * s.f0 + gainO r p (y - s.f0) := by
      intro y hy1; have e : mn y s.f0 = s.f0 := by unfold mn; split <;> omega
      simp only [gainO, costO, e]
      rw [Int.sub_mul, Int.mul_sub, Int.mul_comm s.f0 s.f1]; omega
    have z0 : gainO r p 0 = 0 := by simp [gainO, costO_zero h.tail]
    have i0 := gainO_best (st := r) (x := 0) (p := p) h.tail hs.2 (by omega) (sumO_nonneg h.tail)
    rw [z0] at i0; simp only [lowO, highO]
    by_cases c : s.f1 < p
    · rw [if_pos c, if_pos (by omega), g2 (s.f0 + lowO r p) (by omega), show s.f0 + lowO r p - s.f0 = lowO r p by omega]; by_cases c2 : x < s.f0
      · rw [g1 x h0 (by omega)]; have hq : 0 < (p - s.f1) * (s.f0 - x) := Int.mul_pos (by omega) (by omega)
        rw [Int.mul_sub] at hq; constructor
        · omega
        · constructor
          · intro; omega
          · intro; omega
      · rw [g2 x (by omega)]; have i1 := gainO_best (st := r) (x := x - s.f0) (p := p) h.tail hs.2 (by omega) (by omega)
        refine ⟨by omega, ?_⟩
        constructor
        · intro he; have := i1.2.1 (by omega)
          omega
        · intro he; have := i1.2.2 (by omega)
          omega
    · have hl : lowO r p = 0 := lowO_zero (fun t ht => by have := hs.1 t ht; omega)
      rw [if_neg c, hl, Int.add_zero, g1 0 (by omega) (by omega), Int.mul_zero]; rw [hl, z0] at i0; by_cases c1 : s.f1 = p
      · rw [if_pos (by omega)]; by_cases c2 : x < s.f0
        · rw [g1 x h0 (by omega), show p - s.f1 = 0 by omega, Int.zero_mul]; constructor
          · omega
          · constructor
            · intro; omega
            · intro; rfl
        · rw [g2 x (by omega), show p - s.f1 = 0 by omega, Int.zero_mul, Int.zero_add]; have i1 := gainO_best (st := r) (x := x - s.f0) (p := p) h.tail hs.2 (by omega) (by omega)
          rw [hl, z0] at i1; refine ⟨i1.1, ?_⟩
          constructor
          · intro he; have := i1.2.1 he
            omega
          · intro he; exact i1.2.2 (by omega)
      · rw [if_neg (by omega), highO_zero (fun t ht => by have := hs.1 t ht; omega)]
        by_cases c2 : x < s.f0
        · rw [g1 x h0 (by omega)]; have hq : 0 ≤ (s.f1 - p) * x := Int.mul_nonneg (by omega) h0
          have hneg : (p - s.f1) * x = -((s.f1 - p) * x) := by rw [← Int.neg_mul]; congr 1; omega
          rw [hneg]; refine ⟨by omega, ?_⟩
          constructor
          · intro he; have h3 : (s.f1 - p) * x = 0 := by omega
            rcases Int.mul_eq_zero.1 h3 with h4 | h4 <;> omega
          · intro he; obtain rfl : x = 0 := by omega
            simp
        · rw [g2 x (by omega)]; have i1 := gainO_best (st := r) (x := x - s.f0) (p := p) h.tail hs.2 (by omega) (by omega)
          rw [hl, z0] at i1; have hq : 0 < (s.f1 - p) * s.f0 := Int.mul_pos (by omega) (by omega)
          have hneg : (p - s.f1) * s.f0 = -((s.f1 - p) * s.f0) := by rw [← Int.neg_mul]; congr 1; omega
          rw [hneg]; refine ⟨by omega, ?_⟩
          constructor
          · intro he; omega
          · intro he; omega
structure Checked (nm : ByteArray) (st : List OStep) (e : Int) : Prop where
  ev : Ev (fun k => qaE.f k nm st) e
  lo : 0 ≤ e
  hi : e ≤ 6
  iff : e = 0 ↔ Ev (fun k => qaJ.f k nm) true ∧ ValidO st
theorem Checked.some (nm : ByteArray) (st : List OStep) (hs : StrOk nm) : ∃ e, Checked nm st e := by
  obtain ⟨e, h1, h2, h3, h4⟩ := offer_Check_some nm st hs
  exact ⟨e, h1, h2, h3, h4⟩
theorem Checked.valid {nm : ByteArray} {st : List OStep} (h : Checked nm st 0) : ValidO st := (h.iff.1 rfl).2
end Go.Proofs.Ytfcifmbddikflaa.P
namespace Go.Proofs.Ytfcifmbddikflaa.P
open Go.RowKit Go.Proofs.YtfcifmbddikflaaW.PrintWords Go.Proofs.YtfcifmbddikflaaW.PrintLast Go.Proofs.YtfcifmbddikflaaW.PrintMore
attribute [local go_sem] qbi qbg qbp qbo qa5 qa4 qbh qbf
set_option linter.unusedVariables false
set_option linter.unusedSimpArgs false
mutual
def qbq.l0 : Nat → Int → Bool → Int → List (S29) → Int → Int → Option (Int)
 | 0, _, _, _, _, _, _ => none
 | k + 1, x1, x2, x7, x12, x13, x14 => if x14 < x13 then (if 0 ≤ x14 then (if x14 < (x12.length : Int) then (qbq.l1 k x1 x2 x7 x12 x13 x14 ((qbb x12 x14).f1) (((qbb x12 x14).f1).length : Int) 0) else (none)) else (none)) else (some x7)
def qbq.l1 : Nat → Int → Bool → Int → List (S29) → Int → Int → List (S41) → Int → Int → Option (Int)
 | 0, _, _, _, _, _, _, _, _, _ => none
 | k + 1, x1, x2, x7, x12, x13, x14, x19, x20, x21 => if x21 < x20 then (if 0 ≤ x21 then (if x21 < (x19.length : Int) then (if ((qaI x19 x21).f1) < x1 then (qbq.l1 k x1 x2 (wrap64 (x7 + ((qaI x19 x21).f0))) x12 x13 x14 x19 x20 (wrap64 (x21 + 1))) else (if x2 = true then (if ((qaI x19 x21).f1) = x1 then (qbq.l1 k x1 x2 (wrap64 (x7 + ((qaI x19 x21).f0))) x12 x13 x14 x19 x20 (wrap64 (x21 + 1))) else (qbq.l1 k x1 x2 x7 x12 x13 x14 x19 x20 (wrap64 (x21 + 1)))) else (qbq.l1 k x1 x2 x7 x12 x13 x14 x19 x20 (wrap64 (x21 + 1))))) else (none)) else (none)) else (qbq.l0 k x1 x2 x7 x12 x13 (wrap64 (x14 + 1)))
end
def qbq.f (k : Nat) (l0 : List (S29)) (a1 : Int) (a2 : Bool) : Option (Int) := qbq.l0 k a1 a2 0 l0 (l0.length : Int) 0
mutual
def qbr.l0 : Nat → List (S29) → Int → Int → List (S29) → Int → Int → Option (Int)
 | 0, _, _, _, _, _, _ => none
 | k + 1, x0, x1, x5, x10, x11, x12 => if x12 < x11 then (if 0 ≤ x12 then (if x12 < (x10.length : Int) then (qbr.l1 k x0 x1 x5 x10 x11 x12 ((qbb x10 x12).f1) (((qbb x10 x12).f1).length : Int) 0) else (none)) else (none)) else (some x5)
def qbr.l1 : Nat → List (S29) → Int → Int → List (S29) → Int → Int → List (S41) → Int → Int → Option (Int)
 | 0, _, _, _, _, _, _, _, _, _ => none
 | k + 1, x0, x1, x5, x10, x11, x12, x17, x18, x19 => if x19 < x18 then (if 0 ≤ x19 then (if x19 < (x17.length : Int) then (if ((qaI x17 x19).f1) < x5 then ((qbq.f k x0 ((qaI x17 x19).f1) true).bind fun t135 => (if t135 ≥ x1 then (qbr.l1 k x0 x1 ((qaI x17 x19).f1) x10 x11 x12 x17 x18 (wrap64 (x19 + 1))) else (qbr.l1 k x0 x1 x5 x10 x11 x12 x17 x18 (wrap64 (x19 + 1))))) else (qbr.l1 k x0 x1 x5 x10 x11 x12 x17 x18 (wrap64 (x19 + 1)))) else (none)) else (none)) else (qbr.l0 k x0 x1 x5 x10 x11 (wrap64 (x12 + 1)))
end
def qbr.f (k : Nat) (l0 : List (S29)) (a1 : Int) : Option (Int) := qbr.l0 k l0 a1 2000000 l0 (l0.length : Int) 0
end Go.Proofs.Ytfcifmbddikflaa.P
namespace Go.Proofs.Ytfcifmbddikflaa.P
set_option linter.unusedVariables false
set_option linter.unusedSimpArgs false
open Go.RowKit Go.Proofs.YtfcifmbddikflaaW.PrintWords Go.Proofs.YtfcifmbddikflaaW.PrintMore Go.Proofs.Ytfcifmbddikflaa.Opn Go.Proofs.Ytfcifmbddikflaa.Evp
abbrev Offer := S29
def okOffers (l : List Offer) : Prop := ∀ o ∈ l, StrOk o.f0
theorem dropO {l : List Offer} {i : Int} (h0 : 0 ≤ i) (h1 : i < (l.length : Int)) : l.drop i.toNat = qbb l i :: l.drop (i + 1).toNat := drop_getD _ h0 h1
def AllOk (l : List Offer) : Prop := l.length ≤ 10 ∧ ∀ o ∈ l, Checked o.f0 o.f1 0
theorem offer_CheckAll_loop (l : List Offer) (hl : l.length ≤ 10) (ho : okOffers l) : ∀ (d : Nat) (i : Int), 0 ≤ i → i ≤ (l.length : Int) → (l.length : Int) - i = d →
    EvP (fun k => qaH.l0 k l l (l.length : Int) i) (fun e => 0 ≤ e ∧ e ≤ 7 ∧ (e = 0 → ∀ o ∈ l.drop i.toNat, Checked o.f0 o.f1 0)) := by
  intro d; induction d with
  | zero =>
    intro i h0 h1 hd; refine EvP.step (fun k => by rw [qaH.l0]) ?_
    refine EvP.neg (by omega) (EvP.ret ⟨by omega, by omega, fun _ => ?_⟩)
    rw [drop_end (by omega)]; intro o h; cases h
  | succ d ih =>
    intro i h0 h1 hd; refine EvP.step (fun k => by rw [qaH.l0]) ?_
    refine EvP.pos (by omega) (EvP.pos h0 (EvP.pos (by omega) ?_))
    rw [dropO h0 (by omega)]; obtain ⟨x, hx⟩ : ∃ x, x = qbb l i := ⟨_, rfl⟩
    rw [← hx]; have hxm : x ∈ l := by rw [hx]; exact getD_mem h0 (by omega)
    obtain ⟨e, he⟩ := Checked.some x.f0 x.f1 (ho x hxm)
    refine EvP.bindE he.ev (EvP.ite (fun c => ?_) (fun c => EvP.ret ⟨he.lo, by have := he.hi; omega, fun h => absurd h c⟩))
    subst c; refine EvP.pos (by omega) (EvP.binds ?_)
    -- the names before
    have inner : ∀ (d2 : Nat) (j : Int), 0 ≤ j → j ≤ ((l.take i.toNat).length : Int) → ((l.take i.toNat).length : Int) - j = d2 →
        EvP (fun k => qaH.l1 k l l (l.length : Int) i (l.take i.toNat) ((l.take i.toNat).length : Int) j x.f0 x.f1) (fun e => 0 ≤ e ∧ e ≤ 7 ∧ (e = 0 → ∀ o ∈ x :: l.drop (i + 1).toNat, Checked o.f0 o.f1 0)) := by
      have hlt : (l.take i.toNat).length ≤ 10 := by rw [List.length_take]; omega
      intro d2; induction d2 with
      | zero =>
        intro j j0 j1 jd; refine EvP.step (fun k => by rw [qaH.l1]) ?_
        refine EvP.neg (by omega) ?_
        rw [w64 (by omega) (by omega)]; refine (ih (i + 1) (by omega) (by omega) (by omega)).mono fun e2 h2 => ⟨h2.1, h2.2.1, fun h o hm => ?_⟩
        rcases List.mem_cons.1 hm with rfl | hm
        · exact he
        · exact h2.2.2 h o hm
      | succ d2 ih2 =>
        intro j j0 j1 jd; refine EvP.step (fun k => by rw [qaH.l1]) ?_
        refine EvP.pos (by omega) (EvP.pos j0 (EvP.pos (by omega) ?_))
        rw [w64 (by omega) (by omega)]; exact EvP.ite (fun _ => EvP.ret ⟨by omega, by omega, fun h => by omega⟩) (fun _ => ih2 (j + 1) (by omega) (by omega) (by omega))
    exact inner (l.take i.toNat).length 0 (by omega) (by omega) (by omega)
theorem checkAll_some (l : List Offer) (ho : okOffers l) : ∃ e, Ev (fun k => qaH.f k l) e ∧ 0 ≤ e ∧ e ≤ 7 ∧ (e = 0 → AllOk l) := by
  have h : EvP (fun k => qaH.f k l) (fun e => 0 ≤ e ∧ e ≤ 7 ∧ (e = 0 → AllOk l)) := by
    unfold qaH.f
    refine EvP.ite (fun c => EvP.ret ⟨by omega, by omega, fun h => by omega⟩) (fun c => ?_)
    refine (offer_CheckAll_loop l (by omega) ho l.length 0 (by omega) (by omega) (by omega)).mono fun e he => ⟨he.1, he.2.1, fun h => ⟨by omega, by simpa using he.2.2 h⟩⟩
  exact h
def sumA : List Offer → Int
  | [] => 0
  | o :: r => sumO o.f1 + sumA r
def lowA (p : Int) : List Offer → Int
  | [] => 0
  | o :: r => lowO o.f1 p + lowA p r
def highA (p : Int) : List Offer → Int
  | [] => 0
  | o :: r => highO o.f1 p + highA p r
def AllV (l : List Offer) : Prop := ∀ o ∈ l, ValidO o.f1
theorem AllOk.v {l : List Offer} (h : AllOk l) : AllV l := fun o ho => (h.2 o ho).valid
theorem AllV.tail {o : Offer} {r : List Offer} (h : AllV (o :: r)) : AllV r := fun x hx => h x (List.mem_cons_of_mem _ hx)
theorem AllV.drop {l : List Offer} (h : AllV l) (n : Nat) : AllV (l.drop n) := fun x hx => h x (List.mem_of_mem_drop hx)
def IsPrice (l : List Offer) (p : Int) : Prop := ∃ o ∈ l, ∃ s ∈ o.f1, s.f1 = p
structure Marg (l : List Offer) (demand m : Int) : Prop where
  price : IsPrice l m
  lo : -1000000 ≤ m
  hi : m ≤ 1000000
  offers : demand ≤ highA m l
  less : lowA m l < demand
  least : ∀ p, demand ≤ highA p l → IsPrice l p → m ≤ p
def Earns (p : Int) : List Offer → List Int → Prop
  | [], [] => True
  | o :: r, x :: xs => lowO o.f1 p ≤ x ∧ x ≤ highO o.f1 p ∧ Earns p r xs
  | _, _ => False
def sumI : List Int → Int
  | [] => 0
  | x :: r => x + sumI r
theorem Earns.length {p : Int} : ∀ {l : List Offer} {xs : List Int}, Earns p l xs → xs.length = l.length
  | [], [], _ => rfl
  | o :: r, x :: xs, h => by simp [Earns.length h.2.2]
  | [], _ :: _, h => h.elim
  | _ :: _, [], h => h.elim
def costA : List Offer → List Int → Int
  | o :: r, x :: xs => costO o.f1 x + costA r xs
  | _, _ => 0
def InA : List Offer → List Int → Prop
  | [], [] => True
  | o :: r, x :: xs => 0 ≤ x ∧ x ≤ sumO o.f1 ∧ InA r xs
  | _, _ => False
theorem Earns.inA {p : Int} : ∀ {l : List Offer} {xs : List Int}, AllV l → Earns p l xs → InA l xs
  | [], [], _, _ => trivial
  | o :: r, x :: xs, hv, h => by
    have hb := lowO_bounds (p := p) (hv o List.mem_cons_self).range
    exact ⟨by have := h.1; omega, by have := h.2.1; omega, Earns.inA hv.tail h.2.2⟩
  | [], _ :: _, _, h => h.elim
  | _ :: _, [], _, h => h.elim
theorem InA.length : ∀ {l : List Offer} {xs : List Int}, InA l xs → xs.length = l.length
  | [], [], _ => rfl
  | o :: r, x :: xs, h => by simp [InA.length h.2.2]
  | [], _ :: _, h => h.elim
  | _ :: _, [], h => h.elim
theorem earns_least {p : Int} : ∀ {l : List Offer} {xs ys : List Int}, AllV l → Earns p l xs → InA l ys → p * sumI ys - costA l ys ≤ p * sumI xs - costA l xs
  | [], [], [], _, _, _ => by simp [sumI, costA]
  | o :: r, x :: xs, y :: ys, hv, hx, hy => by
    have hvo := hv o List.mem_cons_self
    have hb := lowO_bounds (p := p) hvo.range
    have hx1 := hx.1; have hx2 := hx.2.1; have g1 := (gainO_best (p := p) (x := x) hvo.range hvo.rising (by omega) (by omega)).2.2 ⟨hx1, hx2⟩
    have g2 := (gainO_best (p := p) (x := y) hvo.range hvo.rising hy.1 hy.2.1).1
    have ih := earns_least hv.tail hx.2.2 hy.2.2
    unfold gainO at g1 g2
    simp only [sumI, costA, Int.mul_add]
    omega
  | [], _ :: _, _, _, h, _ => h.elim
  | _ :: _, [], _, _, h, _ => h.elim
  | [], [], _ :: _, _, _, h => h.elim
  | _ :: _, _ :: _, [], _, _, h => h.elim
theorem set_mid {xs : List Int} {d : Nat} {i : Int} {v : Int} (h : (xs.length : Int) = i) : (xs ++ List.replicate (d + 1) 0).set i.toNat v = xs ++ [v] ++ List.replicate d 0 := by
  have e : i.toNat = xs.length := by omega
  rw [e, List.replicate_succ, List.set_append_right _ _ (Nat.le_refl _), Nat.sub_self, List.set_cons_zero, List.append_assoc]; rfl
theorem zeros_in : ∀ {l : List Offer}, AllV l → InA l (List.replicate l.length 0) ∧ sumI (List.replicate l.length 0) = 0 ∧ costA l (List.replicate l.length 0) = 0
  | [], _ => by simp [InA, sumI, costA]
  | o :: r, hv => by
    have hvo := hv o List.mem_cons_self
    have ih := zeros_in hv.tail
    simp only [List.length_cons, List.replicate_succ, InA, sumI, costA]
    rw [costO_zero hvo.range, ih.2.1, ih.2.2]; exact ⟨⟨by omega, hvo.sum.1, ih.1⟩, rfl, rfl⟩
theorem zeros_of_sum : ∀ {l : List Offer} {xs : List Int}, InA l xs → sumI xs = 0 → xs = List.replicate l.length 0
  | [], [], _, _ => rfl
  | o :: r, x :: xs, h, hs => by
    have hn : ∀ {l : List Offer} {xs : List Int}, InA l xs → 0 ≤ sumI xs := by
      intro l; induction l with
      | nil => intro xs h; cases xs with
        | nil => simp [sumI]
        | cons _ _ => exact h.elim
      | cons o r ih => intro xs h; cases xs with
        | nil => exact h.elim
        | cons y ys => have := ih h.2.2; have := h.1; simp only [sumI]; omega
    have h1 := hn h.2.2
    have h0 := h.1; simp only [sumI] at hs
    rw [zeros_of_sum h.2.2 (by omega), show x = 0 by omega]; rfl
  | [], _ :: _, h, _ => h.elim
  | _ :: _, [], h, _ => h.elim
structure BestOf (l : List Offer) (demand : Int) (ps : List Int) (n : Int) : Prop where
  all : Ev (fun k => qaH.f k l) 0
  ok : AllOk l
  lo : 0 ≤ demand
  hi : demand ≤ 1000000
  le : demand ≤ sumA l
  inA : InA l ps
  sum : sumI ps = demand
  cost : costA l ps = n
  zero : demand = 0 → ps = List.replicate l.length 0 ∧ n = 0
  earns : 0 < demand → ∃ m, Ev (fun k => qbr.f k l demand) m ∧ Marg l demand m ∧ Earns m l ps
theorem BestOf.least {l : List Offer} {demand n : Int} {ps : List Int} (h : BestOf l demand ps n) {ys : List Int} (hy : InA l ys) (hs : sumI ys = demand) : n ≤ costA l ys := by
  by_cases h0 : demand = 0
  · have := zeros_of_sum hy (by omega)
    rw [this, (zeros_in h.ok.v).2.2, (h.zero h0).2]; exact Int.le_refl _
  · obtain ⟨m, _, hm, he⟩ := h.earns (by have := h.lo; omega)
    have := earns_least h.ok.v he hy
    rw [hs, h.sum, h.cost] at this; omega
end Go.Proofs.Ytfcifmbddikflaa.P
namespace Go.Proofs.Ytfcifmbddikflaa.Srt
set_option linter.unusedVariables false
set_option linter.unusedSimpArgs false
section
variable {α : Type}
structure SWO (lt : α → α → Bool) : Prop where
  asymm : ∀ {x y}, lt x y = true → lt y x = false
  neg : ∀ {x y z}, lt x y = false → lt y z = false → lt x z = false
theorem SWO.irrefl {lt : α → α → Bool} (h : SWO lt) (x : α) : lt x x = false := by
  cases hx : lt x x with
  | false => rfl
  | true => have := h.asymm hx; rw [hx] at this; cases this
theorem SWO.lt_le {lt : α → α → Bool} (h : SWO lt) {x y z : α} (h1 : lt x y = true) (h2 : lt z y = false) : lt x z = true := by
  cases hx : lt x z with
  | true => rfl
  | false => have := h.neg hx h2; rw [h1] at this; cases this
theorem SWO.le_lt {lt : α → α → Bool} (h : SWO lt) {x y z : α} (h1 : lt y x = false) (h2 : lt y z = true) : lt x z = true := by
  cases hx : lt x z with
  | true => rfl
  | false => have := h.neg h1 hx; rw [h2] at this; cases this
theorem SWO.trans {lt : α → α → Bool} (h : SWO lt) {x y z : α} (h1 : lt x y = true) (h2 : lt y z = true) : lt x z = true := h.lt_le h1 (h.asymm h2)
variable (lt : α → α → Bool)
def mrg : List α → List α → List α
  | [], r => r
  | x :: l, [] => x :: l
  | x :: l, y :: r => if lt y x = true then y :: mrg (x :: l) r else x :: mrg l (y :: r)
termination_by l r => l.length + r.length
theorem mrg_nil_left (r : List α) : mrg lt [] r = r := by unfold mrg; rfl
theorem mrg_nil_right (l : List α) : mrg lt l [] = l := by cases l <;> unfold mrg <;> rfl
theorem qbE (x : α) (l : List α) (y : α) (r : List α) : mrg lt (x :: l) (y :: r) = if lt y x = true then y :: mrg lt (x :: l) r else x :: mrg lt l (y :: r) := by
  conv => lhs; unfold mrg
variable {lt}
theorem mrg_assoc (h : SWO lt) : ∀ (n : Nat) (a b c : List α), a.length + b.length + c.length ≤ n → mrg lt (mrg lt a b) c = mrg lt a (mrg lt b c)
  | _, [], b, c, _ => by rw [mrg_nil_left, mrg_nil_left]
  | _, a :: a', [], c, _ => by rw [mrg_nil_right, mrg_nil_left]
  | _, a :: a', b :: b', [], _ => by rw [mrg_nil_right, mrg_nil_right]
  | 0, a :: a', b :: b', c :: c', hn => by simp at hn
  | n + 1, a :: a', b :: b', c :: c', hn => by
    simp only [List.length_cons] at hn
    have i1 := mrg_assoc h n (a :: a') (b :: b') c' (by simp only [List.length_cons]; omega)
    have i2 := mrg_assoc h n (a :: a') b' (c :: c') (by simp only [List.length_cons]; omega)
    have i3 := mrg_assoc h n a' (b :: b') (c :: c') (by simp only [List.length_cons]; omega)
    rw [qbE lt a a' b b', qbE lt b b' c c']; rw [qbE lt a a' b b'] at i1; rw [qbE lt b b' c c'] at i3; cases hba : lt b a with
    | true =>
      rw [hba, if_pos rfl] at i1; rw [if_pos rfl, qbE]; cases hcb : lt c b with
      | true =>
        rw [if_pos rfl, if_pos rfl, qbE, if_pos (h.trans hcb hba), i1]
      | false =>
        rw [if_neg (by simp), if_neg (by simp), qbE, if_pos hba, i2]
    | false =>
      rw [hba, if_neg (by simp)] at i1; rw [if_neg (by simp), qbE]; cases hca : lt c a with
      | true =>
        have hcb : lt c b = true := h.lt_le hca hba
        rw [if_pos rfl, hcb, if_pos rfl, qbE, if_pos hca, i1]
      | false =>
        rw [if_neg (by simp)]; cases hcb : lt c b with
        | true =>
          rw [hcb, if_pos rfl] at i3; rw [if_pos rfl, qbE, if_neg (by simp [hca]), i3]
        | false =>
          rw [hcb, if_neg (by simp)] at i3; rw [if_neg (by simp), qbE, if_neg (by simp [hba]), i3]
theorem mrg_left (l2 : List α) : ∀ (l1 r : List α), (∀ x ∈ l1, ∀ y ∈ r, lt y x = false) → mrg lt (l1 ++ l2) r = l1 ++ mrg lt l2 r
  | [], r, _ => rfl
  | x :: l1, [], _ => by rw [mrg_nil_right, mrg_nil_right]
  | x :: l1, y :: r, h => by
    rw [List.cons_append, qbE, if_neg (by rw [h x List.mem_cons_self y List.mem_cons_self]; simp), mrg_left l2 l1 (y :: r) (fun z hz => h z (List.mem_cons_of_mem _ hz))]
    rfl
theorem mrg_right (r2 : List α) : ∀ (l2 r1 : List α), (∀ x ∈ l2, ∀ y ∈ r1, lt y x = true) → mrg lt l2 (r1 ++ r2) = r1 ++ mrg lt l2 r2
  | l2, [], _ => rfl
  | [], y :: r1, _ => by rw [mrg_nil_left, mrg_nil_left]
  | x :: l2, y :: r1, h => by
    rw [List.cons_append, qbE, if_pos (h x List.mem_cons_self y List.mem_cons_self), mrg_right r2 (x :: l2) r1 (fun z hz w hw => h z hz w (List.mem_cons_of_mem _ hw))]; rfl
theorem mrg_split (l2 r2 : List α) : ∀ (n : Nat) (l1 r1 : List α), l1.length + r1.length ≤ n → (∀ x ∈ l1, ∀ y ∈ r2, lt y x = false) → (∀ x ∈ l2, ∀ y ∈ r1, lt y x = true) → mrg lt (l1 ++ l2) (r1 ++ r2) = mrg lt l1 r1 ++ mrg lt l2 r2
  | _, [], r1, _, _, h2 => by rw [List.nil_append, mrg_right r2 l2 r1 h2, mrg_nil_left]
  | _, x :: l1, [], _, h1, _ => by rw [List.nil_append, mrg_left l2 (x :: l1) r2 h1, mrg_nil_right]
  | 0, x :: l1, y :: r1, hn, _, _ => by simp at hn
  | n + 1, x :: l1, y :: r1, hn, h1, h2 => by
    simp only [List.length_cons] at hn
    have i1 := mrg_split l2 r2 n (x :: l1) r1 (by simp only [List.length_cons]; omega) h1 (fun z hz w hw => h2 z hz w (List.mem_cons_of_mem _ hw))
    have i2 := mrg_split l2 r2 n l1 (y :: r1) (by simp only [List.length_cons]; omega) (fun z hz => h1 z (List.mem_cons_of_mem _ hz)) h2
    rw [List.cons_append, List.cons_append, qbE, qbE]; cases hc : lt y x with
    | true => rw [if_pos rfl, if_pos rfl]; rw [List.cons_append] at i1; rw [i1]; rfl
    | false => rw [if_neg (by simp), if_neg (by simp)]; rw [List.cons_append] at i2; rw [i2]; rfl
def ssort (lt : α → α → Bool) (l : List α) : List α := l.foldl (fun acc x => mrg lt acc [x]) []
theorem ssort_snoc (l : List α) (x : α) : ssort lt (l ++ [x]) = mrg lt (ssort lt l) [x] := by simp [ssort]
theorem ssort_append (h : SWO lt) (a : List α) : ∀ (n : Nat) (b : List α), b.length = n → ssort lt (a ++ b) = mrg lt (ssort lt a) (ssort lt b)
  | 0, b, hb => by
    rw [List.eq_nil_of_length_eq_zero hb, List.append_nil, show ssort lt ([] : List α) = [] from rfl, mrg_nil_right]
  | n + 1, b, hb => by
    have hne : b ≠ [] := by intro h; rw [h] at hb; simp at hb
    obtain ⟨c, x, rfl⟩ : ∃ c x, b = c ++ [x] := ⟨b.dropLast, b.getLast hne, (List.dropLast_concat_getLast hne).symm⟩
    rw [← List.append_assoc, ssort_snoc, ssort_snoc, ssort_append h a n c (by simpa using hb), mrg_assoc h _ _ _ _ (Nat.le_refl _)]
theorem mrg_perm : ∀ (n : Nat) (l r : List α), l.length + r.length ≤ n → (mrg lt l r).Perm (l ++ r)
  | _, [], r, _ => by rw [mrg_nil_left]; exact List.Perm.refl _
  | _, x :: l, [], _ => by rw [mrg_nil_right, List.append_nil]
  | 0, x :: l, y :: r, h => by simp at h
  | n + 1, x :: l, y :: r, h => by
    simp only [List.length_cons] at h
    rw [qbE]; split
    · have := mrg_perm n (x :: l) r (by simp only [List.length_cons]; omega)
      exact (this.cons y).trans (List.perm_middle.symm)
    · have := mrg_perm n l (y :: r) (by simp only [List.length_cons]; omega)
      exact this.cons x
theorem mrg_length (l r : List α) : (mrg lt l r).length = l.length + r.length := by
  rw [(mrg_perm _ l r (Nat.le_refl _)).length_eq, List.length_append]
theorem qbu (h : SWO lt) : ∀ (l : List α), (ssort lt l).Perm l
  | [] => List.Perm.refl _
  | x :: l => by
    have e : x :: l = [x] ++ l := rfl
    rw [e, ssort_append h [x] _ l rfl]
    refine (mrg_perm _ _ _ (Nat.le_refl _)).trans ?_
    exact List.Perm.append (by rw [show ssort lt [x] = mrg lt [] [x] from rfl, mrg_nil_left]) (qbu h l)
theorem qbn (h : SWO lt) (l : List α) : (ssort lt l).length = l.length := (qbu h l).length_eq
def Srtd (lt : α → α → Bool) (l : List α) : Prop := l.Pairwise fun x y => lt y x = false
theorem mrg_sorted (h : SWO lt) : ∀ (n : Nat) (l r : List α), l.length + r.length ≤ n → Srtd lt l → Srtd lt r → Srtd lt (mrg lt l r)
  | _, [], r, _, _, hr => by rw [mrg_nil_left]; exact hr
  | _, x :: l, [], _, hl, _ => by rw [mrg_nil_right]; exact hl
  | 0, x :: l, y :: r, hn, _, _ => by simp at hn
  | n + 1, x :: l, y :: r, hn, hl, hr => by
    simp only [List.length_cons] at hn
    unfold Srtd at hl hr ⊢
    rw [List.pairwise_cons] at hl hr; rw [qbE]; cases hc : lt y x with
    | true =>
      rw [if_pos rfl, List.pairwise_cons]; refine ⟨fun z hz => ?_, mrg_sorted h n (x :: l) r (by simp only [List.length_cons]; omega) (List.pairwise_cons.2 hl) hr.2⟩
      have hz' := (mrg_perm _ (x :: l) r (Nat.le_refl _)).mem_iff.1 hz
      rcases List.mem_append.1 hz' with hz' | hz'
      · have hxz : lt z x = false := by
          rcases List.mem_cons.1 hz' with rfl | hz'
          · exact h.irrefl _
          · exact hl.1 z hz'
        exact h.neg hxz (h.asymm hc)
      · exact hr.1 z hz'
    | false =>
      rw [if_neg (by simp), List.pairwise_cons]; refine ⟨fun z hz => ?_, mrg_sorted h n l (y :: r) (by simp only [List.length_cons]; omega) hl.2 (List.pairwise_cons.2 hr)⟩
      have hz' := (mrg_perm _ l (y :: r) (Nat.le_refl _)).mem_iff.1 hz
      rcases List.mem_append.1 hz' with hz' | hz'
      · exact hl.1 z hz'
      · rcases List.mem_cons.1 hz' with rfl | hz'
        · exact hc
        · exact h.neg (hr.1 z hz') hc
theorem qbL (h : SWO lt) : ∀ (n : Nat) (l : List α), l.length = n → Srtd lt (ssort lt l)
  | 0, l, hl => by rw [List.eq_nil_of_length_eq_zero hl]; exact List.Pairwise.nil
  | n + 1, l, hl => by
    have hne : l ≠ [] := by intro h; rw [h] at hl; simp at hl
    obtain ⟨c, x, rfl⟩ : ∃ c x, l = c ++ [x] := ⟨l.dropLast, l.getLast hne, (List.dropLast_concat_getLast hne).symm⟩
    rw [ssort_snoc]; exact mrg_sorted h _ _ _ (Nat.le_refl _) (qbL h n c (by simpa using hl)) (List.pairwise_singleton _ _)
theorem swo_key2 (f g : α → Int) : SWO (fun x y => decide (f x < f y ∨ f x = f y ∧ g x < g y)) := ⟨fun h => by simp at h ⊢; omega, fun h1 h2 => by simp at h1 h2 ⊢; omega⟩
end
end Go.Proofs.Ytfcifmbddikflaa.Srt
namespace Go.Proofs.Ytfcifmbddikflaa.Srt
open Go.RowKit Go.Proofs.YtfcifmbddikflaaW.PrintWords Go.Proofs.YtfcifmbddikflaaW.PrintMore Go.Proofs.Ytfcifmbddikflaa.Evp
set_option linter.unusedVariables false
set_option linter.unusedSimpArgs false
def half (a b : Int) : Int := wrap64 ((IntKind.u64.wrap (wrap64 (a + b))) / 2)
theorem half_eq {a b : Int} (h1 : 0 ≤ a) (h2 : 0 ≤ b) (h3 : a ≤ 1152921504606846976) (h4 : b ≤ 1152921504606846976) : half a b = (a + b) / 2 := by
  unfold half
  rw [w64 (x := a + b) (by omega) (by omega)]; have : IntKind.u64.wrap (a + b) = a + b := by
    unfold IntKind.wrap
    simp only [IntKind.signed, IntKind.bits, Bool.false_and, Bool.false_eq_true, if_false]
    omega
  rw [this, w64 (by omega) (by omega)]
structure Sys (α : Type) where
  z : α
  cmp : Nat → α → α → Option Int
  i0 : Nat → List α → Int → Int → Int → Option (List α)
  i1 : Nat → List α → Int → Int → Int → Int → Option (List α)
  w0 : Nat → List α → Int → Int → Int → Int → Option (List α)
  r0 : Nat → List α → Int → Int → Int → Option (List α)
  m0 : Nat → List α → Int → Int → Int → Option (List α)
  m1 : Nat → List α → Int → Int → Option (List α)
  m2 : Nat → List α → Int → Int → Int → Option (List α)
  m3 : Nat → List α → Int → Int → Option (List α)
  j4 : Nat → List α → Int → Int → Int → Int → Int → Int → Int → Option (List α)
  l4 : Nat → List α → Int → Int → Int → Int → Int → Int → Int → Int → Option (List α)
  j6 : Nat → List α → Int → Int → Int → Int → Int → Int → Bool → Option (List α)
  j7 : Nat → List α → Int → Int → Int → Int → Int → Option (List α)
  j8 : Nat → List α → Int → Int → Int → Int → Int → Bool → Option (List α)
  mf : Nat → List α → Int → Int → Int → Option (List α)
  s0 : Nat → List α → Int → Int → Int → Int → Option (List α)
  s1 : Nat → List α → Int → Int → Option (List α)
  s2 : Nat → List α → Int → Int → Int → Int → Option (List α)
def Sys.rd {α : Type} (S : Sys α) (xs : List α) (i : Int) : α := xs.getD i.toNat S.z
structure Eqs {α : Type} (S : Sys α) : Prop where
  i0 : ∀ k x0 x1 x2 x8, S.i0 (k + 1) x0 x1 x2 x8 = if x8 < x2 then S.i1 k x0 x1 x2 x8 x8 else some x0
  i1 : ∀ k x0 x1 x2 x8 x9, S.i1 (k + 1) x0 x1 x2 x8 x9 = if x9 > x1 then (if 0 ≤ x9 then (if x9 < (x0.length : Int) then (if 0 ≤ wrap64 (x9 - 1) then (if wrap64 (x9 - 1) < (x0.length : Int) then ((S.cmp k (S.rd x0 x9) (S.rd x0 (wrap64 (x9 - 1)))).bind fun t => (if t < 0 then S.i1 k ((x0.set (x9 : Int).toNat (S.rd x0 (wrap64 (x9 - 1)))).set (wrap64 (x9 - 1)).toNat (S.rd x0 x9)) x1 x2 x8 (wrap64 (x9 - 1)) else S.i0 k x0 x1 x2 (wrap64 (x8 + 1)))) else none) else none) else none) else none) else S.i0 k x0 x1 x2 (wrap64 (x8 + 1))
  w0 : ∀ k x0 x1 x2 x3 x10, S.w0 (k + 1) x0 x1 x2 x3 x10 = if x10 < x3 then (if 0 ≤ wrap64 (x2 + x10) then (if wrap64 (x2 + x10) < (x0.length : Int) then (if 0 ≤ wrap64 (x1 + x10) then (if wrap64 (x1 + x10) < (x0.length : Int) then S.w0 k ((x0.set (wrap64 (x1 + x10)).toNat (S.rd x0 (wrap64 (x2 + x10)))).set (wrap64 (x2 + x10)).toNat (S.rd x0 (wrap64 (x1 + x10)))) x1 x2 x3 (wrap64 (x10 + 1)) else none) else none) else none) else none) else some x0
  r0 : ∀ k x0 x2 x10 x11, S.r0 (k + 1) x0 x2 x10 x11 = if x10 = x11 then ((S.w0 k x0 (wrap64 (x2 - x10)) x2 x10 0).bind fun t => some t) else (if x10 > x11 then ((S.w0 k x0 (wrap64 (x2 - x10)) x2 x11 0).bind fun t => S.r0 k t x2 (wrap64 (x10 - x11)) x11) else ((S.w0 k x0 (wrap64 (x2 - x10)) (wrap64 (wrap64 (x2 + x11) - x10)) x10 0).bind fun t => S.r0 k t x2 x10 (wrap64 (x11 - x10))))
  m0 : ∀ k x0 x1 x10 x11, S.m0 (k + 1) x0 x1 x10 x11 = if x10 < x11 then (if 0 ≤ half x10 x11 then (if half x10 x11 < (x0.length : Int) then (if 0 ≤ x1 then (if x1 < (x0.length : Int) then ((S.cmp k (S.rd x0 (half x10 x11)) (S.rd x0 x1)).bind fun t => (if t < 0 then S.m0 k x0 x1 (wrap64 (half x10 x11 + 1)) x11 else S.m0 k x0 x1 x10 (half x10 x11))) else none) else none) else none) else none) else S.m1 k x0 x10 x1
  m1 : ∀ k x0 x10 x13, S.m1 (k + 1) x0 x10 x13 = if x13 < wrap64 (x10 - 1) then (if 0 ≤ wrap64 (x13 + 1) then (if wrap64 (x13 + 1) < (x0.length : Int) then (if 0 ≤ x13 then (if x13 < (x0.length : Int) then S.m1 k ((x0.set (x13 : Int).toNat (S.rd x0 (wrap64 (x13 + 1)))).set (wrap64 (x13 + 1)).toNat (S.rd x0 x13)) x10 (wrap64 (x13 + 1)) else none) else none) else none) else none) else some x0
  m2 : ∀ k x0 x2 x14 x15, S.m2 (k + 1) x0 x2 x14 x15 = if x14 < x15 then (if 0 ≤ x2 then (if x2 < (x0.length : Int) then (if 0 ≤ half x14 x15 then (if half x14 x15 < (x0.length : Int) then ((S.cmp k (S.rd x0 x2) (S.rd x0 (half x14 x15))).bind fun t => (if t < 0 then S.m2 k x0 x2 x14 (half x14 x15) else S.m2 k x0 x2 (wrap64 (half x14 x15 + 1)) x15)) else none) else none) else none) else none) else S.m3 k x0 x14 x2
  m3 : ∀ k x0 x14 x17, S.m3 (k + 1) x0 x14 x17 = if x17 > x14 then (if 0 ≤ wrap64 (x17 - 1) then (if wrap64 (x17 - 1) < (x0.length : Int) then (if 0 ≤ x17 then (if x17 < (x0.length : Int) then S.m3 k ((x0.set (x17 : Int).toNat (S.rd x0 (wrap64 (x17 - 1)))).set (wrap64 (x17 - 1)).toNat (S.rd x0 x17)) x14 (wrap64 (x17 - 1)) else none) else none) else none) else none) else some x0
  j4 : ∀ k x0 x1 x2 x3 x18 x19 x20 x21, S.j4 (k + 1) x0 x1 x2 x3 x18 x19 x20 x21 = S.l4 k x0 x1 x2 x3 x18 x19 x20 x21 (wrap64 (x19 - 1))
  l4 : ∀ k x0 x1 x2 x3 x18 x19 x20 x21 x22, S.l4 (k + 1) x0 x1 x2 x3 x18 x19 x20 x21 x22 = if x20 < x21 then (if 0 ≤ wrap64 (x22 - half x20 x21) then (if wrap64 (x22 - half x20 x21) < (x0.length : Int) then (if 0 ≤ half x20 x21 then (if half x20 x21 < (x0.length : Int) then ((S.cmp k (S.rd x0 (wrap64 (x22 - half x20 x21))) (S.rd x0 (half x20 x21))).bind fun t => (if t < 0 then S.l4 k x0 x1 x2 x3 x18 x19 x20 (half x20 x21) x22 else S.l4 k x0 x1 x2 x3 x18 x19 (wrap64 (half x20 x21 + 1)) x21 x22)) else none) else none) else none) else none) else (if x20 < x2 then S.j6 k x0 x1 x2 x3 x18 x20 (wrap64 (x19 - x20)) (decide (x2 < wrap64 (x19 - x20))) else S.j6 k x0 x1 x2 x3 x18 x20 (wrap64 (x19 - x20)) false)
  j6 : ∀ k x0 x1 x2 x3 x18 x20 x24 x185, S.j6 (k + 1) x0 x1 x2 x3 x18 x20 x24 x185 = if x185 = true then ((S.r0 k x0 x2 (wrap64 (x2 - x20)) (wrap64 (x24 - x2))).bind fun t => S.j7 k t x1 x3 x18 x20 x24) else S.j7 k x0 x1 x3 x18 x20 x24
  j7 : ∀ k x0 x1 x3 x18 x20 x24, S.j7 (k + 1) x0 x1 x3 x18 x20 x24 = if x1 < x20 then S.j8 k x0 x1 x3 x18 x20 x24 (decide (x20 < x18)) else S.j8 k x0 x1 x3 x18 x20 x24 false
  j8 : ∀ k x0 x1 x3 x18 x20 x24 x199, S.j8 (k + 1) x0 x1 x3 x18 x20 x24 x199 = if x199 = true then ((S.mf k x0 x1 x20 x18).bind fun t => (if x18 < x24 then (if x24 < x3 then ((S.mf k t x18 x24 x3).bind fun u => some u) else some t) else some t)) else (if x18 < x24 then (if x24 < x3 then ((S.mf k x0 x18 x24 x3).bind fun t => some t) else some x0) else some x0)
  mf : ∀ k l0 a1 a2 a3, S.mf (k + 1) l0 a1 a2 a3 = if wrap64 (a2 - a1) = 1 then S.m0 k l0 a1 a2 a3 else (if wrap64 (a3 - a2) = 1 then S.m2 k l0 a2 a1 a2 else (if a2 > half a1 a3 then S.j4 k l0 a1 a2 a3 (half a1 a3) (wrap64 (half a1 a3 + a2)) (wrap64 (wrap64 (half a1 a3 + a2) - a3)) (half a1 a3) else S.j4 k l0 a1 a2 a3 (half a1 a3) (wrap64 (half a1 a3 + a2)) a1 a2))
  s0 : ∀ k x0 x1 x6 x7 x8, S.s0 (k + 1) x0 x1 x6 x7 x8 = if x8 ≤ x1 then ((S.i0 k x0 x7 x8 (wrap64 (x7 + 1))).bind fun t => S.s0 k t x1 x6 x8 (wrap64 (x8 + x6))) else ((S.i0 k x0 x7 x1 (wrap64 (x7 + 1))).bind fun t => S.s1 k t x1 x6)
  s1 : ∀ k x0 x1 x6, S.s1 (k + 1) x0 x1 x6 = if x6 < x1 then S.s2 k x0 x1 x6 0 (wrap64 (2 * x6)) else some x0
  s2 : ∀ k x0 x1 x6 x7 x8, S.s2 (k + 1) x0 x1 x6 x7 x8 = if x8 ≤ x1 then ((S.mf k x0 x7 (wrap64 (x7 + x6)) x8).bind fun t => S.s2 k t x1 x6 x8 (wrap64 (x8 + wrap64 (2 * x6)))) else (if wrap64 (x7 + x6) < x1 then ((S.mf k x0 x7 (wrap64 (x7 + x6)) x1).bind fun t => S.s1 k t x1 (wrap64 (x6 * 2))) else S.s1 k x0 x1 (wrap64 (x6 * 2)))
section
variable {α : Type} {S : Sys α} {lt : α → α → Bool} {Ok : α → Prop}
theorem rdA (P : List α) (x : α) (Q : List α) (i : Int) (h : i = (P.length : Int)) : S.rd (P ++ x :: Q) i = x := by
  subst h; unfold Sys.rd
  simp [List.getD_eq_getElem?_getD]
theorem rdE (d P : List α) (x : α) (Q : List α) (i : Int) (e : d = P ++ x :: Q) (h : i = (P.length : Int)) : S.rd d i = x := by
  subst e; exact rdA P x Q i h
theorem set_at (P : List α) (x y : α) (Q : List α) : (P ++ x :: Q).set P.length y = P ++ y :: Q := by
  induction P with
  | nil => rfl
  | cons p P ih => simp
theorem swap_hi (P : List α) (x : α) (Q : List α) (y : α) (R : List α) (i j : Nat) (hi : i = P.length) (hj : j = P.length + 1 + Q.length) : ((P ++ x :: (Q ++ y :: R)).set j x).set i y = P ++ y :: (Q ++ x :: R) := by
  subst hi; rw [show P ++ x :: (Q ++ y :: R) = (P ++ x :: Q) ++ y :: R by simp, show j = (P ++ x :: Q).length by simp; omega, set_at, show (P ++ x :: Q) ++ x :: R = P ++ x :: (Q ++ x :: R) by simp, set_at]
theorem swap_lo (P : List α) (x : α) (Q : List α) (y : α) (R : List α) (i j : Nat) (hi : i = P.length) (hj : j = P.length + 1 + Q.length) : ((P ++ x :: (Q ++ y :: R)).set i y).set j x = P ++ y :: (Q ++ x :: R) := by
  subst hi; rw [set_at, show P ++ y :: (Q ++ y :: R) = (P ++ y :: Q) ++ y :: R by simp, show j = (P ++ y :: Q).length by simp; omega, set_at]
  simp
theorem w0_run (hS : Eqs S) (R : List α) (a b n : Int) : ∀ (X Y P Q : List α) (t : Int), X.length = Y.length → a + t = P.length → b + t = P.length + X.length + Q.length → n - t = X.length → 0 ≤ t → 0 ≤ a → 0 ≤ b → (P.length + X.length + Q.length + Y.length + R.length : Int) ≤ 1152921504606846976 → Ev (fun k => S.w0 k (P ++ (X ++ (Q ++ (Y ++ R)))) a b n t) (P ++ (Y ++ (Q ++ (X ++ R))))
  | [], [], P, Q, t, _, h1, h2, h3, ht, ha, hb, hl => by
    simp only [List.length_nil, List.nil_append] at *
    refine Ev.step (fun k => hS.w0 k _ _ _ _ _) ?_
    exact Ev.neg (by omega) (Ev.now _)
  | [], _ :: _, _, _, _, h, _, _, _, _, _, _, _ => by simp at h
  | _ :: _, [], _, _, _, h, _, _, _, _, _, _, _ => by simp at h
  | x :: X, y :: Y, P, Q, t, h, h1, h2, h3, ht, ha, hb, hl => by
    simp only [List.length_cons] at *
    have e1 : wrap64 (b + t) = b + t := w64 (by omega) (by omega)
    have e2 : wrap64 (a + t) = a + t := w64 (by omega) (by omega)
    have e3 : wrap64 (t + 1) = t + 1 := w64 (by omega) (by omega)
    have el : ((P ++ (x :: X ++ (Q ++ (y :: Y ++ R)))).length : Int) = P.length + X.length + 1 + Q.length + Y.length + 1 + R.length := by simp; omega
    have r1 : S.rd (P ++ (x :: X ++ (Q ++ (y :: Y ++ R)))) (a + t) = x := rdE _ P x (X ++ (Q ++ (y :: Y ++ R))) _ (by simp) h1
    have r2 : S.rd (P ++ (x :: X ++ (Q ++ (y :: Y ++ R)))) (b + t) = y := rdE _ (P ++ (x :: X ++ Q)) y (Y ++ R) _ (by simp) (by simp; omega)
    have es : ((P ++ (x :: X ++ (Q ++ (y :: Y ++ R)))).set (a + t).toNat y).set (b + t).toNat x = P ++ y :: ((X ++ Q) ++ x :: (Y ++ R)) := by
      have := swap_lo P x (X ++ Q) y (Y ++ R) (a + t).toNat (b + t).toNat (by omega) (by simp; omega)
      rw [← this]; simp
    have ih := w0_run hS R a b n X Y (P ++ [y]) (Q ++ [x]) (t + 1) (by omega) (by simp; omega) (by simp; omega) (by omega) (by omega) ha hb (by simp; omega)
    refine Ev.step (fun k => hS.w0 k _ _ _ _ _) ?_
    simp only [e1, e2, e3, r1, r2, es]
    refine Ev.pos (by omega) (Ev.pos (by omega) (Ev.pos (by omega) (Ev.pos (by omega) (Ev.pos (by omega) ?_))))
    have q1 : P ++ [y] ++ (X ++ (Q ++ [x] ++ (Y ++ R))) = P ++ y :: ((X ++ Q) ++ x :: (Y ++ R)) := by simp
    have q2 : P ++ [y] ++ (Y ++ (Q ++ [x] ++ (X ++ R))) = P ++ (y :: Y ++ (Q ++ (x :: X ++ R))) := by simp
    rw [q1, q2] at ih; exact ih
theorem r0_run (hS : Eqs S) (m : Int) : ∀ (n : Nat) (P X Y R : List α), X.length + Y.length ≤ n → X ≠ [] → Y ≠ [] → m = P.length + X.length → (P.length + X.length + Y.length + R.length : Int) ≤ 1152921504606846976 → Ev (fun k => S.r0 k (P ++ (X ++ (Y ++ R))) m X.length Y.length) (P ++ (Y ++ (X ++ R)))
  | 0, P, X, Y, R, h, hx, _, _, _ => absurd (List.eq_nil_of_length_eq_zero (by omega)) hx
  | n + 1, P, X, Y, R, h, hx, hy, hm, hl => by
    have hx' : 0 < X.length := List.length_pos_iff.2 hx
    have hy' : 0 < Y.length := List.length_pos_iff.2 hy
    have e1 : wrap64 (m - X.length) = m - X.length := w64 (by omega) (by omega)
    have e2 : wrap64 (m + Y.length) = m + Y.length := w64 (by omega) (by omega)
    have e3 : wrap64 (m + Y.length - X.length) = m + Y.length - X.length := w64 (by omega) (by omega)
    refine Ev.step (fun k => hS.r0 k _ _ _ _) ?_
    simp only [e1, e2, e3]
    refine Ev.ite (fun heq => ?_) (fun hne => Ev.ite (fun hgt => ?_) (fun hle => ?_))
    · have := w0_run hS R (m - X.length) m X.length X Y P [] 0 (by omega) (by omega) (by simp; omega) (by omega) (by omega) (by omega) (by omega) (by simp; omega)
      simp only [List.nil_append] at this
      exact Ev.bind this (Ev.now _)
    · have hX : X.take Y.length ++ X.drop Y.length = X := List.take_append_drop _ _
      have l1 : (X.take Y.length).length = Y.length := by rw [List.length_take]; omega
      have l2 : (X.drop Y.length).length = X.length - Y.length := List.length_drop
      have := w0_run hS R (m - X.length) m Y.length (X.take Y.length) Y P (X.drop Y.length) 0 (by omega) (by omega) (by omega) (by omega) (by omega) (by omega) (by omega) (by omega)
      have q : X.take Y.length ++ (X.drop Y.length ++ (Y ++ R)) = X ++ (Y ++ R) := by rw [← List.append_assoc, hX]
      rw [q] at this; refine Ev.bind this ?_
      have e4 : wrap64 ((X.length : Int) - Y.length) = ((X.drop Y.length).length : Int) := by rw [w64 (by omega) (by omega)]; omega
      have e5 : (Y.length : Int) = ((X.take Y.length).length : Int) := by omega
      have ih := r0_run hS m n (P ++ Y) (X.drop Y.length) (X.take Y.length) R (by omega) (by intro h0; rw [h0] at l2; simp at l2; omega) (by intro h0; rw [h0] at l1; simp at l1; omega) (by rw [List.length_append]; omega) (by rw [List.length_append]; omega)
      rw [e4, e5]; have q1 : P ++ Y ++ (X.drop Y.length ++ (X.take Y.length ++ R)) = P ++ (Y ++ (X.drop Y.length ++ (X.take Y.length ++ R))) := by simp
      have q2 : P ++ Y ++ (X.take Y.length ++ (X.drop Y.length ++ R)) = P ++ (Y ++ (X ++ R)) := by
        rw [show X.take Y.length ++ (X.drop Y.length ++ R) = X ++ R by rw [← List.append_assoc, hX]]; simp
      rw [q1, q2] at ih; exact ih
    · have hY : Y.take (Y.length - X.length) ++ Y.drop (Y.length - X.length) = Y := List.take_append_drop _ _
      have l1 : (Y.take (Y.length - X.length)).length = Y.length - X.length := by rw [List.length_take]; omega
      have l2 : (Y.drop (Y.length - X.length)).length = X.length := by rw [List.length_drop]; omega
      have := w0_run hS R (m - X.length) (m + Y.length - X.length) X.length X (Y.drop (Y.length - X.length)) P (Y.take (Y.length - X.length)) 0 (by omega) (by omega) (by omega) (by omega) (by omega) (by omega) (by omega) (by omega)
      have q : Y.take (Y.length - X.length) ++ (Y.drop (Y.length - X.length) ++ R) = Y ++ R := by rw [← List.append_assoc, hY]
      rw [q] at this; refine Ev.bind this ?_
      have e4 : wrap64 ((Y.length : Int) - X.length) = ((Y.take (Y.length - X.length)).length : Int) := by rw [w64 (by omega) (by omega)]; omega
      have e5 : (X.length : Int) = ((Y.drop (Y.length - X.length)).length : Int) := by omega
      have ih := r0_run hS m n P (Y.drop (Y.length - X.length)) (Y.take (Y.length - X.length)) (X ++ R) (by omega) (by intro h0; rw [h0] at l2; simp at l2; omega) (by intro h0; rw [h0] at l1; simp at l1; omega) (by omega) (by rw [List.length_append]; omega)
      rw [e4, e5]; have q2 : P ++ (Y.take (Y.length - X.length) ++ (Y.drop (Y.length - X.length) ++ (X ++ R))) = P ++ (Y ++ (X ++ R)) := by
        rw [show Y.take (Y.length - X.length) ++ (Y.drop (Y.length - X.length) ++ (X ++ R)) = Y ++ (X ++ R) by rw [← List.append_assoc, hY]]
      rw [q2] at ih; exact ih
def Cmp (S : Sys α) (lt : α → α → Bool) (Ok : α → Prop) : Prop := ∀ x y, Ok x → Ok y → ∃ c, Ev (fun k => S.cmp k x y) c ∧ (c < 0 ↔ lt x y = true)
theorem mrg_one_all (V : List α) (x : α) (h : ∀ v ∈ V, lt x v = true) : mrg lt V [x] = x :: V := by
  have := mrg_right (lt := lt) [] V [x] (fun v hv y hy => by rw [List.mem_singleton] at hy; subst hy; exact h v hv)
  rw [List.append_nil, mrg_nil_right] at this; exact this
theorem mrg_one (U V : List α) (x : α) (h1 : ∀ u ∈ U, lt x u = false) (h2 : ∀ v ∈ V, lt x v = true) : mrg lt (U ++ V) [x] = U ++ x :: V := by
  rw [mrg_left V U [x] (fun u hu y hy => by rw [List.mem_singleton] at hy; subst hy; exact h1 u hu), mrg_one_all V x h2]
theorem one_mrg (U V : List α) (x : α) (h1 : ∀ u ∈ U, lt u x = true) (h2 : ∀ v ∈ V, lt v x = false) : mrg lt [x] (U ++ V) = U ++ x :: V := by
  rw [mrg_right V [x] U (fun y hy u hu => by rw [List.mem_singleton] at hy; subst hy; exact h1 u hu)]
  have := mrg_left (lt := lt) [] [x] V (fun y hy v hv => by rw [List.mem_singleton] at hy; subst hy; exact h2 v hv)
  rw [List.append_nil, mrg_nil_left] at this; rw [this]; rfl
theorem i1_run (hS : Eqs S) (hs : SWO lt) (hc : Cmp S lt Ok) (A R : List α) (a b i : Int) (r : List α) (x : α) (ha : a = A.length) (hx : Ok x) : ∀ (n : Nat) (U V : List α) (j : Int), U.length = n → j = a + U.length → i = a + U.length + V.length → (i + R.length : Int) ≤ 1152921504606846976 → Srtd lt U → (∀ v ∈ V, lt x v = true) → (∀ u ∈ U, Ok u) → Ev (fun k => S.i0 k (A ++ (mrg lt (U ++ V) [x] ++ R)) a b (i + 1)) r → Ev (fun k => S.i1 k (A ++ (U ++ x :: V ++ R)) a b i j) r
  | 0, U, V, j, hn, hj, hi, hl, hU, hV, hO, he => by
    have : U = [] := List.eq_nil_of_length_eq_zero hn
    subst this; refine Ev.step (fun k => hS.i1 k _ _ _ _ _) ?_
    rw [w64 (x := i + 1) (by omega) (by omega)]; refine Ev.neg (by simp at hj; omega) ?_
    rw [List.nil_append, mrg_one_all V x hV] at he; exact he
  | n + 1, U, V, j, hn, hj, hi, hl, hU, hV, hO, he => by
    have hne : U ≠ [] := by intro h; rw [h] at hn; simp at hn
    obtain ⟨U', u, rfl⟩ : ∃ c x, U = c ++ [x] := ⟨U.dropLast, U.getLast hne, (List.dropLast_concat_getLast hne).symm⟩
    simp only [List.length_append, List.length_cons, List.length_nil] at hn hj hi
    have e1 : wrap64 (j - 1) = j - 1 := w64 (by omega) (by omega)
    have e2 : wrap64 (i + 1) = i + 1 := w64 (by omega) (by omega)
    have el : ((A ++ (U' ++ [u] ++ x :: V ++ R)).length : Int) = A.length + U'.length + 2 + V.length + R.length := by simp; omega
    have r1 : S.rd (A ++ (U' ++ [u] ++ x :: V ++ R)) j = x := rdE _ (A ++ (U' ++ [u])) x (V ++ R) _ (by simp) (by simp; omega)
    have r2 : S.rd (A ++ (U' ++ [u] ++ x :: V ++ R)) (j - 1) = u := rdE _ (A ++ U') u (x :: V ++ R) _ (by simp) (by simp; omega)
    have es : ((A ++ (U' ++ [u] ++ x :: V ++ R)).set j.toNat u).set (j - 1).toNat x = A ++ (U' ++ x :: (u :: V) ++ R) := by
      have := swap_hi (A ++ U') u [] x (V ++ R) (j - 1).toNat j.toNat (by simp; omega) (by simp; omega)
      rw [show A ++ (U' ++ x :: (u :: V) ++ R) = (A ++ U') ++ x :: ([] ++ u :: (V ++ R)) by simp, ← this]; simp
    refine Ev.step (fun k => hS.i1 k _ _ _ _ _) ?_
    simp only [e1, e2, r1, r2, es]
    refine Ev.pos (by omega) (Ev.pos (by omega) (Ev.pos (by omega) (Ev.pos (by omega) (Ev.pos (by omega) ?_))))
    obtain ⟨c, hcE, hcI⟩ := hc x u hx (hO u (by simp))
    refine Ev.bind hcE ?_
    have hU' : Srtd lt U' := (List.pairwise_append.1 hU).1
    refine Ev.ite (fun hlt => ?_) (fun hge => ?_)
    · refine i1_run hS hs hc A R a b i r x ha hx n U' (u :: V) (j - 1) (by omega) (by omega) (by simp; omega) hl hU' (fun v hv => ?_) (fun w hw => hO w (by simp [hw])) ?_
      · rcases List.mem_cons.1 hv with rfl | hv
        · exact hcI.1 hlt
        · exact hV v hv
      · rw [show U' ++ u :: V = U' ++ [u] ++ V by simp]
        exact he
    · have hxu : lt x u = false := by
        cases hq : lt x u with
        | false => rfl
        | true => exact absurd (hcI.2 hq) hge
      rw [mrg_one (U' ++ [u]) V x (fun w hw => ?_) hV] at he
      · exact he
      · rcases List.mem_append.1 hw with hw | hw
        · exact hs.neg hxu ((List.pairwise_append.1 hU).2.2 w hw u (by simp))
        · rw [List.mem_singleton] at hw; subst hw; exact hxu
theorem i0_run (hS : Eqs S) (hs : SWO lt) (hc : Cmp S lt Ok) (A R : List α) (a b : Int) (ha : a = A.length) : ∀ (L2 L1 : List α) (i : Int), i = a + L1.length → b = i + L2.length → (b + R.length : Int) ≤ 1152921504606846975 → (∀ z ∈ L1, Ok z) → (∀ z ∈ L2, Ok z) → Ev (fun k => S.i0 k (A ++ (ssort lt L1 ++ (L2 ++ R))) a b i) (A ++ (ssort lt (L1 ++ L2) ++ R))
  | [], L1, i, hi, hb, hl, h1, h2 => by
    simp only [List.length_nil] at hb
    refine Ev.step (fun k => hS.i0 k _ _ _ _) (Ev.neg (by omega) ?_)
    rw [List.append_nil]; exact Ev.now _
  | x :: L2, L1, i, hi, hb, hl, h1, h2 => by
    simp only [List.length_cons] at hb
    have ih := i0_run hS hs hc A R a b ha L2 (L1 ++ [x]) (i + 1) (by simp; omega) (by omega) hl (by
      intro z hz; rcases List.mem_append.1 hz with hz | hz
      · exact h1 z hz
      · rw [List.mem_singleton] at hz; subst hz; exact h2 z (by simp)) (fun z hz => h2 z (by simp [hz]))
    refine Ev.step (fun k => hS.i0 k _ _ _ _) (Ev.pos (by omega) ?_)
    have hk := i1_run hS hs hc A (L2 ++ R) a b i (A ++ (ssort lt (L1 ++ x :: L2) ++ R)) x ha (h2 x (by simp)) _ (ssort lt L1) [] i rfl (by rw [qbn hs]; omega) (by rw [qbn hs]; simp; omega) (by simp; omega) (qbL hs _ _ rfl) (by simp) (fun u hu => h1 u ((qbu hs L1).mem_iff.1 hu))
    rw [show ssort lt L1 ++ x :: [] ++ (L2 ++ R) = ssort lt L1 ++ (x :: L2 ++ R) by simp] at hk
    refine hk ?_
    rw [List.append_nil, ← ssort_snoc, show L1 ++ x :: L2 = L1 ++ [x] ++ L2 by simp]
    exact ih
theorem ins_run (hS : Eqs S) (hs : SWO lt) (hc : Cmp S lt Ok) (A L R : List α) (a b : Int) (ha : a = A.length) (hb : b = a + L.length) (hl : (b + R.length : Int) ≤ 1152921504606846975) (hO : ∀ z ∈ L, Ok z) : Ev (fun k => S.i0 k (A ++ (L ++ R)) a b (wrap64 (a + 1))) (A ++ (ssort lt L ++ R)) := by
  rw [w64 (x := a + 1) (by omega) (by omega)]; cases L with
  | nil =>
    simp only [List.length_nil] at hb
    refine Ev.step (fun k => hS.i0 k _ _ _ _) (Ev.neg (by omega) ?_)
    exact Ev.now _
  | cons x L =>
    simp only [List.length_cons] at hb
    have := i0_run hS hs hc A R a b ha L [x] (a + 1) (by simp) (by omega) hl (fun z hz => hO z (by simp at hz; simp [hz])) (fun z hz => hO z (by simp [hz]))
    rw [show ssort lt [x] = [x] from by rw [show ssort lt [x] = mrg lt [] [x] from rfl, mrg_nil_left]] at this
    exact this
end
end Go.Proofs.Ytfcifmbddikflaa.Srt
