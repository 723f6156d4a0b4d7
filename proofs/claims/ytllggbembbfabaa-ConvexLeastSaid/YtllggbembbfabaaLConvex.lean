/- What the printed functions Check, high, value and At of package convexpl answer (lemmas; no statement is proved here). -/
import Derived.Test.YtllggbembbfabaaEvp
import Derived.Test.YtllggbembbfabaaOk
import Derived.Test.YtllggbembbfabaaPx8
import Derived.Test.YtllggbembbfabaaPx11
import Derived.Test.YtllggbembbfabaaPx12
import Derived.Test.YtllggbembbfabaaPx13
namespace Go.Proofs.Ytllggbembbfabaa.P
set_option linter.unusedVariables false
set_option linter.unusedSimpArgs false
open Go.RowKit Go.Proofs.YtllggbembbfabaaW.PrintWords Go.Proofs.YtllggbembbfabaaW.PrintMore Go.Proofs.Ytllggbembbfabaa.Opn Go.Proofs.Ytllggbembbfabaa.Evp

abbrev CPiece := S78
theorem dropC {l : List CPiece} {i : Int} (h0 : 0 ≤ i) (h1 : i < (l.length : Int)) : l.drop i.toNat = rd_T78 l i :: l.drop (i + 1).toNat := drop_getD _ h0 h1
def BndC (v : Int) : Prop := -1000000000000000 ≤ v ∧ v ≤ 1000000000000000
def okC : Int → Int → Option Int → List CPiece → Prop
  | _, _, _, [] => True
  | at_, v, prev, s :: r => 1 ≤ s.f0 ∧ s.f0 ≤ 2000000 ∧ -10000000 ≤ s.f1 ∧ s.f1 ≤ 10000000 ∧ (∀ p, prev = some p → p < s.f1) ∧ at_ + s.f0 ≤ 1000000 ∧ BndC (v + s.f0 * s.f1) ∧ okC (at_ + s.f0) (v + s.f0 * s.f1) (some s.f1) r
def prevC (l : List CPiece) (i : Int) : Option Int := if 0 < i then some (rd_T78 l (i - 1)).f1 else none
def ValidC (low v : Int) (l : List CPiece) : Prop := l.length ≤ 64 ∧ -1000000 ≤ low ∧ low ≤ 1000000 ∧ (-1000000000000000 ≤ v ∧ v ≤ 1000000000000000) ∧ okC low v none l
theorem ValidC.ok {low v : Int} {l : List CPiece} (h : ValidC low v l) : okC low v none l := h.2.2.2.2
theorem slope_mul {n p : Int} (h1 : 1 ≤ n) (h2 : n ≤ 2000000) (h3 : -10000000 ≤ p) (h4 : p ≤ 10000000) : -20000000000000 ≤ n * p ∧ n * p ≤ 20000000000000 := by
  have := mul_abs (a := n) (b := p) (A := 2000000) (B := 10000000) (by omega) (by omega) (by omega) (by omega)
  omega

theorem convexpl_Check_loop (low v0 : Int) (l : List CPiece) (hl : l.length ≤ 64) : ∀ (d : Nat) (i at_ v : Int), 0 ≤ i → i ≤ (l.length : Int) → (l.length : Int) - i = d → -1000000 ≤ at_ → at_ ≤ 1000000 → BndC v →
    EvP (fun k => convexpl_Check.l0 k at_ v l (l.length : Int) i low v0 l) (fun e => 0 ≤ e ∧ e ≤ 4 ∧ (e = 0 ↔ okC at_ v (prevC l i) (l.drop i.toNat))) := by
  intro d
  induction d with
  | zero =>
    intro i at_ v h0 h1 hd ha hb hv
    refine EvP.step (fun k => by rw [convexpl_Check.l0]) ?_
    refine EvP.neg (by omega) (EvP.ret ⟨by omega, by omega, ?_⟩)
    rw [drop_end (by omega)]
    simp [okC]
  | succ d ih =>
    intro i at_ v h0 h1 hd ha hb hv
    refine EvP.step (fun k => by rw [convexpl_Check.l0]) ?_
    refine EvP.pos (by omega) (EvP.pos h0 (EvP.pos (by omega) ?_))
    rw [dropC h0 (by omega)]
    obtain ⟨x, hx⟩ : ∃ x, x = rd_T78 l i := ⟨_, rfl⟩
    rw [← hx]
    have j3 : ∀ b : Bool, 1 ≤ x.f0 → x.f0 ≤ 2000000 → -10000000 ≤ x.f1 → x.f1 ≤ 10000000 → (b = true ↔ ¬ ∀ p, prevC l i = some p → p < x.f1) →
        EvP (fun k => convexpl_Check.j3 k at_ v l (l.length : Int) i b low v0 l x.f0 x.f1) (fun e => 0 ≤ e ∧ e ≤ 4 ∧ (e = 0 ↔ okC at_ v (prevC l i) (x :: l.drop (i + 1).toNat))) := by
      intro b g1 g2 g3 g4 g5
      have hm := slope_mul (n := x.f0) (p := x.f1) g1 g2 g3 g4
      refine EvP.step (fun k => by rw [convexpl_Check.j3]) ?_
      refine EvP.ite (fun hb' => EvP.ret ⟨by omega, by omega, ?_⟩) (fun hb' => ?_)
      · have := g5.1 hb'
        simp only [okC]
        exact ⟨fun h => by omega, fun h => absurd h.2.2.2.2.1 this⟩
      · have g6 : ∀ p, prevC l i = some p → p < x.f1 := Classical.byContradiction fun h => hb' (g5.2 h)
        have hv' := hv
        unfold BndC at hv'
        rw [w64 (x := at_ + x.f0) (by omega) (by omega), w64 (x := x.f0 * x.f1) (by omega) (by omega), w64 (x := v + x.f0 * x.f1) (by omega) (by omega), w64 (x := i + 1) (by omega) (by omega)]
        refine EvP.ite (fun hc => EvP.ret ⟨by omega, by omega, ?_⟩) (fun hc => EvP.ite (fun hc2 => EvP.ret ⟨by omega, by omega, ?_⟩) (fun hc2 => EvP.ite (fun hc3 => EvP.ret ⟨by omega, by omega, ?_⟩) (fun hc3 => ?_)))
        · simp only [okC]; exact ⟨fun h => by omega, fun h => by omega⟩
        · simp only [okC, BndC]; exact ⟨fun h => by omega, fun h => by omega⟩
        · simp only [okC, BndC]; exact ⟨fun h => by omega, fun h => by omega⟩
        · have hB : BndC (v + x.f0 * x.f1) := ⟨by omega, by omega⟩
          refine (ih (i + 1) (at_ + x.f0) (v + x.f0 * x.f1) (by omega) (by omega) (by omega) (by omega) (by omega) hB).mono fun e he => ⟨he.1, he.2.1, he.2.2.trans ?_⟩
          have hp : prevC l (i + 1) = some x.f1 := by
            unfold prevC
            rw [if_pos (by omega), show i + 1 - 1 = i by omega, ← hx]
          rw [hp]
          simp only [okC]
          exact ⟨fun h => ⟨g1, g2, g3, g4, g6, by omega, hB, h⟩, fun h => h.2.2.2.2.2.2.2⟩
    have j2 : ∀ b : Bool, (b = true ↔ ¬ (1 ≤ x.f0 ∧ x.f0 ≤ 2000000 ∧ -10000000 ≤ x.f1 ∧ x.f1 ≤ 10000000)) →
        EvP (fun k => convexpl_Check.j2 k at_ v i l (l.length : Int) i b low v0 l x.f0 x.f1) (fun e => 0 ≤ e ∧ e ≤ 4 ∧ (e = 0 ↔ okC at_ v (prevC l i) (x :: l.drop (i + 1).toNat))) := by
      intro b g
      refine EvP.step (fun k => by rw [convexpl_Check.j2]) ?_
      refine EvP.ite (fun hb' => EvP.ret ⟨by omega, by omega, ?_⟩) (fun hb' => ?_)
      · have := g.1 hb'
        simp only [okC]
        exact ⟨fun h => by omega, fun h => absurd ⟨h.1, h.2.1, h.2.2.1, h.2.2.2.1⟩ this⟩
      · obtain ⟨g1, g2, g3, g4⟩ := Classical.byContradiction fun h => hb' (g.2 h)
        refine EvP.ite (fun hi => ?_) (fun hi => ?_)
        · rw [w64 (by omega) (by omega)]
          refine EvP.pos (by omega) (EvP.pos (by omega) (j3 _ g1 g2 g3 g4 ?_))
          unfold prevC
          rw [if_pos (by omega)]
          simp
        · refine j3 _ g1 g2 g3 g4 ?_
          unfold prevC
          rw [if_neg (by omega)]
          simp
    refine EvP.ite (fun c => j2 _ (by simp; omega)) (fun c1 => EvP.ite (fun c => j2 _ (by simp; omega)) (fun c2 => EvP.ite (fun c => j2 _ (by simp; omega)) (fun c3 => j2 _ (by simp; omega))))

theorem convexpl_Check_some (low v : Int) (l : List CPiece) : ∃ e, Ev (fun k => convexpl_Check.f k low v l) e ∧ 0 ≤ e ∧ e ≤ 4 ∧ (e = 0 ↔ ValidC low v l) := by
  have h : EvP (fun k => convexpl_Check.f k low v l) (fun e => 0 ≤ e ∧ e ≤ 4 ∧ (e = 0 ↔ ValidC low v l)) := by
    unfold convexpl_Check.f
    refine EvP.ite (fun c => EvP.ret ⟨by omega, by omega, fun h => by omega, fun h => by have := h.1; omega⟩) (fun c => ?_)
    have j0 : ∀ b : Bool, (b = true ↔ ¬ (-1000000 ≤ low ∧ low ≤ 1000000 ∧ (-1000000000000000 ≤ v ∧ v ≤ 1000000000000000))) → EvP (fun k => convexpl_Check.j0 k b low v l) (fun e => 0 ≤ e ∧ e ≤ 4 ∧ (e = 0 ↔ ValidC low v l)) := by
      intro b g
      refine EvP.step (fun k => by rw [convexpl_Check.j0]) ?_
      refine EvP.ite (fun hb => EvP.ret ⟨by omega, by omega, fun h => by omega, fun h => absurd ⟨h.2.1, h.2.2.1, h.2.2.2.1⟩ (g.1 hb)⟩) (fun hb => ?_)
      obtain ⟨g1, g2, g3⟩ := Classical.byContradiction fun h => hb (g.2 h)
      refine (convexpl_Check_loop low v l (by omega) l.length 0 low v (by omega) (by omega) (by omega) g1 g2 g3).mono fun e he => ⟨he.1, he.2.1, he.2.2.trans ?_⟩
      simp only [prevC, Int.lt_irrefl, if_false, Int.toNat_zero, List.drop_zero]
      exact ⟨fun h => ⟨by omega, g1, g2, g3, h⟩, fun h => h.ok⟩
    exact EvP.ite (fun _ => j0 _ (by simp; omega)) (fun _ => EvP.ite (fun _ => j0 _ (by simp; omega)) (fun _ => EvP.ite (fun _ => j0 _ (by simp; omega)) (fun _ => j0 _ (by simp; omega))))
  exact h

structure CheckedC (low v : Int) (l : List CPiece) (e : Int) : Prop where
  ev : Ev (fun k => convexpl_Check.f k low v l) e
  lo : 0 ≤ e
  hi : e ≤ 4
  iff : e = 0 ↔ ValidC low v l
theorem CheckedC.some (low v : Int) (l : List CPiece) : ∃ e, CheckedC low v l e := by
  obtain ⟨e, h1, h2, h3, h4⟩ := convexpl_Check_some low v l
  exact ⟨e, h1, h2, h3, h4⟩
theorem CheckedC.valid {low v : Int} {l : List CPiece} (h : CheckedC low v l 0) : ValidC low v l := h.iff.1 rfl

/-! lengths and values -/
def sumC : List CPiece → Int
  | [] => 0
  | s :: r => s.f0 + sumC r
def valC : Int → Int → List CPiece → Int → Int
  | v, _, [], _ => v
  | v, at_, s :: r, x => valC (v + mn s.f0 (x - at_) * s.f1) (at_ + mn s.f0 (x - at_)) r x
theorem okC_above : ∀ {l : List CPiece} {at_ v q : Int}, okC at_ v (some q) l → ∀ t ∈ l, 1 ≤ t.f0 ∧ q < t.f1
  | [], _, _, _, _ => fun t h => by cases h
  | s :: r, at_, v, q, h => fun t ht => by
    have h1 := h.2.2.2.2.1 q rfl
    rcases List.mem_cons.1 ht with rfl | ht
    · exact ⟨h.1, h1⟩
    · have := okC_above h.2.2.2.2.2.2.2 t ht
      omega
theorem sumC_nonneg : ∀ {l : List CPiece} {at_ v : Int} {p : Option Int}, okC at_ v p l → 0 ≤ sumC l
  | [], _, _, _, _ => by simp [sumC]
  | s :: r, at_, v, p, h => by
    have := sumC_nonneg h.2.2.2.2.2.2.2
    have := h.1
    simp only [sumC]
    omega
theorem sumC_le : ∀ {l : List CPiece} {at_ v : Int} {p : Option Int}, at_ ≤ 1000000 → okC at_ v p l → at_ + sumC l ≤ 1000000
  | [], _, _, _, h, _ => by simp only [sumC]; omega
  | s :: r, at_, v, p, h0, h => by
    have := sumC_le h.2.2.2.2.2.1 h.2.2.2.2.2.2.2
    simp only [sumC]
    omega
/-- At the begin the value is the first one. -/
theorem valC_start : ∀ {l : List CPiece} {v at_ : Int}, (∀ t ∈ l, 1 ≤ t.f0) → valC v at_ l at_ = v
  | [], _, _, _ => rfl
  | s :: r, v, at_, h => by
    have h1 := h s List.mem_cons_self
    have e : mn s.f0 (at_ - at_) = 0 := by unfold mn; split <;> omega
    simp only [valC, e, Int.zero_mul, Int.add_zero]
    exact valC_start (fun t ht => h t (List.mem_cons_of_mem _ ht))
theorem valC_first {s : CPiece} {r : List CPiece} {v at_ x : Int} (h : ∀ t ∈ r, 1 ≤ t.f0) (h0 : at_ ≤ x) (h1 : x ≤ at_ + s.f0) : valC v at_ (s :: r) x = v + (x - at_) * s.f1 := by
  have e : mn s.f0 (x - at_) = x - at_ := by unfold mn; split <;> omega
  simp only [valC, e]
  rw [show at_ + (x - at_) = x by omega]
  exact valC_start h
/-- Where no slope is negative no value is less than the first. -/
theorem valC_up : ∀ {l : List CPiece} {v at_ x : Int}, (∀ t ∈ l, 1 ≤ t.f0 ∧ 0 ≤ t.f1) → at_ ≤ x → v ≤ valC v at_ l x
  | [], _, _, _, _, _ => Int.le_refl _
  | s :: r, v, at_, x, h, h0 => by
    have h1 := h s List.mem_cons_self
    have hm : 0 ≤ mn s.f0 (x - at_) ∧ mn s.f0 (x - at_) ≤ x - at_ := by unfold mn; split <;> omega
    have := valC_up (l := r) (v := v + mn s.f0 (x - at_) * s.f1) (at_ := at_ + mn s.f0 (x - at_)) (x := x) (fun t ht => h t (List.mem_cons_of_mem _ ht)) (by omega)
    have hq := Int.mul_nonneg hm.1 h1.2
    simp only [valC]
    omega

theorem convexpl_high_loop (l : List CPiece) (hl : l.length ≤ 64) : ∀ (d : Nat) (i at_ : Int) (v : Int) (p : Option Int), 0 ≤ i → i ≤ (l.length : Int) → (l.length : Int) - i = d → -1000000 ≤ at_ → at_ ≤ 1000000 → okC at_ v p (l.drop i.toNat) →
    Ev (fun k => convexpl_high.l0 k at_ l (l.length : Int) i) (at_ + sumC (l.drop i.toNat)) := by
  intro d
  induction d with
  | zero =>
    intro i at_ v p h0 h1 hd ha hb ho
    refine Ev.step (fun k => by rw [convexpl_high.l0]) ?_
    rw [drop_end (by omega)]
    simp only [sumC, Int.add_zero]
    exact Ev.neg (by omega) (Ev.now _)
  | succ d ih =>
    intro i at_ v p h0 h1 hd ha hb ho
    refine Ev.step (fun k => by rw [convexpl_high.l0]) ?_
    refine Ev.pos (by omega) (Ev.pos h0 (Ev.pos (by omega) ?_))
    rw [dropC h0 (by omega)] at ho ⊢
    obtain ⟨o1, o2, o3, o4, o5, o6, o7, o8⟩ := ho
    rw [w64 (by omega) (by omega), w64 (by omega) (by omega)]
    simp only [sumC]
    rw [← Int.add_assoc]
    exact ih (i + 1) _ _ _ (by omega) (by omega) (by omega) (by omega) o6 o8
theorem convexpl_high_ev {low v : Int} {l : List CPiece} (h : ValidC low v l) (v' : Int) : Ev (fun k => convexpl_high.f k low v' l) (low + sumC l) := by
  unfold convexpl_high.f
  have := convexpl_high_loop l h.1 l.length 0 low v none (by omega) (by omega) (by omega) h.2.1 h.2.2.1 (by simpa using h.ok)
  simpa using this

theorem convexpl_value_loop (l : List CPiece) (hl : l.length ≤ 64) (x : Int) (hx0 : -1000000 ≤ x) (hx1 : x ≤ 1000000) : ∀ (d : Nat) (i at_ v at0 v0 : Int) (p : Option Int), 0 ≤ i → i ≤ (l.length : Int) → (l.length : Int) - i = d → -1000000 ≤ at_ → at_ ≤ x →
    (-1000000000000000 - 20000000000000 * i ≤ v ∧ v ≤ 1000000000000000 + 20000000000000 * i) → okC at0 v0 p (l.drop i.toNat) →
    Ev (fun k => convexpl_value.l0 k x v at_ l (l.length : Int) i) (valC v at_ (l.drop i.toNat) x) := by
  intro d
  induction d with
  | zero =>
    intro i at_ v at0 v0 p h0 h1 hd ha hb hv ho
    refine Ev.step (fun k => by rw [convexpl_value.l0]) ?_
    rw [drop_end (by omega)]
    exact Ev.neg (by omega) (Ev.now _)
  | succ d ih =>
    intro i at_ v at0 v0 p h0 h1 hd ha hb hv ho
    refine Ev.step (fun k => by rw [convexpl_value.l0]) ?_
    refine Ev.pos (by omega) (Ev.pos h0 (Ev.pos (by omega) ?_))
    rw [dropC h0 (by omega)] at ho ⊢
    obtain ⟨y, hy⟩ : ∃ y, y = rd_T78 l i := ⟨_, rfl⟩
    rw [← hy] at ho ⊢
    obtain ⟨o1, o2, o3, o4, o5, o6, o7, o8⟩ := ho
    rw [w64 (x := x - at_) (by omega) (by omega)]
    have hm : 0 ≤ mn y.f0 (x - at_) ∧ mn y.f0 (x - at_) ≤ x - at_ ∧ mn y.f0 (x - at_) ≤ 2000000 := by unfold mn; split <;> omega
    have hq := mul_abs (a := mn y.f0 (x - at_)) (b := y.f1) (A := 2000000) (B := 10000000) (by omega) (by omega) (by omega) (by omega)
    rw [w64 (x := mn y.f0 (x - at_) * y.f1) (by omega) (by omega), w64 (x := v + mn y.f0 (x - at_) * y.f1) (by omega) (by omega), w64 (x := at_ + mn y.f0 (x - at_)) (by omega) (by omega), w64 (x := i + 1) (by omega) (by omega)]
    simp only [valC]
    exact ih (i + 1) _ _ _ _ _ (by omega) (by omega) (by omega) (by omega) (by omega) ⟨by omega, by omega⟩ o8
theorem convexpl_value_ev {low v : Int} {l : List CPiece} (h : ValidC low v l) {x : Int} (h0 : low ≤ x) (h1 : x ≤ low + sumC l) : Ev (fun k => convexpl_value.f k low v l x) (valC v low l x) := by
  unfold convexpl_value.f
  have hs := sumC_le h.2.2.1 h.ok
  have hlow := h.2.1
  have hb := h.2.2.2.1
  have := convexpl_value_loop l h.1 x (by omega) (by omega) l.length 0 low v low v none (by omega) (by omega) (by omega) (by omega) (by omega) (by omega) (by simpa using h.ok)
  simpa using this
theorem at_in {low v : Int} {l : List CPiece} (h : CheckedC low v l 0) {x : Int} (h0 : low ≤ x) (h1 : x ≤ low + sumC l) : Ev (fun k => convexpl_At.f k low v l x) (valC v low l x, 0) := by
  unfold convexpl_At.f
  exact Ev.bind h.ev (Ev.pos rfl (Ev.neg (by omega) (Ev.bind (convexpl_high_ev h.valid v) (Ev.neg (by omega) (Ev.bind (convexpl_value_ev h.valid h0 h1) (Ev.now _))))))
theorem at_any {low v : Int} {l : List CPiece} {e : Int} (h : CheckedC low v l e) (x : Int) : ∃ n e', Ev (fun k => convexpl_At.f k low v l x) (n, e') ∧
    ((e' = 0 ∧ low ≤ x ∧ x ≤ low + sumC l ∧ n = valC v low l x) ∨ (e' ≠ 0 ∧ n = 0 ∧ (e ≠ 0 ∨ x < low ∨ low + sumC l < x))) := by
  by_cases e0 : e = 0
  · subst e0
    by_cases c : low ≤ x ∧ x ≤ low + sumC l
    · exact ⟨_, _, at_in h c.1 c.2, Or.inl ⟨rfl, c.1, c.2, rfl⟩⟩
    · refine ⟨0, 4, ?_, Or.inr ⟨by omega, rfl, by omega⟩⟩
      unfold convexpl_At.f
      refine Ev.bind h.ev (Ev.pos rfl (Ev.ite (fun _ => Ev.now _) (fun c1 => Ev.bind (convexpl_high_ev h.valid v) (Ev.pos (by omega) (Ev.now _)))))
  · refine ⟨0, e, ?_, Or.inr ⟨e0, rfl, Or.inl e0⟩⟩
    unfold convexpl_At.f
    exact Ev.bind h.ev (Ev.neg e0 (Ev.now _))
end Go.Proofs.Ytllggbembbfabaa.P
