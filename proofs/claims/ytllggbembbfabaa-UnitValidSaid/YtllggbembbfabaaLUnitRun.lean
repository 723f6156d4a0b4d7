/- What the printed function Run of package unit answers (lemmas; no statement is proved here). -/
import Derived.Test.YtllggbembbfabaaLUnit
import Derived.Test.YtllggbembbfabaaPx16
import Derived.Test.YtllggbembbfabaaPx18
import Derived.Test.YtllggbembbfabaaPx25
namespace Go.Proofs.Ytllggbembbfabaa.P
set_option linter.unusedVariables false
set_option linter.unusedSimpArgs false
open Go.RowKit Go.Proofs.YtllggbembbfabaaW.PrintWords Go.Proofs.YtllggbembbfabaaW.PrintMore Go.Proofs.Ytllggbembbfabaa.Opn Go.Proofs.Ytllggbembbfabaa.Evp

abbrev UState := S45
/-- The ways to a next state. -/
theorem nextU_cases {le mo up dn mon moff st : Int} {o : Bool} {t q p : Int} {o' : Bool} {t' q' c : Int} (h : nextU le mo up dn mon moff st o t q p = (o', t', q', c, 0)) :
    (o' = o ∧ t' = mn (t + 1) 200000 ∧ q' = mx p 0 ∧ c = 0 ∧ (o = true ↔ p ≠ -1)) ∨
    (o = true ∧ p = -1 ∧ mon ≤ t ∧ o' = false ∧ t' = 1 ∧ q' = 0 ∧ c = 0) ∨
    (o = false ∧ p ≠ -1 ∧ moff ≤ t ∧ o' = true ∧ t' = 1 ∧ q' = p ∧ c = st) := by
  unfold nextU at h
  split at h
  · simp at h
  · split at h
    · simp at h
    · next hc =>
      split at h
      · simp at h
      · split at h
        · next hd =>
          simp only [Prod.mk.injEq, and_true] at h
          obtain ⟨rfl, rfl, rfl, rfl⟩ := h
          exact Or.inl ⟨rfl, rfl, rfl, rfl, hd⟩
        · next hd =>
          split at h
          · next hp =>
            simp only [Prod.mk.injEq, and_true] at h
            obtain ⟨rfl, rfl, rfl, rfl⟩ := h
            have ho : o = true := by cases o with
              | true => rfl
              | false => exact absurd ⟨fun h => (by cases h), fun h => absurd hp h⟩ hd
            exact Or.inr (Or.inl ⟨ho, hp, Int.not_lt.1 fun h => hc (Or.inl ⟨ho, hp, h⟩), rfl, rfl, rfl, rfl⟩)
          · next hp =>
            simp only [Prod.mk.injEq, and_true] at h
            obtain ⟨rfl, rfl, rfl, rfl⟩ := h
            have ho : o = false := by cases o with
              | false => rfl
              | true => exact absurd ⟨fun _ => hp, fun _ => rfl⟩ hd
            exact Or.inr (Or.inr ⟨ho, hp, Int.not_lt.1 fun h => hc (Or.inr ⟨ho, hp, h⟩), rfl, rfl, rfl, rfl⟩)

theorem unit_CheckState_ok {nm : ByteArray} (hs : StrOk nm) (hn : Ev (fun k => unit_named.f k nm) true) {le mo up dn mon moff st : Int} (hr : RuleOk le mo up dn mon moff st) {o : Bool} {t q : Int} (h : StateOk le mo o t q) :
    Ev (fun k => unit_CheckState.f k nm le mo up dn mon moff st o t q) 0 := by
  obtain ⟨e, he, _, _, hp⟩ := unit_CheckState_some nm hs le mo up dn mon moff st o t q
  have := hp.2 ⟨hn, hr, h⟩
  subst this
  exact he

section
variable (le mo up dn mon moff st : Int)
/-- A schedule's states, the costs of its starts, and the error. -/
def runU : Bool → Int → Int → List Int → List UState × Int × Int
  | _, _, _, [] => ([], 0, 0)
  | o, t, q, p :: ps =>
    if (nextU le mo up dn mon moff st o t q p).2.2.2.2 = 0 then
      if (runU (nextU le mo up dn mon moff st o t q p).1 (nextU le mo up dn mon moff st o t q p).2.1 (nextU le mo up dn mon moff st o t q p).2.2.1 ps).2.2 = 0 then
        (⟨(nextU le mo up dn mon moff st o t q p).1, (nextU le mo up dn mon moff st o t q p).2.1, (nextU le mo up dn mon moff st o t q p).2.2.1⟩ :: (runU (nextU le mo up dn mon moff st o t q p).1 (nextU le mo up dn mon moff st o t q p).2.1 (nextU le mo up dn mon moff st o t q p).2.2.1 ps).1,
          (nextU le mo up dn mon moff st o t q p).2.2.2.1 + (runU (nextU le mo up dn mon moff st o t q p).1 (nextU le mo up dn mon moff st o t q p).2.1 (nextU le mo up dn mon moff st o t q p).2.2.1 ps).2.1, 0)
      else ([], 0, (runU (nextU le mo up dn mon moff st o t q p).1 (nextU le mo up dn mon moff st o t q p).2.1 (nextU le mo up dn mon moff st o t q p).2.2.1 ps).2.2)
    else ([], 0, (nextU le mo up dn mon moff st o t q p).2.2.2.2)
end
/-- One step of a schedule that is permitted. -/
theorem runU_cons {le mo up dn mon moff st : Int} {o : Bool} {t q p : Int} {ps : List Int} {l : List UState} {c : Int} (h : runU le mo up dn mon moff st o t q (p :: ps) = (l, c, 0)) :
    ∃ x l' c0 c', nextU le mo up dn mon moff st o t q p = (x.f0, x.f1, x.f2, c0, 0) ∧ runU le mo up dn mon moff st x.f0 x.f1 x.f2 ps = (l', c', 0) ∧ l = x :: l' ∧ c = c0 + c' := by
  simp only [runU] at h
  rcases hn : nextU le mo up dn mon moff st o t q p with ⟨o', t', q', c0, e⟩
  rw [hn] at h
  simp only at h
  split at h
  · next he =>
    subst he
    rcases hr : runU le mo up dn mon moff st o' t' q' ps with ⟨l', c', e'⟩
    rw [hr] at h
    simp only at h
    split at h
    · next he' =>
      subst he'
      simp only [Prod.mk.injEq, and_true] at h
      exact ⟨⟨o', t', q'⟩, l', c0, c', rfl, hr, h.1.symm, h.2.symm⟩
    · next he' =>
      simp only [Prod.mk.injEq] at h
      exact absurd h.2.2 he'
  · next he =>
    simp only [Prod.mk.injEq] at h
    exact absurd h.2.2 he
theorem runU_err {le mo up dn mon moff st : Int} : ∀ {ps : List Int} {o : Bool} {t q : Int}, (runU le mo up dn mon moff st o t q ps).2.2 ≠ 0 → (runU le mo up dn mon moff st o t q ps).1 = [] ∧ (runU le mo up dn mon moff st o t q ps).2.1 = 0
  | [], o, t, q, h => ⟨rfl, rfl⟩
  | p :: ps, o, t, q, h => by
    simp only [runU] at h ⊢
    split
    · next he =>
      rw [if_pos he] at h
      split
      · next hr => rw [if_pos hr] at h; exact absurd rfl h
      · exact ⟨rfl, rfl⟩
    · exact ⟨rfl, rfl⟩
theorem runU_length {le mo up dn mon moff st : Int} : ∀ {ps : List Int} {o : Bool} {t q : Int} {l : List UState} {c : Int}, runU le mo up dn mon moff st o t q ps = (l, c, 0) → l.length = ps.length
  | [], o, t, q, l, c, h => by
    simp only [runU, Prod.mk.injEq] at h
    rw [← h.1]
    rfl
  | p :: ps, o, t, q, l, c, h => by
    obtain ⟨x, l', c0, c', _, hr, rfl, _⟩ := runU_cons h
    simp [runU_length hr]

theorem unit_Run_loop {nm : ByteArray} (hs : StrOk nm) (hn : Ev (fun k => unit_named.f k nm) true) {le mo up dn mon moff st : Int} (hr : RuleOk le mo up dn mon moff st) (ps : List Int) (hl : ps.length ≤ 24) :
    ∀ (d : Nat) (i sum : Int) (acc : List UState) (o : Bool) (t q : Int), 0 ≤ i → i ≤ (ps.length : Int) → (ps.length : Int) - i = d → (acc.length : Int) = i → 0 ≤ sum → sum ≤ 1000000 * i → StateOk le mo o t q →
    Ev (fun k => unit_Run.l0 k acc sum ps (ps.length : Int) i nm le mo up dn mon moff st o t q)
      (if (runU le mo up dn mon moff st o t q (ps.drop i.toNat)).2.2 = 0 then (acc ++ (runU le mo up dn mon moff st o t q (ps.drop i.toNat)).1, sum + (runU le mo up dn mon moff st o t q (ps.drop i.toNat)).2.1, 0) else ([], 0, (runU le mo up dn mon moff st o t q (ps.drop i.toNat)).2.2)) := by
  intro d
  induction d with
  | zero =>
    intro i sum acc o t q h0 h1 hd ha hs0 hs1 hst
    refine Ev.step (fun k => by rw [unit_Run.l0]) ?_
    rw [drop_end (by omega)]
    simp only [runU, if_true, List.append_nil, Int.add_zero]
    exact Ev.neg (by omega) (Ev.now _)
  | succ d ih =>
    intro i sum acc o t q h0 h1 hd ha hs0 hs1 hst
    refine Ev.step (fun k => by rw [unit_Run.l0]) ?_
    refine Ev.pos (by omega) (Ev.pos h0 (Ev.pos (by omega) ?_))
    have hdr : ps.drop i.toNat = rd ps i :: ps.drop (i + 1).toNat := drop_getD 0 h0 (by omega)
    rw [hdr]
    obtain ⟨o', t', q', c0, e, hx⟩ : ∃ o' t' q' c0 e, nextU le mo up dn mon moff st o t q (rd ps i) = (o', t', q', c0, e) := ⟨_, _, _, _, _, rfl⟩
    have hnx := unit_Next_in (unit_CheckState_ok hs hn hr hst) hr hst (rd ps i)
    rw [hx] at hnx
    refine Ev.bind hnx ?_
    simp only [runU, hx]
    by_cases he : e = 0
    · subst he
      have hok := nextU_ok hr hst hx
      have hc := nextU_cases hx
      unfold RuleOk at hr
      rw [w64 (x := sum + c0) (by omega) (by omega), w64 (x := i + 1) (by omega) (by omega)]
      refine Ev.pos rfl (Ev.pos (by omega) ?_)
      have h := ih (i + 1) (sum + c0) (acc ++ [⟨o', t', q'⟩]) o' t' q' (by omega) (by omega) (by omega) (by simp; omega) (by omega) (by omega) hok
      rw [if_pos rfl]
      obtain ⟨l', c', e', hrr⟩ : ∃ l' c' e', runU le mo up dn mon moff st o' t' q' (ps.drop (i + 1).toNat) = (l', c', e') := ⟨_, _, _, rfl⟩
      simp only [hrr] at h ⊢
      by_cases he' : e' = 0
      · subst he'
        rw [if_pos rfl] at h
        simp only [if_true]
        rw [List.append_assoc, Int.add_assoc] at h
        exact h
      · rw [if_neg he'] at h
        simp only [if_neg he']
        exact h
    · refine Ev.neg he ?_
      simp only [if_neg he]
      exact Ev.now _
theorem unit_Run_bad {nm : ByteArray} {le mo up dn mon moff st : Int} {o : Bool} {t q e : Int} (h : Ev (fun k => unit_CheckState.f k nm le mo up dn mon moff st o t q) e) (he : e ≠ 0) (ps : List Int) :
    Ev (fun k => unit_Run.f k nm le mo up dn mon moff st o t q ps) ([], 0, e) := by
  unfold unit_Run.f
  exact Ev.bind h (Ev.neg he (Ev.now _))
theorem unit_Run_in {nm : ByteArray} (hs : StrOk nm) (hn : Ev (fun k => unit_named.f k nm) true) {le mo up dn mon moff st : Int} (hr : RuleOk le mo up dn mon moff st) {o : Bool} {t q : Int} (hst : StateOk le mo o t q) {ps : List Int} (hl : ps.length ≤ 24) :
    Ev (fun k => unit_Run.f k nm le mo up dn mon moff st o t q ps) (runU le mo up dn mon moff st o t q ps) := by
  unfold unit_Run.f
  refine Ev.bind (unit_CheckState_ok hs hn hr hst) (Ev.pos rfl (Ev.neg (by omega) ?_))
  have h := unit_Run_loop hs hn hr ps hl ps.length 0 0 [] o t q (by omega) (by omega) (by omega) (by simp) (by omega) (by omega) hst
  simp only [Int.toNat_zero, List.drop_zero, List.nil_append, Int.zero_add] at h
  have e : (if (runU le mo up dn mon moff st o t q ps).2.2 = 0 then ((runU le mo up dn mon moff st o t q ps).1, (runU le mo up dn mon moff st o t q ps).2.1, 0) else ([], 0, (runU le mo up dn mon moff st o t q ps).2.2)) = runU le mo up dn mon moff st o t q ps := by
    split
    · next h0 => rw [← h0]
    · next h0 =>
      have := runU_err h0
      rcases hx : runU le mo up dn mon moff st o t q ps with ⟨a, b, c⟩
      rw [hx] at this
      simp only at this ⊢
      rw [this.1, this.2]
  rw [e] at h
  exact h
/-- What Run answers: an error and nothing beside, or the states of the schedule. -/
theorem run_any {nm : ByteArray} (hs : StrOk nm) (le mo up dn mon moff st : Int) (o : Bool) (t q : Int) (ps : List Int) : ∃ l c e, Ev (fun k => unit_Run.f k nm le mo up dn mon moff st o t q ps) (l, c, e) ∧
    ((e ≠ 0 ∧ l = [] ∧ c = 0) ∨ (e = 0 ∧ Ev (fun k => unit_named.f k nm) true ∧ RuleOk le mo up dn mon moff st ∧ StateOk le mo o t q ∧ ps.length ≤ 24 ∧ runU le mo up dn mon moff st o t q ps = (l, c, 0))) := by
  obtain ⟨e, he, _, _, hp⟩ := unit_CheckState_some nm hs le mo up dn mon moff st o t q
  by_cases e0 : e = 0
  · subst e0
    obtain ⟨hn, hr, hst⟩ := hp.1 rfl
    by_cases hl : ps.length ≤ 24
    · obtain ⟨l, c, e, hx⟩ : ∃ l c e, runU le mo up dn mon moff st o t q ps = (l, c, e) := ⟨_, _, _, rfl⟩
      have h := unit_Run_in hs hn hr hst hl
      rw [hx] at h
      by_cases e1 : e = 0
      · subst e1
        exact ⟨l, c, 0, h, Or.inr ⟨rfl, hn, hr, hst, hl, hx⟩⟩
      · have := runU_err (le := le) (mo := mo) (up := up) (dn := dn) (mon := mon) (moff := moff) (st := st) (ps := ps) (o := o) (t := t) (q := q) (by rw [hx]; exact e1)
        rw [hx] at this
        exact ⟨l, c, e, h, Or.inl ⟨e1, this.1, this.2⟩⟩
    · refine ⟨[], 0, 2, ?_, Or.inl ⟨by omega, rfl, rfl⟩⟩
      unfold unit_Run.f
      exact Ev.bind he (Ev.pos rfl (Ev.pos (by omega) (Ev.now _)))
  · exact ⟨[], 0, e, unit_Run_bad he e0 ps, Or.inl ⟨e0, rfl, rfl⟩⟩
theorem dropU {l : List UState} {i : Int} (h0 : 0 ≤ i) (h1 : i < (l.length : Int)) : l.drop i.toNat = rd_T45 l i :: l.drop (i + 1).toNat := drop_getD _ h0 h1
end Go.Proofs.Ytllggbembbfabaa.P
