/- What the printed functions of package unit answer, in plain words (lemmas; no statement is proved here). -/
import Derived.Test.YtllggbembbfabaaEvp
import Derived.Test.YtllggbembbfabaaOk
import Derived.Test.YtllggbembbfabaaPx16
import Derived.Test.YtllggbembbfabaaPx17
import Derived.Test.YtllggbembbfabaaPx18
import Derived.Test.YtllggbembbfabaaPx19
import Derived.Test.YtllggbembbfabaaPx21
namespace Go.Proofs.Ytllggbembbfabaa.P
set_option linter.unusedVariables false
set_option linter.unusedSimpArgs false
open Go.RowKit Go.Proofs.YtllggbembbfabaaW.PrintWords Go.Proofs.YtllggbembbfabaaW.PrintMore Go.Proofs.Ytllggbembbfabaa.Opn Go.Proofs.Ytllggbembbfabaa.Evp

theorem unit_named_loop (s : ByteArray) (hs : StrOk s) : ∀ (d : Nat) (i : Int), 0 ≤ i → i ≤ (s.size : Int) → (s.size : Int) - i = d → EvP (fun k => unit_named.l0 k s (s.size : Int) i) (fun _ => True) := by
  unfold StrOk at hs
  intro d
  induction d with
  | zero =>
    intro i h0 h1 hd
    refine EvP.step (fun k => by rw [unit_named.l0]) ?_
    exact EvP.neg (by omega) (EvP.ret trivial)
  | succ d ih =>
    intro i h0 h1 hd
    refine EvP.step (fun k => by rw [unit_named.l0]) ?_
    refine EvP.pos (by omega) (EvP.pos h0 (EvP.pos (by omega) ?_))
    have h := ih (i + 1) (by omega) (by omega) (by omega)
    rw [w64 (by omega) (by omega)]
    repeat' (with_reducible refine EvP.ite (fun _ => ?_) (fun _ => ?_))
    all_goals first | exact EvP.ret trivial | exact h
theorem unit_named_some (s : ByteArray) (hs : StrOk s) : ∃ b, Ev (fun k => unit_named.f k s) b := by
  have h : EvP (fun k => unit_named.f k s) (fun _ => True) := by
    unfold unit_named.f
    have hj : ∀ b, EvP (fun k => unit_named.j0 k s b) (fun _ => True) := by
      intro b
      refine EvP.step (fun k => by rw [unit_named.j0]) ?_
      exact EvP.ite (fun _ => EvP.ret trivial) (fun _ => unit_named_loop s hs s.size 0 (by omega) (by omega) (by omega))
    refine EvP.ite (fun _ => hj _) (fun h1 => EvP.ite (fun _ => hj _) (fun _ => ?_))
    have h2 : 0 < (s.size : Int) := by
      rcases Nat.eq_zero_or_pos s.size with h | h
      · exact absurd (toList_nil h) h1
      · omega
    exact EvP.pos h2 (EvP.ite (fun _ => hj _) (fun _ => hj _))
  obtain ⟨b, hb, _⟩ := h
  exact ⟨b, hb⟩


def RuleOk (le mo up dn mon moff st : Int) : Prop := 0 ≤ le ∧ le ≤ mo ∧ mo ≤ 100000 ∧ 1 ≤ up ∧ up ≤ 100000 ∧ 1 ≤ dn ∧ dn ≤ 100000 ∧ 1 ≤ mon ∧ mon ≤ 24 ∧ 1 ≤ moff ∧ moff ≤ 24 ∧ 0 ≤ st ∧ st ≤ 1000000
def StateOk (le mo : Int) (o : Bool) (t q : Int) : Prop := 1 ≤ t ∧ t ≤ 200000 ∧ (o = true → le ≤ q ∧ q ≤ mo) ∧ (o = false → q = 0)

theorem unit_Check_some (nm : ByteArray) (hs : StrOk nm) (le mo up dn mon moff st : Int) : ∃ e, Ev (fun k => unit_Check.f k nm le mo up dn mon moff st) e ∧ 0 ≤ e ∧ e ≤ 6 ∧ (e = 0 ↔ Ev (fun k => unit_named.f k nm) true ∧ RuleOk le mo up dn mon moff st) := by
  obtain ⟨b, hb⟩ := unit_named_some nm hs
  have h : EvP (fun k => unit_Check.f k nm le mo up dn mon moff st) (fun e => 0 ≤ e ∧ e ≤ 6 ∧ (e = 0 ↔ Ev (fun k => unit_named.f k nm) true ∧ RuleOk le mo up dn mon moff st)) := by
    unfold unit_Check.f
    refine EvP.bindE hb ?_
    refine EvP.ite (fun hb' => ?_) (fun hb' => EvP.ret ⟨by omega, by omega, ?_⟩)
    · subst hb'
      unfold RuleOk
      iterate 13 (refine EvP.ite (fun _ => EvP.ret ⟨by omega, by omega, ⟨fun h => by omega, fun h => by omega⟩⟩) (fun _ => ?_))
      exact EvP.ret ⟨by omega, by omega, ⟨fun _ => ⟨hb, by omega⟩, fun _ => rfl⟩⟩
    · constructor
      · intro h; omega
      · intro h; exact absurd (Ev.det hb h.1) hb'
  obtain ⟨e, he, hp⟩ := h
  exact ⟨e, he, hp⟩

theorem unit_CheckState_some (nm : ByteArray) (hs : StrOk nm) (le mo up dn mon moff st : Int) (o : Bool) (t q : Int) : ∃ e, Ev (fun k => unit_CheckState.f k nm le mo up dn mon moff st o t q) e ∧ 0 ≤ e ∧ e ≤ 6 ∧ (e = 0 ↔ Ev (fun k => unit_named.f k nm) true ∧ RuleOk le mo up dn mon moff st ∧ StateOk le mo o t q) := by
  obtain ⟨c, hc, hc0, hc6, hce⟩ := unit_Check_some nm hs le mo up dn mon moff st
  have h : EvP (fun k => unit_CheckState.f k nm le mo up dn mon moff st o t q) (fun e => 0 ≤ e ∧ e ≤ 6 ∧ (e = 0 ↔ Ev (fun k => unit_named.f k nm) true ∧ RuleOk le mo up dn mon moff st ∧ StateOk le mo o t q)) := by
    unfold unit_CheckState.f
    refine EvP.bindE hc ?_
    refine EvP.ite (fun hb' => ?_) (fun hb' => EvP.ret ⟨hc0, hc6, ⟨fun h => absurd h hb', fun h => hce.2 ⟨h.1, h.2.1⟩⟩⟩)
    obtain ⟨hn, hr⟩ := hce.1 hb'
    have j1 : ∀ b : Bool, 1 ≤ t → t ≤ 200000 → (b = true ↔ o = true ∧ ¬ (le ≤ q ∧ q ≤ mo)) → EvP (fun k => unit_CheckState.j1 k b o t q) (fun e => 0 ≤ e ∧ e ≤ 6 ∧ (e = 0 ↔ Ev (fun k => unit_named.f k nm) true ∧ RuleOk le mo up dn mon moff st ∧ StateOk le mo o t q)) := by
      intro b g1 g2 g
      refine EvP.step (fun k => by rw [unit_CheckState.j1]) ?_
      refine EvP.ite (fun hb => EvP.ret ⟨by omega, by omega, ⟨fun h => by omega, fun h => ?_⟩⟩) (fun hb => ?_)
      · have := g.1 hb
        exact absurd (h.2.2.2.2.1 this.1) this.2
      · refine EvP.ite (fun ho => EvP.ret ⟨by omega, by omega, ⟨fun _ => ⟨hn, hr, g1, g2, fun _ => ?_, fun h => by rw [ho] at h; cases h⟩, fun _ => rfl⟩⟩) (fun ho => ?_)
        · exact Classical.byContradiction fun h => hb (g.2 ⟨ho, h⟩)
        · refine EvP.ite (fun hq => EvP.ret ⟨by omega, by omega, ⟨fun _ => ⟨hn, hr, g1, g2, fun h => absurd h ho, fun _ => hq⟩, fun _ => rfl⟩⟩) (fun hq => EvP.ret ⟨by omega, by omega, ⟨fun h => by omega, fun h => ?_⟩⟩)
          exact absurd (h.2.2.2.2.2 (by simpa using ho)) hq
    have j0 : ∀ b : Bool, (b = true ↔ ¬ (1 ≤ t ∧ t ≤ 200000)) → EvP (fun k => unit_CheckState.j0 k b nm le mo up dn mon moff st o t q) (fun e => 0 ≤ e ∧ e ≤ 6 ∧ (e = 0 ↔ Ev (fun k => unit_named.f k nm) true ∧ RuleOk le mo up dn mon moff st ∧ StateOk le mo o t q)) := by
      intro b g
      refine EvP.step (fun k => by rw [unit_CheckState.j0]) ?_
      refine EvP.ite (fun hb => EvP.ret ⟨by omega, by omega, ⟨fun h => by omega, fun h => ?_⟩⟩) (fun hb => ?_)
      · exact absurd ⟨h.2.2.1, h.2.2.2.1⟩ (g.1 hb)
      · obtain ⟨g1, g2⟩ := Classical.byContradiction fun h => hb (g.2 h)
        refine EvP.ite (fun ho => EvP.ite (fun hq => j1 _ g1 g2 ?_) (fun hq => j1 _ g1 g2 ?_)) (fun ho => j1 _ g1 g2 ?_)
        · simp [ho]; omega
        · simp [ho]; omega
        · simp [ho]
    exact EvP.ite (fun hx => j0 _ (by simp; omega)) (fun hx => j0 _ (by simp; omega))
  obtain ⟨e, he, hp⟩ := h
  exact ⟨e, he, hp⟩

/-- The next state, what a start costs, and the error. -/
def nextU (le mo up dn mon moff st : Int) (o : Bool) (t q p : Int) : Bool × Int × Int × Int × Int :=
  if p ≠ -1 ∧ (p < le ∨ mo < p) then (false, 0, 0, 0, 4)
  else if (o = true ∧ p = -1 ∧ t < mon) ∨ (o = false ∧ p ≠ -1 ∧ t < moff) then (false, 0, 0, 0, 12)
  else if o = true ∧ p ≠ -1 ∧ (q + up < p ∨ p < q - dn) then (false, 0, 0, 0, 17)
  else if (o = true ↔ p ≠ -1) then (o, mn (t + 1) 200000, mx p 0, 0, 0)
  else if p = -1 then (false, 1, 0, 0, 0)
  else (true, 1, p, st, 0)

theorem unit_Next_bad {nm : ByteArray} {le mo up dn mon moff st : Int} {o : Bool} {t q e : Int} (h : Ev (fun k => unit_CheckState.f k nm le mo up dn mon moff st o t q) e) (he : e ≠ 0) (p : Int) :
    Ev (fun k => unit_Next.f k nm le mo up dn mon moff st o t q p) (false, 0, 0, 0, e) := by
  unfold unit_Next.f
  exact Ev.bind h (Ev.neg he (Ev.now _))
theorem unit_Next_in {nm : ByteArray} {le mo up dn mon moff st : Int} {o : Bool} {t q : Int} (h : Ev (fun k => unit_CheckState.f k nm le mo up dn mon moff st o t q) 0) (hr : RuleOk le mo up dn mon moff st) (hs : StateOk le mo o t q) (p : Int) :
    Ev (fun k => unit_Next.f k nm le mo up dn mon moff st o t q p) (nextU le mo up dn mon moff st o t q p) := by
  unfold unit_Next.f
  have hq : 0 ≤ q ∧ q ≤ 100000 := by
    unfold RuleOk at hr
    cases o with
    | true => have := hs.2.2.1 rfl; omega
    | false => have := hs.2.2.2 rfl; omega
  have ht : 1 ≤ t ∧ t ≤ 200000 := ⟨hs.1, hs.2.1⟩
  unfold RuleOk at hr
  refine Ev.bind h (Ev.pos rfl ?_)
  have j3 : ∀ b : Bool, ¬ (p ≠ -1 ∧ (p < le ∨ mo < p)) → ¬ ((o = true ∧ p = -1 ∧ t < mon) ∨ (o = false ∧ p ≠ -1 ∧ t < moff)) → (b = true ↔ o = true ∧ p ≠ -1 ∧ (q + up < p ∨ p < q - dn)) →
      Ev (fun k => unit_Next.j3 k p (p == -1) b nm le mo up dn mon moff st o t q) (nextU le mo up dn mon moff st o t q p) := by
    intro b g1 g2 g
    unfold nextU
    rw [if_neg g1, if_neg g2]
    refine Ev.step (fun k => by rw [unit_Next.j3]) ?_
    refine Ev.ite (fun hb => ?_) (fun hb => ?_)
    · rw [if_pos (g.1 hb)]; exact Ev.now _
    · rw [if_neg (fun hh => hb (g.2 hh)), w64 (by omega) (by omega)]
      by_cases hp : p = -1
      · have hp' : (p == -1) = true := by simp [hp]
        rw [hp']
        cases o with
        | true => refine Ev.pos rfl (Ev.pos rfl ?_); rw [if_neg (by simp [hp]), if_pos hp]; exact Ev.now _
        | false => refine Ev.neg (by simp) (Ev.pos rfl ?_); rw [if_pos (by simp [hp])]; exact Ev.now _
      · have hp' : (p == -1) = false := by simp [hp]
        rw [hp']
        cases o with
        | true => refine Ev.pos rfl (Ev.neg (by simp) ?_); rw [if_pos (by simp [hp])]; exact Ev.now _
        | false => refine Ev.neg (by simp) (Ev.neg (by simp) ?_); rw [if_neg (by simp [hp]), if_neg hp]; exact Ev.now _
  have j2 : ∀ b : Bool, ¬ (p ≠ -1 ∧ (p < le ∨ mo < p)) → (b = true ↔ ((o = true ∧ p = -1 ∧ t < mon) ∨ (o = false ∧ p ≠ -1 ∧ t < moff))) →
      Ev (fun k => unit_Next.j2 k p (p == -1) b nm le mo up dn mon moff st o t q) (nextU le mo up dn mon moff st o t q p) := by
    intro b g1 g
    refine Ev.step (fun k => by rw [unit_Next.j2]) ?_
    refine Ev.ite (fun hb => ?_) (fun hb => ?_)
    · unfold nextU
      rw [if_neg g1, if_pos (g.1 hb)]
      exact Ev.now _
    · have g2 := fun hh => hb (g.2 hh)
      rw [w64 (x := q + up) (by omega) (by omega), w64 (x := q - dn) (by omega) (by omega)]
      refine Ev.ite (fun ho => Ev.ite (fun hp => j3 _ g1 g2 ?_) (fun hp => Ev.ite (fun hc => j3 _ g1 g2 ?_) (fun hc => j3 _ g1 g2 ?_))) (fun ho => j3 _ g1 g2 ?_)
      · simp at hp; simp [hp]
      · simp at hp; simp [hp, ho]; omega
      · simp at hp; simp [hp, ho]; omega
      · simp [ho]
  have j1 : ∀ b : Bool, ¬ (p ≠ -1 ∧ (p < le ∨ mo < p)) → (b = true ↔ (o = true ∧ p = -1 ∧ t < mon)) →
      Ev (fun k => unit_Next.j1 k p (p == -1) b nm le mo up dn mon moff st o t q) (nextU le mo up dn mon moff st o t q p) := by
    intro b g1 g
    refine Ev.step (fun k => by rw [unit_Next.j1]) ?_
    refine Ev.ite (fun hb => j2 _ g1 ?_) (fun hb => Ev.ite (fun ho => j2 _ g1 ?_) (fun ho => Ev.ite (fun hp => j2 _ g1 ?_) (fun hp => j2 _ g1 ?_)))
    · simp only [hb, true_iff]; exact Or.inl (g.1 hb)
    · constructor
      · intro h; cases h
      · rintro (h | h)
        · exact absurd (g.2 h) hb
        · rw [ho] at h; cases h.1
    · simp at hp; simp [hp, ho]
    · simp at hp; simp [hp, ho]
  have j0 : ∀ b : Bool, (b = true ↔ (p ≠ -1 ∧ (p < le ∨ mo < p))) →
      Ev (fun k => unit_Next.j0 k p (p == -1) b nm le mo up dn mon moff st o t q) (nextU le mo up dn mon moff st o t q p) := by
    intro b g
    refine Ev.step (fun k => by rw [unit_Next.j0]) ?_
    refine Ev.ite (fun hb => ?_) (fun hb => ?_)
    · unfold nextU
      rw [if_pos (g.1 hb)]
      exact Ev.now _
    · have g1 := fun hh => hb (g.2 hh)
      refine Ev.ite (fun ho => Ev.ite (fun hp => j1 _ g1 ?_) (fun hp => j1 _ g1 ?_)) (fun ho => j1 _ g1 ?_)
      · simp at hp; simp [hp, ho]
      · simp at hp; simp [hp]
      · simp [ho]
  refine Ev.ite (fun hp => j0 _ ?_) (fun hp => Ev.ite (fun hc => j0 _ ?_) (fun hc => j0 _ ?_))
  · simp [hp]
  · simp [hp]; omega
  · simp [hp]; omega

/-- A state that is permitted leads to such a state. -/
theorem nextU_ok {le mo up dn mon moff st : Int} (hr : RuleOk le mo up dn mon moff st) {o : Bool} {t q p : Int} (hs : StateOk le mo o t q) {o' : Bool} {t' q' c : Int} (h : nextU le mo up dn mon moff st o t q p = (o', t', q', c, 0)) :
    StateOk le mo o' t' q' := by
  unfold RuleOk at hr
  have ht : 1 ≤ t ∧ t ≤ 200000 := ⟨hs.1, hs.2.1⟩
  unfold nextU at h
  have hm := mn_le (t + 1) 200000
  have hx := mx_ge p 0
  split at h
  · simp at h
  · split at h
    · simp at h
    · split at h
      · simp at h
      · split at h
        · simp only [Prod.mk.injEq, and_true] at h
          obtain ⟨rfl, rfl, rfl, _⟩ := h
          refine ⟨by omega, by omega, fun ho => ?_, fun ho => ?_⟩
          · have : p ≠ -1 := by simp_all
            omega
          · have : p = -1 := by simp_all
            omega
        · split at h
          · simp only [Prod.mk.injEq, and_true] at h
            obtain ⟨rfl, rfl, rfl, _⟩ := h
            exact ⟨by omega, by omega, fun ho => by simp at ho, fun _ => rfl⟩
          · simp only [Prod.mk.injEq, and_true] at h
            obtain ⟨rfl, rfl, rfl, _⟩ := h
            exact ⟨by omega, by omega, fun _ => by omega, fun ho => by simp at ho⟩

/-- The set-up's own test. -/
theorem waits_ev : Ev (fun k => gridhallkeep3_waits.f k) true := Ev.of (fun k => gridhallkeep3_waits.mono k) (k := 20) (by decide +kernel)

end Go.Proofs.Ytllggbembbfabaa.P
