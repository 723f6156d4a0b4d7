/- The law UnitValid over numbers and lists: the next state is valid, and every power of Range leads to one. -/
import Derived.Test.YtllggbembbfabaaLUnitRun
import Derived.Test.YtllggbembbfabaaLWithin
import Derived.Test.YtllggbembbfabaaStateUnitValid
import Derived.Test.YtllggbembbfabaaPx18
import Derived.Test.YtllggbembbfabaaPx19
import Derived.Test.YtllggbembbfabaaPx22
import Derived.Test.YtllggbembbfabaaPx23
import Derived.Test.YtllggbembbfabaaPx24
namespace Go.Proofs.Ytllggbembbfabaa.P
set_option linter.unusedVariables false
open Go.RowKit Go.Proofs.YtllggbembbfabaaW.PrintWords Go.Proofs.YtllggbembbfabaaW.PrintMore Go.Proofs.Ytllggbembbfabaa.Opn Go.Proofs.Ytllggbembbfabaa.Evp
theorem unitValid_pure : UnitValid.Pure := by
  intro r s power hr hs _
  refine Ev.rounds ?_
  unfold gridhallkeep3_UnitValid.f
  refine Ev.bind waits_ev (Ev.pos rfl ?_)
  obtain ⟨e, he, _, _, hp⟩ := unit_CheckState_some r.f0 hr.1 r.f1 r.f2 r.f3 r.f4 r.f5 r.f6 r.f7 s.f0 s.f1 s.f2
  by_cases e0 : e = 0
  · subst e0
    obtain ⟨hn, hro, hst⟩ := hp.1 rfl
    have hro' := hro
    unfold RuleOk at hro'
    -- every power between low and high leads to a valid state
    have key : ∀ low high : Int, 0 ≤ low → high ≤ 100000 → low ≤ high → (∀ p, low ≤ p → p ≤ high → ∃ t' c, nextU r.f1 r.f2 r.f3 r.f4 r.f5 r.f6 r.f7 s.f0 s.f1 s.f2 p = (true, t', p, c, 0)) → Ev (fun k => unit_Range.f k r.f0 r.f1 r.f2 r.f3 r.f4 r.f5 r.f6 r.f7 s.f0 s.f1 s.f2) (low, high, 0) →
        Ev (fun k => (unit_Range.f k r.f0 r.f1 r.f2 r.f3 r.f4 r.f5 r.f6 r.f7 s.f0 s.f1 s.f2).bind fun bt233 => (if bt233.2.2 = 0 then (if bt233.1 > bt233.2.1 then (some false) else ((gridhallkeep3_within.f power bt233.1 bt233.2.1).bind fun t236 => ((unit_Next.f k r.f0 r.f1 r.f2 r.f3 r.f4 r.f5 r.f6 r.f7 s.f0 s.f1 s.f2 t236).bind fun bt237 => (if bt237.2.2.2.2 = 0 then ((unit_CheckState.f k r.f0 r.f1 r.f2 r.f3 r.f4 r.f5 r.f6 r.f7 bt237.1 bt237.2.1 bt237.2.2.1).bind fun t243 => (if t243 = 0 then (if bt237.1 = true then (some (bt237.2.2.1 == t236)) else (some false)) else (some false))) else (some false))))) else (if bt233.1 = 0 then (some (bt233.2.1 == 0)) else (some false)))) true := by
      intro low high h1 h2 h3 hall hrg
      refine Ev.bind hrg (Ev.pos rfl (Ev.neg (by simp only; omega) ?_))
      obtain ⟨p, hw, w0, w1⟩ := within_some (low := low) (high := high) power (by omega) h3 (by omega)
      simp only
      rw [hw]
      refine Ev.binds ?_
      obtain ⟨t', c, hx⟩ := hall p w0 w1
      have hnx := unit_Next_in he hro hst p
      rw [hx] at hnx
      refine Ev.bind hnx (Ev.pos rfl (Ev.bind (unit_CheckState_ok hr.1 hn hro (nextU_ok hro hst hx)) (Ev.pos rfl (Ev.pos rfl ?_))))
      simp only [BEq.rfl]
      exact Ev.now _
    have range : Ev (fun k => unit_Range.f k r.f0 r.f1 r.f2 r.f3 r.f4 r.f5 r.f6 r.f7 s.f0 s.f1 s.f2) (if s.f0 = true then (mx r.f1 (s.f2 - r.f4), mn r.f2 (s.f2 + r.f3), 0) else if s.f1 < r.f6 then (0, 0, 12) else (r.f1, r.f2, 0)) := by
      unfold unit_Range.f
      refine Ev.bind he (Ev.pos rfl ?_)
      refine Ev.ite (fun h => ?_) (fun h => Ev.ite (fun h2 => ?_) (fun h2 => ?_))
      · rw [if_pos h]
        have := hst.2.2.1 h
        rw [w64 (by omega) (by omega), w64 (by omega) (by omega)]
        exact Ev.now _
      · rw [if_neg h, if_pos h2]; exact Ev.now _
      · rw [if_neg h, if_neg h2]; exact Ev.now _
    by_cases ho : s.f0 = true
    · rw [if_pos ho] at range
      have hq := hst.2.2.1 ho
      have m1 := mx_ge r.f1 (s.f2 - r.f4)
      have m2 := mn_le r.f2 (s.f2 + r.f3)
      refine key _ _ (by omega) (by omega) (by omega) (fun p p0 p1 => ⟨mn (s.f1 + 1) 200000, 0, ?_⟩) range
      unfold nextU
      have hx : mx p 0 = p := by unfold mx; rw [if_neg (by omega)]
      have n2 : ¬ ((s.f0 = true ∧ p = -1 ∧ s.f1 < r.f5) ∨ (s.f0 = false ∧ p ≠ -1 ∧ s.f1 < r.f6)) := by
        rintro (h | h)
        · omega
        · rw [ho] at h; cases h.1
      have n4 : s.f0 = true ↔ p ≠ -1 := ⟨fun _ => by omega, fun _ => ho⟩
      rw [if_neg (by omega), if_neg n2, if_neg (by omega), if_pos n4, hx, ho]
    · rw [if_neg ho] at range
      have ho' : s.f0 = false := by simpa using ho
      by_cases ht : s.f1 < r.f6
      · rw [if_pos ht] at range
        exact Ev.bind range (Ev.neg (by simp) (Ev.pos rfl (Ev.now _)))
      · rw [if_neg ht] at range
        refine key _ _ (by omega) (by omega) (by omega) (fun p p0 p1 => ⟨1, r.f7, ?_⟩) range
        unfold nextU
        have n2 : ¬ ((s.f0 = true ∧ p = -1 ∧ s.f1 < r.f5) ∨ (s.f0 = false ∧ p ≠ -1 ∧ s.f1 < r.f6)) := by
          rintro (h | h)
          · exact ho h.1
          · omega
        have n4 : ¬ (s.f0 = true ↔ p ≠ -1) := fun h => ho (h.2 (by omega))
        rw [if_neg (by omega), if_neg n2, if_neg (fun h => ho h.1), if_neg n4, if_neg (by omega)]
  · have range : Ev (fun k => unit_Range.f k r.f0 r.f1 r.f2 r.f3 r.f4 r.f5 r.f6 r.f7 s.f0 s.f1 s.f2) (0, 0, e) := by
      unfold unit_Range.f
      exact Ev.bind he (Ev.neg e0 (Ev.now _))
    exact Ev.bind range (Ev.neg e0 (Ev.pos rfl (Ev.now _)))
end Go.Proofs.Ytllggbembbfabaa.P
namespace Go.Proofs.Ytllggbembbfabaa.Pure
open Go.Proofs.Ytllggbembbfabaa.P
theorem UnitValid : UnitValid.Pure := unitValid_pure
end Go.Proofs.Ytllggbembbfabaa.Pure
