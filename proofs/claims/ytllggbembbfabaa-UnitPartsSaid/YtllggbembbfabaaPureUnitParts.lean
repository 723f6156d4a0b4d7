/- The law UnitParts over numbers and lists: a schedule that is run in two parts ends in the same state. -/
import Derived.Test.YtllggbembbfabaaLUnitRun
import Derived.Test.YtllggbembbfabaaLWithin
import Derived.Test.YtllggbembbfabaaStateUnitParts
import Derived.Test.YtllggbembbfabaaPx28
import Derived.Test.YtllggbembbfabaaPx29
namespace Go.Proofs.Ytllggbembbfabaa.P
set_option linter.unusedVariables false
open Go.RowKit Go.Proofs.YtllggbembbfabaaW.PrintWords Go.Proofs.YtllggbembbfabaaW.PrintMore Go.Proofs.Ytllggbembbfabaa.Opn Go.Proofs.Ytllggbembbfabaa.Evp
theorem runU_step {le mo up dn mon moff st : Int} {o : Bool} {t q p : Int} {ps : List Int} {x : UState} {l' : List UState} {c0 c' : Int} (hn : nextU le mo up dn mon moff st o t q p = (x.f0, x.f1, x.f2, c0, 0)) (hr : runU le mo up dn mon moff st x.f0 x.f1 x.f2 ps = (l', c', 0)) :
    runU le mo up dn mon moff st o t q (p :: ps) = (x :: l', c0 + c', 0) := by
  simp only [runU, hn, hr, if_true]
/-- A schedule in two parts: the second one starts where the first one ended. -/
theorem runU_split {le mo up dn mon moff st : Int} (hr : RuleOk le mo up dn mon moff st) : ∀ {pa : List Int} {o : Bool} {t q : Int} {pb : List Int} {l : List UState} {c : Int}, StateOk le mo o t q → pa ≠ [] → runU le mo up dn mon moff st o t q (pa ++ pb) = (l, c, 0) →
    ∃ l1 l2 c1 c2, ∃ h : l1 ≠ [], runU le mo up dn mon moff st o t q pa = (l1, c1, 0) ∧ runU le mo up dn mon moff st (l1.getLast h).f0 (l1.getLast h).f1 (l1.getLast h).f2 pb = (l2, c2, 0) ∧ l = l1 ++ l2 ∧ c = c1 + c2 ∧ StateOk le mo (l1.getLast h).f0 (l1.getLast h).f1 (l1.getLast h).f2 ∧ 0 ≤ c1 ∧ c1 ≤ 1000000 * pa.length ∧ l1.length = pa.length
  | [], _, _, _, _, _, _, _, h, _ => absurd rfl h
  | [p], o, t, q, pb, l, c, hst, _, h => by
    obtain ⟨x, l', c0, c', hn, hr', rfl, rfl⟩ := runU_cons h
    have hok := nextU_ok hr hst hn
    have hc := nextU_cases hn
    unfold RuleOk at hr
    refine ⟨[x], l', c0, c', by simp, ?_, hr', rfl, rfl, hok, by omega, by simp; omega, rfl⟩
    simp only [runU, hn, if_true, Int.add_zero]
  | p :: p2 :: pa, o, t, q, pb, l, c, hst, _, h => by
    obtain ⟨x, l', c0, c', hn, hr', rfl, rfl⟩ := runU_cons h
    have hok := nextU_ok hr hst hn
    have hc := nextU_cases hn
    obtain ⟨l1, l2, c1, c2, hne, h1, h2, rfl, rfl, h3, h4, h5, h6⟩ := runU_split hr (pa := p2 :: pa) hok (by simp) hr'
    unfold RuleOk at hr
    refine ⟨x :: l1, l2, c0 + c1, c2, by simp, ?_, ?_, rfl, by omega, ?_, by omega, ?_, by simp [h6]⟩
    · exact runU_step hn h1
    · rw [List.getLast_cons hne]; exact h2
    · rw [List.getLast_cons hne]; exact h3
    · simp only [List.length_cons] at h5 ⊢
      omega
theorem equalU_loop (l : List UState) (hl : l.length ≤ 24) : ∀ (d : Nat) (i : Int), 0 ≤ i → i ≤ (l.length : Int) → (l.length : Int) - i = d → Ev (fun k => slices_Equal_api_UnitState_api_UnitState.l0 k l l (l.length : Int) i) true := by
  intro d
  induction d with
  | zero =>
    intro i h0 h1 hd
    refine Ev.step (fun k => by rw [slices_Equal_api_UnitState_api_UnitState.l0]) ?_
    exact Ev.neg (by omega) (Ev.now _)
  | succ d ih =>
    intro i h0 h1 hd
    refine Ev.step (fun k => by rw [slices_Equal_api_UnitState_api_UnitState.l0]) ?_
    refine Ev.pos (by omega) (Ev.pos h0 (Ev.pos (by omega) (Ev.pos (by omega) (Ev.neg (by simp) ?_))))
    rw [w64 (by omega) (by omega)]
    exact ih (i + 1) (by omega) (by omega) (by omega)
theorem unitParts_pure : UnitParts.Pure := by
  intro r s ps cut hr _ _ _
  refine Ev.rounds ?_
  unfold gridhallkeep3_UnitParts.f
  refine Ev.bind waits_ev (Ev.pos rfl ?_)
  obtain ⟨l, c, e, he, h⟩ := run_any hr.1 r.f1 r.f2 r.f3 r.f4 r.f5 r.f6 r.f7 s.f0 s.f1 s.f2 ps
  refine Ev.bind he ?_
  rcases h with ⟨h1, rfl, rfl⟩ | ⟨h1, hn, hro, hst, hl, hrun⟩
  · refine Ev.neg h1 (Ev.step (fun k => by rw [gridhallkeep3_UnitParts.j0]) (Ev.pos rfl (Ev.neg h1 ?_)))
    exact Ev.now _
  · subst h1
    refine Ev.pos rfl (Ev.step (fun k => by rw [gridhallkeep3_UnitParts.j0]) ?_)
    refine Ev.ite (fun _ => Ev.pos rfl (Ev.now _)) (fun hne => ?_)
    have hpos : ps.length ≠ 0 := by
      intro h
      apply hne
      simp [h]
    obtain ⟨k0, hw, w0, w1⟩ := within_some (low := 1) (high := (ps.length : Int)) cut (by omega) (by omega) (by omega)
    rw [hw]
    refine Ev.binds (Ev.pos (by omega) (Ev.pos (by omega) ?_))
    have hsplit : ps = ps.take k0.toNat ++ ps.drop k0.toNat := (List.take_append_drop _ _).symm
    have hrun' := hrun
    rw [hsplit] at hrun'
    have hlen0 : (ps.take k0.toNat).length = k0.toNat := by rw [List.length_take]; omega
    obtain ⟨l1, l2, c1, c2, hl1, g1, g2, g3, g4, g5, g6, g7, g8⟩ := runU_split hro hst (by
      intro h0
      rw [h0] at hlen0
      simp at hlen0
      omega) hrun'
    have f1 := unit_Run_in hr.1 hn hro hst (ps := ps.take k0.toNat) (by omega)
    rw [g1] at f1
    refine Ev.bind f1 (Ev.pos rfl ?_)
    simp only
    have e1 : ((l1.length : Int) != k0) = false := by simp; omega
    rw [e1]
    refine Ev.step (fun k => by rw [gridhallkeep3_UnitParts.j1]) (Ev.neg (by simp) ?_)
    rw [w64 (x := k0 - 1) (by omega) (by omega)]
    refine Ev.pos (by omega) (Ev.pos (by omega) (Ev.pos (by omega) (Ev.pos (by omega) ?_)))
    have hlast : rd_T45 l1 (k0 - 1) = l1.getLast hl1 := by
      unfold rd_T45
      have e2 : (k0 - 1).toNat = l1.length - 1 := by omega
      have e3 : l1.length - 1 < l1.length := by omega
      rw [e2, List.getD_eq_getElem?_getD, List.getElem?_eq_getElem e3, List.getLast_eq_getElem]
      rfl
    rw [hlast]
    have f2 := unit_Run_in hr.1 hn hro g5 (ps := ps.drop k0.toNat) (by rw [List.length_drop]; omega)
    rw [g2] at f2
    refine Ev.bind f2 (Ev.pos rfl ?_)
    simp only
    have hlt := runU_length hrun
    have hl2 : l1.length + l2.length ≤ 24 := by
      have : l.length = l1.length + l2.length := by rw [g3, List.length_append]
      omega
    have hc2 : 0 ≤ c2 ∧ c2 ≤ 1000000 * 24 := by
      by_cases hd : ps.drop k0.toNat = []
      · rw [hd] at g2
        simp only [runU, Prod.mk.injEq] at g2
        omega
      · have g2' : runU r.f1 r.f2 r.f3 r.f4 r.f5 r.f6 r.f7 (l1.getLast hl1).f0 (l1.getLast hl1).f1 (l1.getLast hl1).f2 (ps.drop k0.toNat ++ []) = (l2, c2, 0) := by rw [List.append_nil]; exact g2
        obtain ⟨l3, l4, c3, c4, _, i1, i2, i3, i4, _, i6, i7, _⟩ := runU_split hro g5 hd g2'
        simp only [runU, Prod.mk.injEq] at i2
        have : (ps.drop k0.toNat).length ≤ 24 := by rw [List.length_drop]; omega
        omega
    rw [w64 (x := c1 + c2) (by omega) (by omega)]
    refine Ev.pos (by omega) (Ev.pos (by omega) (Ev.bind (a := true) ?_ (Ev.now _)))
    rw [← g3]
    unfold slices_Equal_api_UnitState_api_UnitState.f
    exact Ev.pos rfl (equalU_loop l (by omega) l.length 0 (by omega) (by omega) (by omega))
end Go.Proofs.Ytllggbembbfabaa.P
namespace Go.Proofs.Ytllggbembbfabaa.Pure
open Go.Proofs.Ytllggbembbfabaa.P
theorem UnitParts : UnitParts.Pure := unitParts_pure
end Go.Proofs.Ytllggbembbfabaa.Pure
