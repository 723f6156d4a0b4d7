/- The pure statement of the law PriceParts; what its row says is proved behind it. -/
import Derived.Test.YtamgbcgfjhpedaaDoorVpR4
namespace Go.Proofs.YtamgbcgfjhpedaaDoor.VE
open Go Go.RowKit
set_option linter.unusedVariables false
attribute [local irreducible] wrap64
attribute [local irreducible] rd
/-- The row's pure statement. -/
def PriceParts.Pure : Prop := ∀ (a0 : List ByteArray), OkV BY (.list 28 .str) a0 → ∃ k, gridhallkeep3_PriceParts.f k a0 = some true
/-- What price.Parts answers. -/
def PartsP (ps : List ByteArray) (r : List (ByteArray × ByteArray) × Int) : Prop :=
  (r.2 ≠ 0 → r.1 = []) ∧ (r.2 = 0 → r.1.length = ps.length ∧ ∀ i, i < ps.length → ∃ q0 qi, OutOk (rStr ps 0) q0 ∧ OutOk (rStr ps (i : Int)) qi ∧ Fit (qi - q0) ∧ r.1[i]? = some (rStr ps 0, ofBytes (outL (qi - q0))))
theorem parts_run (ps : List ByteArray) (hb : ps.length ≤ 40) (hq : ∀ x ∈ ps, ∃ q, OutOk x q) : ∀ (m j : Nat) (out : List (ByteArray × ByteArray)), j + m = ps.length → out.length = j → (∀ i, i < j → ∃ q0 qi, OutOk (rStr ps 0) q0 ∧ OutOk (rStr ps (i : Int)) qi ∧ Fit (qi - q0) ∧ out[i]? = some (rStr ps 0, ofBytes (outL (qi - q0)))) →
    EvP (fun k => price_Parts.l8 k ps ps (ps.length : Int) (j : Int) out) (PartsP ps)
  | 0, j, out, hj, ho, h => EvP.step (fun k => price_Parts.l8_eq k _ _ _ _ _) (EvP.neg (by omega) (EvP.ret ⟨fun e => absurd rfl e, fun _ => ⟨by show out.length = _; omega, fun i hi => h i (by omega)⟩⟩))
  | m + 1, j, out, hj, ho, h => by
    obtain ⟨qj, hqj⟩ := hq _ (rStr_mem (xs := ps) (i := (j : Int)) (by omega) (by omega))
    obtain ⟨q0, hq0⟩ := hq _ (rStr_mem (xs := ps) (i := 0) (by omega) (by omega))
    refine EvP.step (fun k => price_Parts.l8_eq k _ _ _ _ _) (EvP.pos (by omega) (EvP.pos (by omega) (EvP.pos (by omega) (EvP.bind (in_ev hqj) (fun x hx => EvP.pos (by omega) (EvP.pos (by omega) (EvP.bind (in_ev hq0) (fun y hy => EvP.bind (subQ_ev hx hy (by omega)) (fun z hz => EvP.bindE (fits_ev hz (by omega)) ?_)))))))))
    by_cases hf : Fit (qj - q0)
    · rw [if_pos hf]
      refine EvP.pos rfl (EvP.pos (by omega) (EvP.pos (by omega) (EvP.bindE (out_ev hz (by omega)) (EvP.pos (by rw [List.length_singleton]; omega) ?_))))
      rw [w64 (by omega) (by omega)]
      refine parts_run ps hb hq m (j + 1) _ (by omega) (by rw [List.length_append, List.length_singleton, ho]) (fun i hi => ?_)
      by_cases hij : i < j
      · obtain ⟨p0, pi, h1, h2, h3, h4⟩ := h i hij
        exact ⟨p0, pi, h1, h2, h3, by rw [List.getElem?_append_left (by omega)]; exact h4⟩
      · have : i = j := by omega
        subst this
        exact ⟨q0, qj, hq0, hqj, hf, by rw [List.getElem?_append_right (by omega), ho, Nat.sub_self]; rfl⟩
    · rw [if_neg hf]
      exact EvP.neg (by decide) (EvP.ret ⟨fun _ => rfl, fun e => absurd e (by decide)⟩)
theorem parts_ex {ps : List ByteArray} (hs : ∀ x ∈ ps, x.size ≤ 140737488355328) : EvP (fun k => price_Parts.f k ps) (PartsP ps) := by
  refine EvP.ite (fun h => EvP.ret ⟨fun _ => rfl, fun e => absurd e (by decide)⟩) (fun h => ?_)
  have h : ¬ 40 < (ps.length : Int) := h
  refine EvP.bind (checkAll_ex (by omega) hs) (fun r hr => EvP.ite (fun e => ?_) (fun e => EvP.ret ⟨fun _ => rfl, fun e' => absurd e' e⟩))
  exact parts_run ps (by omega) (hr e) ps.length 0 [] (by omega) rfl (fun i hi => by omega)
theorem law_run (ps : List ByteArray) (hb : ps.length ≤ 9000000000000) (r : List (ByteArray × ByteArray)) (hl : r.length = ps.length) (hr : ∀ i, i < ps.length → ∃ q0 qi, OutOk (rStr ps 0) q0 ∧ OutOk (rStr ps (i : Int)) qi ∧ Fit (qi - q0) ∧ r[i]? = some (rStr ps 0, ofBytes (outL (qi - q0)))) : ∀ (m j : Nat), j + m = ps.length → Ev (fun k => gridhallkeep3_PriceParts.l8 k ps r r (r.length : Int) (j : Int)) true
  | 0, j, hj => by
    refine Ev.step (fun k => gridhallkeep3_PriceParts.l8_eq k _ _ _ _ _) (Ev.neg (by omega) ?_)
    rw [hl, decide_eq_true rfl]
    exact Ev.now _
  | m + 1, j, hj => by
    obtain ⟨q0, qj, h1, h2, h3, h4⟩ := hr j (by omega)
    have ih := law_run ps hb r hl hr m (j + 1) (by omega)
    have ha := ratAdd_ev h1 (show OutOk (ofBytes (outL (qj - q0))) (qj - q0) from ⟨rfl, h3⟩)
    have e : q0 + (qj - q0) = qj := by grind
    rw [e, if_pos h2.2, ← h2.1] at ha
    refine Ev.step (fun k => gridhallkeep3_PriceParts.l8_eq k _ _ _ _ _) ?_
    rw [rY0_get r j _ h4, w64 (x := (j : Int) + 1) (by omega) (by omega)]
    exact Ev.pos (by omega) (Ev.pos (by omega) (Ev.pos (by omega) (Ev.bind ha (Ev.neg (by simp) (Ev.pos rfl (Ev.pos (by omega) (Ev.pos (by omega) (Ev.pos rfl (Ev.pos (by omega) (Ev.pos (by omega) (Ev.pos rfl ih)))))))))))
theorem first : Ev (fun k => price_Parts.f k [ByteArray.mk #[53], ByteArray.mk #[49, 53, 47, 50]]) ([(ByteArray.mk #[53], ByteArray.mk #[48]), (ByteArray.mk #[53], ByteArray.mk #[53, 47, 50])], 0) := Ev.far 60 (fun k => by kernel_rfl)
theorem Pure.PriceParts : PriceParts.Pure := by
  intro a0 ok
  have hs : ∀ x ∈ a0, x.size ≤ 140737488355328 := fun x hx => Nat.le_trans (ok.2 x hx) (by omega)
  have hn : a0.length * 16 ≤ 140737488351232 := ok.1
  have e1 : rY0 [(ByteArray.mk #[53], ByteArray.mk #[48]), (ByteArray.mk #[53], ByteArray.mk #[53, 47, 50])] 1 = (ByteArray.mk #[53], ByteArray.mk #[53, 47, 50]) := rY0_get _ 1 _ rfl
  refine Ev.rounds (Ev.bind first (Ev.pos rfl (Ev.pos rfl (Ev.pos (by omega) (Ev.pos (by decide) (Ev.pos ⟨congrArg Prod.fst e1, congrArg Prod.snd e1⟩ ?_))))))
  obtain ⟨r, hr, h1, h2⟩ := parts_ex hs
  refine Ev.bind hr (Ev.ite (fun e => ?_) (fun e => ?_))
  · obtain ⟨h3, h4⟩ := h2 e
    exact law_run a0 (by omega) r.1 h3 h4 a0.length 0 (Nat.zero_add _)
  · rw [h1 e]
    exact Ev.now _
end Go.Proofs.YtamgbcgfjhpedaaDoor.VE
