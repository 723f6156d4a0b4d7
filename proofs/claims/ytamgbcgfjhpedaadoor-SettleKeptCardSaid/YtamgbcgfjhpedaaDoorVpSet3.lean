import Derived.Test.YtamgbcgfjhpedaaDoorVpSet2
namespace Go.Proofs.YtamgbcgfjhpedaaDoor.VE
open Go Go.RowKit
set_option linter.unusedVariables false
attribute [local irreducible] wrap64
/-! ### settle.Round whole (no statement is proved here) -/
attribute [local irreducible] rd
theorem round_loop (ps : List ByteArray) (hb : ps.length ≤ 256) (f : Nat → Rat) (hf : ∀ i : Nat, i < ps.length → OutOk (rStr ps (i : Int)) (f i)) : ∀ (m j : Nat) (s l : Bool × List Int × List Int) (xo1 : List Int) (xo5 : List (Bool × List Int × List Int)), j + m = ps.length → Rp (2001 * j + 3) (sumQ f j) s → xo1.length = j → (∀ i : Nat, i < j → rI64 xo1 (i : Int) = (f i).floor ∧ -1000000000000000 ≤ (f i).floor ∧ (f i).floor ≤ 1000000000000000) → Rp (2005 * j + 3) (sumQ (fun i => fr (f i)) j) l → xo5.length = j → (∀ i : Nat, i < j → Rp 2004 (fr (f i)) (rY2 xo5 (i : Int))) →
    EvP (fun k => settle_Round.l11 k ps (ps.length : Int) (j : Int) s.1 s.2.1 s.2.2 xo1 (idxs j) l.1 l.2.1 l.2.2 xo5) (RoundP ps)
  | 0, j, s, l, xo1, xo5, hj, hs, h1, h2, hl, h5, h6 => by
    have hj : j = ps.length := by omega
    subst hj
    exact round_end ps hb f hf s l xo1 xo5 h1 h2 hl h5 h6
  | m + 1, j, s, l, xo1, xo5, hj, hs, h1, h2, hl, h5, h6 => by
    have hfj := hf j (by omega)
    have hil : (idxs j).length = j := by unfold idxs; simp
    refine EvP.step (fun k => settle_Round.l11_eq k _ _ _ _ _ _ _ _ _ _ _ _) (EvP.pos (by omega) (EvP.pos (by omega) (EvP.pos (by omega) (EvP.bind (in_ev hfj) (fun x hx => EvP.bind (addQ_ev hs hx (by omega)) (fun y hy => ?_))))))
    obtain ⟨r6, hr6⟩ : ∃ r6, Ev (fun k => rat_Floor.f k (rStr ps (j : Int))) r6 := ⟨_, floor_ev hfj⟩
    obtain ⟨z, hz, hz2⟩ := floor_int hfj
    have hz7 : EvP (fun k => rat_Integer.f k r6.1) (fun r => r.2 = 0 → r.1 = (f j).floor) := by
      obtain ⟨K, hK⟩ := hr6
      obtain ⟨K', hK'⟩ := hz
      refine ⟨z, ⟨max K K', fun k hk => ?_⟩, hz2⟩
      have e1 : (rat_Floor.f k (rStr ps (j : Int))).bind (fun r => rat_Integer.f k r.1) = some z := hK' k (by omega)
      have e2 : rat_Floor.f k (rStr ps (j : Int)) = some r6 := hK k (by omega)
      rw [e2] at e1
      exact e1
    refine EvP.bindE hr6 (EvP.bind hz7 (fun r hr => EvP.ite (fun e => EvP.ite (fun _ => EvP.ret ⟨fun _ => rfl, fun e => absurd e (by decide)⟩) (fun b0 => EvP.ite (fun _ => EvP.ret ⟨fun _ => rfl, fun e => absurd e (by decide)⟩) (fun b1 => ?_))) (fun _ => EvP.ret ⟨fun _ => rfl, fun e => absurd e (by decide)⟩)))
    have b0 : ¬ r.1 < -1000000000000000 := b0
    have b1 : ¬ 1000000000000000 < r.1 := b1
    have er := hr e
    refine EvP.bind (int_ev (a := r.1) (by omega) (by omega)) (fun w hw => EvP.bind (subQ_ev hx hw (by omega)) (fun d hd => EvP.pos (by rw [List.length_singleton]; omega) (EvP.pos (by rw [List.length_singleton]; omega) (EvP.pos (by rw [List.length_singleton]; omega) ?_))))
    have hd' : Rp 2004 (fr (f j)) d := by
      rw [er] at hd
      exact hd
    refine EvP.bind (addQ_ev hl hd' (by omega)) (fun v hv => ?_)
    rw [w64 (x := (j : Int) + 1) (by omega) (by omega), ← idxs_succ]
    refine round_loop ps hb f hf m (j + 1) y v _ _ (by omega) (hy.up (by omega)) (by rw [List.length_append, List.length_singleton, h1]) (fun i hi => ?_) (hv.up (by omega)) (by rw [List.length_append, List.length_singleton, h5]) (fun i hi => ?_)
    · by_cases hij : i < j
      · have h := h2 i hij
        have hg := rI64_some (xs := xo1) (i := (i : Int)) (by omega) (by omega)
        rw [rI64_get (xo1 ++ [r.1]) i (rI64 xo1 (i : Int)) (by rw [List.getElem?_append_left (by omega)]; exact hg)]
        exact h
      · have : i = j := by omega
        subst this
        rw [rI64_get (xo1 ++ [r.1]) i r.1 (by rw [List.getElem?_append_right (by omega), h1, Nat.sub_self]; rfl)]
        exact ⟨er, by omega, by omega⟩
    · by_cases hij : i < j
      · have h := h6 i hij
        have hg := rY2_some (xs := xo5) (i := (i : Int)) (by omega) (by omega)
        rw [rY2_get (xo5 ++ [d]) i (rY2 xo5 (i : Int)) (by rw [List.getElem?_append_left (by omega)]; exact hg)]
        exact h
      · have : i = j := by omega
        subst this
        rw [rY2_get (xo5 ++ [d]) i d (by rw [List.getElem?_append_right (by omega), h5, Nat.sub_self]; rfl)]
        exact hd'
theorem choose_q {ps : List ByteArray} (h : ∀ x ∈ ps, ∃ q, OutOk x q) : ∃ f : Nat → Rat, ∀ i : Nat, i < ps.length → OutOk (rStr ps (i : Int)) (f i) := by
  have h' : ∀ i : Nat, ∃ q, i < ps.length → OutOk (rStr ps (i : Int)) q := by
    intro i
    by_cases hi : i < ps.length
    · obtain ⟨q, hq⟩ := h _ (rStr_mem (xs := ps) (i := (i : Int)) (by omega) (by omega))
      exact ⟨q, fun _ => hq⟩
    · exact ⟨0, fun e => absurd e hi⟩
  exact ⟨fun i => Classical.choose (h' i), fun i => Classical.choose_spec (h' i)⟩
theorem round_ex {ps : List ByteArray} (hs : ∀ x ∈ ps, x.size ≤ 140737488355328) : EvP (fun k => settle_Round.f k ps) (RoundP ps) := by
  refine EvP.ite (fun h => EvP.ret ⟨fun _ => rfl, fun e => absurd e (by decide)⟩) (fun h => ?_)
  have h : ¬ 256 < (ps.length : Int) := h
  refine EvP.bind (checkAll_ex (by omega) hs) (fun r hr => EvP.ite (fun e => ?_) (fun e => EvP.ret ⟨fun _ => rfl, fun e' => absurd e' e⟩))
  obtain ⟨f, hf⟩ := choose_q (hr e)
  refine EvP.bind (int_ev (a := 0) (by omega) (by omega)) (fun s hs => EvP.bind (int_ev (a := 0) (by omega) (by omega)) (fun l hl => ?_))
  exact round_loop ps (by omega) f hf ps.length 0 s l [] [] (by omega) hs rfl (fun i hi => by omega) hl rfl (fun i hi => by omega)
end Go.Proofs.YtamgbcgfjhpedaaDoor.VE
