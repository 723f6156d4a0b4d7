import Derived.Test.YtamgbcgfjhpedaaDoorVpR5
namespace Go.Proofs.YtamgbcgfjhpedaaDoor.VE
open Go Go.RowKit
set_option linter.unusedVariables false
attribute [local irreducible] wrap64
/-! ### rat: Integer (no statement is proved here) -/
attribute [local irreducible] rd
theorem drop_le {c : List Int} (h : Dig c) {j : Nat} (hj : j ≤ c.length) : 0 ≤ vL (c.drop j) ∧ vL (c.drop j) ≤ vL c := by
  have h1 := vL_split c j hj
  have h2 := (h.take_lt hj).1
  have h3 := (vL_rng _ (h.drop j)).1
  have h4 := Int.mul_le_mul_of_nonneg_right (Bp_pos j) h3
  omega
theorem i14_run (c : List Int) (hc : Dig c) (hb : c.length ≤ 1000000000) (hv : vL c ≤ 9223372036854775807) (b : Bool) (d : List Int) : ∀ (j : Nat), j ≤ c.length → Ev (fun k => rat_Integer.l14 k (vL (c.drop j)) ((j : Int) - 1) b c d) ((if b = true then -(vL c) else vL c), 0)
  | 0, hj => by
    have h0 := (vL_rng c hc).1
    rw [List.drop_zero]
    refine Ev.step (fun k => rat_Integer.l14_eq k _ _ _ _ _) (Ev.neg (by omega) (Ev.ite (fun h => ?_) (fun h => ?_)))
    · rw [if_pos h, w64 (by omega) (by omega), show 0 - vL c = -(vL c) by omega]
      exact Ev.now _
    · rw [if_neg h]
      exact Ev.now _
  | j + 1, hj => by
    have hx := hc.at (show j < c.length by omega)
    have hdr := rU32_drop (xs := c) (i := (j : Int)) (by omega) (by omega)
    rw [show ((j : Int)).toNat = j from rfl, show ((j : Int) + 1).toNat = j + 1 from rfl] at hdr
    have hvd : vL (c.drop j) = rU32 c (j : Int) + 1000000000 * vL (c.drop (j + 1)) := by rw [hdr]; rfl
    have h1 := drop_le hc (show j ≤ c.length by omega)
    have h2 := drop_le hc (show j + 1 ≤ c.length by omega)
    have ih := i14_run c hc hb hv b d j (by omega)
    have e : vL (c.drop (j + 1)) * 1000000000 + rU32 c (j : Int) = vL (c.drop j) := by omega
    rw [show ((j + 1 : Nat) : Int) - 1 = (j : Int) by omega]
    refine Ev.step (fun k => rat_Integer.l14_eq k _ _ _ _ _) (Ev.pos (by omega) (Ev.pos (by omega) (Ev.pos (by omega) ?_)))
    rw [w64 (x := vL (c.drop (j + 1)) * 1000000000) (by omega) (by omega), w64 (x := rU32 c (j : Int)) (by omega) (by omega), e, w64 (x := vL (c.drop j)) (by omega) (by omega), w64 (x := (j : Int) - 1) (by omega) (by omega)]
    exact ih
def intR (q : Rat) : Int × Int := if q.den = 1 then (if -9223372036854775808 ≤ q.num ∧ q.num ≤ 9223372036854775807 then (q.num, 0) else (0, 4)) else (0, 3)
theorem cmpI_zero {x y : Int} : cmpI x y = 0 ↔ x = y := by
  unfold cmpI
  split
  · exact ⟨fun e => by omega, fun e => by omega⟩
  · split
    · exact ⟨fun e => by omega, fun e => by omega⟩
    · exact ⟨fun _ => by omega, fun _ => rfl⟩
theorem cmpI_pos {x y : Int} : 0 < cmpI x y ↔ y < x := by
  unfold cmpI
  split
  · exact ⟨fun e => by omega, fun e => by omega⟩
  · split
    · exact ⟨fun _ => by assumption, fun _ => by omega⟩
    · exact ⟨fun e => by omega, fun e => by omega⟩
theorem integer_ev {p : ByteArray} {q : Rat} (h : OutOk p q) : Ev (fun k => rat_Integer.f k p) (intR q) := by
  refine EvP.ev (EvP.bindE (ratCheck_ok h) (EvP.pos rfl (EvP.bind (in_ev h) (fun r hr => ?_))))
  have ln := hr.ln
  have ld := hr.ld
  have d1 := dl_one
  have b1 := dl_i64 (n := 9223372036854775807) (by omega)
  unfold dl at ln ld d1 b1
  refine EvP.bindE (whole_ev hr) (EvP.bindE of1 (EvP.bindE (cmp_ev (by omega)) ?_))
  by_cases hd : q.den = 1
  · unfold intR
    rw [if_pos hd, hr.num]
    refine EvP.pos (cmpI_zero.2 (by omega)) (EvP.bindE (of_ev (n := 9223372036854775807) (by omega)) ?_)
    have run : q.num.natAbs ≤ 9223372036854775807 → Ev (fun k => rat_Integer.l14 k 0 (wrap64 (((dig q.num.natAbs).length : Int) - 1)) r.1 (dig q.num.natAbs) r.2.2) (q.num, 0) := by
      intro hm
      have := i14_run (dig q.num.natAbs) (dig_dig _) (by omega) (by rw [vL_dig]; omega) r.1 r.2.2 (dig q.num.natAbs).length (Nat.le_refl _)
      rw [List.drop_length, vL_dig] at this
      rw [w64 (by omega) (by omega)]
      have e : (if r.1 = true then -((q.num.natAbs : Nat) : Int) else ((q.num.natAbs : Nat) : Int)) = q.num := by
        rw [hr.sgn]
        by_cases hn : q.num < 0
        · rw [if_pos (by simpa using hn)]; omega
        · rw [if_neg (by simpa using hn)]; omega
      rw [e] at this
      exact this
    refine EvP.ite (fun hn => ?_) (fun hn => ?_)
    · have hn : q.num < 0 := by
        have hn : r.1 = true := hn
        rw [hr.sgn] at hn
        simpa using hn
      refine EvP.bindE of1 (EvP.bindE (add_ev (by omega) (by omega)) (EvP.bindE (cmp_ev (by omega)) (EvP.ite (fun hc => ?_) (fun hc => EvP.bindE (cmp_ev (by omega)) (EvP.ite (fun hc' => ?_) (fun hc' => ?_))))))
      · have hc := cmpI_zero.1 hc
        rw [if_pos ⟨by omega, by omega⟩, show q.num = -9223372036854775808 by omega]
        exact EvP.ret rfl
      · have hc' := cmpI_pos.1 hc'
        have hc : ¬ ((q.num.natAbs : Nat) : Int) = ((9223372036854775807 + 1 : Nat) : Int) := fun e => hc (cmpI_zero.2 e)
        rw [if_neg (fun e => by omega)]
        exact EvP.ret rfl
      · have hc' : ¬ ((9223372036854775807 : Nat) : Int) < ((q.num.natAbs : Nat) : Int) := fun e => hc' (cmpI_pos.2 e)
        rw [if_pos ⟨by omega, by omega⟩]
        obtain ⟨x, hx⟩ : ∃ x, Ev (fun k => rat_Integer.l14 k 0 (wrap64 (((dig q.num.natAbs).length : Int) - 1)) r.1 (dig q.num.natAbs) r.2.2) x ∧ x = (q.num, 0) := ⟨_, run (by omega), rfl⟩
        exact ⟨x, hx⟩
    · have hn : ¬ q.num < 0 := by
        have hn : ¬ r.1 = true := hn
        rw [hr.sgn] at hn
        simpa using hn
      refine EvP.bindE (cmp_ev (by omega)) (EvP.ite (fun hc' => ?_) (fun hc' => ?_))
      · have hc' := cmpI_pos.1 hc'
        rw [if_neg (fun e => by omega)]
        exact EvP.ret rfl
      · have hc' : ¬ ((9223372036854775807 : Nat) : Int) < ((q.num.natAbs : Nat) : Int) := fun e => hc' (cmpI_pos.2 e)
        rw [if_pos ⟨by omega, by omega⟩]
        exact ⟨_, run (by omega), rfl⟩
  · unfold intR
    rw [if_neg hd]
    exact EvP.neg (fun e => hd (by have := cmpI_zero.1 e; omega)) (EvP.ret rfl)
theorem integer_ex {p : ByteArray} (hb : p.size ≤ 140737488355328) : EvP (fun k => rat_Integer.f k p) (fun r => r.2 = 0 → ∃ q, OutOk p q ∧ q.den = 1 ∧ r.1 = q.num ∧ -9223372036854775808 ≤ q.num ∧ q.num ≤ 9223372036854775807) := by
  by_cases h : ∃ q, OutOk p q
  · obtain ⟨q, h⟩ := h
    refine EvP.of (integer_ev h) (fun e => ⟨q, h, ?_⟩)
    unfold intR at e ⊢
    by_cases hd : q.den = 1
    · rw [if_pos hd] at e ⊢
      split at e
      · rename_i hc
        rw [if_pos hc]
        exact ⟨hd, rfl, hc.1, hc.2⟩
      · cases e
    · rw [if_neg hd] at e
      cases e
  · refine EvP.bind (ratCheck_ex hb) (fun r hr => EvP.neg (fun e => h (hr e)) (EvP.ret (fun e => absurd ?_ h)))
    exact hr e
end Go.Proofs.YtamgbcgfjhpedaaDoor.VE
