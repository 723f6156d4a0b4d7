import Derived.Test.YtamgbcgfjhpedaaDoorVpN3
namespace Go.Proofs.YtamgbcgfjhpedaaDoor.VE
open Go Go.RowKit
set_option linter.unusedVariables false
attribute [local irreducible] wrap64
/-! ### nat: minus, plus (no statement is proved here) -/
theorem drop_set {c : List Int} {j a : Nat} {v : Int} (h : j < a) : (c.set j v).drop a = c.drop a := by
  rw [List.drop_set, if_pos h]
def MinusP (y : List Int) (q : Int) (off L : Nat) (D : List Int) (V0 : Int) (r : Bool × List Int) : Prop :=
  ∃ br : Int, 0 ≤ br ∧ br ≤ 1 ∧ r.1 = decide (0 < br) ∧ Dig r.2 ∧ r.2.length = L ∧ r.2.drop (off + y.length + 1) = D ∧ vL r.2 = V0 - Bp off * (q * vL y) + Bp (off + y.length + 1) * br
theorem minus_run (y : List Int) (hy : Dig y) (q : Int) (hq : 0 ≤ q ∧ q < 1000000000) (off L : Nat) (hL : off + y.length + 1 ≤ L) (hb : L ≤ 8000000000000) (D : List Int) (V0 : Int) : ∀ (m i : Nat) (br cy : Int) (out : List Int), i + m = y.length + 1 → Dig out → out.length = L → out.drop (off + y.length + 1) = D → 0 ≤ br → br ≤ 1 → 0 ≤ cy → cy ≤ q → (m = 0 → cy = 0) → vL out = V0 - Bp off * (q * vL (y.take i)) + Bp (off + i) * (br + cy) →
    EvP (fun k => nat_N_minus.l4 k y (off : Int) q br cy (i : Int) out) (MinusP y q off L D V0)
  | 0, i, br, cy, out, hi, hd, hl, hD, h0, h1, c0, c1, cz, hv => by
    have e1 : cy = 0 := cz rfl
    subst e1
    have e2 : i = y.length + 1 := by omega
    subst e2
    rw [List.take_of_length_le (by omega), Int.add_zero] at hv
    exact EvP.step (fun k => nat_N_minus.l4_eq k _ _ _ _ _ _ _) (EvP.neg (by omega) (EvP.ret ⟨br, h0, h1, rfl, hd, hl, hD, hv⟩))
  | m + 1, i, br, cy, out, hi, hd, hl, hD, h0, h1, c0, c1, cz, hv => by
    have ho := hd.at (show off + i < out.length by omega)
    have hg := rU32_some (xs := out) (i := ((off + i : Nat) : Int)) (by omega) (by omega)
    rw [show (((off + i : Nat) : Int)).toNat = off + i by omega] at hg
    have nine : ∀ cy' : Int, 0 ≤ cy' → cy' < 1000000000000000000 → cy' / 1000000000 ≤ q → (m = 0 → cy' / 1000000000 = 0) → vL out = V0 - Bp off * (q * vL (y.take (i + 1))) + Bp (off + i) * (br + cy') →
        EvP (fun k => nat_N_minus.l9 k y (off : Int) q br (i : Int) cy' out) (MinusP y q off L D V0) := by
      intro cy' d0 d1 d2 d3 d4
      refine EvP.step (fun k => nat_N_minus.l9_eq k _ _ _ _ _ _ _) ?_
      rw [w64 (x := (off : Int) + (i : Int)) (by omega) (by omega), show (off : Int) + (i : Int) = ((off + i : Nat) : Int) by omega, tm _ d0, td _ d0, w64 (x := rU32 out ((off + i : Nat) : Int)) (by omega) (by omega), w64 (x := cy' % 1000000000) (by omega) (by omega), w64 (x := rU32 out ((off + i : Nat) : Int) - cy' % 1000000000) (by omega) (by omega),
        w64 (x := rU32 out ((off + i : Nat) : Int) - cy' % 1000000000 - br) (by omega) (by omega), w64u (x := cy' / 1000000000) (by omega) (by omega), w64 (x := (i : Int) + 1) (by omega) (by omega), show (((off + i : Nat) : Int)).toNat = off + i by omega]
      have next := fun (s b : Int) (hs0 : 0 ≤ s) (hs1 : s < 1000000000) (hb0 : 0 ≤ b) (hb1 : b ≤ 1) (hs : s = rU32 out ((off + i : Nat) : Int) - cy' % 1000000000 - br + 1000000000 * b) => minus_run y hy q hq off L hL hb D V0 m (i + 1) b (cy' / 1000000000) (out.set (off + i) s) (by omega) (hd.set _ ⟨hs0, hs1⟩) (by rw [List.length_set, hl]) (by rw [drop_set (by omega), hD]) hb0 hb1 (by omega) d2 d3 (by
          rw [vL_set out (off + i) _ _ hg, d4, hs, show Bp (off + (i + 1)) = 1000000000 * Bp (off + i) from rfl]
          have e2 : cy' = cy' % 1000000000 + 1000000000 * (cy' / 1000000000) := by omega
          generalize cy' % 1000000000 = s at e2 ⊢
          generalize cy' / 1000000000 = t at e2 ⊢
          generalize Bp (off + i) = p
          generalize Bp off * (q * vL (y.take (i + 1))) = z
          generalize rU32 out ((off + i : Nat) : Int) = x
          grind)
      refine EvP.pos (by omega) (EvP.pos (by omega) (EvP.pos (by omega) (EvP.pos (by omega) (EvP.ite (fun h => EvP.pos (by omega) (EvP.pos (by omega) ?_)) (fun h => EvP.pos (by omega) (EvP.pos (by omega) ?_))))))
      · have h : rU32 out ((off + i : Nat) : Int) - cy' % 1000000000 - br < 0 := h
        rw [w64 (by omega) (by omega), w32 (by omega) (by omega)]
        exact next _ 1 (by omega) (by omega) (by omega) (by omega) (by omega)
      · have h : ¬ rU32 out ((off + i : Nat) : Int) - cy' % 1000000000 - br < 0 := h
        rw [w32 (by omega) (by omega)]
        exact next _ 0 (by omega) (by omega) (by omega) (by omega) (by omega)
    refine EvP.step (fun k => nat_N_minus.l4_eq k _ _ _ _ _ _ _) (EvP.pos (by omega) (EvP.ite (fun h => EvP.pos (by omega) (EvP.pos (by omega) ?_)) (fun h => ?_)))
    · have hx := hy.at (show i < y.length by omega)
      have ep := dig_prod hq hx ⟨c0, by omega⟩ ⟨Int.le_refl 0, by omega⟩
      rw [w64u (x := rU32 y (i : Int)) (by omega) (by omega), w64u (x := q * rU32 y (i : Int)) (by omega) (by omega), w64u (x := cy + q * rU32 y (i : Int)) (by omega) (by omega)]
      refine nine _ (by omega) (by omega) ?_ (by omega) ?_
      · have := Int.mul_le_mul_of_nonneg_left (show rU32 y (i : Int) ≤ 999999999 by omega) hq.1
        omega
      · rw [hv, vL_take (show i < y.length by omega), Bp_add]
        generalize vL (y.take i) = a
        generalize rU32 y (i : Int) = x
        generalize Bp i = p
        generalize Bp off = r
        grind
    · have e1 : i = y.length := by omega
      refine nine cy (by omega) (by omega) (by omega) (by omega) ?_
      rw [hv, take_over (c := y) (by omega)]
theorem minus_ev {y : List Int} (hy : Dig y) {q : Int} (hq : 0 ≤ q ∧ q < 1000000000) {off : Nat} {u : List Int} (hu : Dig u) (hL : off + y.length + 1 ≤ u.length) (hb : u.length ≤ 8000000000000) :
    EvP (fun k => nat_N_minus.f k y (off : Int) q u) (MinusP y q off u.length (u.drop (off + y.length + 1)) (vL u)) :=
  minus_run y hy q hq off u.length hL hb _ _ (y.length + 1) 0 0 0 u (by omega) hu rfl rfl (by omega) (by omega) (by omega) hq.1 (by omega) (by rw [List.take_zero]; show _ = _ - Bp off * (q * 0) + _ * 0; rw [Int.mul_zero]; omega)
def PlusP (y : List Int) (off L : Nat) (D : List Int) (V0 : Int) (r : List Int) : Prop :=
  ∃ br : Int, 0 ≤ br ∧ br ≤ 1 ∧ Dig r ∧ r.length = L ∧ r.drop (off + y.length + 1) = D ∧ vL r = V0 + Bp off * vL y - Bp (off + y.length + 1) * br
theorem plus_run (y : List Int) (hy : Dig y) (off L : Nat) (hL : off + y.length + 1 ≤ L) (hb : L ≤ 8000000000000) (D : List Int) (V0 : Int) : ∀ (m i : Nat) (br : Int) (out : List Int), i + m = y.length + 1 → Dig out → out.length = L → out.drop (off + y.length + 1) = D → 0 ≤ br → br ≤ 1 → vL out = V0 + Bp off * vL (y.take i) - Bp (off + i) * br →
    EvP (fun k => nat_N_plus.l2 k y (off : Int) br (i : Int) out) (PlusP y off L D V0)
  | 0, i, br, out, hi, hd, hl, hD, h0, h1, hv => by
    have e2 : i = y.length + 1 := by omega
    subst e2
    rw [List.take_of_length_le (by omega)] at hv
    exact EvP.step (fun k => nat_N_plus.l2_eq k _ _ _ _ _) (EvP.neg (by omega) (EvP.ret ⟨br, h0, h1, hd, hl, hD, hv⟩))
  | m + 1, i, br, out, hi, hd, hl, hD, h0, h1, hv => by
    have ho := hd.at (show off + i < out.length by omega)
    have hg := rU32_some (xs := out) (i := ((off + i : Nat) : Int)) (by omega) (by omega)
    rw [show (((off + i : Nat) : Int)).toNat = off + i by omega] at hg
    have next := fun (s : Int) (hs0 : 0 ≤ s) (hs1 : s < 2000000000) (hs : vL out = V0 + Bp off * vL (y.take (i + 1)) + Bp (off + i) * (rU32 out ((off + i : Nat) : Int) - s)) => plus_run y hy off L hL hb D V0 m (i + 1) (s / 1000000000) (out.set (off + i) (s % 1000000000)) (by omega) (hd.set _ (by omega)) (by rw [List.length_set, hl]) (by rw [drop_set (by omega), hD]) (by omega) (by omega) (by
        rw [vL_set out (off + i) _ _ hg, hs, show Bp (off + (i + 1)) = 1000000000 * Bp (off + i) from rfl]
        have e2 : s = s % 1000000000 + 1000000000 * (s / 1000000000) := by omega
        generalize s % 1000000000 = a at e2 ⊢
        generalize s / 1000000000 = t at e2 ⊢
        generalize Bp (off + i) = p
        generalize Bp off * vL (y.take (i + 1)) = z
        generalize rU32 out ((off + i : Nat) : Int) = x
        grind)
    refine EvP.step (fun k => nat_N_plus.l2_eq k _ _ _ _ _) ?_
    rw [w64 (x := (off : Int) + (i : Int)) (by omega) (by omega), show (off : Int) + (i : Int) = ((off + i : Nat) : Int) by omega, w64 (x := (i : Int) + 1) (by omega) (by omega), w32 (x := rU32 out ((off + i : Nat) : Int) + br) (by omega) (by omega), show (((off + i : Nat) : Int)).toNat = off + i by omega]
    refine EvP.pos (by omega) (EvP.pos (by omega) (EvP.pos (by omega) (EvP.ite (fun h => EvP.pos (by omega) (EvP.pos (by omega) (EvP.pos (by omega) (EvP.pos (by omega) (EvP.pos (by omega) (EvP.pos (by omega) ?_)))))) (fun h => EvP.pos (by omega) (EvP.pos (by omega) (EvP.pos (by omega) (EvP.pos (by omega) ?_)))))))
    · have hx := hy.at (show i < y.length by omega)
      rw [w32 (x := rU32 out ((off + i : Nat) : Int) + br + rU32 y (i : Int)) (by omega) (by omega), tm _ (by omega), td _ (by omega), w32 (by omega) (by omega)]
      refine next _ (by omega) (by omega) ?_
      rw [hv, vL_take (show i < y.length by omega), Bp_add]
      generalize vL (y.take i) = a
      generalize rU32 y (i : Int) = x
      generalize Bp i = p
      generalize Bp off = r
      grind
    · rw [tm _ (by omega), td _ (by omega), w32 (by omega) (by omega)]
      refine next _ (by omega) (by omega) ?_
      rw [hv, take_over (c := y) (by omega)]
      grind
theorem plus_ev {y : List Int} (hy : Dig y) {off : Nat} {u : List Int} (hu : Dig u) (hL : off + y.length + 1 ≤ u.length) (hb : u.length ≤ 8000000000000) :
    EvP (fun k => nat_N_plus.f k y (off : Int) u) (PlusP y off u.length (u.drop (off + y.length + 1)) (vL u)) :=
  plus_run y hy off u.length hL hb _ _ (y.length + 1) 0 0 u (by omega) hu rfl rfl (by omega) (by omega) (by rw [List.take_zero]; show _ = _ + Bp off * 0 - _ * 0; omega)
end Go.Proofs.YtamgbcgfjhpedaaDoor.VE
