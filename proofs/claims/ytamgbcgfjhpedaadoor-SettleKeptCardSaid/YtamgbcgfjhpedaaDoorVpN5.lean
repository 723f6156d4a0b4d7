import Derived.Test.YtamgbcgfjhpedaaDoorVpN4
namespace Go.Proofs.YtamgbcgfjhpedaaDoor.VE
open Go Go.RowKit
set_option linter.unusedVariables false
attribute [local irreducible] wrap64
/-! ### nat: Div (no statement is proved here) -/
/-- A step of the long division: u's window over v's digits. -/
structure KN (U V s p w w' ut ub u3 v1 v2 : Int) : Prop where
  hs : 1 ≤ s
  hp : 1 ≤ p
  hU : U = w + s * p * (u3 + 1000000000 * (ut * 1000000000 + ub))
  hw : 0 ≤ w ∧ w < s * p
  hV : V = w' + p * (v2 + 1000000000 * v1)
  hw' : 0 ≤ w' ∧ w' < p
  h1 : 1 ≤ v1 ∧ v1 < 1000000000
  h2 : 0 ≤ v2 ∧ v2 < 1000000000
  h3 : 0 ≤ u3 ∧ u3 < 1000000000
  hb : 0 ≤ ub ∧ ub < 1000000000
  ht : 0 ≤ ut ∧ ut < 1000000000
  hlt : U < V * (1000000000 * s)
theorem mul_pos' {a b : Int} (ha : 1 ≤ a) (hb : 1 ≤ b) : 1 ≤ a * b := by
  have := Int.mul_le_mul_of_nonneg_left hb (show 0 ≤ a by omega)
  omega
theorem KN.T2lt {U V s p w w' ut ub u3 v1 v2 : Int} (h : KN U V s p w w' ut ub u3 v1 v2) : ut * 1000000000 + ub < (v1 + 1) * 1000000000 := by
  obtain ⟨hs, hp, hU, hw, hV, hw', h1, h2, h3, hb, ht, hlt⟩ := h
  apply Classical.byContradiction
  intro hc
  have hsp := mul_pos' hs hp
  have a1 := Int.mul_le_mul_of_nonneg_left (show (v1 + 1) * 1000000000 ≤ ut * 1000000000 + ub by omega) (show 0 ≤ s * p * 1000000000 by omega)
  have a2 := Int.mul_le_mul_of_nonneg_left (show v2 + 1 ≤ 1000000000 by omega) (show 0 ≤ p by omega)
  have a3 : V ≤ p * 1000000000 * (v1 + 1) := by grind
  have a4 := Int.mul_le_mul_of_nonneg_left a3 (show 0 ≤ 1000000000 * s by omega)
  have a5 : 0 ≤ s * p * u3 := Int.mul_nonneg (by omega) h3.1
  grind
theorem KN.hi0 {U V s p w w' ut ub u3 v1 v2 q r : Int} (h : KN U V s p w w' ut ub u3 v1 v2) (hq : q * v1 + r = ut * 1000000000 + ub) (hq0 : 0 ≤ q) (hr : r < v1) : U < (q + 1) * (V * s) := by
  obtain ⟨hs, hp, hU, hw, hV, hw', h1, h2, h3, hb, ht, hlt⟩ := h
  have hsp := mul_pos' hs hp
  have a1 : ut * 1000000000 + ub + 1 ≤ (q + 1) * v1 := by rw [Int.add_mul]; omega
  have a2 := Int.mul_le_mul_of_nonneg_left a1 (show 0 ≤ s * p * 1000000000 by omega)
  have a3 := Int.mul_le_mul_of_nonneg_left (show u3 + 1 ≤ 1000000000 by omega) (show 0 ≤ s * p by omega)
  have a4 : p * 1000000000 * v1 ≤ V := by
    have : 0 ≤ p * v2 := Int.mul_nonneg (by omega) h2.1
    grind
  have a5 := Int.mul_le_mul_of_nonneg_left a4 (show 0 ≤ s by omega)
  have a6 := Int.mul_le_mul_of_nonneg_left a5 (show 0 ≤ q + 1 by omega)
  grind
theorem KN.hiB {U V s p w w' ut ub u3 v1 v2 q : Int} (h : KN U V s p w w' ut ub u3 v1 v2) (hq : 1000000000 ≤ q) : U < q * (V * s) := by
  obtain ⟨hs, hp, hU, hw, hV, hw', h1, h2, h3, hb, ht, hlt⟩ := h
  have a0 : 0 ≤ V := by
    have := Int.mul_nonneg (show 0 ≤ p by omega) (show 0 ≤ v2 + 1000000000 * v1 by omega)
    omega
  have a1 := Int.mul_le_mul_of_nonneg_right hq (show 0 ≤ V * s from Int.mul_nonneg a0 (by omega))
  grind
theorem KN.hiT {U V s p w w' ut ub u3 v1 v2 q r : Int} (h : KN U V s p w w' ut ub u3 v1 v2) (hq : q * v1 + r = ut * 1000000000 + ub) (hq0 : 0 ≤ q) (ht : r * 1000000000 + u3 < q * v2) : U < q * (V * s) := by
  obtain ⟨hs, hp, hU, hw, hV, hw', h1, h2, h3, hb, _, hlt⟩ := h
  have hsp := mul_pos' hs hp
  have a1 : u3 + 1000000000 * (ut * 1000000000 + ub) + 1 ≤ q * (v2 + 1000000000 * v1) := by
    rw [← hq]; grind
  have a2 := Int.mul_le_mul_of_nonneg_left a1 (show 0 ≤ s * p by omega)
  have a3 : p * (v2 + 1000000000 * v1) ≤ V := by omega
  have a4 := Int.mul_le_mul_of_nonneg_left a3 (show 0 ≤ s by omega)
  have a5 := Int.mul_le_mul_of_nonneg_left a4 hq0
  grind
theorem KN.lo {U V s p w w' ut ub u3 v1 v2 q : Int} (h : KN U V s p w w' ut ub u3 v1 v2) (hq0 : 0 ≤ q) (hq : q ≤ 1000000000) (hl : q * (v2 + 1000000000 * v1) ≤ u3 + 1000000000 * (ut * 1000000000 + ub)) : s * (q * V) ≤ U + s * V := by
  obtain ⟨hs, hp, hU, hw, hV, hw', h1, h2, h3, hb, _, hlt⟩ := h
  have hsp := mul_pos' hs hp
  have a1 := Int.mul_le_mul_of_nonneg_left hl (show 0 ≤ s * p by omega)
  have a2 := Int.mul_le_mul hq (show w' ≤ p by omega) hw'.1 (by omega)
  have a3 := Int.mul_le_mul_of_nonneg_left a2 (show 0 ≤ s by omega)
  have a4 := Int.mul_le_mul_of_nonneg_left h1.1 (show 0 ≤ p * 1000000000 by omega)
  have a5 : 0 ≤ p * v2 := Int.mul_nonneg (by omega) h2.1
  have a6 : 1000000000 * p ≤ V := by clear a1 a2 a3 hl hlt hU; grind
  have a7 := Int.mul_le_mul_of_nonneg_left a6 (show 0 ≤ s by omega)
  have e1 : s * (q * V) = s * p * (q * (v2 + 1000000000 * v1)) + s * (q * w') := by rw [hV]; clear a1 a2 a3 a4 a5 a6 a7 hl hlt hU hV hw hw'; grind
  omega
/-- The exit with a remainder of two digits. -/
theorem KN.big {U V s p w w' ut ub u3 v1 v2 q r : Int} (h : KN U V s p w w' ut ub u3 v1 v2) (hq : q * v1 + r = ut * 1000000000 + ub) (hq0 : 0 ≤ q) (hr : 1000000000 ≤ r) : q < 1000000000 ∧ q * (v2 + 1000000000 * v1) ≤ u3 + 1000000000 * (ut * 1000000000 + ub) := by
  have ht := h.T2lt
  obtain ⟨hs, hp, hU, hw, hV, hw', h1, h2, h3, hb, _, hlt⟩ := h
  have a0 : q < 1000000000 := by
    apply Classical.byContradiction
    intro hc
    have := Int.mul_le_mul_of_nonneg_right (show 1000000000 ≤ q by omega) (show 0 ≤ v1 by omega)
    grind
  have a1 : q * v2 ≤ 1000000000 * 1000000000 := Int.mul_le_mul (by omega) (by omega) h2.1 (by omega)
  refine ⟨a0, ?_⟩
  rw [← hq]
  grind
theorem KN.fit {U V s p w w' ut ub u3 v1 v2 q r : Int} (h : KN U V s p w w' ut ub u3 v1 v2) (hq : q * v1 + r = ut * 1000000000 + ub) (ht : ¬ r * 1000000000 + u3 < q * v2) : q * (v2 + 1000000000 * v1) ≤ u3 + 1000000000 * (ut * 1000000000 + ub) := by
  rw [← hq]
  grind
theorem vL_lt_drop {c : List Int} (h : Dig c) {a : Nat} (ha : a ≤ c.length) (hz : vL (c.drop a) = 0) : vL c < Bp a := by
  have := vL_split c a ha
  rw [hz, Int.mul_zero, Int.add_zero] at this
  rw [this]
  exact (h.take_lt ha).2
theorem vL_drop_zero {c : List Int} (h : Dig c) {a : Nat} (ha : a ≤ c.length) (hz : vL c < Bp a) : vL (c.drop a) = 0 := by
  have h1 := vL_split c a ha
  have h2 := (h.take_lt ha).1
  have h3 := (vL_rng _ (h.drop a)).1
  apply Classical.byContradiction
  intro hc
  have := Int.mul_le_mul_of_nonneg_left (show 1 ≤ vL (c.drop a) by omega) (B_pos' (n := a))
  omega
/-- What the loop over the quotient's digits keeps. -/
structure DivI (v : List Int) (U0 : Int) (L J j : Nat) (u q : List Int) : Prop where
  du : Dig u
  lu : u.length = L
  dq : Dig q
  lq : q.length = J
  jq : j ≤ J
  zq : ∀ t, t < j → q[t]? = some 0
  eq : U0 = vL v * vL q + vL u
  lt : vL u < vL v * Bp j
theorem div_fix {v : List Int} (hv : Dig v) (hV : 0 < vL v) {L J : Nat} (hJ : J + v.length = L) (hb : L ≤ 8000000000000) (f : Int) (U0 : Int) (j : Nat) (R : List Int × List Int → Prop)
    (K : ∀ u q, DivI v U0 L J j u q → EvP (fun k => nat_N_Div.l12 k f (v.length : Int) ((j : Int) - 1) u v q) R)
    (u q : List Int) (I : DivI v U0 L J (j + 1) u q) (qh : Int) (h0 : 0 ≤ qh) (h1 : qh < 1000000000) (hi : vL u < (qh + 1) * (vL v * Bp j)) (lo : Bp j * (qh * vL v) ≤ vL u + Bp j * vL v) :
    EvP (fun k => (nat_N_minus.f k v (j : Int) qh u).bind fun r => if r.1 = true then
      (nat_N_plus.f k v (j : Int) r.2).bind fun r' => if 0 ≤ (j : Int) then (if (j : Int) < (q.length : Int) then nat_N_Div.l12 k f (v.length : Int) (wrap64 ((j : Int) - 1)) r' v (q.set ((j : Int)).toNat (IntKind.wrap .u32 (IntKind.wrap .u64 (qh - 1)))) else none) else none
      else if 0 ≤ (j : Int) then (if (j : Int) < (q.length : Int) then nat_N_Div.l12 k f (v.length : Int) (wrap64 ((j : Int) - 1)) r.2 v (q.set ((j : Int)).toNat (IntKind.wrap .u32 qh)) else none) else none) R := by
  obtain ⟨du, lu, dq, lq, jq, zq, eq, lt⟩ := I
  have hr := vL_rng v hv
  have hs := Bp_pos j
  have ur := vL_rng u du
  have hlen : j + v.length + 1 ≤ u.length := by omega
  have hB : vL u < Bp (j + v.length + 1) := by
    have a1 := Int.mul_le_mul_of_nonneg_right (show vL v ≤ Bp v.length by omega) (B_pos' (n := j + 1))
    rw [← Bp_add, show v.length + (j + 1) = j + v.length + 1 by omega] at a1
    omega
  have hz := vL_drop_zero du hlen hB
  rw [w64 (x := (j : Int) - 1) (by omega) (by omega), show ((j : Int)).toNat = j by omega]
  refine EvP.bind (minus_ev hv ⟨h0, h1⟩ du hlen (by omega)) ?_
  rintro ⟨b, u1⟩ ⟨br, b0, b1, hbr, d1, l1, D1, e1⟩
  simp only at hbr d1 l1 D1 e1
  have u1r := vL_rng u1 d1
  have hz1 : vL (u1.drop (j + v.length + 1)) = 0 := by rw [D1, hz]
  have u1lt := vL_lt_drop d1 (by omega) hz1
  subst hbr
  dsimp only
  have eset := fun (x : Int) => vL_set q j 0 x (zq j (by omega))
  rcases (show br = 0 ∨ br = 1 by omega) with rfl | rfl
  · refine EvP.neg (by simp) (EvP.pos (by omega) (EvP.pos (by omega) ?_))
    rw [w32 (x := qh) (by omega) (by omega)]
    rw [Int.mul_zero, Int.add_zero] at e1
    refine K _ _ ⟨d1, by omega, dq.set _ ⟨h0, h1⟩, by rw [List.length_set, lq], by omega, zero_before zq, ?_, ?_⟩
    · rw [eset, e1, eq]; grind
    · rw [e1]; grind
  · rw [Int.mul_one] at e1
    refine EvP.pos (by simp) (EvP.bind (plus_ev hv d1 (by omega) (by omega)) ?_)
    rintro u2 ⟨c, c0, c1, d2, l2, D2, e2⟩
    have u2r := vL_rng u2 d2
    have u2lt := vL_lt_drop d2 (by omega) (show vL (u2.drop (j + v.length + 1)) = 0 by rw [D2, hz1])
    have hq1 : 1 ≤ qh := by
      apply Classical.byContradiction
      intro hc
      have : qh = 0 := by omega
      subst this
      rw [Int.zero_mul, Int.mul_zero] at e1
      omega
    have hsV : 0 ≤ Bp j * vL v := Int.mul_nonneg (by omega) hr.1
    refine EvP.pos (by omega) (EvP.pos (by omega) ?_)
    rw [w64u (x := qh - 1) (by omega) (by omega), w32 (x := qh - 1) (by omega) (by omega)]
    have c2 : c = 1 := by
      rcases (show c = 0 ∨ c = 1 by omega) with rfl | rfl
      · rw [Int.mul_zero] at e2; omega
      · rfl
    subst c2
    refine K _ _ ⟨d2, by omega, dq.set _ (by omega), by rw [List.length_set, lq], by omega, zero_before zq, ?_, ?_⟩
    · rw [eset, e2, e1, eq]; grind
    · rw [e2, e1]; grind
end Go.Proofs.YtamgbcgfjhpedaaDoor.VE
