import Derived.Test.YtamgbcgfjhpedaaDoorVpN2
namespace Go.Proofs.YtamgbcgfjhpedaaDoor.VE
open Go Go.RowKit
set_option linter.unusedVariables false
attribute [local irreducible] wrap64
/-! ### nat: Mul, short (no statement is proved here) -/
theorem B_pos' {n : Nat} : 0 ≤ Bp n := by have := Bp_pos n; omega
/-- A product of two digits and two more. -/
theorem dig_prod {x y a b : Int} (hx : 0 ≤ x ∧ x < 1000000000) (hy : 0 ≤ y ∧ y < 1000000000) (ha : 0 ≤ a ∧ a < 1000000000) (hb : 0 ≤ b ∧ b < 1000000000) : 0 ≤ x * y ∧ x * y ≤ 999999998000000001 ∧ 0 ≤ x * y + a + b ∧ x * y + a + b < 1000000000000000000 ∧ 0 ≤ (x * y + a + b) / 1000000000 ∧ (x * y + a + b) / 1000000000 < 1000000000 := by
  have h1 : 0 ≤ x * y := Int.mul_nonneg hx.1 hy.1
  have h2 : x * y ≤ 999999999 * 999999999 := Int.mul_le_mul (by omega) (by omega) hy.1 (by omega)
  omega
theorem zero_set {c : List Int} {j : Nat} {v : Int} {a : Nat} (hj : j < a) (h : ∀ t, a ≤ t → t < c.length → c[t]? = some 0) : ∀ t, a ≤ t → t < (c.set j v).length → (c.set j v)[t]? = some 0 := by
  intro t h1 h2
  rw [List.length_set] at h2
  rw [List.getElem?_set, if_neg (by omega)]
  exact h t h1 h2
theorem mul_in (c e : List Int) (he : Dig e) (i : Nat) (x : Int) (hx : 0 ≤ x ∧ x < 1000000000) (n L : Nat) (hn : n = i + e.length + 1) (hnl : n ≤ L) (hL : L < 4000000000000) (A : Int) (hle : e.length ≤ 1000000000000) (hi : i < 1000000000000) (N : Int) (j0 : Int) (R : List Int → Prop)
    (K : ∀ out, Dig out → out.length = L → (∀ t, n ≤ t → t < out.length → out[t]? = some 0) → vL out = A + Bp i * x * vL e → EvP (fun k => nat_N_Mul.l3 k e c N (wrap64 (j0 + 1)) out) R) :
    ∀ (m j : Nat) (cy : Int) (out : List Int), j + m = e.length → Dig out → out.length = L → (∀ t, i + e.length ≤ t → t < out.length → out[t]? = some 0) → 0 ≤ cy → cy < 1000000000 → vL out + Bp (i + j) * cy = A + Bp i * x * vL (e.take j) →
    EvP (fun k => nat_N_Mul.l7 k e (i : Int) x cy c N j0 e (e.length : Int) (j : Int) out) R
  | 0, j, cy, out, hj, hd, hl, hz, h0, h1, hv => by
    rw [List.take_of_length_le (by omega)] at hv
    have e1 : j = e.length := by omega
    subst e1
    refine EvP.step (fun k => nat_N_Mul.l7_eq k _ _ _ _ _ _ _ _ _ _ _) (EvP.neg (by omega) ?_)
    rw [w64 (x := (i : Int) + (e.length : Int)) (by omega) (by omega), w32 (x := cy) (by omega) (by omega)]
    refine EvP.pos (by omega) (EvP.pos (by omega) ?_)
    rw [show ((i : Int) + (e.length : Int)).toNat = i + e.length by omega]
    refine K _ (hd.set _ ⟨h0, h1⟩) (by rw [List.length_set]; exact hl) (zero_set (by omega) (fun t h1 h2 => hz t (by omega) h2)) ?_
    rw [vL_set out (i + e.length) 0 cy (hz _ (Nat.le_refl _) (by omega)), Int.sub_zero]
    exact hv
  | m + 1, j, cy, out, hj, hd, hl, hz, h0, h1, hv => by
    have hy := he.at (show j < e.length by omega)
    have ho := hd.at (show i + j < out.length by omega)
    have hp := Bp_pos (i + j)
    have ep := dig_prod hx hy ho ⟨h0, h1⟩
    refine EvP.step (fun k => nat_N_Mul.l7_eq k _ _ _ _ _ _ _ _ _ _ _) (EvP.pos (by omega) (EvP.pos (by omega) (EvP.pos (by omega) ?_)))
    rw [w64 (x := (i : Int) + (j : Int)) (by omega) (by omega), show (i : Int) + (j : Int) = ((i + j : Nat) : Int) by omega, w64u (x := x) (by omega) (by omega), w64u (x := rU32 e (j : Int)) (by omega) (by omega), w64u (x := rU32 out ((i + j : Nat) : Int)) (by omega) (by omega),
      w64u (x := x * rU32 e (j : Int)) (by omega) (by omega), w64u (x := x * rU32 e (j : Int) + rU32 out ((i + j : Nat) : Int)) (by omega) (by omega), w64u (x := x * rU32 e (j : Int) + rU32 out ((i + j : Nat) : Int) + cy) (by omega) (by omega), tm _ (by omega), td _ (by omega), w64u (by omega) (by omega), w32 (by omega) (by omega), w64 (x := (j : Int) + 1) (by omega) (by omega), show (((i + j : Nat) : Int)).toNat = i + j by omega]
    refine EvP.pos (by omega) (EvP.pos (by omega) (EvP.pos (by omega) (EvP.pos (by omega) (EvP.pos (by omega) (EvP.pos (by omega) ?_)))))
    have hg := rU32_some (xs := out) (i := ((i + j : Nat) : Int)) (by omega) (by omega)
    rw [show (((i + j : Nat) : Int)).toNat = i + j by omega] at hg
    refine mul_in c e he i x hx n L hn hnl hL A hle hi N j0 R K m (j + 1) _ _ (by omega) (hd.set _ (by omega)) (by rw [List.length_set]; exact hl) (zero_set (by omega) hz) ep.2.2.2.2.1 ep.2.2.2.2.2 ?_
    rw [vL_set out (i + j) _ _ hg, vL_take (show j < e.length by omega)]
    have e2 : x * rU32 e (j : Int) + rU32 out ((i + j : Nat) : Int) + cy = (x * rU32 e (j : Int) + rU32 out ((i + j : Nat) : Int) + cy) % 1000000000 + 1000000000 * ((x * rU32 e (j : Int) + rU32 out ((i + j : Nat) : Int) + cy) / 1000000000) := by omega
    generalize (x * rU32 e (j : Int) + rU32 out ((i + j : Nat) : Int) + cy) % 1000000000 = s at e2 ⊢
    generalize (x * rU32 e (j : Int) + rU32 out ((i + j : Nat) : Int) + cy) / 1000000000 = q at e2 ⊢
    have e3 : Bp (i + (j + 1)) = 1000000000 * Bp (i + j) := rfl
    have e4 : Bp (i + j) = Bp i * Bp j := Bp_add i j
    rw [e3, e4]
    rw [e4] at hv
    generalize vL out = vo at hv ⊢
    generalize vL (e.take j) = ve at hv ⊢
    generalize rU32 e (j : Int) = y at e2 ⊢
    generalize rU32 out ((i + j : Nat) : Int) = o at e2 ⊢
    generalize Bp i = p at hv ⊢
    generalize Bp j = r at hv ⊢
    grind
theorem mul_out (c e : List Int) (hc : Dig c) (he : Dig e) (hbc : c.length < 1000000000000) (hbe : e.length < 1000000000000) {P : Nat} (hP : (P : Int) = vL c * vL e) : ∀ (m i : Nat) (out : List Int), i + m = c.length → Dig out → out.length = c.length + e.length → (∀ t, i + e.length ≤ t → t < out.length → out[t]? = some 0) → vL out = vL (c.take i) * vL e → EvP (fun k => nat_N_Mul.l3 k e c (c.length : Int) (i : Int) out) (fun r => r = dig P)
  | 0, i, out, hi, hd, hl, hz, hv => by
    rw [List.take_of_length_le (by omega), ← hP] at hv
    exact EvP.step (fun k => nat_N_Mul.l3_eq k _ _ _ _ _) (EvP.neg (by omega) (EvP.bindE (trim_ev (by omega) hd hv) (EvP.ret rfl)))
  | m + 1, i, out, hi, hd, hl, hz, hv => by
    have hx := hc.at (show i < c.length by omega)
    refine EvP.step (fun k => nat_N_Mul.l3_eq k _ _ _ _ _) (EvP.pos (by omega) (EvP.pos (by omega) (EvP.pos (by omega) ?_)))
    refine mul_in c e he i _ hx (i + e.length + 1) (c.length + e.length) rfl (by omega) (by omega) (vL (c.take i) * vL e) (by omega) (by omega) _ _ _ (fun out' hd' hl' hz' hv' => ?_) e.length 0 0 out (by omega) hd hl hz (by omega) (by omega) (by rw [hv]; show _ + Bp (i + 0) * 0 = _ + Bp i * _ * 0; omega)
    rw [w64 (x := (i : Int) + 1) (by omega) (by omega)]
    exact mul_out c e hc he hbc hbe hP m (i + 1) out' (by omega) hd' hl' (fun t h1 h2 => hz' t (by omega) h2) (by rw [hv', vL_take (show i < c.length by omega), Int.add_mul])
theorem mul_ev {m n : Nat} (hm : (dig m).length < 1000000000000) (hn : (dig n).length < 1000000000000) : Ev (fun k => nat_N_Mul.f k (dig m) (dig n)) (dig (m * n)) := by
  have := mul_out (dig m) (dig n) (dig_dig m) (dig_dig n) hm hn (P := m * n) (by rw [vL_dig, vL_dig, Int.natCast_mul]) (dig m).length 0 (List.replicate ((dig m).length + (dig n).length) 0) (by omega) (Dig.zeros _) (by simp) (fun t h1 h2 => zeros_at _ t (by omega) h2) (by rw [vL_zeros, List.take_zero]; show 0 = 0 * _; omega)
  refine Ev.step (fun k => nat_N_Mul.l0_eq k _ _) ?_
  rw [w64 (by omega) (by omega)]
  refine Ev.pos (by omega) (Ev.pos (by omega) (Ev.pos (by omega) ?_))
  rw [show (((dig m).length : Int) + ((dig n).length : Int)).toNat = (dig m).length + (dig n).length by omega]
  exact EvP.ev this
/-! short -/
theorem zero_before {c : List Int} {j : Nat} {v : Int} (h : ∀ t, t < j + 1 → c[t]? = some 0) : ∀ t, t < j → (c.set j v)[t]? = some 0 := by
  intro t h1
  rw [List.getElem?_set, if_neg (by omega)]
  exact h t (by omega)
theorem short_run (c : List Int) (hc : Dig c) (hb : c.length ≤ 1000000000000) (d : Nat) (hd : 0 < d ∧ d < 1000000000) (M : Nat) (hM : vL c = (M : Int)) : ∀ (i : Nat) (rem : Int) (out : List Int), i ≤ c.length → Dig out → out.length = c.length → (∀ t, t < i → out[t]? = some 0) → 0 ≤ rem → rem < d → vL c = d * vL out + Bp i * rem + vL (c.take i) →
    Ev (fun k => nat_N_short.l4 k c (d : Int) rem ((i : Int) - 1) out) (dig (M / d), dig (M % d))
  | 0, rem, out, hi, ho, hl, hz, h0, h1, hv => by
    rw [List.take_zero, hM] at hv
    have hv : (M : Int) = d * vL out + 1 * rem + 0 := hv
    have hr := vL_rng _ ho
    obtain ⟨q, hq⟩ : ∃ q : Nat, vL out = q := ⟨(vL out).toNat, by omega⟩
    obtain ⟨r, rfl⟩ : ∃ r : Nat, rem = r := ⟨rem.toNat, by omega⟩
    rw [hq] at hv
    have hv' : M = d * q + r := by
      have : ((d * q + r : Nat) : Int) = d * q + r := by rw [Int.natCast_add, Int.natCast_mul]
      omega
    have e1 : M / d = q := by
      rw [hv', Nat.mul_add_div hd.1, Nat.div_eq_of_lt (by omega), Nat.add_zero]
    have e2 : M % d = r := by
      rw [hv', Nat.mul_add_mod, Nat.mod_eq_of_lt (by omega)]
    refine Ev.step (fun k => nat_N_short.l4_eq k _ _ _ _ _) (Ev.neg (by omega) ?_)
    rw [w32 (x := (r : Int)) (by omega) (by omega), e1, e2]
    exact Ev.bind (trim_ev (by omega) ho hq) (Ev.bind (trim_ev (by simp) (Dig.mk (by omega) (fun x hx => by cases hx)) (vL_one _)) (Ev.now _))
  | i + 1, rem, out, hi, ho, hl, hz, h0, h1, hv => by
    have hx := hc.at (show i < c.length by omega)
    have e1 : ((i + 1 : Nat) : Int) - 1 = (i : Int) := by omega
    rw [e1]
    refine Ev.step (fun k => nat_N_short.l4_eq k _ _ _ _ _) ?_
    have hd0 : (0 : Int) < d := by omega
    have hs : 0 ≤ rem * 1000000000 + rU32 c (i : Int) := by omega
    have hmod := Int.emod_add_mul_ediv (rem * 1000000000 + rU32 c (i : Int)) d
    have hm0 := Int.emod_nonneg (rem * 1000000000 + rU32 c (i : Int)) (show (d : Int) ≠ 0 by omega)
    have hm1 := Int.emod_lt_of_pos (rem * 1000000000 + rU32 c (i : Int)) hd0
    have hq0 := Int.ediv_nonneg hs (show (0 : Int) ≤ d by omega)
    have hq1 : (rem * 1000000000 + rU32 c (i : Int)) / d < 1000000000 := Int.ediv_lt_of_lt_mul hd0 (by
      have := Int.mul_le_mul_of_nonneg_left (show rem + 1 ≤ d by omega) (show (0 : Int) ≤ 1000000000 by omega)
      omega)
    rw [w64u (x := (d : Int)) (by omega) (by omega), w64u (x := rem * 1000000000) (by omega) (by omega), w64u (x := rU32 c (i : Int)) (by omega) (by omega), w64u (x := rem * 1000000000 + rU32 c (i : Int)) (by omega) (by omega),
      Int.tmod_eq_emod_of_nonneg hs, Int.tdiv_eq_ediv_of_nonneg hs, w64u (x := (rem * 1000000000 + rU32 c (i : Int)) / d) (by omega) (by omega), w32 (by omega) (by omega), w64 (by omega) (by omega), show ((i : Int)).toNat = i by omega]
    refine Ev.pos (by omega) (Ev.pos (by omega) (Ev.pos (by omega) (Ev.pos (by omega) (Ev.pos (by omega) (Ev.pos (by omega) (Ev.pos (by omega) ?_))))))
    refine short_run c hc hb d hd M hM i _ _ (by omega) (ho.set _ ⟨hq0, hq1⟩) (by rw [List.length_set, hl]) (zero_before hz) hm0 hm1 ?_
    rw [vL_set out i 0 _ (hz i (by omega)), Int.sub_zero, hv, vL_take (show i < c.length by omega), show Bp (i + 1) = 1000000000 * Bp i from rfl]
    generalize (rem * 1000000000 + rU32 c (i : Int)) / d = q at hmod ⊢
    generalize (rem * 1000000000 + rU32 c (i : Int)) % d = s at hmod ⊢
    generalize rU32 c (i : Int) = x at hmod ⊢
    generalize vL out = vo
    generalize vL (c.take i) = vc
    generalize Bp i = p
    generalize (d : Int) = d at hmod ⊢
    grind
theorem short_ev {m : Nat} {d : Nat} (hd : 0 < d ∧ d < 1000000000) (hb : (dig m).length ≤ 1000000000000) : Ev (fun k => nat_N_short.f k (dig m) (d : Int)) (dig (m / d), dig (m % d)) := by
  have := short_run (dig m) (dig_dig m) hb d hd m (vL_dig m) (dig m).length 0 (List.replicate (dig m).length 0) (Nat.le_refl _) (Dig.zeros _) (by simp) (fun t h => zeros_at _ t (by omega) (by simpa using h)) (by omega) (by omega) (by rw [vL_zeros, List.take_length]; omega)
  refine Ev.step (fun k => nat_N_short.l0_eq k _ _) (Ev.pos (by omega) (Ev.pos (by omega) (Ev.pos (by omega) ?_)))
  rw [w64 (by omega) (by omega), show (((dig m).length : Int)).toNat = (dig m).length by omega]
  exact this
end Go.Proofs.YtamgbcgfjhpedaaDoor.VE
