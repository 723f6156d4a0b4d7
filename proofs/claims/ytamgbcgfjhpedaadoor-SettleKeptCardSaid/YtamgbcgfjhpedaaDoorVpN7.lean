import Derived.Test.YtamgbcgfjhpedaaDoorVpN6
namespace Go.Proofs.YtamgbcgfjhpedaaDoor.VE
open Go Go.RowKit
set_option linter.unusedVariables false
attribute [local irreducible] wrap64
/-! ### nat: Div and Gcd whole (no statement is proved here) -/
theorem top_pos {n : Nat} (h : n ≠ 0) {a : Nat} (ha : (dig n).length = a + 1) : 1 ≤ rU32 (dig n) (a : Int) := by
  have h1 := dig_top' h
  rw [ha, Nat.add_sub_cancel] at h1
  have h2 := vL_split (dig n) (dig n).length (Nat.le_refl _)
  rw [List.drop_length, show vL [] = 0 from rfl, Int.mul_zero, Int.add_zero, ha, vL_take (by omega), vL_dig] at h2
  have h3 := (dig_dig n).take_lt (show a ≤ (dig n).length by omega)
  apply Classical.byContradiction
  intro hc
  have h4 := Int.mul_le_mul_of_nonneg_left (show rU32 (dig n) (a : Int) ≤ 0 by omega) (B_pos' (n := a))
  rw [Int.mul_zero] at h4
  omega
theorem div7 {x y f : Nat} (hf : 0 < f ∧ f < 1000000000) (hy : 0 < y) (hyx : y ≤ x) {n' : Nat} (hn : (dig (y * f)).length = n' + 2) (hb : (dig x).length ≤ 100000000000) : ∀ (d t : Nat), (dig x).length + 1 ≤ (dig (x * f)).length + t + 1 + d → (dig (x * f)).length + t + 1 ≤ (dig x).length + 2 → EvP (fun k => nat_N_Div.l7 k (dig x) (f : Int) (dig (x * f) ++ List.replicate (t + 1) 0) (dig (y * f))) (fun r => r = (dig (x / y), dig (x % y)))
  | d, t, hd, ht => by
    have hl : (dig (x * f) ++ List.replicate (t + 1) 0).length = (dig (x * f)).length + t + 1 := by rw [List.length_append, List.length_replicate]; omega
    refine EvP.step (fun k => nat_N_Div.l7_eq k _ _ _ _) ?_
    rw [hl]
    refine EvP.ite (fun h => EvP.pos (by rw [List.length_singleton]; omega) ?_) (fun h => ?_)
    · rw [List.append_assoc, show ([0] : List Int) = List.replicate 1 0 from rfl, List.replicate_append_replicate]
      cases d with
      | zero => omega
      | succ d => exact div7 hf hy hyx hn hb d (t + 1) (by omega) (by omega)
    · have hle : (dig (y * f)).length ≤ (dig (x * f)).length := dig_len_mono (Nat.mul_le_mul_right f hyx)
      obtain ⟨J, hJ⟩ : ∃ J, J + (dig (y * f)).length = (dig (x * f)).length + t + 1 := ⟨(dig (x * f)).length + t + 1 - (dig (y * f)).length, by omega⟩
      have hJe : wrap64 (((dig (x * f)).length + t + 1 : Nat) - ((dig (y * f)).length : Int)) = (J : Int) := by rw [w64 (by omega) (by omega)]; omega
      rw [hJe]
      clear hJe
      refine EvP.pos (by omega) (EvP.pos (by omega) (EvP.pos (by omega) ?_))
      have hy0 : y * f ≠ 0 := by have := Nat.mul_pos hy hf.1; omega
      rw [w64 (by omega) (by omega), show ((J : Int)).toNat = J by omega]
      have vu : vL (dig (x * f) ++ List.replicate (t + 1) 0) = ((x * f : Nat) : Int) := by rw [vL_append, vL_dig, vL_zeros, Int.mul_zero, Int.add_zero]
      have hlt : ((x * f : Nat) : Int) < vL (dig (y * f)) * Bp J := by
        rw [vL_dig]
        have h1 := dig_lt (x * f)
        have h2 := dig_top' hy0
        have h3 := Int.mul_le_mul_of_nonneg_right h2 (B_pos' (n := J))
        rw [← Bp_add] at h3
        have h4 := Bp_mono (show (dig (x * f)).length ≤ (dig (y * f)).length - 1 + J by omega)
        omega
      have := div12 (dig_dig (y * f)) hn (top_pos hy0 hn) hJ (by omega) hf (U := x * f) (V := y * f) (vL_dig _) J (dig (x * f) ++ List.replicate (t + 1) 0) (List.replicate J 0)
        ⟨(dig_dig _).append (Dig.zeros _), hl, Dig.zeros _, List.length_replicate, Nat.le_refl _, fun t ht => zeros_at _ t (by omega) (by rw [List.length_replicate]; exact ht), by rw [vL_zeros, Int.mul_zero, Int.zero_add, vu], by rw [vu]; exact hlt⟩
      rw [Nat.mul_div_mul_right x y hf.1, Nat.mul_mod_mul_right, Nat.mul_div_cancel _ hf.1] at this
      exact this
theorem div_ev {x y : Nat} (hy : 0 < y) (hb : (dig x).length ≤ 100000000000) (hb' : (dig y).length ≤ 100000000000) : Ev (fun k => nat_N_Div.f k (dig x) (dig y)) (dig (x / y), dig (x % y)) := by
  refine Ev.step (fun k => nat_N_Div.l0_eq k _ _) (Ev.bind (cmp_ev (by omega)) ?_)
  by_cases hc : x < y
  · rw [cmpI_lt (by omega), Nat.div_eq_of_lt hc, Nat.mod_eq_of_lt hc, dig_zero]
    exact Ev.pos (by omega) (Ev.now _)
  have h0 : ¬ cmpI (x : Int) y < 0 := by unfold cmpI; split <;> first | omega | (split <;> omega)
  refine Ev.neg h0 (Ev.ite (fun h => Ev.pos (by omega) (Ev.pos (by omega) ?_)) (fun h => ?_))
  · have hp := dig_pos (show y ≠ 0 by omega)
    have hl : (dig (y / 1000000000)).length = 0 := by
      rw [hp, List.length_cons] at h; omega
    have hz := dig_nil.1 (List.eq_nil_of_length_eq_zero hl)
    have e : dig y = [(y : Int)] := by
      rw [hp, hz, dig_zero, Nat.mod_eq_of_lt (by omega)]
    rw [e, show rU32 [(y : Int)] 0 = (y : Int) from rfl]
    exact Ev.bind (short_ev ⟨hy, by omega⟩ (by omega)) (Ev.now _)
  · have hp := dig_pos (show y ≠ 0 by omega)
    obtain ⟨a, ha⟩ : ∃ a, (dig y).length = a + 2 := by
      rw [hp] at h ⊢
      rw [List.length_cons] at h ⊢
      exact ⟨(dig (y / 1000000000)).length - 1, by omega⟩
    have ht := top_pos (show y ≠ 0 by omega) (show (dig y).length = (a + 1) + 1 by omega)
    have ht2 := ((dig_dig y).at (show a + 1 < (dig y).length by omega)).2
    rw [wi1 ha (by omega)]
    generalize rU32 (dig y) ((a + 1 : Nat) : Int) = top at ht ht2 ⊢
    obtain ⟨t, rfl⟩ : ∃ t : Nat, top = (t : Int) := ⟨top.toNat, by omega⟩
    rw [w64u (x := (t : Int)) (by omega) (by omega), w64u (x := (t : Int) + 1) (by omega) (by omega), show Int.tdiv 1000000000 ((t : Int) + 1) = ((1000000000 / (t + 1) : Nat) : Int) from rfl]
    have hf : 0 < 1000000000 / (t + 1) ∧ 1000000000 / (t + 1) < 1000000000 := by
      constructor
      · exact Nat.div_pos (by omega) (by omega)
      · exact Nat.div_lt_self (by omega) (by omega)
    generalize 1000000000 / (t + 1) = f at hf ⊢
    rw [w64u (x := (f : Int)) (by omega) (by omega), w32 (x := (f : Int)) (by omega) (by omega)]
    have hfd : dig f = [(f : Int)] := by
      rw [dig_pos (by omega), Nat.div_eq_of_lt hf.2, dig_zero, Nat.mod_eq_of_lt hf.2]
    have hfl : (dig f).length = 1 := by rw [hfd]; rfl
    rw [← hfd]
    have up : ∀ z : Nat, (dig (z * f)).length ≤ (dig z).length + 1 := by
      intro z
      refine dig_len_le ?_
      have h1 := dig_lt z
      have h2 := Int.mul_le_mul (show (z : Int) ≤ Bp (dig z).length by omega) (show (f : Int) ≤ 1000000000 by omega) (by omega) B_pos'
      have h3 : (z : Int) * f < Bp (dig z).length * 1000000000 := by
        have := Int.mul_le_mul (show (z : Int) + 1 ≤ Bp (dig z).length by omega) (show (f : Int) ≤ 1000000000 by omega) (by omega) B_pos'
        rw [Int.add_mul] at this
        omega
      rw [Int.natCast_mul, show Bp ((dig z).length + 1) = 1000000000 * Bp (dig z).length from rfl]
      omega
    have ux := up x
    have uy := up y
    have yl : (dig y).length ≤ (dig (y * f)).length := dig_len_mono (Nat.le_mul_of_pos_right y hf.1)
    have xl : (dig x).length ≤ (dig (x * f)).length := dig_len_mono (Nat.le_mul_of_pos_right x hf.1)
    refine Ev.pos (by omega) (Ev.pos (by omega) (Ev.pos (by omega) (Ev.bind (mul_ev (by omega) (by omega)) (Ev.pos (by rw [List.length_singleton]; omega) (Ev.bind (mul_ev (by omega) (by omega)) ?_)))))
    obtain ⟨n', hn⟩ : ∃ n', (dig (y * f)).length = n' + 2 := ⟨(dig (y * f)).length - 2, by omega⟩
    have := div7 hf hy (show y ≤ x by omega) hn hb 1 0 (by omega) (by omega)
    exact EvP.ev this
theorem gcd_run : ∀ (n m : Nat), (dig m).length ≤ 100000000000 → (dig n).length ≤ 100000000000 → Ev (fun k => nat_N_Gcd.l1 k (dig m) (dig n)) (dig (Nat.gcd m n)) := by
  intro n
  induction n using Nat.strongRecOn with
  | ind n ih =>
    intro m hm hn
    refine Ev.step (fun k => nat_N_Gcd.l1_eq k _ _) ?_
    by_cases h : n = 0
    · subst h
      rw [Nat.gcd_zero_right]
      exact Ev.neg (by rw [dig_zero, List.length_nil]; omega) (Ev.now _)
    · have h1 : 0 < (dig n).length := by rw [dig_pos h, List.length_cons]; omega
      refine Ev.pos (by omega) (Ev.bind (div_ev (by omega) hm hn) ?_)
      have := ih (m % n) (Nat.mod_lt _ (by omega)) n hn (by have := dig_len_mono (show m % n ≤ m from Nat.mod_le _ _); omega)
      rw [Nat.gcd_comm, ← Nat.gcd_rec, Nat.gcd_comm] at this
      exact this
theorem gcd_ev {m n : Nat} (hm : (dig m).length ≤ 100000000000) (hn : (dig n).length ≤ 100000000000) : Ev (fun k => nat_N_Gcd.f k (dig m) (dig n)) (dig (Nat.gcd m n)) := gcd_run n m hm hn
end Go.Proofs.YtamgbcgfjhpedaaDoor.VE
