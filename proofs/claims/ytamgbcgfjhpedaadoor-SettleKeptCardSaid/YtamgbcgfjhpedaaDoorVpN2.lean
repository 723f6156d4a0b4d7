import Derived.Test.YtamgbcgfjhpedaaDoorVpN1
namespace Go.Proofs.YtamgbcgfjhpedaaDoor.VE
open Go Go.RowKit
set_option linter.unusedVariables false
attribute [local irreducible] wrap64
/-! ### nat: Cmp, Add, Sub (no statement is proved here) -/
theorem tm (x : Int) (h : 0 ≤ x) : Int.tmod x 1000000000 = x % 1000000000 := Int.tmod_eq_emod_of_nonneg h
theorem td (x : Int) (h : 0 ≤ x) : Int.tdiv x 1000000000 = x / 1000000000 := Int.tdiv_eq_ediv_of_nonneg h
theorem take_one {c : List Int} {j : Nat} (h : j < c.length) : c.take (j + 1) = c.take j ++ [rU32 c (j : Int)] := by
  have hg := rU32_some (xs := c) (i := (j : Int)) (by omega) (by omega)
  rw [show ((j : Int)).toNat = j by omega, List.getElem?_eq_getElem h] at hg
  rw [← Option.some.inj hg, List.take_append_getElem h]
theorem vL_one (x : Int) : vL [x] = x := by show x + 1000000000 * 0 = x; omega
theorem vL_take {c : List Int} {j : Nat} (h : j < c.length) : vL (c.take (j + 1)) = vL (c.take j) + Bp j * rU32 c (j : Int) := by
  rw [take_one h, vL_append, vL_one, List.length_take, Nat.min_eq_left (by omega)]
theorem take_over {c : List Int} {j : Nat} (h : c.length ≤ j) : vL (c.take (j + 1)) = vL (c.take j) := by
  rw [List.take_of_length_le (by omega), List.take_of_length_le h]
theorem Dig.at {c : List Int} (h : Dig c) {j : Nat} (hj : j < c.length) : 0 ≤ rU32 c (j : Int) ∧ rU32 c (j : Int) < 1000000000 := h _ (rU32_mem (xs := c) (i := (j : Int)) (by omega) (by omega))
theorem Dig.take_lt {c : List Int} (h : Dig c) {j : Nat} (hj : j ≤ c.length) : 0 ≤ vL (c.take j) ∧ vL (c.take j) < Bp j := by
  have := vL_rng _ (h.take j)
  rwa [List.length_take, Nat.min_eq_left hj] at this
/-! Cmp -/
def cmpI (x y : Int) : Int := if x < y then -1 else if y < x then 1 else 0
theorem cmpI_lt {x y : Int} (h : x < y) : cmpI x y = -1 := by unfold cmpI; rw [if_pos h]
theorem cmpI_gt {x y : Int} (h : y < x) : cmpI x y = 1 := by unfold cmpI; rw [if_neg (by omega), if_pos h]
theorem cmpI_eq (x : Int) : cmpI x x = 0 := by unfold cmpI; rw [if_neg (by omega), if_neg (by omega)]
theorem cmpI_add {x y : Int} (z : Int) : cmpI (x + z) (y + z) = cmpI x y := by unfold cmpI; simp
theorem cmp_run (c e : List Int) (hc : Dig c) (he : Dig e) (hl : c.length = e.length) (hb : c.length ≤ 1000000000000) : ∀ (i : Nat), i ≤ c.length → Ev (fun k => nat_N_Cmp.l6 k c e ((i : Int) - 1)) (cmpI (vL (c.take i)) (vL (e.take i)))
  | 0, _ => by
    rw [List.take_zero, List.take_zero, cmpI_eq]
    exact Ev.step (fun k => nat_N_Cmp.l6_eq k _ _ _) (Ev.neg (by omega) (Ev.now _))
  | i + 1, hi => by
    have ih := cmp_run c e hc he hl hb i (by omega)
    have e1 : ((i + 1 : Nat) : Int) - 1 = (i : Int) := by omega
    rw [e1]
    have hx := hc.at (show i < c.length by omega)
    have hy := he.at (show i < e.length by omega)
    have hp := Bp_pos i
    have r1 := hc.take_lt (show i ≤ c.length by omega)
    have r2 := he.take_lt (show i ≤ e.length by omega)
    rw [vL_take (show i < c.length by omega), vL_take (show i < e.length by omega)]
    refine Ev.step (fun k => nat_N_Cmp.l6_eq k _ _ _) (Ev.pos (by omega) (Ev.pos (by omega) (Ev.pos (by omega) (Ev.pos (by omega) (Ev.pos (by omega) (Ev.ite (fun h => ?_) (fun h => Ev.pos (by omega) (Ev.pos (by omega) (Ev.pos (by omega) (Ev.pos (by omega) (Ev.ite (fun h' => ?_) (fun h' => ?_))))))))))))
    · have h : rU32 c (i : Int) < rU32 e (i : Int) := h
      have := Int.mul_le_mul_of_nonneg_left (show rU32 c (i : Int) + 1 ≤ rU32 e (i : Int) by omega) (show 0 ≤ Bp i by omega)
      rw [Int.mul_add] at this
      rw [cmpI_lt (by omega)]
      exact Ev.now _
    · have h' : rU32 e (i : Int) < rU32 c (i : Int) := h'
      have := Int.mul_le_mul_of_nonneg_left (show rU32 e (i : Int) + 1 ≤ rU32 c (i : Int) by omega) (show 0 ≤ Bp i by omega)
      rw [Int.mul_add] at this
      rw [cmpI_gt (by omega)]
      exact Ev.now _
    · have h : ¬ rU32 c (i : Int) < rU32 e (i : Int) := h
      have h' : ¬ rU32 e (i : Int) < rU32 c (i : Int) := h'
      rw [show rU32 c (i : Int) = rU32 e (i : Int) by omega, cmpI_add, w64 (by omega) (by omega)]
      exact ih
theorem dig_top' {n : Nat} (h : n ≠ 0) : Bp ((dig n).length - 1) ≤ (n : Int) := (dig_top n).resolve_left (fun h' => h (dig_nil.1 h'))
theorem cmp_ev {m n : Nat} (hb : (dig m).length ≤ 1000000000000) : Ev (fun k => nat_N_Cmp.f k (dig m) (dig n)) (cmpI m n) := by
  have h1 := dig_lt m
  have h2 := dig_lt n
  refine Ev.ite (fun h => ?_) (fun h => Ev.ite (fun h' => ?_) (fun h' => ?_))
  · have hl : (dig m).length = (dig n).length := by omega
    have := cmp_run (dig m) (dig n) (dig_dig m) (dig_dig n) hl hb (dig m).length (Nat.le_refl _)
    rw [w64 (by omega) (by omega)]
    rw [List.take_length, hl, List.take_length, vL_dig, vL_dig] at this
    rw [hl]
    exact this
  · have h0 : n ≠ 0 := fun h0 => by subst h0; rw [dig_zero, List.length_nil] at h'; omega
    have := dig_top' h0
    have := Bp_mono (show (dig m).length ≤ (dig n).length - 1 by omega)
    rw [cmpI_lt (by omega)]
    exact Ev.now _
  · have h0 : m ≠ 0 := fun h0 => by subst h0; rw [dig_zero, List.length_nil] at h h'; omega
    have := dig_top' h0
    have := Bp_mono (show (dig n).length ≤ (dig m).length - 1 by omega)
    rw [cmpI_gt (by omega)]
    exact Ev.now _
/-! Add -/
theorem add_run (c e : List Int) (hc : Dig c) (he : Dig e) (hle : e.length ≤ c.length) (hb : c.length ≤ 1000000000000) : ∀ (m j : Nat) (out : List Int) (cy : Int), j + m = c.length → out.length = j → Dig out → 0 ≤ cy → cy ≤ 1 → vL out + Bp j * cy = vL (c.take j) + vL (e.take j) →
    EvP (fun k => nat_N_Add.l6 k e cy c (c.length : Int) (j : Int) out) (fun r => Dig r ∧ vL r = vL c + vL e ∧ (r.length = c.length ∨ r.length = c.length + 1 ∧ Bp c.length ≤ vL r))
  | 0, j, out, cy, hj, ho, hd, h0, h1, hv => by
    rw [List.take_of_length_le (by omega), List.take_of_length_le (by omega)] at hv
    refine EvP.step (fun k => nat_N_Add.l6_eq k _ _ _ _ _ _) (EvP.neg (by omega) (EvP.ite (fun h => EvP.pos (by rw [List.length_singleton]; omega) ?_) (fun h => ?_)))
    · have e1 : cy = 1 := by omega
      subst e1
      have hr := vL_rng _ hd
      refine EvP.ret ⟨hd.append (Dig.mk (by omega) (fun x hx => by cases hx)), ?_, Or.inr ⟨?_, ?_⟩⟩
      · rw [vL_append, vL_one, ho]; exact hv
      · rw [List.length_append, List.length_singleton]; omega
      · rw [vL_append, vL_one, ho, show c.length = j by omega]; omega
    · have e1 : cy = 0 := by omega
      subst e1
      exact EvP.ret ⟨hd, by omega, Or.inl (by omega)⟩
  | m + 1, j, out, cy, hj, ho, hd, h0, h1, hv => by
    have hx := hc.at (show j < c.length by omega)
    have hp := Bp_pos j
    have next := fun (s : Int) (hs0 : 0 ≤ s) (hs1 : s < 2000000000) (hs : vL (c.take (j + 1)) + vL (e.take (j + 1)) = vL out + Bp j * s) => add_run c e hc he hle hb m (j + 1) (out ++ [s % 1000000000]) (s / 1000000000) (by omega) (by rw [List.length_append, List.length_singleton, ho]) (hd.append (Dig.mk (by omega) (fun x hx => by cases hx))) (by omega) (by omega) (by
      rw [hs, vL_append, vL_one, ho]
      show _ + Bp j * (s % 1000000000) + 1000000000 * Bp j * (s / 1000000000) = _
      have e1 : s = s % 1000000000 + 1000000000 * (s / 1000000000) := by omega
      conv => rhs; rw [e1, Int.mul_add]
      rw [← Int.mul_assoc, Int.mul_comm (Bp j) 1000000000]; omega)
    refine EvP.step (fun k => nat_N_Add.l6_eq k _ _ _ _ _ _) (EvP.pos (by omega) (EvP.pos (by omega) (EvP.pos (by omega) (EvP.ite (fun h => EvP.pos (by omega) (EvP.pos (by omega) (EvP.pos (by omega) (EvP.pos (by omega) (EvP.pos (by rw [List.length_singleton]; omega) ?_))))) (fun h => EvP.pos (by omega) (EvP.pos (by omega) (EvP.pos (by rw [List.length_singleton]; omega) ?_)))))))
    · have hy := he.at (show j < e.length by omega)
      have := next (rU32 c (j : Int) + cy + rU32 e (j : Int)) (by omega) (by omega) (by
        rw [vL_take (show j < c.length by omega), vL_take (show j < e.length by omega), Int.mul_add, Int.mul_add]; omega)
      rw [w32 (x := rU32 c (j : Int) + cy) (by omega) (by omega), w32 (x := rU32 c (j : Int) + cy + rU32 e (j : Int)) (by omega) (by omega), tm _ (by omega), td _ (by omega), w32 (by omega) (by omega), w64 (by omega) (by omega)]
      exact this
    · have := next (rU32 c (j : Int) + cy) (by omega) (by omega) (by
        rw [vL_take (show j < c.length by omega), take_over (c := e) (by omega), Int.mul_add]; omega)
      rw [w32 (x := rU32 c (j : Int) + cy) (by omega) (by omega), tm _ (by omega), td _ (by omega), w32 (by omega) (by omega), w64 (by omega) (by omega)]
      exact this
theorem add_to {m n : Nat} (hle : (dig n).length ≤ (dig m).length) (hb : (dig m).length ≤ 1000000000000) : Ev (fun k => nat_N_Add.l3 k (dig m) (dig n)) (dig (m + n)) := by
  obtain ⟨r, hr, h1, h2, h3⟩ := add_run (dig m) (dig n) (dig_dig m) (dig_dig n) hle hb (dig m).length 0 [] 0 (by omega) rfl (fun x hx => by cases hx) (by omega) (by omega) rfl
  rw [vL_dig, vL_dig] at h2
  have e : r = dig (m + n) := canon_eq h1 (by rw [h2]; omega) (by
    rcases h3 with h3 | ⟨h3, h4⟩
    · rcases dig_top m with h5 | h5
      · left; rw [h5] at h3; exact List.eq_nil_of_length_eq_zero h3
      · right; rw [h3]; omega
    · right; rw [h3, Nat.add_sub_cancel]; exact h4)
  rw [← e]
  refine Ev.step (fun k => nat_N_Add.l3_eq k _ _) ?_
  rw [w64 (by omega) (by omega)]
  exact Ev.pos (by omega) (Ev.pos (by omega) (Ev.pos (by omega) (Ev.pos (by omega) hr)))
theorem add_ev {m n : Nat} (hm : (dig m).length ≤ 1000000000000) (hn : (dig n).length ≤ 1000000000000) : Ev (fun k => nat_N_Add.f k (dig m) (dig n)) (dig (m + n)) := by
  refine Ev.step (fun k => nat_N_Add.l0_eq k _ _) (Ev.ite (fun h => ?_) (fun h => ?_))
  · rw [Nat.add_comm]
    exact add_to (by omega) hn
  · exact add_to (by omega) hm
/-! Sub -/
theorem set_tail {c : List Int} {j : Nat} {v : Int} (h : ∀ t, j ≤ t → t < c.length → c[t]? = some 0) : ∀ t, j + 1 ≤ t → t < (c.set j v).length → (c.set j v)[t]? = some 0 := by
  intro t h1 h2
  rw [List.length_set] at h2
  rw [List.getElem?_set, if_neg (by omega)]
  exact h t (by omega) h2
theorem sub_run (c e : List Int) (hc : Dig c) (he : Dig e) (hle : e.length ≤ c.length) (hb : c.length ≤ 1000000000000) (hve : vL e ≤ vL c) : ∀ (m j : Nat) (out : List Int) (br : Int), j + m = c.length → out.length = c.length → Dig out → 0 ≤ br → br ≤ 1 → (∀ t, j ≤ t → t < out.length → out[t]? = some 0) → vL out - Bp j * br = vL (c.take j) - vL (e.take j) →
    Ev (fun k => nat_N_Sub.l4 k c e br (c.length : Int) (j : Int) out) (dig (vL c - vL e).toNat)
  | 0, j, out, br, hj, ho, hd, h0, h1, hz, hv => by
    rw [List.take_of_length_le (by omega), List.take_of_length_le (by omega)] at hv
    refine Ev.step (fun k => nat_N_Sub.l4_eq k _ _ _ _ _ _) (Ev.neg (by omega) (Ev.bind (a := dig (vL c - vL e).toNat) (trim_ev (by omega) hd ?_) (Ev.now _)))
    have hr := vL_rng _ hd
    rw [ho, show c.length = j by omega] at hr
    rcases (show br = 0 ∨ br = 1 by omega) with rfl | rfl
    · omega
    · omega
  | m + 1, j, out, br, hj, ho, hd, h0, h1, hz, hv => by
    have hx := hc.at (show j < c.length by omega)
    have hp := Bp_pos j
    have next := fun (s b : Int) (hs0 : 0 ≤ s) (hs1 : s < 1000000000) (hb0 : 0 ≤ b) (hb1 : b ≤ 1) (hs : vL (c.take (j + 1)) - vL (e.take (j + 1)) = vL out + Bp j * (s - 1000000000 * b)) => sub_run c e hc he hle hb hve m (j + 1) (out.set j s) b (by omega) (by rw [List.length_set, ho]) (hd.set j ⟨hs0, hs1⟩) hb0 hb1 (set_tail hz) (by
      rw [hs, vL_set out j 0 s (hz j (Nat.le_refl _) (by omega))]
      show vL out + Bp j * (s - 0) - 1000000000 * Bp j * b = _
      rw [Int.mul_sub, Int.mul_sub, ← Int.mul_assoc, Int.mul_comm (Bp j) 1000000000]; omega)
    have ej : ((j : Int)).toNat = j := by omega
    refine Ev.step (fun k => nat_N_Sub.l4_eq k _ _ _ _ _ _) (Ev.pos (by omega) (Ev.pos (by omega) (Ev.pos (by omega) (Ev.ite (fun h => Ev.pos (by omega) (Ev.pos (by omega) ?_)) (fun h => ?_)))))
    · have hy := he.at (show j < e.length by omega)
      have vc := vL_take (show j < c.length by omega)
      have ve := vL_take (show j < e.length by omega)
      rw [w64 (x := rU32 c (j : Int)) (by omega) (by omega), w64 (x := rU32 c (j : Int) - br) (by omega) (by omega), w64 (x := rU32 e (j : Int)) (by omega) (by omega), w64 (x := rU32 c (j : Int) - br - rU32 e (j : Int)) (by omega) (by omega), w64 (x := (j : Int) + 1) (by omega) (by omega)]
      refine Ev.ite (fun h' => Ev.pos (by omega) (Ev.pos (by omega) ?_)) (fun h' => Ev.pos (by omega) (Ev.pos (by omega) ?_))
      · have h' : rU32 c (j : Int) - br - rU32 e (j : Int) < 0 := h'
        rw [w64 (by omega) (by omega), w32 (by omega) (by omega), ej]
        exact next (rU32 c (j : Int) - br - rU32 e (j : Int) + 1000000000) 1 (by omega) (by omega) (by omega) (by omega) (by
          rw [vc, ve, show rU32 c (j : Int) - br - rU32 e (j : Int) + 1000000000 - 1000000000 * 1 = rU32 c (j : Int) - br - rU32 e (j : Int) by omega, Int.mul_sub, Int.mul_sub]; omega)
      · have h' : ¬ rU32 c (j : Int) - br - rU32 e (j : Int) < 0 := h'
        rw [w32 (by omega) (by omega), ej]
        exact next (rU32 c (j : Int) - br - rU32 e (j : Int)) 0 (by omega) (by omega) (by omega) (by omega) (by
          rw [vc, ve, show rU32 c (j : Int) - br - rU32 e (j : Int) - 1000000000 * 0 = rU32 c (j : Int) - br - rU32 e (j : Int) by omega, Int.mul_sub, Int.mul_sub]; omega)
    · have vc := vL_take (show j < c.length by omega)
      have ve := take_over (c := e) (j := j) (by omega)
      rw [w64 (x := rU32 c (j : Int)) (by omega) (by omega), w64 (x := rU32 c (j : Int) - br) (by omega) (by omega), w64 (x := (j : Int) + 1) (by omega) (by omega)]
      refine Ev.ite (fun h' => Ev.pos (by omega) (Ev.pos (by omega) ?_)) (fun h' => Ev.pos (by omega) (Ev.pos (by omega) ?_))
      · have h' : rU32 c (j : Int) - br < 0 := h'
        rw [w64 (by omega) (by omega), w32 (by omega) (by omega), ej]
        exact next (rU32 c (j : Int) - br + 1000000000) 1 (by omega) (by omega) (by omega) (by omega) (by
          rw [vc, ve, show rU32 c (j : Int) - br + 1000000000 - 1000000000 * 1 = rU32 c (j : Int) - br by omega, Int.mul_sub]; omega)
      · have h' : ¬ rU32 c (j : Int) - br < 0 := h'
        rw [w32 (by omega) (by omega), ej]
        exact next (rU32 c (j : Int) - br) 0 (by omega) (by omega) (by omega) (by omega) (by
          rw [vc, ve, show rU32 c (j : Int) - br - 1000000000 * 0 = rU32 c (j : Int) - br by omega, Int.mul_sub]; omega)
theorem zeros_at (n : Nat) : ∀ t, 0 ≤ t → t < (List.replicate n (0 : Int)).length → (List.replicate n (0 : Int))[t]? = some 0 := by
  intro t _ h
  rw [List.getElem?_eq_getElem h, List.getElem_replicate]
theorem sub_ev {m n : Nat} (h : n ≤ m) (hb : (dig m).length ≤ 1000000000000) : Ev (fun k => nat_N_Sub.f k (dig m) (dig n)) (dig (m - n)) := by
  have := sub_run (dig m) (dig n) (dig_dig m) (dig_dig n) (dig_len_mono h) hb (by rw [vL_dig, vL_dig]; omega) (dig m).length 0 (List.replicate (dig m).length 0) 0 (by omega) (by simp) (Dig.zeros _) (by omega) (by omega) (zeros_at _) (by rw [vL_zeros]; rfl)
  rw [vL_dig, vL_dig, show ((m : Int) - n).toNat = m - n by omega] at this
  refine Ev.step (fun k => nat_N_Sub.l0_eq k _ _) (Ev.pos (by omega) (Ev.pos (by omega) (Ev.pos (by omega) ?_)))
  rw [show ((dig m).length : Int).toNat = (dig m).length by omega]
  exact this
end Go.Proofs.YtamgbcgfjhpedaaDoor.VE
