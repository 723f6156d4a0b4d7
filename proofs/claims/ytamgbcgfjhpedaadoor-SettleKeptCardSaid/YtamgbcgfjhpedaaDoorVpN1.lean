import Derived.Test.YtamgbcgfjhpedaaDoorGQD
namespace Go.Proofs.YtamgbcgfjhpedaaDoor.VE
open Go Go.RowKit
set_option linter.unusedVariables false
attribute [local irreducible] wrap64
/-! ### package nat: numbers of digits in the base 10^9 (no statement is proved here) -/
theorem w32 {x : Int} (h1 : 0 ≤ x) (h2 : x < 4294967296) : IntKind.wrap .u32 x = x := by
  unfold IntKind.wrap
  simp [IntKind.bits, IntKind.signed]
  omega
theorem w64u {x : Int} (h1 : 0 ≤ x) (h2 : x < 18446744073709551616) : IntKind.wrap .u64 x = x := by
  unfold IntKind.wrap
  simp [IntKind.bits, IntKind.signed]
  omega
def Bp : Nat → Int
  | 0 => 1
  | n + 1 => 1000000000 * Bp n
theorem Bp_pos : ∀ n, 1 ≤ Bp n
  | 0 => Int.le_refl _
  | n + 1 => by
    have := Bp_pos n
    show 1 ≤ 1000000000 * Bp n
    omega
theorem Bp_add : ∀ (m n : Nat), Bp (m + n) = Bp m * Bp n
  | 0, n => by rw [Nat.zero_add]; show _ = 1 * _; omega
  | m + 1, n => by
    rw [show m + 1 + n = (m + n) + 1 by omega]
    show 1000000000 * Bp (m + n) = 1000000000 * Bp m * Bp n
    rw [Bp_add m n, Int.mul_assoc]
theorem Bp_mono {m n : Nat} (h : m ≤ n) : Bp m ≤ Bp n := by
  obtain ⟨k, rfl⟩ : ∃ k, n = m + k := ⟨n - m, by omega⟩
  rw [Bp_add]
  have h1 := Bp_pos m
  have := Int.mul_le_mul_of_nonneg_left (Bp_pos k) (show 0 ≤ Bp m by omega)
  omega
def vL : List Int → Int
  | [] => 0
  | d :: ds => d + 1000000000 * vL ds
def Dig (ds : List Int) : Prop := ∀ d ∈ ds, 0 ≤ d ∧ d < 1000000000
theorem Dig.cons {d : Int} {ds : List Int} (h : Dig (d :: ds)) : (0 ≤ d ∧ d < 1000000000) ∧ Dig ds := ⟨h d (by simp), fun x hx => h x (by simp [hx])⟩
theorem Dig.mk {d : Int} {ds : List Int} (h : 0 ≤ d ∧ d < 1000000000) (k : Dig ds) : Dig (d :: ds) := fun x hx => by
  rcases List.mem_cons.1 hx with rfl | hx
  · exact h
  · exact k x hx
theorem Dig.append {a b : List Int} (h : Dig a) (k : Dig b) : Dig (a ++ b) := fun x hx => (List.mem_append.1 hx).elim (h x) (k x)
theorem Dig.take {a : List Int} (h : Dig a) (n : Nat) : Dig (a.take n) := fun x hx => h x (List.mem_of_mem_take hx)
theorem Dig.drop {a : List Int} (h : Dig a) (n : Nat) : Dig (a.drop n) := fun x hx => h x (List.mem_of_mem_drop hx)
theorem Dig.set {a : List Int} (h : Dig a) (n : Nat) {v : Int} (hv : 0 ≤ v ∧ v < 1000000000) : Dig (a.set n v) := fun x hx => by
  rcases List.mem_or_eq_of_mem_set hx with hx | rfl
  · exact h x hx
  · exact hv
theorem vL_rng : ∀ (ds : List Int), Dig ds → 0 ≤ vL ds ∧ vL ds < Bp ds.length
  | [], _ => ⟨Int.le_refl _, by show (0 : Int) < 1; omega⟩
  | d :: ds, h => by
    have := vL_rng ds h.cons.2
    have := h.cons.1
    rw [List.length_cons]
    show 0 ≤ d + 1000000000 * vL ds ∧ d + 1000000000 * vL ds < 1000000000 * Bp ds.length
    omega
theorem vL_append : ∀ (a b : List Int), vL (a ++ b) = vL a + Bp a.length * vL b
  | [], b => by show vL b = 0 + 1 * vL b; omega
  | d :: a, b => by
    show d + 1000000000 * vL (a ++ b) = d + 1000000000 * vL a + 1000000000 * Bp a.length * vL b
    rw [vL_append a b, Int.mul_add, Int.mul_assoc]; omega
theorem vL_split (c : List Int) (i : Nat) (h : i ≤ c.length) : vL c = vL (c.take i) + Bp i * vL (c.drop i) := by
  have := vL_append (c.take i) (c.drop i)
  rw [List.take_append_drop, List.length_take, Nat.min_eq_left h] at this
  exact this
theorem vL_zeros : ∀ n, vL (List.replicate n 0) = 0
  | 0 => rfl
  | n + 1 => by
    rw [List.replicate_succ]
    show 0 + 1000000000 * vL (List.replicate n 0) = 0
    rw [vL_zeros n]; rfl
theorem Dig.zeros (n : Nat) : Dig (List.replicate n 0) := fun x hx => by
  rw [List.eq_of_mem_replicate hx]; omega
theorem vL_set : ∀ (c : List Int) (j : Nat) (x v : Int), c[j]? = some x → vL (c.set j v) = vL c + Bp j * (v - x)
  | [], j, x, v, h => by simp at h
  | d :: c, 0, x, v, h => by
    simp only [List.getElem?_cons_zero, Option.some.injEq] at h
    subst h
    show v + 1000000000 * vL c = d + 1000000000 * vL c + 1 * (v - d)
    omega
  | d :: c, j + 1, x, v, h => by
    have := vL_set c j x v (by simpa using h)
    show d + 1000000000 * vL (c.set j v) = d + 1000000000 * vL c + 1000000000 * Bp j * (v - x)
    rw [this, Int.mul_add, Int.mul_assoc]; omega
/-- The digits of a number. -/
def dig (n : Nat) : List Int := if n = 0 then [] else ((n % 1000000000 : Nat) : Int) :: dig (n / 1000000000)
termination_by n
decreasing_by omega
theorem dig_zero : dig 0 = [] := by rw [dig]; rfl
theorem dig_pos {n : Nat} (h : n ≠ 0) : dig n = ((n % 1000000000 : Nat) : Int) :: dig (n / 1000000000) := by
  conv => lhs; rw [dig]
  rw [if_neg h]
theorem dig_ok (n : Nat) : Dig (dig n) ∧ vL (dig n) = (n : Int) := by
  induction n using Nat.strongRecOn with
  | ind n ih =>
    by_cases h : n = 0
    · subst h; rw [dig_zero]; exact ⟨(fun x hx => by cases hx), rfl⟩
    · obtain ⟨h1, h2⟩ := ih (n / 1000000000) (by omega)
      rw [dig_pos h]
      refine ⟨Dig.mk (by omega) h1, ?_⟩
      show ((n % 1000000000 : Nat) : Int) + 1000000000 * vL (dig (n / 1000000000)) = n
      rw [h2]; omega
theorem dig_dig (n : Nat) : Dig (dig n) := (dig_ok n).1
theorem vL_dig (n : Nat) : vL (dig n) = (n : Int) := (dig_ok n).2
theorem dig_nil {n : Nat} : dig n = [] ↔ n = 0 := by
  constructor
  · intro h
    have := vL_dig n
    rw [h] at this
    have : (0 : Int) = n := this
    omega
  · rintro rfl; exact dig_zero
/-- Digits without leading zeros are those of their number. -/
theorem canon : ∀ (c : List Int), Dig c → (c = [] ∨ Bp (c.length - 1) ≤ vL c) → c = dig (vL c).toNat
  | [], _, _ => dig_zero.symm
  | d :: c, h, hz => by
    have hz : Bp c.length ≤ d + 1000000000 * vL c := by
      rcases hz with hz | hz
      · cases hz
      · exact hz
    obtain ⟨h1, h2⟩ := h.cons
    have hr := vL_rng c h2
    have hp := Bp_pos c.length
    have hc : c = [] ∨ Bp (c.length - 1) ≤ vL c := by
      cases c with
      | nil => exact Or.inl rfl
      | cons e c =>
        right
        have : Bp ((e :: c).length) = 1000000000 * Bp c.length := rfl
        rw [this] at hz
        simp only [List.length_cons, Nat.add_sub_cancel]
        omega
    have ih := canon c h2 hc
    have hv : 0 ≤ vL c := hr.1
    show d :: c = dig (d + 1000000000 * vL c).toNat
    rw [dig_pos (by omega)]
    have e1 : ((((d + 1000000000 * vL c).toNat % 1000000000 : Nat)) : Int) = d := by omega
    have e2 : (d + 1000000000 * vL c).toNat / 1000000000 = (vL c).toNat := by omega
    rw [e1, e2, ← ih]
theorem canon_eq {c : List Int} {n : Nat} (h : Dig c) (hv : vL c = (n : Int)) (hz : c = [] ∨ Bp (c.length - 1) ≤ vL c) : c = dig n := by
  have := canon c h hz
  rw [hv] at this
  simpa using this
theorem dig_top (n : Nat) : dig n = [] ∨ Bp ((dig n).length - 1) ≤ (n : Int) := by
  induction n using Nat.strongRecOn with
  | ind n ih =>
    by_cases h : n = 0
    · subst h; exact Or.inl dig_zero
    · right
      have ihn := ih (n / 1000000000) (by omega)
      rw [dig_pos h]
      simp only [List.length_cons, Nat.add_sub_cancel]
      rcases ihn with ihn | ihn
      · rw [ihn]
        show (1 : Int) ≤ n
        omega
      · cases hd : dig (n / 1000000000) with
        | nil => show (1 : Int) ≤ n; omega
        | cons e l =>
          rw [hd] at ihn
          simp only [List.length_cons, Nat.add_sub_cancel] at ihn
          show 1000000000 * Bp l.length ≤ (n : Int)
          omega
theorem dig_lt (n : Nat) : (n : Int) < Bp (dig n).length := by
  have := vL_rng _ (dig_dig n)
  rw [vL_dig] at this
  exact this.2
/-- How many digits. -/
def sz' (n : Nat) : Nat := (dig n).length
theorem dig_len_le {m : Nat} {L : Nat} (h : (m : Int) < Bp L) : (dig m).length ≤ L := by
  rcases dig_top m with h1 | h1
  · rw [h1]; exact Nat.zero_le _
  · apply Classical.byContradiction
    intro hc
    have := Bp_mono (show L ≤ (dig m).length - 1 by omega)
    omega
theorem dig_len_mono {m n : Nat} (h : m ≤ n) : (dig m).length ≤ (dig n).length := dig_len_le (by have := dig_lt n; omega)
/-! trim -/
theorem trim_run : ∀ (n : Nat) (c : List Int), c.length = n → c.length ≤ 8000000000000 → Dig c → Ev (fun k => nat_N_trim.l1 k c) (dig (vL c).toNat)
  | 0, c, hl, _, _ => by
    rw [List.eq_nil_of_length_eq_zero hl]
    show Ev _ (dig 0)
    rw [dig_zero]
    exact Ev.step (fun k => nat_N_trim.l1_eq k _) (Ev.neg (by simp) (Ev.now _))
  | n + 1, c, hl, hb, hd => by
    have w1 : wrap64 ((c.length : Int) - 1) = (n : Int) := by rw [w64 (by omega) (by omega)]; omega
    have hlt : (n : Int) < (c.length : Int) := by omega
    have hg := rU32_some (xs := c) (i := (n : Int)) (by omega) hlt
    rw [show ((n : Int)).toNat = n by omega] at hg
    have hsp : c = c.take n ++ [rU32 c (n : Int)] := by
      have h1 := List.take_append_drop n c
      rw [List.drop_eq_getElem_cons (by omega), List.drop_eq_nil_of_le (by omega)] at h1
      rw [List.getElem?_eq_getElem (by omega)] at hg
      rw [← Option.some.inj hg]
      exact h1.symm
    have hx := hd _ (rU32_mem (xs := c) (i := (n : Int)) (by omega) hlt)
    have hvs := vL_append (c.take n) [rU32 c (n : Int)]
    rw [← hsp, List.length_take, Nat.min_eq_left (by omega)] at hvs
    have hv1 : vL [rU32 c (n : Int)] = rU32 c (n : Int) := by show _ + 1000000000 * 0 = _; omega
    rw [hv1] at hvs
    refine Ev.step (fun k => nat_N_trim.l1_eq k _) ?_
    rw [w1]
    refine Ev.pos (by omega) (Ev.pos (by omega) (Ev.pos hlt (Ev.ite (fun hz => Ev.pos (by omega) (Ev.pos (by omega) ?_)) (fun hz => ?_))))
    · have hz : rU32 c (n : Int) = 0 := hz
      rw [hz, Int.mul_zero, Int.add_zero] at hvs
      rw [hvs, show Int.toNat (n : Int) - Int.toNat 0 = n by omega]
      exact trim_run n (c.take n) (by rw [List.length_take]; omega) (by rw [List.length_take]; omega) (hd.take n)
    · have hz : ¬ rU32 c (n : Int) = 0 := hz
      have hr := vL_rng _ (hd.take n)
      have hp := Bp_pos n
      have hm := Int.mul_le_mul_of_nonneg_left (show 1 ≤ rU32 c (n : Int) by omega) (show 0 ≤ Bp n by omega)
      have e := canon c hd (Or.inr (by rw [hl, Nat.add_sub_cancel]; omega))
      rw [← e]
      exact Ev.now _
theorem trim_ev {c : List Int} (hb : c.length ≤ 8000000000000) (hd : Dig c) {n : Nat} (hv : vL c = (n : Int)) : Ev (fun k => nat_N_trim.f k c) (dig n) := by
  have := trim_run c.length c rfl hb hd
  rw [hv, show ((n : Int)).toNat = n by omega] at this
  exact this
/-! Of -/
theorem of_run : ∀ (d : Nat) (n : Nat) (acc : List Int), n ≤ d → n ≤ 9223372036854775807 → acc.length + (dig n).length ≤ 100 → Ev (fun k => nat_Of.l2 k (n : Int) acc) (acc ++ dig n)
  | d, n, acc, hd, hb, hl => by
    induction d using Nat.strongRecOn generalizing n acc with
    | ind d ih =>
      by_cases h : n = 0
      · subst h
        rw [dig_zero, List.append_nil]
        exact Ev.step (fun k => nat_Of.l2_eq k _ _) (Ev.neg (by omega) (Ev.now _))
      · rw [dig_pos h] at hl ⊢
        rw [List.length_cons] at hl
        have e1 : Int.tmod (n : Int) 1000000000 = ((n % 1000000000 : Nat) : Int) := rfl
        have e2 : Int.tdiv (n : Int) 1000000000 = ((n / 1000000000 : Nat) : Int) := rfl
        refine Ev.step (fun k => nat_Of.l2_eq k _ _) (Ev.pos (by omega) (Ev.pos (by omega) (Ev.pos (by rw [List.length_singleton]; omega) (Ev.pos (by omega) ?_))))
        rw [e1, e2, w32 (by omega) (by omega), w64 (by omega) (by omega)]
        have := ih (n / 1000000000) (by omega) (n / 1000000000) (acc ++ [((n % 1000000000 : Nat) : Int)]) (Nat.le_refl _) (by omega) (by rw [List.length_append, List.length_singleton]; omega)
        rw [List.append_assoc, List.singleton_append] at this
        exact this
theorem of_ev {n : Nat} (hb : n ≤ 9223372036854775807) : Ev (fun k => nat_Of.f k (n : Int)) (dig n) := by
  have h3 : (dig n).length ≤ 3 := dig_len_le (by show (n : Int) < 1000000000 * (1000000000 * (1000000000 * 1)); omega)
  have := of_run n n [] (Nat.le_refl _) hb (by simp; omega)
  exact this
end Go.Proofs.YtamgbcgfjhpedaaDoor.VE
