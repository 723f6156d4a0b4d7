import Derived.Test.YtamgbcgfjhpedaaDoorVpN7
namespace Go.Proofs.YtamgbcgfjhpedaaDoor.VE
open Go Go.RowKit
set_option linter.unusedVariables false
attribute [local irreducible] wrap64
/-! ### texts of bytes, decimal texts (no statement is proved here) -/
theorem bytesL_len (s : ByteArray) : (bytesL s).length = s.size := by
  unfold bytesL
  rw [List.length_map]; rfl
theorem bytesL_inj {a b : ByteArray} (h : bytesL a = bytesL b) : a = b := by
  unfold bytesL at h
  have h1 : a.data.toList = b.data.toList := by
    refine List.map_inj_right (f := fun b : UInt8 => (b.toNat : Int)) (fun x y hxy => ?_) |>.1 h
    exact UInt8.toNat_inj.1 (by exact_mod_cast hxy)
  cases a; cases b
  simp only [ByteArray.mk.injEq]
  exact Array.toList_inj.1 h1
theorem bytesL_append (a b : ByteArray) : bytesL (a ++ b) = bytesL a ++ bytesL b := by
  unfold bytesL
  rw [ByteArray.data_append, Array.toList_append, List.map_append]
theorem bytesL_extract (s : ByteArray) (i j : Nat) : bytesL (s.extract i j) = ((bytesL s).take j).drop i := by
  unfold bytesL
  rw [ByteArray.data_extract, Array.toList_extract, List.extract_eq_take_drop, List.map_take, List.map_drop, List.drop_take]
theorem bytesL_of {l : List Int} (h : ∀ x ∈ l, 0 ≤ x ∧ x < 256) : bytesL (ofBytes l) = l := by
  unfold bytesL ofBytes
  simp only [List.map_map]
  conv => rhs; rw [← List.map_id l]
  refine List.map_congr_left (fun x hx => ?_)
  have := h x hx
  simp only [Function.comp, id, UInt8.toNat_ofNat']
  omega
theorem bytesL_rng (s : ByteArray) : ∀ x ∈ bytesL s, 0 ≤ x ∧ x < 256 := by
  intro x hx
  unfold bytesL at hx
  obtain ⟨b, _, rfl⟩ := List.mem_map.1 hx
  have := b.toNat_lt
  omega
theorem of_bytesL (s : ByteArray) : ofBytes (bytesL s) = s := bytesL_inj (bytesL_of (bytesL_rng s))
theorem bt_at (s : ByteArray) {i : Nat} (h : i < s.size) : (bytesL s)[i]? = some (bt s (i : Int)) := by
  have h1 : i < s.data.toList.length := h
  unfold bytesL bt
  rw [List.getElem?_map, List.getElem?_eq_getElem h1]
  simp only [Int.toNat_natCast, h, dite_true]
  rfl
theorem bytesL_nil {s : ByteArray} : bytesL s = [] ↔ s = ByteArray.empty := by
  constructor
  · intro h; exact bytesL_inj h
  · rintro rfl; rfl
/-! digits -/
theorem snocInd {α : Type} {P : List α → Prop} (h0 : P []) (h1 : ∀ t x, P t → P (t ++ [x])) (l : List α) : P l := by
  rw [← List.reverse_reverse l]
  induction l.reverse with
  | nil => exact h0
  | cons x t ih => rw [List.reverse_cons]; exact h1 _ _ ih
def Ds (l : List Int) : Prop := ∀ x ∈ l, 48 ≤ x ∧ x ≤ 57
theorem Ds.byte {l : List Int} (h : Ds l) : ∀ x ∈ l, 0 ≤ x ∧ x < 256 := fun x hx => by have := h x hx; omega
theorem Ds.app {a b : List Int} (h : Ds a) (k : Ds b) : Ds (a ++ b) := fun x hx => (List.mem_append.1 hx).elim (h x) (k x)
theorem Ds.one {x : Int} (h : 48 ≤ x ∧ x ≤ 57) : Ds [x] := fun y hy => by rw [List.mem_singleton.1 hy]; exact h
theorem Ds.nil : Ds [] := fun x hx => by cases hx
theorem Ds.take {a : List Int} (h : Ds a) (n : Nat) : Ds (a.take n) := fun x hx => h x (List.mem_of_mem_take hx)
theorem Ds.drop {a : List Int} (h : Ds a) (n : Nat) : Ds (a.drop n) := fun x hx => h x (List.mem_of_mem_drop hx)
def vB (l : List Int) : Nat := l.foldl (fun a x => 10 * a + (x - 48).toNat) 0
theorem vB_snoc (l : List Int) (x : Int) : vB (l ++ [x]) = 10 * vB l + (x - 48).toNat := by
  unfold vB
  rw [List.foldl_append]; rfl
theorem vB_app (a b : List Int) : vB (a ++ b) = vB a * 10 ^ b.length + vB b := by
  induction b using snocInd with
  | h0 => simp [vB]
  | h1 t x ih =>
    rw [← List.append_assoc, vB_snoc, vB_snoc, ih, List.length_append, List.length_singleton, Nat.pow_succ]
    grind
theorem vB_cons (x : Int) (t : List Int) : vB (x :: t) = (x - 48).toNat * 10 ^ t.length + vB t := by
  have := vB_app [x] t
  rw [List.singleton_append] at this
  rw [this]
  show (10 * 0 + (x - 48).toNat) * _ + _ = _
  rw [Nat.mul_zero, Nat.zero_add]
theorem vB_lt (l : List Int) (h : Ds l) : vB l < 10 ^ l.length := by
  induction l using snocInd with
  | h0 => show 0 < 1; omega
  | h1 t x ih =>
    have h1 := ih (fun y hy => h y (by simp [hy]))
    have h2 := h x (by simp)
    rw [vB_snoc, List.length_append, List.length_singleton, Nat.pow_succ]
    omega
/-- A number's decimal digits, none for 0. -/
def decL (n : Nat) : List Int := if n = 0 then [] else decL (n / 10) ++ [48 + ((n % 10 : Nat) : Int)]
termination_by n
decreasing_by omega
theorem decL_zero : decL 0 = [] := by rw [decL]; rfl
theorem decL_pos {n : Nat} (h : n ≠ 0) : decL n = decL (n / 10) ++ [48 + ((n % 10 : Nat) : Int)] := by
  conv => lhs; rw [decL]
  rw [if_neg h]
theorem decL_ok (n : Nat) : Ds (decL n) ∧ vB (decL n) = n ∧ (n ≠ 0 → ∃ x t, decL n = x :: t ∧ 49 ≤ x) := by
  induction n using Nat.strongRecOn with
  | ind n ih =>
    by_cases h : n = 0
    · subst h; rw [decL_zero]; exact ⟨Ds.nil, rfl, fun h => absurd rfl h⟩
    · obtain ⟨h1, h2, h3⟩ := ih (n / 10) (by omega)
      rw [decL_pos h]
      refine ⟨h1.app (Ds.one (by omega)), by rw [vB_snoc, h2]; omega, fun _ => ?_⟩
      by_cases h0 : n / 10 = 0
      · rw [h0, decL_zero]
        exact ⟨_, [], rfl, by omega⟩
      · obtain ⟨x, t, e, hx⟩ := h3 h0
        rw [e]
        exact ⟨x, t ++ [48 + ((n % 10 : Nat) : Int)], rfl, hx⟩
theorem dec_canon (l : List Int) (h : Ds l) (h0 : l.head? ≠ some 48) : l = decL (vB l) := by
  induction l using snocInd with
  | h0 => exact decL_zero.symm
  | h1 t x ih =>
    have hx := h x (by simp)
    rw [vB_snoc]
    cases t with
    | nil =>
      have hx0 : x ≠ 48 := fun e => h0 (by rw [e]; rfl)
      rw [show vB [] = 0 from rfl, decL_pos (by omega), show (10 * 0 + (x - 48).toNat) / 10 = 0 by omega, decL_zero]
      congr 2
      omega
    | cons y t =>
      have e := ih (fun z hz => h z (by simp only [List.mem_append]; exact Or.inl hz)) h0
      have hv : vB (y :: t) ≠ 0 := fun hv => by rw [hv, decL_zero] at e; cases e
      rw [decL_pos (by omega), show (10 * vB (y :: t) + (x - 48).toNat) / 10 = vB (y :: t) by omega, ← e]
      congr 2
      omega
/-- A number's decimal text. -/
def txtN (n : Nat) : List Int := if n = 0 then [48] else decL n
theorem txtN_ok (n : Nat) : Ds (txtN n) ∧ vB (txtN n) = n ∧ txtN n ≠ [] := by
  unfold txtN
  split
  · subst n; exact ⟨Ds.one (by omega), rfl, by simp⟩
  · obtain ⟨h1, h2, h3⟩ := decL_ok n
    obtain ⟨x, t, e, _⟩ := h3 (by assumption)
    exact ⟨h1, h2, by rw [e]; simp⟩
theorem txt_canon {l : List Int} (h : Ds l) (h1 : l ≠ []) (h0 : l.head? = some 48 → l.length = 1) : l = txtN (vB l) := by
  by_cases hz : l.head? = some 48
  · have := h0 hz
    obtain ⟨x, rfl⟩ := List.length_eq_one_iff.1 this
    rw [List.head?_cons, Option.some.injEq] at hz
    subst hz
    rfl
  · have e := dec_canon l h hz
    unfold txtN
    rw [if_neg]
    · exact e
    · intro hv
      rw [hv, decL_zero] at e
      exact h1 e
end Go.Proofs.YtamgbcgfjhpedaaDoor.VE
