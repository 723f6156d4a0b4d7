import Derived.Test.YtamgbcgfjhpedaaDoorVpR1
namespace Go.Proofs.YtamgbcgfjhpedaaDoor.VE
open Go Go.RowKit
set_option linter.unusedVariables false
attribute [local irreducible] wrap64
/-! ### rat: Fits, Out; the texts' parts (no statement is proved here) -/
attribute [local irreducible] rd
theorem Bp_ten : ∀ n, Bp n = ((10 ^ (9 * n) : Nat) : Int)
  | 0 => rfl
  | n + 1 => by
    show 1000000000 * Bp n = _
    rw [Bp_ten n, show 9 * (n + 1) = 9 * n + 9 by omega, Nat.pow_add, Int.natCast_mul, Int.mul_comm]
    rfl
theorem txt_len (n : Nat) : (txtN n).length ≤ 9 * dl n + 1 := by
  unfold txtN
  split
  · simp
  · obtain ⟨h1, h2, h3⟩ := decL_ok n
    obtain ⟨x, t, e, hx⟩ := h3 (by assumption)
    have h4 := dig_lt n
    rw [Bp_ten] at h4
    have h5 : n < 10 ^ (9 * dl n) := by unfold dl; omega
    rw [e, vB_cons] at h2
    rw [e, List.length_cons]
    have h6 : 10 ^ t.length ≤ (x - 48).toNat * 10 ^ t.length := Nat.le_mul_of_pos_left _ (by omega)
    have h7 : 10 ^ t.length < 10 ^ (9 * dl n) := by omega
    have := (Nat.pow_lt_pow_iff_right (by omega : 1 < 10)).1 h7
    omega
theorem len_txt (n : Nat) : dl n ≤ (txtN n).length := by
  obtain ⟨h1, h2, h3⟩ := txtN_ok n
  refine dig_len_le ?_
  have h4 := vB_lt _ h1
  rw [h2] at h4
  have h5 : 10 ^ (txtN n).length ≤ 10 ^ (9 * (txtN n).length) := Nat.pow_le_pow_right (by omega) (by omega)
  rw [Bp_ten]
  omega
def Fit (q : Rat) : Prop := (txtN q.num.natAbs).length ≤ 2000 ∧ (txtN q.den).length ≤ 2000
instance (q : Rat) : Decidable (Fit q) := inferInstanceAs (Decidable (_ ∧ _))
theorem txt_one : txtN 1 = [49] := by
  unfold txtN
  rw [if_neg (by omega), decL_pos (by omega), show 1 / 10 = 0 from rfl, decL_zero]; rfl
theorem txt_inj {m n : Nat} (h : txtN m = txtN n) : m = n := by
  rw [← (txtN_ok m).2.1, h, (txtN_ok n).2.1]
theorem fits_ev {L : Nat} {q : Rat} {r : Bool × List Int × List Int} (h : Rp L q r) (hL : L ≤ 90000000000) : Ev (fun k => rat_Fits.f k r) (if Fit q then 0 else 2) := by
  have h1 := h.ln
  have h2 := h.ld
  have D : Ev (fun k => nat_N_Digits.f k r.2.2) ((txtN q.den).length : Int) := by
    rcases h.den with e | ⟨e, e1⟩
    · rw [e]; exact digits_ev (by unfold dl at h2; omega)
    · have := digits_ev (n := 0) (by rw [dig_zero]; simp)
      rw [dig_zero] at this
      rw [e, e1, txt_one]
      exact this
  refine Ev.bind (a := ((txtN q.num.natAbs).length : Int)) (by rw [h.num]; exact digits_ev (by unfold dl at h1; omega)) (Ev.ite (fun hc => ?_) (fun hc => Ev.bind D (Ev.ite (fun hd => ?_) (fun hd => ?_))))
  · have hc : 2000 < ((txtN q.num.natAbs).length : Int) := hc
    rw [if_neg (fun hf => by have := hf.1; omega)]
    exact Ev.now _
  · have hd : 2000 < ((txtN q.den).length : Int) := hd
    rw [if_neg (fun hf => by have := hf.2; omega)]
    exact Ev.now _
  · have hc : ¬ 2000 < ((txtN q.num.natAbs).length : Int) := hc
    have hd : ¬ 2000 < ((txtN q.den).length : Int) := hd
    rw [if_pos ⟨by omega, by omega⟩]
    exact Ev.now _
def outL (q : Rat) : List Int := (if q.num < 0 then [45] else []) ++ (txtN q.num.natAbs ++ (if q.den = 1 then [] else 47 :: txtN q.den))
theorem outL_byte (q : Rat) : ∀ x ∈ outL q, 0 ≤ x ∧ x < 256 := by
  intro x hx
  have h1 := (txtN_ok q.num.natAbs).1
  have h2 := (txtN_ok q.den).1
  unfold outL at hx
  rw [List.mem_append, List.mem_append] at hx
  rcases hx with hx | hx | hx
  · split at hx
    · rw [List.mem_singleton.1 hx]; omega
    · cases hx
  · have := h1 x hx; omega
  · split at hx
    · cases hx
    · rcases List.mem_cons.1 hx with rfl | hx
      · omega
      · have := h2 x hx; omega
theorem of_app {a b : List Int} (ha : ∀ x ∈ a, 0 ≤ x ∧ x < 256) (hb : ∀ x ∈ b, 0 ≤ x ∧ x < 256) : ofBytes a ++ ofBytes b = ofBytes (a ++ b) := bytesL_inj (by
  rw [bytesL_append, bytesL_of ha, bytesL_of hb, bytesL_of (fun x hx => (List.mem_append.1 hx).elim (ha x) (hb x))])
theorem of_size {a : List Int} (ha : ∀ x ∈ a, 0 ≤ x ∧ x < 256) : (ofBytes a).size = a.length := by rw [← bytesL_len, bytesL_of ha]
theorem one_byte {c : Int} (h : 0 ≤ c ∧ c < 256) : ∀ x ∈ [c], 0 ≤ x ∧ x < 256 := fun x hx => by rw [List.mem_singleton.1 hx]; exact h
theorem out_ev {L : Nat} {q : Rat} {r : Bool × List Int × List Int} (h : Rp L q r) (hL : L ≤ 90000000000) : Ev (fun k => rat_Q_Out.f k r) (ofBytes (outL q)) := by
  by_cases hq : q = 0
  · refine Ev.pos ((zero_len h).2 hq) ?_
    rw [hq]
    exact Ev.now _
  · have h1 := h.ln
    have h2 := h.ld
    have n1 := (txtN_ok q.num.natAbs).1.byte
    have n2 := (txtN_ok q.den).1.byte
    have s1 := of_size n1
    have s2 := of_size n2
    have t1 := txt_len q.num.natAbs
    have t2 := txt_len q.den
    have eq1 : ofBytes (txtN q.den) = ByteArray.mk #[49] ↔ q.den = 1 := by
      rw [show ByteArray.mk #[49] = ofBytes [49] from rfl, ← txt_one]
      constructor
      · intro e
        have := congrArg bytesL e
        rw [bytesL_of n2, bytesL_of (txtN_ok 1).1.byte] at this
        exact txt_inj this
      · intro e; rw [e]
    have a45 : ∀ l : List Int, (∀ x ∈ l, 0 ≤ x ∧ x < 256) → ByteArray.mk #[45] ++ ofBytes l = ofBytes (45 :: l) := fun l hl => of_app (a := [45]) (one_byte (by omega)) hl
    have a47 : ∀ l : List Int, (∀ x ∈ l, 0 ≤ x ∧ x < 256) → ByteArray.mk #[47] ++ ofBytes l = ofBytes (47 :: l) := fun l hl => of_app (a := [47]) (one_byte (by omega)) hl
    have b47 : ∀ x ∈ (47 :: txtN q.den), 0 ≤ x ∧ x < 256 := fun x hx => (List.mem_cons.1 hx).elim (fun e => by omega) (n2 x)
    have b45 : ∀ x ∈ (45 :: txtN q.num.natAbs), 0 ≤ x ∧ x < 256 := fun x hx => (List.mem_cons.1 hx).elim (fun e => by omega) (n1 x)
    have z45 : (ByteArray.mk #[45]).size = 1 := rfl
    have z47 : (ByteArray.mk #[47]).size = 1 := rfl
    have s3 := of_size b47
    have s4 := of_size b45
    rw [List.length_cons] at s3 s4
    refine Ev.neg (fun e => hq ((zero_len h).1 e)) (Ev.bind (a := ofBytes (txtN q.num.natAbs)) (by rw [h.num]; exact text_ev (by unfold dl at h1; omega)) (Ev.ite (fun hs => Ev.pos (by omega) (Ev.bind (whole_ev h) (Ev.bind (text_ev (by unfold dl at h2; omega)) ?_))) (fun hs => (Ev.bind (whole_ev h) (Ev.bind (text_ev (by unfold dl at h2; omega)) ?_)))))
    · have hs : q.num < 0 := by
        have hs : r.1 = true := hs
        rw [h.sgn] at hs
        simpa using hs
      rw [a45 _ n1, a47 _ n2]
      unfold outL
      rw [if_pos hs]
      refine Ev.ite (fun hd => ?_) (fun hd => Ev.pos (by omega) (Ev.pos (by omega) ?_))
      · rw [if_pos (eq1.1 hd), List.append_nil]
        exact Ev.now _
      · rw [if_neg (fun e => hd (eq1.2 e)), of_app b45 b47]
        exact Ev.now _
    · have hs : ¬ q.num < 0 := by
        have hs : ¬ r.1 = true := hs
        rw [h.sgn] at hs
        simpa using hs
      rw [a47 _ n2]
      unfold outL
      rw [if_neg hs, List.nil_append]
      refine Ev.ite (fun hd => ?_) (fun hd => Ev.pos (by omega) (Ev.pos (by omega) ?_))
      · rw [if_pos (eq1.1 hd), List.append_nil]
        exact Ev.now _
      · rw [if_neg (fun e => hd (eq1.2 e)), of_app n1 b47]
        exact Ev.now _
theorem told_ev {L : Nat} {q : Rat} {r : Bool × List Int × List Int} (h : Rp L q r) (hL : L ≤ 90000000000) : Ev (fun k => rat_told.f k r) (if Fit q then (ofBytes (outL q), 0) else (ByteArray.empty, 2)) := by
  refine Ev.bind (fits_ev h hL) ?_
  by_cases hf : Fit q
  · rw [if_pos hf, if_pos hf]
    exact Ev.pos rfl (Ev.bind (out_ev h hL) (Ev.now _))
  · rw [if_neg hf, if_neg hf]
    exact Ev.neg (by decide) (Ev.now _)
/-! cutting a text -/
theorem ixb (l : List UInt8) (c : UInt8) : (c ∉ l ∧ Lib.indexByte l c = -1) ∨ ∃ a b, l = a ++ c :: b ∧ c ∉ a ∧ Lib.indexByte l c = (a.length : Int) := by
  induction l with
  | nil => exact Or.inl ⟨by simp, rfl⟩
  | cons x t ih =>
    by_cases hx : x = c
    · subst hx
      exact Or.inr ⟨[], t, rfl, by simp, by simp [Lib.indexByte]⟩
    · rcases ih with ⟨h1, h2⟩ | ⟨a, b, h1, h2, h3⟩
      · left
        refine ⟨by simp [h1, Ne.symm hx], ?_⟩
        simp [Lib.indexByte, hx, h2]
      · right
        refine ⟨x :: a, b, by rw [h1]; rfl, by simp [h2, Ne.symm hx], ?_⟩
        have h4 : ¬ (Lib.indexByte t c = -1) := by omega
        simp only [Lib.indexByte, List.length_cons]
        rw [if_neg (by simpa using hx), if_neg (by simpa using h4), h3]
        omega
theorem idx47 (s : ByteArray) : ((47 : Int) ∉ bytesL s ∧ idxB s 47 = -1) ∨ ∃ a b, bytesL s = a ++ 47 :: b ∧ (47 : Int) ∉ a ∧ idxB s 47 = (a.length : Int) := by
  have hmem : ∀ l : List UInt8, (47 : UInt8) ∉ l → (47 : Int) ∉ l.map fun b => (b.toNat : Int) := by
    intro l h hm
    obtain ⟨b, hb, e⟩ := List.mem_map.1 hm
    have : b = 47 := UInt8.toNat_inj.1 (by show b.toNat = 47; omega)
    exact h (this ▸ hb)
  rcases ixb s.data.toList 47 with ⟨h1, h2⟩ | ⟨a, b, h1, h2, h3⟩
  · exact Or.inl ⟨hmem _ h1, h2⟩
  · refine Or.inr ⟨a.map fun b => (b.toNat : Int), b.map fun b => (b.toNat : Int), ?_, hmem _ h2, ?_⟩
    · unfold bytesL
      rw [h1, List.map_append, List.map_cons]; rfl
    · rw [List.length_map]; exact h3
end Go.Proofs.YtamgbcgfjhpedaaDoor.VE
