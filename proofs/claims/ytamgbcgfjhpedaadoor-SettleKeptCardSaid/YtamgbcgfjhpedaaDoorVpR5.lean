import Derived.Test.YtamgbcgfjhpedaaDoorVpR4
namespace Go.Proofs.YtamgbcgfjhpedaaDoor.VE
open Go Go.RowKit
set_option linter.unusedVariables false
attribute [local irreducible] wrap64
/-! ### rat: Sign, Cmp, Int, Floor, Integer, Sub, Compare, Of (no statement is proved here) -/
attribute [local irreducible] rd
def sgnQ (q : Rat) : Int := if q = 0 then 0 else if q.num < 0 then -1 else 1
theorem num_neg_iff (q : Rat) : q.num < 0 ↔ q < 0 := by
  have := @Rat.num_nonneg q
  constructor
  · intro h
    refine Rat.not_le.1 (fun hc => ?_)
    have := this.2 hc
    omega
  · intro h
    apply Classical.byContradiction
    intro hc
    have := this.1 (by omega)
    exact Rat.not_le.2 h this
theorem sgnQ_neg (q : Rat) : sgnQ q < 0 ↔ q < 0 := by
  unfold sgnQ
  split
  · rename_i h; subst h; simp
  · split
    · rename_i h; simp only [(num_neg_iff q).1 h]; simp
    · rename_i h
      constructor
      · intro e; omega
      · intro e; exact absurd ((num_neg_iff q).2 e) h
theorem sgnQ_zero (q : Rat) : sgnQ q = 0 ↔ q = 0 := by
  unfold sgnQ
  split
  · rename_i h; exact ⟨fun _ => h, fun _ => rfl⟩
  · rename_i h
    split
    · exact ⟨fun e => by omega, fun e => absurd e h⟩
    · exact ⟨fun e => by omega, fun e => absurd e h⟩
theorem sgnQ_pos (q : Rat) : 0 < sgnQ q ↔ 0 < q := by
  have h1 := sgnQ_neg q
  have h2 := sgnQ_zero q
  constructor
  · intro h
    have a1 : ¬ q < 0 := fun e => by have := h1.2 e; omega
    have a2 : q ≠ 0 := fun e => by have := h2.2 e; omega
    grind
  · intro h
    have a1 : ¬ sgnQ q < 0 := fun e => by have := h1.1 e; grind
    have a2 : sgnQ q ≠ 0 := fun e => by have := h2.1 e; grind
    omega
theorem sign_ev {L : Nat} {q : Rat} {r : Bool × List Int × List Int} (h : Rp L q r) : Ev (fun k => rat_Q_Sign.f k r) (sgnQ q) := by
  unfold sgnQ
  by_cases hq : q = 0
  · rw [if_pos hq]
    exact Ev.pos ((zero_len h).2 hq) (Ev.now _)
  · rw [if_neg hq]
    refine Ev.neg (fun e => hq ((zero_len h).1 e)) ?_
    by_cases hn : q.num < 0
    · rw [if_pos hn]
      exact Ev.pos (by rw [h.sgn]; simpa using hn) (Ev.now _)
    · rw [if_neg hn]
      exact Ev.neg (by rw [h.sgn]; simpa using hn) (Ev.now _)
theorem cmpQ_ev {L M : Nat} {p q : Rat} {a b : Bool × List Int × List Int} (ha : Rp L p a) (hb : Rp M q b) (hL : L + M ≤ 20000000000) : Ev (fun k => rat_Q_Cmp.f k a b) (sgnQ (p - q)) :=
  EvP.ev (EvP.bind (subQ_ev ha hb hL) (fun _ hr => EvP.bindE (sign_ev hr) (EvP.ret rfl)))
theorem dl_i64 {n : Nat} (h : n ≤ 9223372036854775808) : dl n ≤ 3 := dig_len_le (by show (n : Int) < 1000000000 * (1000000000 * (1000000000 * 1)); omega)
theorem int_ev {a : Int} (h0 : -9223372036854775807 ≤ a) (h1 : a ≤ 9223372036854775807) : EvP (fun k => rat_Int.f k a) (Rp 3 (a : Rat)) := by
  have hl := dl_i64 (n := a.natAbs) (by omega)
  have h1' : dl 1 ≤ 3 := by rw [dl_one]; omega
  have fin : ∀ b : Bool, b = decide (a < 0) → Rp 3 (a : Rat) (b, dig a.natAbs, dig 1) := fun b hb => ⟨by rw [Rat.num_intCast]; exact hb, by rw [Rat.num_intCast], Or.inl (by rw [Rat.den_intCast]), by rw [Rat.num_intCast]; exact hl, by rw [Rat.den_intCast]; exact h1'⟩
  refine EvP.ite (fun h => ?_) (fun h => ?_)
  · have h : a < 0 := h
    rw [w64 (x := 0 - a) (by omega) (by omega), show 0 - a = ((a.natAbs : Nat) : Int) by omega]
    exact EvP.bindE (of_ev (by omega)) (EvP.bindE of1 (EvP.ret (fin true (by simp [h]))))
  · have h : ¬ a < 0 := h
    have e : a = ((a.natAbs : Nat) : Int) := by omega
    rw [show nat_Of.f = nat_Of.f from rfl]
    have o := of_ev (n := a.natAbs) (by omega)
    rw [← e] at o
    exact EvP.bindE o (EvP.bindE of1 (EvP.ret (fin false (by simp [h]))))
theorem ediv_is {a b q r : Int} (hb : 0 < b) (h : r + b * q = a) (h0 : 0 ≤ r) (h1 : r < b) : a / b = q := ((Int.ediv_emod_unique hb).2 ⟨h, h0, h1⟩).1
theorem down_ev {L : Nat} {q : Rat} {r : Bool × List Int × List Int} (h : Rp L q r) (hL : L ≤ 10000000000) : EvP (fun k => rat_Q_down.f k r) (Rp (L + 1) (q.floor : Rat)) := by
  have l1 := h.ln
  have l2 := h.ld
  have hd := q.den_pos
  have h1 := dl_one
  have hlp := dl_pos q.den_nz
  have hx : dl (q.num.natAbs / q.den) ≤ L := Nat.le_trans (dl_mono (Nat.div_le_self _ _)) l1
  have D := div_ev (x := q.num.natAbs) hd (by unfold dl at l1; omega) (by unfold dl at l2; omega)
  rw [← h.num] at D
  have low := fun (b : Bool) (x : Nat) (hx : dl x ≤ L + 1) (e : sg b x = q.floor) => (low_ev (b := b) (m := x) (d := 1) (L := L + 1) (by omega) hx (by omega) (by omega)).mono (fun r hr => by rw [Rat.mkRat_one, e] at hr; exact hr)
  have hdm := Nat.div_add_mod q.num.natAbs q.den
  have hml := Nat.mod_lt q.num.natAbs hd
  have hdi : (q.den : Int) * ((q.num.natAbs / q.den : Nat) : Int) + ((q.num.natAbs % q.den : Nat) : Int) = (q.num.natAbs : Int) := by
    rw [← Int.natCast_mul, ← Int.natCast_add, hdm]
  have hb : 0 < (q.den : Int) := by omega
  refine EvP.bindE (whole_ev h) (EvP.bindE D ?_)
  rw [h.sgn]
  refine EvP.ite (fun hn => ?_) (fun hn => ?_)
  · have hn : decide (q.num < 0) = true := hn
    have hn' : q.num < 0 := by simpa using hn
    refine EvP.ite (fun hm => EvP.bindE of1 (EvP.bindE (add_ev (by unfold dl at hx; omega) (by unfold dl at h1; omega)) (EvP.bindE of1 (EvP.bind (low _ _ (dl_add hx (by omega)) ?_) (fun r hr => EvP.ret hr))))) (fun hm => EvP.bindE of1 (EvP.bind (low _ _ (by omega) ?_) (fun r hr => EvP.ret hr)))
    · have hm : 0 < ((dig (q.num.natAbs % q.den)).length : Int) := hm
      have hm0 : q.num.natAbs % q.den ≠ 0 := fun e => by rw [e, dig_zero] at hm; simp at hm
      rw [Rat.floor_def, hn]
      unfold sg
      rw [if_pos rfl]
      refine (ediv_is (r := (q.den : Int) - ((q.num.natAbs % q.den : Nat) : Int)) hb ?_ (by omega) (by omega)).symm
      rw [show (((q.num.natAbs / q.den + 1 : Nat)) : Int) = ((q.num.natAbs / q.den : Nat) : Int) + 1 from rfl, Int.mul_neg, Int.mul_add]
      omega
    · have hm : ¬ 0 < ((dig (q.num.natAbs % q.den)).length : Int) := hm
      have hm0 : q.num.natAbs % q.den = 0 := dig_nil.1 (List.eq_nil_of_length_eq_zero (by omega))
      rw [Rat.floor_def, hn]
      unfold sg
      rw [if_pos rfl]
      refine (ediv_is (r := 0) hb ?_ (by omega) (by omega)).symm
      rw [Int.mul_neg]
      omega
  · have hn : ¬ decide (q.num < 0) = true := hn
    have hn' : ¬ q.num < 0 := by simpa using hn
    refine EvP.bindE of1 (EvP.bind (low _ _ (by omega) ?_) (fun r hr => EvP.ret hr))
    rw [Rat.floor_def]
    unfold sg
    rw [if_neg hn]
    exact (ediv_is (r := ((q.num.natAbs % q.den : Nat) : Int)) hb (by omega) (by omega) (by omega)).symm
theorem floor_ev {p : ByteArray} {q : Rat} (h : OutOk p q) : Ev (fun k => rat_Floor.f k p) (if Fit (q.floor : Rat) then (ofBytes (outL (q.floor : Rat)), 0) else (ByteArray.empty, 2)) :=
  EvP.ev (EvP.bindE (ratCheck_ok h) (EvP.pos rfl (EvP.bind (in_ev h) (fun _ hx => EvP.bind (down_ev hx (by omega)) (fun _ hy => EvP.bindE (told_ev hy (by omega)) (EvP.ret rfl))))))
theorem ratSub_ev {a b : ByteArray} {p q : Rat} (ha : OutOk a p) (hb : OutOk b q) : Ev (fun k => rat_Sub.f k a b) (if Fit (p - q) then (ofBytes (outL (p - q)), 0) else (ByteArray.empty, 2)) :=
  EvP.ev (EvP.bind (P := fun r => r = (if Fit (p - q) then (ofBytes (outL (p - q)), 0) else (ByteArray.empty, 2))) (EvP.bindE (checkAll_ok (by simp) (two_ok ha hb)) (EvP.pos rfl (EvP.bind (in_ev ha) (fun x hx => EvP.bind (in_ev hb) (fun y hy => EvP.bind (subQ_ev hx hy (by omega)) (fun z hz => EvP.bindE (told_ev hz (by omega)) (EvP.ret rfl))))))) (fun r hr => EvP.ret hr))
theorem compare_ev {a b : ByteArray} {p q : Rat} (ha : OutOk a p) (hb : OutOk b q) : Ev (fun k => rat_Compare.f k a b) (sgnQ (p - q), 0) :=
  EvP.ev (EvP.bindE (checkAll_ok (by simp) (two_ok ha hb)) (EvP.pos rfl (EvP.bind (in_ev ha) (fun x hx => EvP.bind (in_ev hb) (fun y hy => EvP.bindE (cmpQ_ev hx hy (by omega)) (EvP.ret rfl))))))
theorem ratOf_ev {n : Int} (h0 : -9223372036854775808 ≤ n) (h1 : n ≤ 9223372036854775807) : Ev (fun k => rat_Of.f k n 1) (if Fit (n : Rat) then (ofBytes (outL (n : Rat)), 0) else (ByteArray.empty, 2)) := by
  have hl := dl_i64 (n := n.natAbs) (by omega)
  have d1 := dl_one
  have S : Ev (fun k => rat_size.f k n) (dig n.natAbs) := by
    refine Ev.ite (fun h => ?_) (fun h => ?_)
    · have h : 0 ≤ n := h
      have o := of_ev (n := n.natAbs) (by omega)
      rw [show ((n.natAbs : Nat) : Int) = n by omega] at o
      exact Ev.bind o (Ev.now _)
    · have h : ¬ 0 ≤ n := h
      rw [w64 (x := n + 1) (by omega) (by omega), w64 (x := 0 - (n + 1)) (by omega) (by omega)]
      have o := of_ev (n := n.natAbs - 1) (by omega)
      rw [show ((n.natAbs - 1 : Nat) : Int) = 0 - (n + 1) by omega] at o
      have hl' := dl_i64 (n := n.natAbs - 1) (by omega)
      have a := add_ev (m := n.natAbs - 1) (n := 1) (by unfold dl at hl'; omega) (by unfold dl at d1; omega)
      rw [show n.natAbs - 1 + 1 = n.natAbs by omega] at a
      exact Ev.bind o (Ev.bind of1 (Ev.bind a (Ev.now _)))
  have S1 : Ev (fun k => rat_size.f k 1) (dig 1) := Ev.pos (by decide) (Ev.bind of1 (Ev.now _))
  refine EvP.ev (EvP.neg (by decide) (EvP.bindE S (EvP.bindE S1 (EvP.bind (low_ev (L := 3) (by omega) hl (by omega) (by omega)) (fun r hr => ?_)))))
  have e : mkRat (sg (!decide (decide (n < 0) = decide ((1 : Int) < 0))) n.natAbs) 1 = (n : Rat) := by
    rw [Rat.mkRat_one]
    have : (!decide (decide (n < 0) = decide ((1 : Int) < 0))) = decide (n < 0) := by
      by_cases h : n < 0 <;> simp [h]
    rw [this, sg_num]
  rw [e] at hr
  exact EvP.bindE (told_ev hr (by omega)) (EvP.ret rfl)
end Go.Proofs.YtamgbcgfjhpedaaDoor.VE
