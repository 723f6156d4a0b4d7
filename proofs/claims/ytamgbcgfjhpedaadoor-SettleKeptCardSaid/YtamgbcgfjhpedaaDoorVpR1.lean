import Derived.Test.YtamgbcgfjhpedaaDoorVpT3
namespace Go.Proofs.YtamgbcgfjhpedaaDoor.VE
open Go Go.RowKit
set_option linter.unusedVariables false
attribute [local irreducible] wrap64
/-! ### package rat: a core Rat told as sign, digits, digits (no statement is proved here) -/
attribute [local irreducible] rd
def dl (n : Nat) : Nat := (dig n).length
theorem dl_mul (m n : Nat) : dl (m * n) ≤ dl m + dl n := by
  refine dig_len_le ?_
  have h1 := dig_lt m
  have h2 := dig_lt n
  rw [Bp_add, Int.natCast_mul]
  have := Int.mul_le_mul (show (m : Int) + 1 ≤ Bp (dig m).length by omega) (show (n : Int) + 1 ≤ Bp (dig n).length by omega) (by omega) B_pos'
  rw [Int.add_mul, Int.mul_add] at this
  unfold dl
  omega
theorem dl_add {m n L : Nat} (hm : dl m ≤ L) (hn : dl n ≤ L) : dl (m + n) ≤ L + 1 := by
  refine dig_len_le ?_
  have h1 := dig_lt m
  have h2 := dig_lt n
  have h3 := Bp_mono hm
  have h4 := Bp_mono hn
  unfold dl at h3 h4
  rw [show Bp (L + 1) = 1000000000 * Bp L from rfl]
  omega
theorem dl_mono {m n : Nat} (h : m ≤ n) : dl m ≤ dl n := dig_len_mono h
theorem dl_pos {n : Nat} (h : n ≠ 0) : 1 ≤ dl n := by unfold dl; rw [dig_pos h, List.length_cons]; omega
theorem dl_one : dl 1 = 1 := by unfold dl; rw [dig_pos (by omega), show 1 / 1000000000 = 0 from rfl, dig_zero]; rfl
def sg (b : Bool) (m : Nat) : Int := if b = true then -(m : Int) else (m : Int)
theorem sg_abs (b : Bool) (m : Nat) : (sg b m).natAbs = m := by unfold sg; split <;> omega
theorem sg_num (n : Int) : sg (decide (n < 0)) n.natAbs = n := by
  unfold sg
  by_cases h : n < 0
  · rw [if_pos (by simpa using h)]; omega
  · rw [if_neg (by simpa using h)]; omega
structure Rp (L : Nat) (q : Rat) (r : Bool × List Int × List Int) : Prop where
  sgn : r.1 = decide (q.num < 0)
  num : r.2.1 = dig q.num.natAbs
  den : r.2.2 = dig q.den ∨ r.2.2 = [] ∧ q.den = 1
  ln : dl q.num.natAbs ≤ L
  ld : dl q.den ≤ L
theorem Rp.up {L M : Nat} {q : Rat} {r : Bool × List Int × List Int} (h : Rp L q r) (hm : L ≤ M) : Rp M q r := ⟨h.sgn, h.num, h.den, Nat.le_trans h.ln hm, Nat.le_trans h.ld hm⟩
theorem of1 : Ev (fun k => nat_Of.f k 1) (dig 1) := of_ev (n := 1) (by omega)
theorem whole_ev {L : Nat} {q : Rat} {r : Bool × List Int × List Int} (h : Rp L q r) : Ev (fun k => rat_Q_whole.f k r) (dig q.den) := by
  rcases h.den with e | ⟨e, e1⟩
  · have := dl_pos q.den_nz
    unfold dl at this
    rw [← e] at this ⊢
    exact Ev.neg (by omega) (Ev.now _)
  · rw [e1]
    exact Ev.pos (by rw [e]; rfl) (Ev.bind of1 (Ev.now _))
theorem zero_len {L : Nat} {q : Rat} {r : Bool × List Int × List Int} (h : Rp L q r) : (r.2.1.length : Int) = 0 ↔ q = 0 := by
  rw [h.num, ← Rat.num_eq_zero]
  constructor
  · intro e
    have := dig_nil.1 (List.eq_nil_of_length_eq_zero (show (dig q.num.natAbs).length = 0 by omega))
    omega
  · intro e
    rw [e]
    show ((dig 0).length : Int) = 0
    rw [dig_zero]; rfl
theorem low_ev {b : Bool} {m d L : Nat} (hd : 0 < d) (hm : dl m ≤ L) (hdl : dl d ≤ L) (hL : L ≤ 100000000000) : EvP (fun k => rat_low.f k b (dig m) (dig d)) (Rp L (mkRat (sg b m) d)) := by
  have h1 := dl_pos (show d ≠ 0 by omega)
  by_cases h : m = 0
  · subst h
    refine EvP.pos (by rw [dig_zero]; rfl) (EvP.ret ?_)
    have e : mkRat (sg b 0) d = 0 := by
      rw [show sg b 0 = 0 by unfold sg; split <;> rfl]
      exact Rat.zero_mkRat d
    rw [e]
    exact ⟨rfl, dig_zero.symm, Or.inr ⟨rfl, rfl⟩, by show dl 0 ≤ L; unfold dl; rw [dig_zero]; exact Nat.zero_le _, by show dl 1 ≤ L; rw [dl_one]; omega⟩
  · have hl := dl_pos h
    have hg : 0 < Nat.gcd m d := Nat.gcd_pos_of_pos_right m hd
    have hgd := Nat.gcd_dvd_left m d
    have hgd2 := Nat.gcd_dvd_right m d
    have hnum : (mkRat (sg b m) d).num = sg b (m / Nat.gcd m d) := by
      rw [Rat.num_mkRat, if_neg (by omega), sg_abs, Nat.gcd_comm d m]
      unfold sg
      split
      · rw [Int.neg_ediv_of_dvd (Int.natCast_dvd_natCast.2 hgd)]; rfl
      · rfl
    have hden : (mkRat (sg b m) d).den = d / Nat.gcd m d := by
      rw [Rat.den_mkRat, if_neg (by omega), sg_abs, Nat.gcd_comm d m]
    have hmg : 0 < m / Nat.gcd m d := Nat.div_pos (Nat.le_of_dvd (by omega) hgd) hg
    have fin : Rp L (mkRat (sg b m) d) (b, dig (m / Nat.gcd m d), dig (d / Nat.gcd m d)) := by
      refine ⟨?_, by rw [hnum, sg_abs], Or.inl (by rw [hden]), by rw [hnum, sg_abs]; exact Nat.le_trans (dl_mono (Nat.div_le_self _ _)) hm, by rw [hden]; exact Nat.le_trans (dl_mono (Nat.div_le_self _ _)) hdl⟩
      rw [hnum]
      unfold sg
      cases b
      · simp; omega
      · simp; omega
    have hgl : dl (Nat.gcd m d) ≤ L := Nat.le_trans (dl_mono (Nat.le_of_dvd (by omega) hgd)) hm
    unfold dl at hl hgl hm hdl
    refine EvP.neg (by omega) (EvP.bindE (gcd_ev (by omega) (by omega)) (EvP.bindE of1 (EvP.bindE (cmp_ev (by omega)) ?_)))
    by_cases h2 : 1 < Nat.gcd m d
    · rw [cmpI_gt (by omega)]
      exact EvP.pos (by omega) (EvP.bindE (div_ev hg (by omega) (by omega)) (EvP.bindE (div_ev hg (by omega) (by omega)) (EvP.ret fin)))
    · have h3 : Nat.gcd m d = 1 := by omega
      rw [h3, Nat.div_one, Nat.div_one] at fin
      rw [h3, show ((1 : Nat) : Int) = 1 from rfl, cmpI_eq]
      exact EvP.neg (by omega) (EvP.ret fin)
theorem addQ_ev {L M : Nat} {p q : Rat} {a b : Bool × List Int × List Int} (ha : Rp L p a) (hb : Rp M q b) (hL : L + M ≤ 20000000000) : EvP (fun k => rat_Q_Add.f k a b) (Rp (L + M + 1) (p + q)) := by
  by_cases hp : p = 0
  · refine EvP.pos ((zero_len ha).2 hp) (EvP.ret ?_)
    rw [hp, Rat.zero_add]
    exact hb.up (by omega)
  · refine EvP.neg (fun e => hp ((zero_len ha).1 e)) ?_
    by_cases hq : q = 0
    · refine EvP.pos ((zero_len hb).2 hq) (EvP.ret ?_)
      rw [hq, Rat.add_zero]
      exact ha.up (by omega)
    · refine EvP.neg (fun e => hq ((zero_len hb).1 e)) ?_
      have a1 := ha.ln
      have a2 := ha.ld
      have b1 := hb.ln
      have b2 := hb.ld
      have l1 := dl_mul p.num.natAbs q.den
      have l2 := dl_mul q.num.natAbs p.den
      have l3 := dl_mul p.den q.den
      have hd : 0 < p.den * q.den := Nat.mul_pos p.den_pos q.den_pos
      rw [ha.num, hb.num, ha.sgn, hb.sgn, Rat.add_def']
      have hs := sg_num p.num
      have ht := sg_num q.num
      have ex : (p.num * (q.den : Int) + q.num * (p.den : Int)) = sg (decide (p.num < 0)) (p.num.natAbs * q.den) + sg (decide (q.num < 0)) (q.num.natAbs * p.den) := by
        conv => lhs; rw [← hs, ← ht]
        unfold sg
        split <;> split <;> simp [Int.natCast_mul, Int.neg_mul]
      rw [ex]
      have c1 : (dig q.den).length ≤ M := b2
      have c2 : (dig p.den).length ≤ L := a2
      have c3 : (dig p.num.natAbs).length ≤ L := a1
      have c4 : (dig q.num.natAbs).length ≤ M := b1
      have M1 := mul_ev (m := p.num.natAbs) (n := q.den) (by omega) (by omega)
      have M2 := mul_ev (m := q.num.natAbs) (n := p.den) (by omega) (by omega)
      clear ex hs ht
      generalize p.num.natAbs * q.den = m at M1 l1 ⊢
      generalize q.num.natAbs * p.den = n at M2 l2 ⊢
      have l4 := dl_add (L := L + M) (m := m) (n := n) (by omega) (by omega)
      have c5 : (dig m).length ≤ L + M := by unfold dl at l1 a1 b2; omega
      have c6 : (dig n).length ≤ L + M := by unfold dl at l2 b1 a2; omega
      have c7 : dl (p.den * q.den) ≤ L + M + 1 := by omega
      refine EvP.bindE (whole_ev hb) (EvP.bindE M1 (EvP.bindE (whole_ev ha) (EvP.bindE M2 (EvP.bindE (whole_ev ha) (EvP.bindE (whole_ev hb) (EvP.bindE (mul_ev (by omega) (by omega)) ?_))))))
      have sub_low : ∀ (c : Bool) (x y : Nat), y ≤ x → (dig x).length ≤ L + M → EvP (fun k => (nat_N_Sub.f k (dig x) (dig y)).bind fun r => (rat_low.f k c r (dig (p.den * q.den))).bind fun r' => some r') (Rp (L + M + 1) (mkRat (sg c (x - y)) (p.den * q.den))) := by
        intro c x y hxy hx
        exact EvP.bindE (sub_ev hxy (by omega)) (EvP.bind (low_ev hd (Nat.le_trans (dl_mono (Nat.sub_le _ _)) (show dl x ≤ L + M + 1 from Nat.le_succ_of_le hx)) c7 (by omega)) (fun r hr => EvP.ret hr))
      refine EvP.ite (fun h => ?_) (fun h => ?_)
      · have h : decide (p.num < 0) = decide (q.num < 0) := h
        rw [← h, show sg (decide (p.num < 0)) m + sg (decide (p.num < 0)) n = sg (decide (p.num < 0)) (m + n) by unfold sg; split <;> omega]
        exact EvP.bindE (add_ev (by omega) (by omega)) (EvP.bind (low_ev hd l4 c7 (by omega)) (fun r hr => EvP.ret hr))
      · have h : ¬ decide (p.num < 0) = decide (q.num < 0) := h
        refine EvP.bindE (cmp_ev (by omega)) (EvP.ite (fun h' => ?_) (fun h' => ?_))
        · have hle : n ≤ m := by
            apply Classical.byContradiction
            intro hc
            have h' : 0 ≤ cmpI (m : Int) n := h'
            rw [cmpI_lt (by omega)] at h'
            omega
          have e : sg (decide (p.num < 0)) m + sg (decide (q.num < 0)) n = sg (decide (p.num < 0)) (m - n) := by
            generalize decide (p.num < 0) = u at h ⊢
            generalize decide (q.num < 0) = w at h ⊢
            cases u <;> cases w <;> simp [sg] at h ⊢ <;> omega
          rw [e]
          exact sub_low _ m n hle c5
        · have hle : m ≤ n := by
            apply Classical.byContradiction
            intro hc
            have h' : ¬ 0 ≤ cmpI (m : Int) n := h'
            rw [cmpI_gt (by omega)] at h'
            omega
          have e : sg (decide (p.num < 0)) m + sg (decide (q.num < 0)) n = sg (decide (q.num < 0)) (n - m) := by
            generalize decide (p.num < 0) = u at h ⊢
            generalize decide (q.num < 0) = w at h ⊢
            cases u <;> cases w <;> simp [sg] at h ⊢ <;> omega
          rw [e]
          exact sub_low _ n m hle c6
theorem negQ_ev {L : Nat} {q : Rat} {b : Bool × List Int × List Int} (hb : Rp L q b) : EvP (fun k => rat_Q_Neg.f k b) (Rp L (-q)) := by
  by_cases hq : q = 0
  · refine EvP.pos ((zero_len hb).2 hq) (EvP.ret ?_)
    rw [hq] at hb ⊢
    exact hb
  · refine EvP.neg (fun e => hq ((zero_len hb).1 e)) (EvP.ret ⟨?_, ?_, ?_, ?_, ?_⟩)
    · rw [Rat.neg_num]
      show (!decide (b.1 = true)) = _
      rw [hb.sgn]
      have : q.num ≠ 0 := fun e => hq (Rat.num_eq_zero.1 e)
      by_cases h : q.num < 0
      · simp [h]; omega
      · simp [h]; omega
    · rw [Rat.neg_num, Int.natAbs_neg]; exact hb.num
    · rw [Rat.neg_den]; exact hb.den
    · rw [Rat.neg_num, Int.natAbs_neg]; exact hb.ln
    · rw [Rat.neg_den]; exact hb.ld
theorem subQ_ev {L M : Nat} {p q : Rat} {a b : Bool × List Int × List Int} (ha : Rp L p a) (hb : Rp M q b) (hL : L + M ≤ 20000000000) : EvP (fun k => rat_Q_Sub.f k a b) (Rp (L + M + 1) (p - q)) := by
  rw [Rat.sub_eq_add_neg]
  exact EvP.bind (negQ_ev hb) (fun r hr => EvP.bind (addQ_ev ha hr hL) (fun r hr => EvP.ret hr))
end Go.Proofs.YtamgbcgfjhpedaaDoor.VE
