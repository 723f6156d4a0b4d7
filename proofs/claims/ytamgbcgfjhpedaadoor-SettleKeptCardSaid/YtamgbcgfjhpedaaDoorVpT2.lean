import Derived.Test.YtamgbcgfjhpedaaDoorVpT1
namespace Go.Proofs.YtamgbcgfjhpedaaDoor.VE
open Go Go.RowKit
set_option linter.unusedVariables false
attribute [local irreducible] wrap64
/-! ### TrimLeft, nat's Text, Read, Check (no statement is proved here) -/
theorem w8 {x : Int} (h1 : 0 ≤ x) (h2 : x < 256) : IntKind.wrap .u8 x = x := by
  unfold IntKind.wrap
  simp [IntKind.bits, IntKind.signed]
  omega
theorem trimL_run : ∀ (n : Nat) (s : ByteArray), s.size = n → Ev (fun k => strings_trimLeftByte.l1 k s 48) (ofBytes ((bytesL s).dropWhile (fun x => decide (x = 48))))
  | 0, s, h => by
    have e : bytesL s = [] := List.eq_nil_of_length_eq_zero (by rw [bytesL_len, h])
    rw [e, List.dropWhile_nil, show s = ofBytes [] by rw [← e, of_bytesL]]
    exact Ev.step (fun k => strings_trimLeftByte.l1_eq k _ _) (Ev.neg (by decide) (Ev.now _))
  | n + 1, s, h => by
    have hl := bytesL_len s
    have h0 := bt_at s (i := 0) (by omega)
    cases hb : bytesL s with
    | nil => rw [hb] at hl; simp at hl; omega
    | cons x t =>
      rw [hb, List.getElem?_cons_zero, Option.some.injEq] at h0
      have h0 : bt s 0 = x := h0.symm
      refine Ev.step (fun k => strings_trimLeftByte.l1_eq k _ _) (Ev.pos (by omega) (Ev.pos (by omega) (Ev.pos (by omega) (Ev.ite (fun hc => Ev.pos (by omega) (Ev.pos (by omega) ?_)) (fun hc => ?_)))))
      · have hc : bt s 0 = 48 := hc
        have e : bytesL (s.extract (Int.toNat 1) (Int.toNat (s.size : Int))) = t := by
          rw [bytesL_extract, hb, show Int.toNat (s.size : Int) = s.size from rfl, List.take_of_length_le (by rw [← hb, hl]; omega)]; rfl
        have := trimL_run n (s.extract (Int.toNat 1) (Int.toNat (s.size : Int))) (by rw [← bytesL_len, e]; rw [hb, List.length_cons] at hl; omega)
        rw [e] at this
        rw [List.dropWhile_cons_of_pos (by simp; omega)]
        exact this
      · have hc : ¬ bt s 0 = 48 := hc
        rw [List.dropWhile_cons_of_neg (by simp; omega), ← hb, of_bytesL]
        exact Ev.now _
theorem trimLeft_ev {s : ByteArray} (h : s ≠ ByteArray.empty) : Ev (fun k => strings_TrimLeft.f k s (ByteArray.mk #[48])) (ofBytes ((bytesL s).dropWhile (fun x => decide (x = 48)))) :=
  Ev.neg h (Ev.neg (by decide) (Ev.pos (by decide) (Ev.pos (by decide) (Ev.pos (by decide) (Ev.pos (by decide) (Ev.pos (by decide) (Ev.pos (by decide) (Ev.bind (trimL_run s.size s rfl) (Ev.now _)))))))))
theorem vB_drop0 (l : List Int) : vB (l.dropWhile (fun x => decide (x = 48))) = vB l := by
  induction l with
  | nil => rfl
  | cons x t ih =>
    by_cases h : x = 48
    · rw [List.dropWhile_cons_of_pos (by simpa using h), ih, vB_cons, h]; simp
    · rw [List.dropWhile_cons_of_neg (by simpa using h)]
theorem drop0_dec {l : List Int} (h : Ds l) : l.dropWhile (fun x => decide (x = 48)) = decL (vB l) := by
  rw [← vB_drop0]
  refine dec_canon _ (fun x hx => h x (List.dropWhile_sublist _ |>.mem hx)) ?_
  intro hh
  induction l with
  | nil => simp at hh
  | cons x t ih =>
    by_cases hx : x = 48
    · rw [List.dropWhile_cons_of_pos (by simpa using hx)] at hh
      exact ih (fun y hy => h y (by simp [hy])) hh
    · rw [List.dropWhile_cons_of_neg (by simpa using hx), List.head?_cons, Option.some.injEq] at hh
      exact hx hh
theorem drop_set_cons {l : List Int} {i : Nat} (h : i < l.length) (v : Int) : (l.set i v).drop i = v :: l.drop (i + 1) := by
  rw [List.drop_eq_getElem_cons (by rw [List.length_set]; exact h), List.getElem_set_self, List.drop_set, if_pos (by omega)]
theorem blk_run (c : List Int) (x4 : Int) (out : List Int) (hb : out.length ≤ 9000000000000) (d0 : Nat) (R : ByteArray → Prop) (K : ∀ b, Ds b → b.length = 9 → vB b = d0 → EvP (fun k => nat_N_Text.l5 k c (wrap64 (x4 - 1)) (out ++ b)) R) : ∀ (i y : Nat) (xo : List Int), i ≤ 9 → xo.length = 9 → Ds (xo.drop i) → y < 10 ^ i → y * 10 ^ (9 - i) + vB (xo.drop i) = d0 →
    EvP (fun k => nat_N_Text.l10 k c x4 (y : Int) ((i : Int) - 1) out xo) R
  | 0, y, xo, hi, hl, hd, hy, hv => by
    have : y = 0 := by simpa using hy
    subst this
    rw [Nat.zero_mul, Nat.zero_add, List.drop_zero] at hv
    rw [List.drop_zero] at hd
    exact EvP.step (fun k => nat_N_Text.l10_eq k _ _ _ _ _ _) (EvP.neg (by omega) (EvP.pos hl (EvP.pos (by omega) (K xo hd hl hv))))
  | i + 1, y, xo, hi, hl, hd, hy, hv => by
    have hy9 : y < 10 ^ 9 := Nat.lt_of_lt_of_le hy (Nat.pow_le_pow_right (by omega) hi)
    have e1 : Int.tmod (y : Int) 10 = ((y % 10 : Nat) : Int) := rfl
    have e2 : Int.tdiv (y : Int) 10 = ((y / 10 : Nat) : Int) := rfl
    refine EvP.step (fun k => nat_N_Text.l10_eq k _ _ _ _ _ _) ?_
    rw [show ((i + 1 : Nat) : Int) - 1 = (i : Int) by omega, e1, e2, w32 (x := ((y / 10 : Nat) : Int)) (by omega) (by omega), w32 (x := 48 + ((y % 10 : Nat) : Int)) (by omega) (by omega), w8 (by omega) (by omega), w64 (x := (i : Int) - 1) (by omega) (by omega), show ((i : Int)).toNat = i from rfl]
    refine EvP.pos (by omega) (EvP.pos (by omega) (EvP.pos (by omega) (EvP.pos (by omega) (EvP.pos (by omega) (EvP.pos (by omega) ?_)))))
    have ed := drop_set_cons (show i < xo.length by omega) (48 + ((y % 10 : Nat) : Int))
    refine blk_run c x4 out hb d0 R K i (y / 10) _ (by omega) (by rw [List.length_set, hl]) (by rw [ed]; exact fun x hx => (List.mem_cons.1 hx).elim (fun e => by omega) (hd x)) (by rw [Nat.pow_succ] at hy; omega) ?_
    rw [ed, vB_cons, List.length_drop, hl, ← hv, show 9 - i = (9 - (i + 1)) + 1 by omega, Nat.pow_succ, show (48 + ((y % 10 : Nat) : Int) - 48).toNat = y % 10 by omega]
    have e3 : y = 10 * (y / 10) + y % 10 := by omega
    generalize 10 ^ (9 - (i + 1)) = p
    conv => rhs; rw [e3]
    grind
theorem text_run (c : List Int) (hc : Dig c) (hb : c.length ≤ 900000000000) {N : Nat} (hN : N ≠ 0) (hv : vL c = (N : Int)) : ∀ (j : Nat) (out : List Int), j ≤ c.length → Ds out → out.length + 9 * j = 9 * c.length → (vB out : Int) = vL (c.drop j) → EvP (fun k => nat_N_Text.l5 k c ((j : Int) - 1) out) (fun r => r = ofBytes (decL N))
  | 0, out, hj, hd, hl, ho => by
    rw [List.drop_zero, hv] at ho
    have ho : vB out = N := by omega
    have hne : ofBytes out ≠ ByteArray.empty := fun e => by
      have := bytesL_nil.2 e
      rw [bytesL_of hd.byte] at this
      subst this
      exact hN ho.symm
    have := trimLeft_ev hne
    rw [bytesL_of hd.byte, drop0_dec hd, ho] at this
    exact EvP.step (fun k => nat_N_Text.l5_eq k _ _ _) (EvP.neg (by omega) (EvP.bindE this (EvP.ret rfl)))
  | j + 1, out, hj, hd, hl, ho => by
    have hx := hc.at (show j < c.length by omega)
    rw [show ((j + 1 : Nat) : Int) - 1 = (j : Int) by omega]
    refine EvP.step (fun k => nat_N_Text.l5_eq k _ _ _) (EvP.pos (by omega) (EvP.pos (by omega) (EvP.pos (by omega) ?_)))
    have hdr := rU32_drop (xs := c) (i := (j : Int)) (by omega) (by omega)
    rw [show ((j : Int)).toNat = j from rfl, show ((j : Int) + 1).toNat = j + 1 from rfl] at hdr
    have hvd : vL (c.drop j) = rU32 c (j : Int) + 1000000000 * vL (c.drop (j + 1)) := by rw [hdr]; rfl
    generalize rU32 c (j : Int) = x at hx hvd ⊢
    obtain ⟨d, rfl⟩ : ∃ d : Nat, x = (d : Int) := ⟨x.toNat, by omega⟩
    refine blk_run c (j : Int) out (by omega) d _ (fun b hbd hbl hbv => ?_) 9 d [0, 0, 0, 0, 0, 0, 0, 0, 0] (by omega) rfl Ds.nil (by omega) (by simp [vB])
    rw [w64 (by omega) (by omega)]
    refine text_run c hc hb hN hv j (out ++ b) (by omega) (hd.app hbd) (by rw [List.length_append]; omega) ?_
    rw [hvd, vB_app, hbl, hbv, ← ho]
    omega
theorem text_ev {n : Nat} (hb : (dig n).length ≤ 900000000000) : Ev (fun k => nat_N_Text.f k (dig n)) (ofBytes (txtN n)) := by
  refine Ev.step (fun k => nat_N_Text.l0_eq k _) ?_
  by_cases h : n = 0
  · subst h
    exact Ev.pos (by rw [dig_zero]; rfl) (Ev.now _)
  · have hl : 0 < (dig n).length := by rw [dig_pos h, List.length_cons]; omega
    rw [w64 (x := 9 * ((dig n).length : Int)) (by omega) (by omega), w64 (x := ((dig n).length : Int) - 1) (by omega) (by omega)]
    have := text_run (dig n) (dig_dig n) hb h (vL_dig n) (dig n).length [] (Nat.le_refl _) Ds.nil (by simp) (by rw [List.drop_length]; rfl)
    unfold txtN
    rw [if_neg h]
    exact Ev.neg (by omega) (Ev.pos (by omega) (Ev.pos (by omega) (Ev.pos (by omega) (Ev.pos (by omega) (EvP.ev this)))))
theorem digits_ev {n : Nat} (hb : (dig n).length ≤ 900000000000) : Ev (fun k => nat_N_Digits.f k (dig n)) ((txtN n).length : Int) := by
  refine Ev.bind (text_ev hb) ?_
  rw [← bytesL_len, bytesL_of (txtN_ok n).1.byte]
  exact Ev.now _
end Go.Proofs.YtamgbcgfjhpedaaDoor.VE
