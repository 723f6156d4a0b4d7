import Derived.Test.YtamgbcgfjhpedaaDoorVpT2
namespace Go.Proofs.YtamgbcgfjhpedaaDoor.VE
open Go Go.RowKit
set_option linter.unusedVariables false
attribute [local irreducible] wrap64
/-! ### nat's Read and Check (no statement is proved here) -/
theorem vB_take_le {l : List Int} (h : Ds l) (hl : l.length ≤ 9) (j : Nat) : vB (l.take j) < 1000000000 := by
  have h1 := vB_lt _ (h.take j)
  have h2 : 10 ^ (l.take j).length ≤ 10 ^ 9 := Nat.pow_le_pow_right (by omega) (by rw [List.length_take]; omega)
  have : (10 : Nat) ^ 9 = 1000000000 := rfl
  omega
theorem take_oneB {c : List Int} {j : Nat} (h : j < c.length) : c.take (j + 1) = c.take j ++ [rU8 c (j : Int)] := by
  have hg := rU8_some (xs := c) (i := (j : Int)) (by omega) (by omega)
  rw [show ((j : Int)).toNat = j from rfl, List.getElem?_eq_getElem h] at hg
  rw [← Option.some.inj hg, List.take_append_getElem h]
theorem read7 (s : ByteArray) (x4 : Int) (ch : List Int) (hc : Ds ch) (hl : ch.length ≤ 9) (acc : List Int) (hacc : acc.length ≤ 9000000000000) (R : List Int → Prop) (K : EvP (fun k => nat_Read.l3 k s (wrap64 (x4 - 9)) (acc ++ [(vB ch : Int)])) R) : ∀ (m j : Nat), j + m = ch.length → EvP (fun k => nat_Read.l7 k s x4 ((vB (ch.take j) : Nat) : Int) ch (ch.length : Int) (j : Int) acc) R
  | 0, j, hj => by
    rw [List.take_of_length_le (by omega)]
    exact EvP.step (fun k => nat_Read.l7_eq k _ _ _ _ _ _ _) (EvP.neg (by omega) (EvP.pos (by rw [List.length_singleton]; omega) K))
  | m + 1, j, hj => by
    have hx := hc _ (rU8_mem (xs := ch) (i := (j : Int)) (by omega) (by omega))
    have h1 := vB_take_le hc hl j
    have ih := read7 s x4 ch hc hl acc hacc R K m (j + 1) (by omega)
    have h2 := vB_take_le hc hl (j + 1)
    rw [take_oneB (show j < ch.length by omega), vB_snoc] at ih h2
    have e1 : ((10 * vB (ch.take j) + (rU8 ch (j : Int) - 48).toNat : Nat) : Int) = (vB (ch.take j) : Int) * 10 + (rU8 ch (j : Int) - 48) := by omega
    refine EvP.step (fun k => nat_Read.l7_eq k _ _ _ _ _ _ _) (EvP.pos (by omega) (EvP.pos (by omega) (EvP.pos (by omega) ?_)))
    rw [e1] at ih
    rw [w8 (x := rU8 ch (j : Int) - 48) (by omega) (by omega), w32 (x := rU8 ch (j : Int) - 48) (by omega) (by omega), w32 (x := (vB (ch.take j) : Int) * 10) (by omega) (by omega), w32 (x := (vB (ch.take j) : Int) * 10 + (rU8 ch (j : Int) - 48)) (by omega) (by omega), w64 (x := (j : Int) + 1) (by omega) (by omega)]
    exact ih
theorem read_run (s : ByteArray) {l : List Int} (hs : bytesL s = l) (hl : Ds l) (hb : l.length ≤ 900000000000) : ∀ (d : Nat) (x4 : Int) (acc : List Int), x4.toNat ≤ d → x4 ≤ l.length → -9 ≤ x4 → Dig acc → (acc.length : Int) + x4 ≤ l.length → ((vB l : Nat) : Int) = vB (l.take x4.toNat) * Bp acc.length + vL acc → EvP (fun k => nat_Read.l3 k s x4 acc) (fun r => r = dig (vB l))
  | 0, x4, acc, hd, h1, h2, ha, hL, hv => by
    rw [show x4.toNat = 0 by omega, List.take_zero] at hv
    have hv : ((vB l : Nat) : Int) = 0 * Bp acc.length + vL acc := hv
    exact EvP.step (fun k => nat_Read.l3_eq k _ _ _) (EvP.neg (by omega) (EvP.bindE (trim_ev (by omega) ha (n := vB l) (by omega)) (EvP.ret rfl)))
  | d + 1, x4, acc, hd, h1, h2, ha, hL, hv => by
    have hsz : s.size = l.length := by rw [← bytesL_len, hs]
    by_cases h0 : x4 ≤ 0
    · rw [show x4.toNat = 0 by omega, List.take_zero] at hv
      have hv : ((vB l : Nat) : Int) = 0 * Bp acc.length + vL acc := hv
      exact EvP.step (fun k => nat_Read.l3_eq k _ _ _) (EvP.neg (by omega) (EvP.bindE (trim_ev (by omega) ha (n := vB l) (by omega)) (EvP.ret rfl)))
    · have hm := mx_ge 0 (wrap64 (x4 - 9))
      rw [w64 (x := x4 - 9) (by omega) (by omega)] at hm
      refine EvP.step (fun k => nat_Read.l3_eq k _ _ _) ?_
      rw [w64 (x := x4 - 9) (by omega) (by omega)]
      generalize mx 0 (x4 - 9) = q at hm ⊢
      refine EvP.pos (by omega) (EvP.pos (by omega) (EvP.pos (by omega) (EvP.pos (by omega) ?_)))
      rw [bytesL_extract, hs]
      have hcl : ((l.take x4.toNat).drop q.toNat).length = x4.toNat - q.toNat := by rw [List.length_drop, List.length_take]; omega
      have hch : Ds ((l.take x4.toNat).drop q.toNat) := (hl.take _).drop _
      have hsplit : l.take x4.toNat = l.take q.toNat ++ (l.take x4.toNat).drop q.toNat := by
        conv => lhs; rw [← List.take_append_drop q.toNat (l.take x4.toNat)]
        rw [List.take_take, Nat.min_eq_left (by omega)]
      have hvs := vB_app (l.take q.toNat) ((l.take x4.toNat).drop q.toNat)
      rw [← hsplit, hcl] at hvs
      have hvc := vB_take_le hch (by omega) 9
      rw [List.take_of_length_le (by omega)] at hvc
      refine read7 s x4 _ hch (by omega) acc (by omega) _ ?_ _ 0 (Nat.zero_add _)
      rw [w64 (by omega) (by omega)]
      refine read_run s hs hl hb d (x4 - 9) _ (by omega) (by omega) (by omega) (ha.append (Dig.mk (by omega) (fun x hx => by cases hx))) (by rw [List.length_append, List.length_singleton]; omega) ?_
      rw [vL_append, vL_one, List.length_append, List.length_singleton, show Bp (acc.length + 1) = 1000000000 * Bp acc.length from rfl, hv, hvs, show (x4 - 9).toNat = q.toNat by omega]
      by_cases h9 : 9 ≤ x4
      · rw [show x4.toNat - q.toNat = 9 by omega, show (10 : Nat) ^ 9 = 1000000000 from rfl]
        grind
      · rw [show q.toNat = 0 by omega, List.take_zero, show vB [] = 0 from rfl]
        grind
theorem read_ev {s : ByteArray} (hl : Ds (bytesL s)) (hb : s.size ≤ 900000000000) : Ev (fun k => nat_Read.f k s) (dig (vB (bytesL s))) := by
  have hz := bytesL_len s
  refine EvP.ev (read_run s rfl hl (by omega) s.size (s.size : Int) [] (by omega) (by omega) (by omega) (fun x hx => by cases hx) (by rw [List.length_nil]; omega) ?_)
  rw [show ((s.size : Int)).toNat = s.size from rfl, List.take_of_length_le (by omega)]
  show _ = _ * (1 : Int) + 0
  omega
/-- A number's text as it must be. -/
def DecOk (s : ByteArray) : Prop := Ds (bytesL s) ∧ bytesL s = txtN (vB (bytesL s)) ∧ s.size ≤ 2000
theorem chk_run (s : ByteArray) (l : List Int) (hb : l.length ≤ 140737488355328) : ∀ (m j : Nat), j + m = l.length → EvP (fun k => nat_Check.l4 k s l (l.length : Int) (j : Int)) (fun r => (r = 5 ∨ r = 2 ∨ r = 0) ∧ (r = 0 ↔ Ds (l.drop j) ∧ s.size ≤ 2000))
  | 0, j, hj => by
    rw [List.drop_eq_nil_of_le (by omega)]
    refine EvP.step (fun k => nat_Check.l4_eq k _ _ _ _) (EvP.neg (by omega) (EvP.ite (fun h => EvP.ret ⟨by simp, ?_⟩) (fun h => EvP.ret ⟨by simp, ?_⟩)))
    · exact ⟨fun e => by omega, fun e => by omega⟩
    · exact ⟨fun _ => ⟨Ds.nil, by omega⟩, fun _ => rfl⟩
  | m + 1, j, hj => by
    have hdr := rU8_drop (xs := l) (i := (j : Int)) (by omega) (by omega)
    rw [show ((j : Int)).toNat = j from rfl, show ((j : Int) + 1).toNat = j + 1 from rfl] at hdr
    have ih := chk_run s l hb m (j + 1) (by omega)
    rw [hdr]
    refine EvP.step (fun k => nat_Check.l4_eq k _ _ _ _) ?_
    rw [w64 (x := (j : Int) + 1) (by omega) (by omega)]
    generalize rU8 l (j : Int) = x
    refine EvP.pos (by omega) (EvP.pos (by omega) (EvP.pos (by omega) (EvP.ite (fun h => EvP.ret ⟨by simp, fun e => by omega, fun e => ?_⟩) (fun h => EvP.ite (fun h' => EvP.ret ⟨by simp, fun e => by omega, fun e => ?_⟩) (fun h' => ih.mono ?_)))))
    · have := e.1 x (by simp); omega
    · have := e.1 x (by simp); omega
    · rintro r ⟨g1, g2⟩
      refine ⟨g1, g2.trans ⟨fun e => ⟨fun y hy => ?_, e.2⟩, fun e => ⟨fun y hy => e.1 y (by simp [hy]), e.2⟩⟩⟩
      rcases List.mem_cons.1 hy with rfl | hy
      · omega
      · exact e.1 y hy
theorem check_ev {s : ByteArray} (hb : s.size ≤ 140737488355328) : EvP (fun k => nat_Check.f k s) (fun r => (r = 5 ∨ r = 2 ∨ r = 0) ∧ (r = 0 ↔ DecOk s)) := by
  have hz := bytesL_len s
  have main : ((bytesL s).head? = some 48 → (bytesL s).length = 1) → bytesL s ≠ [] → EvP (fun k => nat_Check.l4 k s (bytesL s) ((bytesL s).length : Int) 0) (fun r => (r = 5 ∨ r = 2 ∨ r = 0) ∧ (r = 0 ↔ DecOk s)) := by
    intro h1 h2
    refine (chk_run s (bytesL s) (by omega) _ 0 (Nat.zero_add _)).mono ?_
    rintro r ⟨g1, g2⟩
    rw [List.drop_zero] at g2
    exact ⟨g1, g2.trans ⟨fun e => ⟨e.1, txt_canon e.1 h2 h1, e.2⟩, fun e => ⟨e.1, e.2.2⟩⟩⟩
  by_cases he : s = ByteArray.empty
  · refine EvP.pos he (EvP.ret ⟨by simp, fun e => by omega, fun e => ?_⟩)
    have := (txtN_ok (vB (bytesL s))).2.2
    rw [← e.2.1] at this
    exact absurd (bytesL_nil.2 he) this
  · have hn : bytesL s ≠ [] := fun e => he (bytesL_nil.1 e)
    have hl : 0 < s.size := by
      rw [← hz]; exact List.length_pos_iff.2 hn
    have h0 := bt_at s (i := 0) hl
    have hh : (bytesL s).head? = some (bt s 0) := by rw [List.head?_eq_getElem?]; exact h0
    refine EvP.neg he (EvP.pos (by omega) (EvP.pos (by omega) (EvP.ite (fun h => EvP.ite (fun h' => EvP.ret ⟨by simp, fun e => by omega, fun e => ?_⟩) (fun h' => main (fun _ => by omega) hn)) (fun h => main (fun e => ?_) hn))))
    · exfalso
      have h : bt s 0 = 48 := h
      have e1 := e.2.1
      unfold txtN at e1
      split at e1
      · have : (bytesL s).length = 1 := by rw [e1]; rfl
        omega
      · obtain ⟨x, t, e2, hx⟩ := (decL_ok (vB (bytesL s))).2.2 (by assumption)
        rw [e1, e2, List.head?_cons, Option.some.injEq] at hh
        omega
    · have h : ¬ bt s 0 = 48 := h
      rw [hh, Option.some.injEq] at e
      omega
theorem decOk_of {n : Nat} (h : (txtN n).length ≤ 2000) : DecOk (ofBytes (txtN n)) := by
  obtain ⟨h1, h2, h3⟩ := txtN_ok n
  unfold DecOk
  rw [← bytesL_len, bytesL_of h1.byte, h2]
  exact ⟨h1, rfl, h⟩
end Go.Proofs.YtamgbcgfjhpedaaDoor.VE
