import Derived.Test.YtodagcbcdkfniaaVpPDuS2
namespace Go.Proofs.Ytodagcbcdkfniaa.VE
open Go Go.RowKit
set_option linter.unusedVariables false
attribute [local irreducible] wrap64
/-! ### package dual: the rows of Single (no statement is proved here) -/
theorem getD_snoc {α : Type} (l : List α) (x d : α) (t : Nat) : (l ++ [x]).getD t d = if t < l.length then l.getD t d else if t = l.length then x else d := by
  rw [List.getD_eq_getElem?_getD, List.getD_eq_getElem?_getD]
  split
  · rw [List.getElem?_append_left (by omega)]
  · rw [List.getElem?_append_right (by omega)]
    split
    · rename_i h2; rw [h2, Nat.sub_self]; rfl
    · rw [List.getElem?_eq_none (by simp; omega)]; rfl
section
variable {u : Un}
structure RowI (u : Un) (p : List Int) (t : Nat) (row : List Cl) : Prop where
  ne : 0 < row.length
  len : row.length ≤ 2 ^ t
  ok : ∀ c ∈ row, StateOk u.1 c.1 ∧ (-(2000000000000 * (t : Int)) ≤ c.2.1 ∧ c.2.1 ≤ 2000000000000 * (t : Int))
  cov : ∀ ps s c, ps.length = t → runF u.1 u.2.2 ps = some (s, c) → Cov u.1 row s (valS u ps (p.take t) - c)
structure RowsI (u : Un) (p : List Int) (rows : List (List Cl)) : Prop where
  ne : 0 < rows.length
  row : ∀ t : Nat, t < rows.length → RowI u p t (rows.getD t [])
  back : ∀ t : Nat, 0 < t → t < rows.length → ∀ c ∈ rows.getD t [], 0 ≤ c.2.2 ∧ c.2.2 < ((rows.getD (t - 1) []).length : Int)
theorem take_snoc (p : List Int) (t : Nat) (h : t < p.length) : p.take (t + 1) = p.take t ++ [rI64 p (t : Int)] := by
  rw [List.take_succ_eq_append_getElem h]
  have := rI64_get p t p[t] (List.getElem?_eq_getElem h)
  rw [this]
theorem RowI.next (h : UnitOk u) {p : List Int} {t : Nat} (ht : t < p.length) {prev : List Cl} (hr : RowI u p t prev) {next : List Cl} (hN : NextI u (earnN u (rI64 p (t : Int))) (pf u (rI64 p (t : Int)) (earnN u (rI64 p (t : Int)))) (t : Int) prev prev.length next) : RowI u p (t + 1) next := by
  have hlen := hN.len; have hl := hr.len; have hne := hr.ne
  refine ⟨hN.ne (by omega), by rw [Nat.pow_succ]; omega, fun c hc => ?_, fun ps s c hps e => ?_⟩
  · obtain ⟨a, b, _⟩ := hN.ok c hc
    exact ⟨a, by omega, by omega⟩
  · obtain ⟨ps', q, rfl, hl'⟩ := snoc_of hps
    obtain ⟨s', c', e1, e2, rfl, rfl⟩ := runF_some e
    obtain ⟨x, hx, x1, x2⟩ := hr.cov ps' s' c' hl' e1
    have hs' := (run_ok h.rule t ps' hl' h.st s' c' e1).1
    have hxs := (hr.ok x hx).1
    have en := earnN_rng h (rI64 p (t : Int))
    obtain ⟨j, hj⟩ := List.mem_iff_getElem?.1 hx
    have hjl : j < prev.length := by
      apply Classical.byContradiction
      intro hc
      rw [List.getElem?_eq_none (by omega)] at hj
      cases hj
    have C := hN.cov j x (by omega) hj
    obtain ⟨n1, n2, n3⟩ := next_sim h hs' hxs x1 en e2
    rw [take_snoc p t ht, valS_snoc (by rw [hl', List.length_take]; omega)]
    by_cases hq : q = -1
    · subst hq
      rw [if_pos rfl] at n1 n2 n3
      obtain ⟨y, hy, y1, y2⟩ := C.off n1
      refine ⟨y, hy, y1.trans n3, ?_⟩
      have hz : mx (-1) 0 = 0 := by decide
      have := (next_ok h.rule hs' e2).2.2.2.1
      rw [hz, pf_zero h]
      omega
    · rw [if_neg hq] at n1 n2 n3
      obtain ⟨y, hy, y1, y2⟩ := C.on n1
      refine ⟨y, hy, y1.trans n3, ?_⟩
      have qr := (next_ok h.rule hs' e2).2.2.1
      have l0 := h.rule.le0
      have hz : mx q 0 = q := by unfold mx; split <;> omega
      have hb := pf_best h (rI64 p (t : Int)) (n := q) (by omega) (by omega)
      rw [hz]
      omega
def InP (p : List Int) : Prop := ∀ x ∈ p, -2000000 ≤ x ∧ x ≤ 2000000
theorem rows_loop (h : UnitOk u) (p : List Int) (hpl : p.length ≤ 8) (hin : InP p) (Q : List Int × Int × Int → Prop) (cont : ∀ rows, RowsI u p rows → rows.length = p.length + 1 → EvP (fun k => Sg14 u k p p (p.length : Int) (p.length : Int) rows) Q) : ∀ (d t : Nat) (rows : List (List Cl)), p.length - t = d → t ≤ p.length → RowsI u p rows → rows.length = t + 1 → EvP (fun k => Sg14 u k p p (p.length : Int) (t : Int) rows) Q := by
  intro d
  induction d with
  | zero =>
    intro t rows h0 h1 hR hl
    obtain rfl : t = p.length := by omega
    exact cont rows hR hl
  | succ d ih =>
    intro t rows h0 h1 hR hl
    have htl : (t : Int) < (p.length : Int) := by omega
    have htn : t < p.length := by omega
    have hpow : 2 ^ t ≤ 2 ^ 8 := Nat.pow_le_pow_right (by decide) (by omega)
    have hpp := hin _ (rI64_mem (xs := p) (i := (t : Int)) (by omega) htl)
    have hn := earnN_rng h (rI64 p (t : Int))
    have l0 := h.rule.le0; have lm := h.rule.mo
    have he := pf_rng h hpp (n := earnN u (rI64 p (t : Int))) (by omega) (by omega)
    have w1 : wrap64 ((rows.length : Int) - 1) = (t : Int) := by rw [w64 (by omega) (by omega)]; omega
    have w2 : wrap64 ((t : Int) + 1) = ((t + 1 : Nat) : Int) := by rw [w64 (by omega) (by omega)]; omega
    have hrow := hR.row t (by omega)
    have er : rd (.list 117 Y11) rows (t : Int) = rows.getD t [] := rfl
    have hlen := hrow.len
    have hE := earn_ev h hpp
    have hX : ∀ next, NextI u (earnN u (rI64 p (t : Int))) (pf u (rI64 p (t : Int)) (earnN u (rI64 p (t : Int)))) (t : Int) (rows.getD t []) (rows.getD t []).length next → RowI u p (t + 1) next := fun next hN => hrow.next h htn hN
    have h0t : (0 : Int) ≤ (t : Int) := Int.natCast_nonneg t
    generalize pf u (rI64 p (t : Int)) (earnN u (rI64 p (t : Int))) = e at *
    generalize earnN u (rI64 p (t : Int)) = n at *
    refine EvP.step (fun k => dual_Single.l14_eq k _ _ _ _ _ _ _ _ _ _ _ _ _ _ _ _ _ _) (EvP.pos htl (EvP.pos h0t (EvP.pos htl (EvP.bindE hE ?_))))
    clear hE hpp
    rw [w1, er]
    refine EvP.pos (by omega) (EvP.pos (by omega) ?_)
    refine cell_loop h p p _ _ (t : Int) hn he (by omega) (p.length : Int) (rows.getD t []) (by omega) hrow.ok rows (by omega) Q (fun next hN => ?_) (rows.getD t []).length 0 [] (by omega) (by omega) ⟨by simp, (fun hh => absurd hh (by omega)), (fun c hc => by cases hc), (fun j c hj => absurd hj (by omega))⟩
    rw [w2]
    have hrow' := hX next hN
    refine ih (t + 1) (rows ++ [next]) (by omega) (by omega) ⟨by simp, fun t' ht' => ?_, fun t' h0' ht' c hc => ?_⟩ (by simp; omega)
    · rw [List.length_append, List.length_singleton] at ht'
      rw [getD_snoc]
      by_cases e : t' < rows.length
      · rw [if_pos e]; exact hR.row t' e
      · obtain rfl : t' = rows.length := by omega
        rw [if_neg (by omega), if_pos rfl, hl]
        exact hrow'
    · rw [List.length_append, List.length_singleton] at ht'
      rw [getD_snoc] at hc
      by_cases e : t' < rows.length
      · rw [if_pos e] at hc
        rw [getD_snoc, if_pos (show t' - 1 < rows.length by omega)]
        exact hR.back t' h0' e c hc
      · obtain rfl : t' = rows.length := by omega
        rw [if_neg (by omega), if_pos rfl] at hc
        rw [getD_snoc, if_pos (show rows.length - 1 < rows.length by omega), show rows.length - 1 = t by omega]
        exact (hN.ok c hc).2.2
/-- What Single answers. -/
structure SingleP (u : Un) (p : List Int) (r : List Int × Int × Int) : Prop where
  err : r.2.2 = 0
  len : r.1.length = p.length
  rng : -16000000000000 ≤ r.2.1 ∧ r.2.1 ≤ 16000000000000
  best : ∀ ps s c, ps.length = p.length → runF u.1 u.2.2 ps = some (s, c) → valS u ps p - c ≤ r.2.1
abbrev Sg33 (u : Un) (k : Nat) (p : List Int) (last : List Cl) (b : Int) (last' : List Cl) (M x : Int) (rows : List (List Cl)) := dual_Single.l33 k p last b last' M x u.1.1 u.1.2.1 u.1.2.2.1 u.1.2.2.2.1 u.1.2.2.2.2.1 u.1.2.2.2.2.2.1 u.1.2.2.2.2.2.2.1 u.1.2.2.2.2.2.2.2 u.2.1.1 u.2.1.2 u.2.2.1 u.2.2.2.1 u.2.2.2.2 rows
abbrev Sg41 (u : Un) (k : Nat) (p : List Int) (b v t : Int) (rows : List (List Cl)) (out : List Int) := dual_Single.l41 k p b v t u.1.1 u.1.2.1 u.1.2.2.1 u.1.2.2.2.1 u.1.2.2.2.2.1 u.1.2.2.2.2.2.1 u.1.2.2.2.2.2.2.1 u.1.2.2.2.2.2.2.2 u.2.1.1 u.2.1.2 u.2.2.1 u.2.2.2.1 u.2.2.2.2 rows out
theorem back_loop (h : UnitOk u) (p : List Int) (hpl : p.length ≤ 8) (hin : InP p) (rows : List (List Cl)) (hR : RowsI u p rows) (hl : rows.length = p.length + 1) (v : Int) : ∀ (d : Nat) (b : Int) (out : List Int), d ≤ p.length → 0 ≤ b → b < ((rows.getD d []).length : Int) → out.length = p.length → EvP (fun k => Sg41 u k p b v (d : Int) rows out) (fun r => r.2.2 = 0 ∧ r.1.length = p.length ∧ r.2.1 = v) := by
  intro d
  induction d with
  | zero =>
    intro b out hd h0 h1 ho
    exact EvP.step (fun k => dual_Single.l41_eq k _ _ _ _ _ _ _ _ _ _ _ _ _ _ _ _ _ _ _) (EvP.neg (by omega) (EvP.ret ⟨rfl, ho, rfl⟩))
  | succ d ih =>
    intro b out hd h0 h1 ho
    have w1 : wrap64 (((d + 1 : Nat) : Int) - 1) = (d : Int) := by rw [w64 (by omega) (by omega)]; omega
    have er : rd (.list 117 Y11) rows ((d + 1 : Nat) : Int) = rows.getD (d + 1) [] := rfl
    have hb := hR.back (d + 1) (by omega) (by omega) _ (rY11_mem (xs := rows.getD (d + 1) []) h0 h1)
    rw [show d + 1 - 1 = d by omega] at hb
    have hpp := hin _ (rI64_mem (xs := p) (i := (d : Int)) (by omega) (by omega))
    have hset : ((out.set (d : Int).toNat (-1)).length : Int) = (p.length : Int) := by rw [List.length_set]; omega
    refine EvP.step (fun k => dual_Single.l41_eq k _ _ _ _ _ _ _ _ _ _ _ _ _ _ _ _ _ _ _) ?_
    rw [w1, er]
    refine EvP.pos (by omega) (EvP.pos (by omega) (EvP.pos (by omega) (EvP.pos h0 (EvP.pos h1 (EvP.pos (by omega) (EvP.pos (by omega) ?_))))))
    refine EvP.ite (fun _ => ?_) (fun _ => ?_)
    · refine EvP.pos (by omega) (EvP.pos (by omega) (EvP.bindE (earn_ev h hpp) (EvP.pos (by omega) (EvP.pos (by omega) ?_))))
      exact ih _ _ (by omega) hb.1 hb.2 (by rw [List.length_set, List.length_set]; exact ho)
    · exact ih _ _ (by omega) hb.1 hb.2 (by rw [List.length_set]; exact ho)
theorem best_loop (h : UnitOk u) (p : List Int) (hpl : p.length ≤ 8) (hin : InP p) (rows : List (List Cl)) (hR : RowsI u p rows) (hl : rows.length = p.length + 1) (last : List Cl) (hlast : last = rows.getD p.length []) : ∀ (d : Nat) (x b : Int), 0 ≤ x → (last.length : Int) - x = d → 0 ≤ b → b < (last.length : Int) → (∀ j : Nat, (j : Int) < x → ∀ c, last[j]? = some c → c.2.1 ≤ (rY11 last b).2.1) → EvP (fun k => Sg33 u k p last b last (last.length : Int) x rows) (SingleP u p) := by
  have hrow := hR.row p.length (by omega)
  rw [← hlast] at hrow
  have hlen := hrow.len
  have hpow : 2 ^ p.length ≤ 2 ^ 8 := Nat.pow_le_pow_right (by omega) (by omega)
  intro d
  induction d with
  | zero =>
    intro x b h0 h1 b0 b1 hb
    have hm := rY11_mem b0 b1
    have hbk := (hrow.ok _ hm).2
    refine EvP.step (fun k => dual_Single.l33_eq k _ _ _ _ _ _ _ _ _ _ _ _ _ _ _ _ _ _ _ _) (EvP.neg (by omega) (EvP.pos b0 (EvP.pos b1 (EvP.pos (by omega) (EvP.pos (by omega) (EvP.pos (by omega) ?_))))))
    refine (back_loop h p hpl hin rows hR hl _ p.length b _ (Nat.le_refl _) b0 (by rw [← hlast]; exact b1) (by simp)).mono (fun r hr => ⟨hr.1, hr.2.1, ?_, fun ps s c hps e => ?_⟩)
    · rw [hr.2.2]; omega
    · obtain ⟨y, hy, y1, y2⟩ := hrow.cov ps s c hps e
      rw [List.take_length] at y2
      obtain ⟨j, hj⟩ := List.mem_iff_getElem?.1 hy
      have hjl : j < last.length := by
        apply Classical.byContradiction
        intro hc
        rw [List.getElem?_eq_none (by omega)] at hj
        cases hj
      have := hb j (by omega) y hj
      rw [hr.2.2]; omega
  | succ d ih =>
    intro x b h0 h1 b0 b1 hb
    have hlt : x < (last.length : Int) := by omega
    have hg := rY11_some h0 hlt
    refine EvP.step (fun k => dual_Single.l33_eq k _ _ _ _ _ _ _ _ _ _ _ _ _ _ _ _ _ _ _ _) (EvP.pos hlt (EvP.pos h0 (EvP.pos hlt (EvP.pos b0 (EvP.pos b1 ?_)))))
    rw [w64 (x := x + 1) (by omega) (by omega)]
    refine EvP.ite (fun hc => ih (x + 1) x (by omega) (by omega) h0 hlt (fun j hj c hjc => ?_)) (fun hc => ih (x + 1) b (by omega) (by omega) b0 b1 (fun j hj c hjc => ?_))
    · by_cases hjx : (j : Int) < x
      · have := hb j hjx c hjc; omega
      · obtain rfl : j = x.toNat := by omega
        rw [hg] at hjc
        rw [Option.some.inj hjc]
        exact Int.le_refl _
    · by_cases hjx : (j : Int) < x
      · exact hb j hjx c hjc
      · obtain rfl : j = x.toNat := by omega
        rw [hg] at hjc
        rw [← Option.some.inj hjc]
        omega
theorem single_ev (h : UnitOk u) {p : List Int} (hpl : p.length ≤ 8) (hin : InP p) : EvP (fun k => dual_Single.f k u p) (SingleP u p) := by
  unfold dual_Single.f
  refine EvP.bindE h.ck (EvP.pos rfl (EvP.neg (by omega) ?_))
  have start : EvP (fun k => Sg14 u k p p (p.length : Int) 0 [[(cutU u.1 u.2.2, 0, 0)]]) (SingleP u p) := by
    refine rows_loop h p hpl hin _ (fun rows hR hl => ?_) p.length 0 _ (by omega) (by omega) ⟨by simp, fun t ht => ?_, fun t h0 ht => ?_⟩ rfl
    · have w1 : wrap64 ((rows.length : Int) - 1) = (p.length : Int) := by rw [w64 (by omega) (by omega)]; omega
      have hrow := hR.row p.length (by omega)
      have er : rd (.list 117 Y11) rows (p.length : Int) = rows.getD p.length [] := rfl
      refine EvP.step (fun k => dual_Single.l14_eq k _ _ _ _ _ _ _ _ _ _ _ _ _ _ _ _ _ _) (EvP.neg (by omega) ?_)
      rw [w1, er]
      have := hrow.ne
      exact EvP.pos (by omega) (EvP.pos (by omega) (best_loop h p hpl hin rows hR hl _ rfl (rows.getD p.length []).length 0 0 (by omega) (by omega) (by omega) (by omega) (fun j hj => absurd hj (by omega))))
    · have : t = 0 := by simpa using ht
      subst this
      refine ⟨by simp, by simp, fun c hc => ?_, fun ps s c hps e => ?_⟩
      · rw [List.mem_singleton.1 (show c ∈ [(cutU u.1 u.2.2, 0, 0)] from hc)]
        exact ⟨cut_ok h.rule h.st, by simp, by simp⟩
      · rw [List.eq_nil_of_length_eq_zero hps] at e ⊢
        cases e
        exact ⟨(cutU u.1 u.2.2, 0, 0), List.mem_singleton.2 rfl, cut_same _ _, by simp [valS]⟩
    · have : t = 0 := by simpa using ht
      omega
  have l7 : ∀ (d : Nat) (i : Int), 0 ≤ i → (p.length : Int) - i = d → EvP (fun k => dual_Single.l7 k p p (p.length : Int) i u.1.1 u.1.2.1 u.1.2.2.1 u.1.2.2.2.1 u.1.2.2.2.2.1 u.1.2.2.2.2.2.1 u.1.2.2.2.2.2.2.1 u.1.2.2.2.2.2.2.2 u.2.1.1 u.2.1.2 u.2.2.1 u.2.2.2.1 u.2.2.2.2) (SingleP u p) := by
    intro d
    induction d with
    | zero =>
      intro i h0 h1
      refine EvP.step (fun k => dual_Single.l7_eq k _ _ _ _ _ _ _ _ _ _ _ _ _ _ _ _ _) (EvP.neg (by omega) (EvP.bindE (cut_ev (u := u) u.2.2) start))
    | succ d ih =>
      intro i h0 h1
      have hlt : i < (p.length : Int) := by omega
      have := hin _ (rI64_mem h0 hlt)
      refine EvP.step (fun k => dual_Single.l7_eq k _ _ _ _ _ _ _ _ _ _ _ _ _ _ _ _ _) (EvP.pos hlt (EvP.pos h0 (EvP.pos hlt (EvP.neg (by omega) (EvP.neg (by omega) ?_)))))
      rw [w64 (x := i + 1) (by omega) (by omega)]
      exact ih (i + 1) (by omega) (by omega)
  exact l7 p.length 0 (by omega) (by omega)
end
end Go.Proofs.Ytodagcbcdkfniaa.VE
