/- The evaluator's operations against the model's: slicing, values put together, memory made and written (lemmas; no statement is proved here). -/
import Derived.Test.YtamgbcgfjhpedaaDoorVeOpsA
namespace Go.Proofs.YtamgbcgfjhpedaaDoor.VE
open Go Go.RowKit
section
variable {P : Program} {C : Ctx} {G : Gh} {O : Nat → Obj} {w : World}
def nilV : Value → Bool
  | .pointer none => true
  | .nilIface => true
  | .nilFunc => true
  | .func (.method _) _ _ => true
  | _ => false
theorem nilL_ok (h : Core C G O w) {x : Option Lf} {cs : List Chk} {e : Eff} (he : nilL O x = some (cs, e)) {a : Value} (ha : LR G O w x a) :
    nilV a = false ∧ StepR C G O w e a w := by
  unfold nilL at he
  split at he
  · rename_i d c
    split at he <;> cases he
    rename_i e' cs hd
    have k := ha _ rfl
    have k' : OnBox (O d) (∃ b o, G.m d = some (b, o) ∧ a = .pointer (some ⟨b, o + c, none⟩)) := k.2
    rw [hd] at k'
    obtain ⟨b, o, hm, rfl⟩ := k'
    exact ⟨rfl, StepR.pure h k⟩
  · rename_i T y c
    cases he
    have k := ha _ rfl
    obtain ⟨b, o, cs, h1, h2, h3, rfl⟩ := k.2
    exact ⟨rfl, StepR.pure h k⟩
  · rename_i d i c
    split at he <;> cases he
    rename_i e' T xs fz hd
    have k := ha _ rfl
    have k' := k.2
    rw [lfb_oe, hd] at k'
    obtain ⟨h0, h1, b, o, hm, rfl⟩ := k'
    exact ⟨rfl, StepR.pure h k⟩
  · rename_i f
    cases he
    have k := ha _ rfl
    obtain rfl : a = .func (.func f) #[] #[] := k.2
    exact ⟨rfl, StepR.pure h k⟩
  · cases he

/-! slicing -/
def BndR : Option Int → Option Value → Prop
  | none, none => True
  | some i, some v => ∃ k, v = .int k i
  | _, _ => False
theorem sliceChk_ok {n : Int} {lo hi : Option Int} (h : AllP (sliceChk n lo hi)) (hn : 0 ≤ n) : 0 ≤ lo.getD 0 ∧ lo.getD 0 ≤ hi.getD n ∧ hi.getD n ≤ n := by
  cases lo with
  | none => cases hi with
    | none => exact ⟨Int.le_refl _, hn, Int.le_refl _⟩
    | some x =>
      have h1 : x ≤ n := h.cons.1
      have h2 : 0 ≤ x := h.cons.2.cons.1
      exact ⟨Int.le_refl _, h2, h1⟩
  | some l => cases hi with
    | none =>
      have h1 : 0 ≤ l := h.cons.1
      have h2 : l ≤ n := h.cons.2.cons.1
      exact ⟨h1, h2, Int.le_refl _⟩
    | some x =>
      have h1 : x ≤ n := h.cons.1
      have h2 : 0 ≤ l := h.cons.2.cons.1
      have h3 : l ≤ x := h.cons.2.cons.2.cons.1
      exact ⟨h2, h3, h1⟩
theorem run_sliceBound {k : IntKind} {i : Int} {y : Nat} {code : BoundsCode} (h0 : 0 ≤ i) (h1 : i ≤ (y : Int)) : (Instr.sliceBound (.int k i) y code).run P w = .ok i.toNat w := by
  simp [Instr.sliceBound, asIntOf, h0, h1]
theorem run_sliceBounds {s : Bool} {len cap : Nat} {lo hi : Option Int} {vlo vhi : Option Value} (hl : BndR lo vlo) (hh : BndR hi vhi) (h0 : 0 ≤ lo.getD 0) (h1 : lo.getD 0 ≤ hi.getD (len : Int)) (h2 : hi.getD (len : Int) ≤ (len : Int)) (h3 : len ≤ cap) :
    (Instr.sliceBounds s len cap vlo vhi none).run P w = .ok ((lo.getD 0).toNat, (hi.getD (len : Int)).toNat, cap) w := by
  cases hi with
  | none =>
    cases vhi with
    | some v => exact hh.elim
    | none =>
      cases lo with
      | none => cases vlo with
        | some v => exact hl.elim
        | none => simp [Instr.sliceBounds]
      | some l => cases vlo with
        | none => exact hl.elim
        | some v =>
          obtain ⟨k, rfl⟩ := hl
          simp only [Option.getD_some, Option.getD_none] at h0 h1
          simp [Instr.sliceBounds, run_sliceBound h0 h1]
  | some x =>
    cases vhi with
    | none => exact hh.elim
    | some v =>
      obtain ⟨k', rfl⟩ := hh
      simp only [Option.getD_some] at h1 h2
      have hx0 : 0 ≤ x := by omega
      have hx1 : x ≤ (cap : Int) := by omega
      have hx2 : (x.toNat : Int) = x := by omega
      cases lo with
      | none => cases vlo with
        | some v => exact hl.elim
        | none => cases s <;> simp [Instr.sliceBounds, run_sliceBound hx0 hx1]
      | some l => cases vlo with
        | none => exact hl.elim
        | some v =>
          obtain ⟨k, rfl⟩ := hl
          simp only [Option.getD_some] at h0 h1
          have hl1 : l ≤ (x.toNat : Int) := by omega
          cases s <;> simp [Instr.sliceBounds, run_sliceBound hx0 hx1, run_sliceBound h0 hl1]
theorem run_sliceAt {t el : TypeId} {A : Option Addr} {len cap : Nat} {lo hi : Option Int} {vlo vhi : Option Value} (ht : P.underlying t = some (.slice el)) (hn : P.cellsOf el ≠ 0) (hl : BndR lo vlo) (hh : BndR hi vhi) (h0 : 0 ≤ lo.getD 0) (h1 : lo.getD 0 ≤ hi.getD (len : Int)) (h2 : hi.getD (len : Int) ≤ (len : Int)) (h3 : len ≤ cap) :
    (Instr.sliceAt t (.slice A len cap) vlo vhi none).run P w = .ok (.slice (if cap = (lo.getD 0).toNat then A else A.map (·.add ((lo.getD 0).toNat * P.cellsOf el))) ((hi.getD (len : Int)).toNat - (lo.getD 0).toNat) (cap - (lo.getD 0).toNat)) w := by
  obtain ⟨inf, hi', hs⟩ := cells_ne hn
  simp [Instr.sliceAt, Instr.slice, run_underlying ht, run_sliceBounds hl hh h0 h1 h2 h3, sizeOf, typeInfo, hi', hs]
theorem subL_eq {α : Type} (xs : List α) {lo hi : Option Int} (h0 : 0 ≤ lo.getD 0) (h2 : hi.getD ((xs.length : Nat) : Int) ≤ ((xs.length : Nat) : Int)) : subL xs lo hi = (xs.drop (lo.getD 0).toNat).take ((hi.getD ((xs.length : Nat) : Int)).toNat - (lo.getD 0).toNat) := by
  cases lo <;> cases hi
  · simp [subL]
  · simp [subL]
  · simp only [subL, Option.getD_some, Option.getD_none, Int.toNat_natCast]
    rw [List.take_of_length_le (by rw [List.length_drop]; omega)]
  · simp only [subL, Option.getD_some]
    rw [List.drop_take]
theorem sliceL_ok (h : Core C G O w) {t : TypeId} {x : Option Lf} {lo hi : Option Int} {cs : List Chk} {e : Eff} (he : sliceL P t O x lo hi = some (cs, e)) (hc : AllP cs) {a : Value} {vlo vhi : Option Value} (ha : LR G O w x a) (hl : BndR lo vlo) (hh : BndR hi vhi) :
    Does P C G O w (Instr.sliceAt t a vlo vhi none) e := by
  unfold sliceL at he
  split at he
  · rename_i ht
    split at he <;> cases he
    rename_i s
    obtain rfl := ha.str
    obtain ⟨h0, h1, h2⟩ := sliceChk_ok hc (Int.natCast_nonneg _)
    refine Does.pure h (v := .string (ByteArray.extract s (lo.getD 0).toNat (hi.getD ((s : ByteArray).size : Int)).toNat)) ?_ (lf_str _)
    have hb := run_sliceBounds (P := P) (w := w) (s := false) hl hh h0 h1 h2 (Nat.le_refl _)
    simp [Instr.sliceAt, Instr.slice, run_underlying ht, hb]
  · rename_i el ht
    split at he
    · by_cases hz : P.cellsOf el ≠ 0
      · rw [if_pos hz] at he
        cases he
        obtain ⟨h0, h1, h2⟩ := sliceChk_ok hc (Int.le_refl _)
        obtain rfl : a = .slice none 0 0 := (ha _ rfl).2
        have hb := run_sliceAt (P := P) (w := w) (A := none) (len := 0) (cap := 0) ht hz hl hh h0 h1 h2 (Nat.le_refl _)
        have h2' : hi.getD 0 ≤ 0 := h2
        have h1' : lo.getD 0 ≤ hi.getD 0 := h1
        have e1 : (lo.getD 0).toNat = 0 := by omega
        have e2 : (hi.getD ((0 : Nat) : Int)).toNat = 0 := by show (hi.getD 0).toNat = 0; omega
        rw [e1, e2] at hb
        exact Does.pure h hb ⟨rfl, rfl⟩
      · rw [if_neg hz] at he
        cases he
    · rename_i e' T xs
      by_cases hz : T.sz = P.cellsOf el ∧ T.sz ≠ 0
      · rw [if_pos hz] at he
        cases he
        obtain ⟨h0, h1, h2⟩ := sliceChk_ok hc (Int.natCast_nonneg _)
        obtain ⟨A, c, k1, k2, k3⟩ := (show Rep G.F w (.list e' T) xs [a] from (ha _ rfl).2)
        obtain rfl : a = .slice A (List.length xs) c := by simpa using k1
        have hcn : P.cellsOf el ≠ 0 := by rw [← hz.1]; exact hz.2
        refine Does.pure h (run_sliceAt ht hcn hl hh h0 h1 h2 k2) (LfR.of rfl ?_)
        have hsub := subL_eq (xs : List T.T) (lo := lo) (hi := hi) h0 h2
        rw [hsub]
        have hlen : ((List.drop (lo.getD 0).toNat xs).take ((hi.getD ((List.length xs : Nat) : Int)).toNat - (lo.getD 0).toNat)).length = (hi.getD ((List.length xs : Nat) : Int)).toNat - (lo.getD 0).toNat := by
          rw [List.length_take, List.length_drop]; omega
        refine ⟨_, _, by rw [hlen], by rw [hlen]; omega, fun hp => ?_⟩
        rw [hlen] at hp
        obtain ⟨b, o, rfl, hF, hcell⟩ := k3 (by omega)
        refine ⟨b, o + (lo.getD 0).toNat * P.cellsOf el, by rw [if_neg (by omega)]; simp [add_mk], hF, fun j y hj => ?_⟩
        have hj' : (xs : List T.T)[(lo.getD 0).toNat + j]? = some y := by
          rw [List.getElem?_take] at hj
          split at hj
          · rw [List.getElem?_drop] at hj; exact hj
          · cases hj
        obtain ⟨ce, c1, c2, c3⟩ := hcell _ y hj'
        refine ⟨ce, c1, c2, fun i u hu => ?_⟩
        have := c3 i u hu
        rw [← this, Nat.add_mul, hz.1]
        congr 2
        omega
      · rw [if_neg hz] at he
        cases he
    · rename_i d
      split at he
      · rename_i e' T xs fz hd
        by_cases hz : T.sz = P.cellsOf el ∧ T.sz ≠ 0
        · rw [if_pos hz] at he
          have hcn : P.cellsOf el ≠ 0 := by rw [← hz.1]; exact hz.2
          have hv := ha _ rfl
          obtain ⟨k1, A, c, rfl, k2, k3, k4⟩ := row_hdr hd hv
          have key : ∀ cs' e'', cs' = sliceChk ((List.length xs : Nat) : Int) lo hi → AllP cs' → e'' = (⟨.lf (.os d (lo.getD 0).toNat ((hi.getD ((List.length xs : Nat) : Int)).toNat - (lo.getD 0).toNat)), [d], []⟩ : Eff) → Does P C G O w (Instr.sliceAt t (.slice A (List.length xs) c) vlo vhi none) e'' := by
            rintro cs' e'' rfl hc rfl
            obtain ⟨h0, h1, h2⟩ := sliceChk_ok hc (Int.natCast_nonneg _)
            refine Does.pure h (run_sliceAt ht hcn hl hh h0 h1 h2 k2) ⟨rfl, ?_⟩
            show OnRow (O d) (fun t n => HdR G d t.sz n _ _ _)
            rw [hd]
            refine ⟨by omega, _, _, rfl, by omega, by omega, fun hp => ?_⟩
            obtain ⟨b, o, hm, rfl⟩ := k4 (by omega)
            refine ⟨b, o, hm, ?_⟩
            rw [if_neg (by omega)]
            simp [add_mk, hz.1]
          cases lo with
          | none => cases hi with
            | none =>
              cases he
              have hb := run_sliceAt (P := P) (w := w) (A := A) (lo := none) (hi := none) ht hcn hl hh (Int.le_refl _) (Int.natCast_nonneg _) (Int.le_refl _) k2
              refine Does.pure h hb ?_
              simp only [Option.getD_none, Int.toNat_zero, Nat.zero_mul, Nat.sub_zero, Int.toNat_natCast]
              have e1 : (if c = 0 then A else A.map (·.add 0)) = A := by
                split
                · rfl
                · cases A <;> simp [Addr.add]
              rw [e1]
              exact hv
            | some x => cases he; exact key _ _ rfl hc rfl
          | some l => cases hi <;> cases he <;> exact key _ _ rfl hc rfl
        · rw [if_neg hz] at he
          cases he
      · cases he
    · rename_i d off len
      split at he
      · rename_i e' T xs fz hd
        by_cases hz : T.sz = P.cellsOf el ∧ T.sz ≠ 0
        · rw [if_pos hz] at he
          cases he
          have hcn : P.cellsOf el ≠ 0 := by rw [← hz.1]; exact hz.2
          obtain ⟨k1, A, c, rfl, k2, k3, k4⟩ := row_hdrs hd (ha _ rfl)
          obtain ⟨h0, h1, h2⟩ := sliceChk_ok hc (Int.natCast_nonneg _)
          refine Does.pure h (run_sliceAt ht hcn hl hh h0 h1 h2 k2) ⟨rfl, ?_⟩
          show OnRow (O d) (fun t n => HdR G d t.sz n _ _ _)
          rw [hd]
          refine ⟨by omega, _, _, rfl, by omega, by omega, fun hp => ?_⟩
          obtain ⟨b, o, hm, rfl⟩ := k4 (by omega)
          refine ⟨b, o, hm, ?_⟩
          rw [if_neg (by omega)]
          simp only [Option.map_some, add_mk, hz.1, Nat.add_mul]
          rw [Nat.add_assoc]
        · rw [if_neg hz] at he
          cases he
      · cases he
    · cases he
  · cases he

/-! values put together -/
theorem splice_R {R : Lf → Value → Prop} {ls new : List Lf} {vs nv : List Value} (h : All2 R ls vs) (hn : All2 R new nv) (c : Nat) : All2 R (splice ls c new) (vs.take c ++ nv ++ vs.drop (c + nv.length)) := by
  unfold splice
  rw [hn.length]
  exact ((h.take c).append hn).append (h.drop _)
theorem foldl_set (cells : Array Value) (off : Nat) : ∀ (l : List Value) (k : Nat), off + k + l.length ≤ cells.size →
    ((l.zipIdx k).foldl (fun cs (c, j) => cs.setIfInBounds (off + j) c) cells) = (cells.toList.take (off + k) ++ l ++ cells.toList.drop (off + k + l.length)).toArray := by
  intro l
  induction l generalizing cells with
  | nil => intro k h; simp
  | cons x l ih =>
    intro k h
    rw [List.zipIdx_cons, List.foldl_cons, ih (cells.setIfInBounds (off + k) x) (k + 1) (by simp at h ⊢; omega)]
    simp only [List.length_cons] at h
    have hk : off + k < cells.size := by omega
    congr 1
    have e1 : off + (k + 1) = off + k + 1 := by omega
    rw [e1, Array.toList_setIfInBounds, List.take_succ_eq_append_getElem (by simp; omega)]
    simp only [List.getElem_set_self]
    rw [List.take_set_of_le (by omega)] 
    rw [List.drop_set_of_lt (by omega)]
    have e2 : off + k + 1 + l.length = off + k + (l.length + 1) := by omega
    rw [e2]
    simp
theorem fill_R {R : Lf → Value → Prop} {pl : Nat → Option (Nat × Nat)} : ∀ {ps : List (Nat × List Lf)} {qs : List (Nat × Value)} {cells : List Lf} {vs : Array Value} {out : List Lf}, All2 (fun p q => p.1 = q.1 ∧ All2 R p.2 q.2.cells.toList) ps qs → All2 R cells vs.toList → fillL pl cells ps = some out →
    ∃ vo, Instr.fill pl vs qs = some vo ∧ All2 R out vo.toList
  | [], qs, cells, vs, out, h, hc, e => by
    obtain rfl := h.nil_inv
    cases e
    exact ⟨vs, rfl, hc⟩
  | (i, v) :: ps, qs, cells, vs, out, h, hc, e => by
    obtain ⟨⟨i', v'⟩, qs, rfl, ⟨e1, h1⟩, h2⟩ := h.cons_inv
    simp only at e1 h1
    subst e1
    unfold fillL at e
    unfold Instr.fill
    cases hp : pl i with
    | none => rw [hp] at e; cases e
    | some os =>
      obtain ⟨off, size⟩ := os
      rw [hp] at e
      simp only at e ⊢
      by_cases hz : v.length = size ∧ off + size ≤ cells.length
      · rw [if_pos hz] at e
        have l1 := h1.length
        have l2 := hc.length
        have l3 : v'.cells.size = size := by rw [← hz.1, l1]; simp
        have l4 : ¬ (off + v'.cells.size > vs.size) := by
          have : vs.toList.length = vs.size := by simp
          omega
        have hcond : (decide (v'.cells.size ≠ size) || decide (off + v'.cells.size > vs.size)) = false := by
          simp [l3]
          have : vs.toList.length = vs.size := by simp
          omega
        simp only [ne_eq] at hcond
        have hb := foldl_set vs off v'.cells.toList 0 (by
          have : vs.toList.length = vs.size := by simp
          simp only [Nat.add_zero, Array.length_toList]; omega)
        have hz0 : v'.cells.zipIdx.foldl (fun cs (c, j) => cs.setIfInBounds (off + j) c) vs = (v'.cells.toList.zipIdx 0).foldl (fun cs (c, j) => cs.setIfInBounds (off + j) c) vs := by
          rw [← Array.foldl_toList]
          simp
        obtain ⟨vo, k1, k2⟩ := fill_R (vs := (v'.cells.zipIdx.foldl (fun cs (c, j) => cs.setIfInBounds (off + j) c) vs)) h2 (by
          rw [hz0, hb]
          simpa using splice_R hc h1 off) e
        refine ⟨vo, ?_, k2⟩
        rw [if_neg (by rw [hcond]; simp)]
        exact k1
      · rw [if_neg hz] at e
        cases e
theorem zeroL_ok {t : TypeId} {ls : List Lf} (e : zeroL P t = some ls) : ∃ i z, P.info? t = some i ∧ i.zero = some z ∧ (zeroValue t).run P w = .ok z w ∧ All2 (LfR G O w) ls z.cells.toList := by
  unfold zeroL at e
  split at e
  · rename_i i hi
    split at e
    · rename_i z hz
      exact ⟨i, z, hi, hz, by simp [zeroValue, typeInfo, hi, hz], cells_R (ofValue_R z) e⟩
    · cases e
  · cases e
end
end Go.Proofs.YtamgbcgfjhpedaaDoor.VE
