/- The stable sort of slices: from its functions' equations, for any type of elements (lemmas; no statement is proved here). -/
import Derived.Test.YtamgbcgfjhpedaaDoorVpMerge
namespace Go.Proofs.YtamgbcgfjhpedaaDoor.Srt
open Go Go.RowKit Go.Proofs.YtamgbcgfjhpedaaDoor.VE
set_option linter.unusedVariables false
set_option linter.unusedSimpArgs false
/-- The middle of two places, as the code has it. -/
def half (a b : Int) : Int := wrap64 ((IntKind.u64.wrap (wrap64 (a + b))) / 2)
theorem half_eq {a b : Int} (h1 : 0 ≤ a) (h2 : 0 ≤ b) (h3 : a ≤ 1152921504606846976) (h4 : b ≤ 1152921504606846976) : half a b = (a + b) / 2 := by
  unfold half
  rw [w64 (x := a + b) (by omega) (by omega)]
  have : IntKind.u64.wrap (a + b) = a + b := by
    unfold IntKind.wrap
    simp only [IntKind.signed, IntKind.bits, Bool.false_and, Bool.false_eq_true, if_false]
    omega
  rw [this, w64 (by omega) (by omega)]
/-- The functions of the sort. -/
structure Sys (α : Type) where
  z : α
  cmp : Nat → α → α → Option Int
  i0 : Nat → List α → Int → Int → Int → Option (List α)
  i1 : Nat → List α → Int → Int → Int → Int → Option (List α)
  w0 : Nat → List α → Int → Int → Int → Int → Option (List α)
  r0 : Nat → List α → Int → Int → Int → Option (List α)
  m0 : Nat → List α → Int → Int → Int → Option (List α)
  m1 : Nat → List α → Int → Int → Option (List α)
  m2 : Nat → List α → Int → Int → Int → Option (List α)
  m3 : Nat → List α → Int → Int → Option (List α)
  j4 : Nat → List α → Int → Int → Int → Int → Int → Int → Int → Option (List α)
  l4 : Nat → List α → Int → Int → Int → Int → Int → Int → Int → Int → Option (List α)
  j7 : Nat → List α → Int → Int → Int → Int → Int → Option (List α)
  mf : Nat → List α → Int → Int → Int → Option (List α)
  s0 : Nat → List α → Int → Int → Int → Int → Option (List α)
  s1 : Nat → List α → Int → Int → Option (List α)
  s2 : Nat → List α → Int → Int → Int → Int → Option (List α)
def Sys.tl {α : Type} (S : Sys α) (k : Nat) (t : List α) (x3 x18 x24 : Int) : Option (List α) := if x18 < x24 then (if x24 < x3 then ((S.mf k t x18 x24 x3).bind fun u => some u) else some t) else some t
def Sys.rd {α : Type} (S : Sys α) (xs : List α) (i : Int) : α := xs.getD i.toNat S.z
/-- Their equations. -/
structure Eqs {α : Type} (S : Sys α) : Prop where
  i0 : ∀ k x0 x1 x2 x8, S.i0 (k + 1) x0 x1 x2 x8 = if x8 < x2 then S.i1 k x0 x1 x2 x8 x8 else some x0
  i1 : ∀ k x0 x1 x2 x8 x9, S.i1 (k + 1) x0 x1 x2 x8 x9 = if x9 > x1 then (if 0 ≤ x9 then (if x9 < (x0.length : Int) then (if 0 ≤ wrap64 (x9 - 1) then (if wrap64 (x9 - 1) < (x0.length : Int) then ((S.cmp k (S.rd x0 x9) (S.rd x0 (wrap64 (x9 - 1)))).bind fun t => (if t < 0 then S.i1 k ((x0.set (x9 : Int).toNat (S.rd x0 (wrap64 (x9 - 1)))).set (wrap64 (x9 - 1)).toNat (S.rd x0 x9)) x1 x2 x8 (wrap64 (x9 - 1)) else S.i0 k x0 x1 x2 (wrap64 (x8 + 1)))) else none) else none) else none) else none) else S.i0 k x0 x1 x2 (wrap64 (x8 + 1))
  w0 : ∀ k x0 x1 x2 x3 x10, S.w0 (k + 1) x0 x1 x2 x3 x10 = if x10 < x3 then (if 0 ≤ wrap64 (x2 + x10) then (if wrap64 (x2 + x10) < (x0.length : Int) then (if 0 ≤ wrap64 (x1 + x10) then (if wrap64 (x1 + x10) < (x0.length : Int) then S.w0 k ((x0.set (wrap64 (x1 + x10)).toNat (S.rd x0 (wrap64 (x2 + x10)))).set (wrap64 (x2 + x10)).toNat (S.rd x0 (wrap64 (x1 + x10)))) x1 x2 x3 (wrap64 (x10 + 1)) else none) else none) else none) else none) else some x0
  r0 : ∀ k x0 x2 x10 x11, S.r0 (k + 1) x0 x2 x10 x11 = if x10 = x11 then ((S.w0 k x0 (wrap64 (x2 - x10)) x2 x10 0).bind fun t => some t) else (if x10 > x11 then ((S.w0 k x0 (wrap64 (x2 - x10)) x2 x11 0).bind fun t => S.r0 k t x2 (wrap64 (x10 - x11)) x11) else ((S.w0 k x0 (wrap64 (x2 - x10)) (wrap64 (wrap64 (x2 + x11) - x10)) x10 0).bind fun t => S.r0 k t x2 x10 (wrap64 (x11 - x10))))
  m0 : ∀ k x0 x1 x10 x11, S.m0 (k + 1) x0 x1 x10 x11 = if x10 < x11 then (if 0 ≤ half x10 x11 then (if half x10 x11 < (x0.length : Int) then (if 0 ≤ x1 then (if x1 < (x0.length : Int) then ((S.cmp k (S.rd x0 (half x10 x11)) (S.rd x0 x1)).bind fun t => (if t < 0 then S.m0 k x0 x1 (wrap64 (half x10 x11 + 1)) x11 else S.m0 k x0 x1 x10 (half x10 x11))) else none) else none) else none) else none) else S.m1 k x0 x10 x1
  m1 : ∀ k x0 x10 x13, S.m1 (k + 1) x0 x10 x13 = if x13 < wrap64 (x10 - 1) then (if 0 ≤ wrap64 (x13 + 1) then (if wrap64 (x13 + 1) < (x0.length : Int) then (if 0 ≤ x13 then (if x13 < (x0.length : Int) then S.m1 k ((x0.set (x13 : Int).toNat (S.rd x0 (wrap64 (x13 + 1)))).set (wrap64 (x13 + 1)).toNat (S.rd x0 x13)) x10 (wrap64 (x13 + 1)) else none) else none) else none) else none) else some x0
  m2 : ∀ k x0 x2 x14 x15, S.m2 (k + 1) x0 x2 x14 x15 = if x14 < x15 then (if 0 ≤ x2 then (if x2 < (x0.length : Int) then (if 0 ≤ half x14 x15 then (if half x14 x15 < (x0.length : Int) then ((S.cmp k (S.rd x0 x2) (S.rd x0 (half x14 x15))).bind fun t => (if t < 0 then S.m2 k x0 x2 x14 (half x14 x15) else S.m2 k x0 x2 (wrap64 (half x14 x15 + 1)) x15)) else none) else none) else none) else none) else S.m3 k x0 x14 x2
  m3 : ∀ k x0 x14 x17, S.m3 (k + 1) x0 x14 x17 = if x17 > x14 then (if 0 ≤ wrap64 (x17 - 1) then (if wrap64 (x17 - 1) < (x0.length : Int) then (if 0 ≤ x17 then (if x17 < (x0.length : Int) then S.m3 k ((x0.set (x17 : Int).toNat (S.rd x0 (wrap64 (x17 - 1)))).set (wrap64 (x17 - 1)).toNat (S.rd x0 x17)) x14 (wrap64 (x17 - 1)) else none) else none) else none) else none) else some x0
  j4 : ∀ k x0 x1 x2 x3 x18 x19 x20 x21, S.j4 (k + 1) x0 x1 x2 x3 x18 x19 x20 x21 = S.l4 k x0 x1 x2 x3 x18 x19 x20 x21 (wrap64 (x19 - 1))
  l4 : ∀ k x0 x1 x2 x3 x18 x19 x20 x21 x22, S.l4 (k + 1) x0 x1 x2 x3 x18 x19 x20 x21 x22 = if x20 < x21 then (if 0 ≤ wrap64 (x22 - half x20 x21) then (if wrap64 (x22 - half x20 x21) < (x0.length : Int) then (if 0 ≤ half x20 x21 then (if half x20 x21 < (x0.length : Int) then ((S.cmp k (S.rd x0 (wrap64 (x22 - half x20 x21))) (S.rd x0 (half x20 x21))).bind fun t => (if t < 0 then S.l4 k x0 x1 x2 x3 x18 x19 x20 (half x20 x21) x22 else S.l4 k x0 x1 x2 x3 x18 x19 (wrap64 (half x20 x21 + 1)) x21 x22)) else none) else none) else none) else none) else (if x20 < x2 then (if x2 < wrap64 (x19 - x20) then ((S.r0 k x0 x2 (wrap64 (x2 - x20)) (wrap64 (wrap64 (x19 - x20) - x2))).bind fun t => S.j7 k t x1 x3 x18 x20 (wrap64 (x19 - x20))) else S.j7 k x0 x1 x3 x18 x20 (wrap64 (x19 - x20))) else S.j7 k x0 x1 x3 x18 x20 (wrap64 (x19 - x20)))
  j7 : ∀ k x0 x1 x3 x18 x20 x24, S.j7 (k + 1) x0 x1 x3 x18 x20 x24 = if x1 < x20 then (if x20 < x18 then ((S.mf k x0 x1 x20 x18).bind fun t => S.tl k t x3 x18 x24) else S.tl k x0 x3 x18 x24) else S.tl k x0 x3 x18 x24
  mf : ∀ k l0 a1 a2 a3, S.mf (k + 1) l0 a1 a2 a3 = if wrap64 (a2 - a1) = 1 then S.m0 k l0 a1 a2 a3 else (if wrap64 (a3 - a2) = 1 then S.m2 k l0 a2 a1 a2 else (if a2 > half a1 a3 then S.j4 k l0 a1 a2 a3 (half a1 a3) (wrap64 (half a1 a3 + a2)) (wrap64 (wrap64 (half a1 a3 + a2) - a3)) (half a1 a3) else S.j4 k l0 a1 a2 a3 (half a1 a3) (wrap64 (half a1 a3 + a2)) a1 a2))
  s0 : ∀ k x0 x1 x6 x7 x8, S.s0 (k + 1) x0 x1 x6 x7 x8 = if x8 ≤ x1 then ((S.i0 k x0 x7 x8 (wrap64 (x7 + 1))).bind fun t => S.s0 k t x1 x6 x8 (wrap64 (x8 + x6))) else ((S.i0 k x0 x7 x1 (wrap64 (x7 + 1))).bind fun t => S.s1 k t x1 x6)
  s1 : ∀ k x0 x1 x6, S.s1 (k + 1) x0 x1 x6 = if x6 < x1 then S.s2 k x0 x1 x6 0 (wrap64 (2 * x6)) else some x0
  s2 : ∀ k x0 x1 x6 x7 x8, S.s2 (k + 1) x0 x1 x6 x7 x8 = if x8 ≤ x1 then ((S.mf k x0 x7 (wrap64 (x7 + x6)) x8).bind fun t => S.s2 k t x1 x6 x8 (wrap64 (x8 + wrap64 (2 * x6)))) else (if wrap64 (x7 + x6) < x1 then ((S.mf k x0 x7 (wrap64 (x7 + x6)) x1).bind fun t => S.s1 k t x1 (wrap64 (x6 * 2))) else S.s1 k x0 x1 (wrap64 (x6 * 2)))
section
variable {α : Type} {S : Sys α} {lt : α → α → Bool} {Ok : α → Prop}
theorem rdA (P : List α) (x : α) (Q : List α) (i : Int) (h : i = (P.length : Int)) : S.rd (P ++ x :: Q) i = x := by
  subst h
  unfold Sys.rd
  simp [List.getD_eq_getElem?_getD]
theorem rdE (d P : List α) (x : α) (Q : List α) (i : Int) (e : d = P ++ x :: Q) (h : i = (P.length : Int)) : S.rd d i = x := by
  subst e
  exact rdA P x Q i h
theorem set_at (P : List α) (x y : α) (Q : List α) : (P ++ x :: Q).set P.length y = P ++ y :: Q := by
  induction P with
  | nil => rfl
  | cons p P ih => simp
theorem swap_hi (P : List α) (x : α) (Q : List α) (y : α) (R : List α) (i j : Nat) (hi : i = P.length) (hj : j = P.length + 1 + Q.length) : ((P ++ x :: (Q ++ y :: R)).set j x).set i y = P ++ y :: (Q ++ x :: R) := by
  subst hi
  rw [show P ++ x :: (Q ++ y :: R) = (P ++ x :: Q) ++ y :: R by simp, show j = (P ++ x :: Q).length by simp; omega, set_at, show (P ++ x :: Q) ++ x :: R = P ++ x :: (Q ++ x :: R) by simp, set_at]
theorem swap_lo (P : List α) (x : α) (Q : List α) (y : α) (R : List α) (i j : Nat) (hi : i = P.length) (hj : j = P.length + 1 + Q.length) : ((P ++ x :: (Q ++ y :: R)).set i y).set j x = P ++ y :: (Q ++ x :: R) := by
  subst hi
  rw [set_at, show P ++ y :: (Q ++ y :: R) = (P ++ y :: Q) ++ y :: R by simp, show j = (P ++ y :: Q).length by simp; omega, set_at]
  simp
/-- Two blocks of one length change places. -/
theorem w0_run (hS : Eqs S) (R : List α) (a b n : Int) : ∀ (X Y P Q : List α) (t : Int), X.length = Y.length → a + t = P.length → b + t = P.length + X.length + Q.length → n - t = X.length → 0 ≤ t → 0 ≤ a → 0 ≤ b → (P.length + X.length + Q.length + Y.length + R.length : Int) ≤ 1152921504606846976 → Ev (fun k => S.w0 k (P ++ (X ++ (Q ++ (Y ++ R)))) a b n t) (P ++ (Y ++ (Q ++ (X ++ R))))
  | [], [], P, Q, t, _, h1, h2, h3, ht, ha, hb, hl => by
    simp only [List.length_nil, List.nil_append] at *
    refine Ev.step (fun k => hS.w0 k _ _ _ _ _) ?_
    exact Ev.neg (by omega) (Ev.now _)
  | [], _ :: _, _, _, _, h, _, _, _, _, _, _, _ => by simp at h
  | _ :: _, [], _, _, _, h, _, _, _, _, _, _, _ => by simp at h
  | x :: X, y :: Y, P, Q, t, h, h1, h2, h3, ht, ha, hb, hl => by
    simp only [List.length_cons] at *
    have e1 : wrap64 (b + t) = b + t := w64 (by omega) (by omega)
    have e2 : wrap64 (a + t) = a + t := w64 (by omega) (by omega)
    have e3 : wrap64 (t + 1) = t + 1 := w64 (by omega) (by omega)
    have el : ((P ++ (x :: X ++ (Q ++ (y :: Y ++ R)))).length : Int) = P.length + X.length + 1 + Q.length + Y.length + 1 + R.length := by simp; omega
    have r1 : S.rd (P ++ (x :: X ++ (Q ++ (y :: Y ++ R)))) (a + t) = x := rdE _ P x (X ++ (Q ++ (y :: Y ++ R))) _ (by simp) h1
    have r2 : S.rd (P ++ (x :: X ++ (Q ++ (y :: Y ++ R)))) (b + t) = y := rdE _ (P ++ (x :: X ++ Q)) y (Y ++ R) _ (by simp) (by simp; omega)
    have es : ((P ++ (x :: X ++ (Q ++ (y :: Y ++ R)))).set (a + t).toNat y).set (b + t).toNat x = P ++ y :: ((X ++ Q) ++ x :: (Y ++ R)) := by
      have := swap_lo P x (X ++ Q) y (Y ++ R) (a + t).toNat (b + t).toNat (by omega) (by simp; omega)
      rw [← this]; simp
    have ih := w0_run hS R a b n X Y (P ++ [y]) (Q ++ [x]) (t + 1) (by omega) (by simp; omega) (by simp; omega) (by omega) (by omega) ha hb (by simp; omega)
    refine Ev.step (fun k => hS.w0 k _ _ _ _ _) ?_
    simp only [e1, e2, e3, r1, r2, es]
    refine Ev.pos (by omega) (Ev.pos (by omega) (Ev.pos (by omega) (Ev.pos (by omega) (Ev.pos (by omega) ?_))))
    have q1 : P ++ [y] ++ (X ++ (Q ++ [x] ++ (Y ++ R))) = P ++ y :: ((X ++ Q) ++ x :: (Y ++ R)) := by simp
    have q2 : P ++ [y] ++ (Y ++ (Q ++ [x] ++ (X ++ R))) = P ++ (y :: Y ++ (Q ++ (x :: X ++ R))) := by simp
    rw [q1, q2] at ih
    exact ih
/-- Two blocks that stand side by side change places. -/
theorem r0_run (hS : Eqs S) (m : Int) : ∀ (n : Nat) (P X Y R : List α), X.length + Y.length ≤ n → X ≠ [] → Y ≠ [] → m = P.length + X.length → (P.length + X.length + Y.length + R.length : Int) ≤ 1152921504606846976 → Ev (fun k => S.r0 k (P ++ (X ++ (Y ++ R))) m X.length Y.length) (P ++ (Y ++ (X ++ R)))
  | 0, P, X, Y, R, h, hx, _, _, _ => absurd (List.eq_nil_of_length_eq_zero (by omega)) hx
  | n + 1, P, X, Y, R, h, hx, hy, hm, hl => by
    have hx' : 0 < X.length := List.length_pos_iff.2 hx
    have hy' : 0 < Y.length := List.length_pos_iff.2 hy
    have e1 : wrap64 (m - X.length) = m - X.length := w64 (by omega) (by omega)
    have e2 : wrap64 (m + Y.length) = m + Y.length := w64 (by omega) (by omega)
    have e3 : wrap64 (m + Y.length - X.length) = m + Y.length - X.length := w64 (by omega) (by omega)
    refine Ev.step (fun k => hS.r0 k _ _ _ _) ?_
    simp only [e1, e2, e3]
    refine Ev.ite (fun heq => ?_) (fun hne => Ev.ite (fun hgt => ?_) (fun hle => ?_))
    · have := w0_run hS R (m - X.length) m X.length X Y P [] 0 (by omega) (by omega) (by simp; omega) (by omega) (by omega) (by omega) (by omega) (by simp; omega)
      simp only [List.nil_append] at this
      exact Ev.bind this (Ev.now _)
    · have hX : X.take Y.length ++ X.drop Y.length = X := List.take_append_drop _ _
      have l1 : (X.take Y.length).length = Y.length := by rw [List.length_take]; omega
      have l2 : (X.drop Y.length).length = X.length - Y.length := List.length_drop
      have := w0_run hS R (m - X.length) m Y.length (X.take Y.length) Y P (X.drop Y.length) 0 (by omega) (by omega) (by omega) (by omega) (by omega) (by omega) (by omega) (by omega)
      have q : X.take Y.length ++ (X.drop Y.length ++ (Y ++ R)) = X ++ (Y ++ R) := by rw [← List.append_assoc, hX]
      rw [q] at this
      refine Ev.bind this ?_
      have e4 : wrap64 ((X.length : Int) - Y.length) = ((X.drop Y.length).length : Int) := by rw [w64 (by omega) (by omega)]; omega
      have e5 : (Y.length : Int) = ((X.take Y.length).length : Int) := by omega
      have ih := r0_run hS m n (P ++ Y) (X.drop Y.length) (X.take Y.length) R (by omega) (by intro h0; rw [h0] at l2; simp at l2; omega) (by intro h0; rw [h0] at l1; simp at l1; omega) (by rw [List.length_append]; omega) (by rw [List.length_append]; omega)
      rw [e4, e5]
      have q1 : P ++ Y ++ (X.drop Y.length ++ (X.take Y.length ++ R)) = P ++ (Y ++ (X.drop Y.length ++ (X.take Y.length ++ R))) := by simp
      have q2 : P ++ Y ++ (X.take Y.length ++ (X.drop Y.length ++ R)) = P ++ (Y ++ (X ++ R)) := by
        rw [show X.take Y.length ++ (X.drop Y.length ++ R) = X ++ R by rw [← List.append_assoc, hX]]; simp
      rw [q1, q2] at ih
      exact ih
    · have hY : Y.take (Y.length - X.length) ++ Y.drop (Y.length - X.length) = Y := List.take_append_drop _ _
      have l1 : (Y.take (Y.length - X.length)).length = Y.length - X.length := by rw [List.length_take]; omega
      have l2 : (Y.drop (Y.length - X.length)).length = X.length := by rw [List.length_drop]; omega
      have := w0_run hS R (m - X.length) (m + Y.length - X.length) X.length X (Y.drop (Y.length - X.length)) P (Y.take (Y.length - X.length)) 0 (by omega) (by omega) (by omega) (by omega) (by omega) (by omega) (by omega) (by omega)
      have q : Y.take (Y.length - X.length) ++ (Y.drop (Y.length - X.length) ++ R) = Y ++ R := by rw [← List.append_assoc, hY]
      rw [q] at this
      refine Ev.bind this ?_
      have e4 : wrap64 ((Y.length : Int) - X.length) = ((Y.take (Y.length - X.length)).length : Int) := by rw [w64 (by omega) (by omega)]; omega
      have e5 : (X.length : Int) = ((Y.drop (Y.length - X.length)).length : Int) := by omega
      have ih := r0_run hS m n P (Y.drop (Y.length - X.length)) (Y.take (Y.length - X.length)) (X ++ R) (by omega) (by intro h0; rw [h0] at l2; simp at l2; omega) (by intro h0; rw [h0] at l1; simp at l1; omega) (by omega) (by rw [List.length_append]; omega)
      rw [e4, e5]
      have q2 : P ++ (Y.take (Y.length - X.length) ++ (Y.drop (Y.length - X.length) ++ (X ++ R))) = P ++ (Y ++ (X ++ R)) := by
        rw [show Y.take (Y.length - X.length) ++ (Y.drop (Y.length - X.length) ++ (X ++ R)) = Y ++ (X ++ R) by rw [← List.append_assoc, hY]]
      rw [q2] at ih
      exact ih
/-- The comparison tells the order. -/
def Cmp (S : Sys α) (lt : α → α → Bool) (Ok : α → Prop) : Prop := ∀ x y, Ok x → Ok y → ∃ c, Ev (fun k => S.cmp k x y) c ∧ (c < 0 ↔ lt x y = true)
theorem mrg_one_all (V : List α) (x : α) (h : ∀ v ∈ V, lt x v = true) : mrg lt V [x] = x :: V := by
  have := mrg_right (lt := lt) [] V [x] (fun v hv y hy => by rw [List.mem_singleton] at hy; subst hy; exact h v hv)
  rw [List.append_nil, mrg_nil_right] at this
  exact this
theorem mrg_one (U V : List α) (x : α) (h1 : ∀ u ∈ U, lt x u = false) (h2 : ∀ v ∈ V, lt x v = true) : mrg lt (U ++ V) [x] = U ++ x :: V := by
  rw [mrg_left V U [x] (fun u hu y hy => by rw [List.mem_singleton] at hy; subst hy; exact h1 u hu), mrg_one_all V x h2]
theorem one_mrg (U V : List α) (x : α) (h1 : ∀ u ∈ U, lt u x = true) (h2 : ∀ v ∈ V, lt v x = false) : mrg lt [x] (U ++ V) = U ++ x :: V := by
  rw [mrg_right V [x] U (fun y hy u hu => by rw [List.mem_singleton] at hy; subst hy; exact h1 u hu)]
  have := mrg_left (lt := lt) [] [x] V (fun y hy v hv => by rw [List.mem_singleton] at hy; subst hy; exact h2 v hv)
  rw [List.append_nil, mrg_nil_left] at this
  rw [this]; rfl
theorem i1_run (hS : Eqs S) (hs : SWO lt) (hc : Cmp S lt Ok) (A R : List α) (a b i : Int) (r : List α) (x : α) (ha : a = A.length) (hx : Ok x) : ∀ (n : Nat) (U V : List α) (j : Int), U.length = n → j = a + U.length → i = a + U.length + V.length → (i + R.length : Int) ≤ 1152921504606846976 → Srtd lt U → (∀ v ∈ V, lt x v = true) → (∀ u ∈ U, Ok u) → Ev (fun k => S.i0 k (A ++ (mrg lt (U ++ V) [x] ++ R)) a b (i + 1)) r → Ev (fun k => S.i1 k (A ++ (U ++ x :: V ++ R)) a b i j) r
  | 0, U, V, j, hn, hj, hi, hl, hU, hV, hO, he => by
    have : U = [] := List.eq_nil_of_length_eq_zero hn
    subst this
    refine Ev.step (fun k => hS.i1 k _ _ _ _ _) ?_
    rw [w64 (x := i + 1) (by omega) (by omega)]
    refine Ev.neg (by simp at hj; omega) ?_
    rw [List.nil_append, mrg_one_all V x hV] at he
    exact he
  | n + 1, U, V, j, hn, hj, hi, hl, hU, hV, hO, he => by
    have hne : U ≠ [] := by intro h; rw [h] at hn; simp at hn
    obtain ⟨U', u, rfl⟩ : ∃ c x, U = c ++ [x] := ⟨U.dropLast, U.getLast hne, (List.dropLast_concat_getLast hne).symm⟩
    simp only [List.length_append, List.length_cons, List.length_nil] at hn hj hi
    have e1 : wrap64 (j - 1) = j - 1 := w64 (by omega) (by omega)
    have e2 : wrap64 (i + 1) = i + 1 := w64 (by omega) (by omega)
    have el : ((A ++ (U' ++ [u] ++ x :: V ++ R)).length : Int) = A.length + U'.length + 2 + V.length + R.length := by simp; omega
    have r1 : S.rd (A ++ (U' ++ [u] ++ x :: V ++ R)) j = x := rdE _ (A ++ (U' ++ [u])) x (V ++ R) _ (by simp) (by simp; omega)
    have r2 : S.rd (A ++ (U' ++ [u] ++ x :: V ++ R)) (j - 1) = u := rdE _ (A ++ U') u (x :: V ++ R) _ (by simp) (by simp; omega)
    have es : ((A ++ (U' ++ [u] ++ x :: V ++ R)).set j.toNat u).set (j - 1).toNat x = A ++ (U' ++ x :: (u :: V) ++ R) := by
      have := swap_hi (A ++ U') u [] x (V ++ R) (j - 1).toNat j.toNat (by simp; omega) (by simp; omega)
      rw [show A ++ (U' ++ x :: (u :: V) ++ R) = (A ++ U') ++ x :: ([] ++ u :: (V ++ R)) by simp, ← this]; simp
    refine Ev.step (fun k => hS.i1 k _ _ _ _ _) ?_
    simp only [e1, e2, r1, r2, es]
    refine Ev.pos (by omega) (Ev.pos (by omega) (Ev.pos (by omega) (Ev.pos (by omega) (Ev.pos (by omega) ?_))))
    obtain ⟨c, hcE, hcI⟩ := hc x u hx (hO u (by simp))
    refine Ev.bind hcE ?_
    have hU' : Srtd lt U' := (List.pairwise_append.1 hU).1
    refine Ev.ite (fun hlt => ?_) (fun hge => ?_)
    · refine i1_run hS hs hc A R a b i r x ha hx n U' (u :: V) (j - 1) (by omega) (by omega) (by simp; omega) hl hU' (fun v hv => ?_) (fun w hw => hO w (by simp [hw])) ?_
      · rcases List.mem_cons.1 hv with rfl | hv
        · exact hcI.1 hlt
        · exact hV v hv
      · rw [show U' ++ u :: V = U' ++ [u] ++ V by simp]
        exact he
    · have hxu : lt x u = false := by
        cases hq : lt x u with
        | false => rfl
        | true => exact absurd (hcI.2 hq) hge
      rw [mrg_one (U' ++ [u]) V x (fun w hw => ?_) hV] at he
      · exact he
      · rcases List.mem_append.1 hw with hw | hw
        · exact hs.neg hxu ((List.pairwise_append.1 hU).2.2 w hw u (by simp))
        · rw [List.mem_singleton] at hw; subst hw; exact hxu
theorem i0_run (hS : Eqs S) (hs : SWO lt) (hc : Cmp S lt Ok) (A R : List α) (a b : Int) (ha : a = A.length) : ∀ (L2 L1 : List α) (i : Int), i = a + L1.length → b = i + L2.length → (b + R.length : Int) ≤ 1152921504606846975 → (∀ z ∈ L1, Ok z) → (∀ z ∈ L2, Ok z) → Ev (fun k => S.i0 k (A ++ (ssort lt L1 ++ (L2 ++ R))) a b i) (A ++ (ssort lt (L1 ++ L2) ++ R))
  | [], L1, i, hi, hb, hl, h1, h2 => by
    simp only [List.length_nil] at hb
    refine Ev.step (fun k => hS.i0 k _ _ _ _) (Ev.neg (by omega) ?_)
    rw [List.append_nil]
    exact Ev.now _
  | x :: L2, L1, i, hi, hb, hl, h1, h2 => by
    simp only [List.length_cons] at hb
    have ih := i0_run hS hs hc A R a b ha L2 (L1 ++ [x]) (i + 1) (by simp; omega) (by omega) hl (by
      intro z hz
      rcases List.mem_append.1 hz with hz | hz
      · exact h1 z hz
      · rw [List.mem_singleton] at hz; subst hz; exact h2 z (by simp)) (fun z hz => h2 z (by simp [hz]))
    refine Ev.step (fun k => hS.i0 k _ _ _ _) (Ev.pos (by omega) ?_)
    have hk := i1_run hS hs hc A (L2 ++ R) a b i (A ++ (ssort lt (L1 ++ x :: L2) ++ R)) x ha (h2 x (by simp)) _ (ssort lt L1) [] i rfl (by rw [ssort_length hs]; omega) (by rw [ssort_length hs]; simp; omega) (by simp; omega) (ssort_sorted hs _ _ rfl) (by simp) (fun u hu => h1 u ((ssort_perm hs L1).mem_iff.1 hu))
    rw [show ssort lt L1 ++ x :: [] ++ (L2 ++ R) = ssort lt L1 ++ (x :: L2 ++ R) by simp] at hk
    refine hk ?_
    rw [List.append_nil, ← ssort_snoc, show L1 ++ x :: L2 = L1 ++ [x] ++ L2 by simp]
    exact ih
/-- The insertion sort of a part. -/
theorem ins_run (hS : Eqs S) (hs : SWO lt) (hc : Cmp S lt Ok) (A L R : List α) (a b : Int) (ha : a = A.length) (hb : b = a + L.length) (hl : (b + R.length : Int) ≤ 1152921504606846975) (hO : ∀ z ∈ L, Ok z) : Ev (fun k => S.i0 k (A ++ (L ++ R)) a b (wrap64 (a + 1))) (A ++ (ssort lt L ++ R)) := by
  rw [w64 (x := a + 1) (by omega) (by omega)]
  cases L with
  | nil =>
    simp only [List.length_nil] at hb
    refine Ev.step (fun k => hS.i0 k _ _ _ _) (Ev.neg (by omega) ?_)
    exact Ev.now _
  | cons x L =>
    simp only [List.length_cons] at hb
    have := i0_run hS hs hc A R a b ha L [x] (a + 1) (by simp) (by omega) hl (fun z hz => hO z (by simp at hz; simp [hz])) (fun z hz => hO z (by simp [hz]))
    rw [show ssort lt [x] = [x] from by rw [show ssort lt [x] = mrg lt [] [x] from rfl, mrg_nil_left]] at this
    exact this
end
end Go.Proofs.YtamgbcgfjhpedaaDoor.Srt
