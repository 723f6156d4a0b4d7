/- Functions as plain Lean (definitions printed by a program; no statement is proved here). -/
import Derived.Test.YtcmbckancficcaaVpEv
namespace Go.Proofs.Ytcmbckancficcaa.VE
set_option linter.unusedVariables false
open Go Go.RowKit
abbrev Y0 : Ty := .pair (.int .i64) (.int .i64)
abbrev Y1 : Ty := .pair .str (.list 99 Y0)
abbrev Y2 : Ty := .pair (.int .i64) (.list 60 Y0)
abbrev Y3 : Ty := .pair (.int .i64) Y2
abbrev rI64 (xs : List Int) (i : Int) : Int := rd (.int .i64) xs i
theorem rI64_mem {xs : List Int} {i : Int} (h0 : 0 ≤ i) (h1 : i < (xs.length : Int)) : rI64 xs i ∈ xs := rd_mem (t := (.int .i64)) h0 h1
theorem rI64_get (xs : List Int) (j : Nat) (x : Int) (h : xs[j]? = some x) : rI64 xs (j : Int) = x := rd_get (t := (.int .i64)) xs j x h
theorem rI64_drop {xs : List Int} {i : Int} (h0 : 0 ≤ i) (h1 : i < (xs.length : Int)) : xs.drop i.toNat = rI64 xs i :: xs.drop (i + 1).toNat := drop_rd (t := (.int .i64)) h0 h1
theorem rI64_some {xs : List Int} {i : Int} (h0 : 0 ≤ i) (h1 : i < (xs.length : Int)) : xs[i.toNat]? = some (rI64 xs i) := rd_some (t := (.int .i64)) h0 h1
theorem rI64_set {xs : List Int} {i : Int} (v : Int) (h0 : 0 ≤ i) (h1 : i < (xs.length : Int)) {j : Int} (hj : 0 ≤ j) : rI64 (xs.set i.toNat v) j = if j = i then v else rI64 xs j := rd_set (t := (.int .i64)) v h0 h1 hj
abbrev rY0 (xs : List (Int × Int)) (i : Int) : Int × Int := rd Y0 xs i
theorem rY0_mem {xs : List (Int × Int)} {i : Int} (h0 : 0 ≤ i) (h1 : i < (xs.length : Int)) : rY0 xs i ∈ xs := rd_mem (t := Y0) h0 h1
theorem rY0_get (xs : List (Int × Int)) (j : Nat) (x : Int × Int) (h : xs[j]? = some x) : rY0 xs (j : Int) = x := rd_get (t := Y0) xs j x h
theorem rY0_drop {xs : List (Int × Int)} {i : Int} (h0 : 0 ≤ i) (h1 : i < (xs.length : Int)) : xs.drop i.toNat = rY0 xs i :: xs.drop (i + 1).toNat := drop_rd (t := Y0) h0 h1
theorem rY0_some {xs : List (Int × Int)} {i : Int} (h0 : 0 ≤ i) (h1 : i < (xs.length : Int)) : xs[i.toNat]? = some (rY0 xs i) := rd_some (t := Y0) h0 h1
theorem rY0_set {xs : List (Int × Int)} {i : Int} (v : Int × Int) (h0 : 0 ≤ i) (h1 : i < (xs.length : Int)) {j : Int} (hj : 0 ≤ j) : rY0 (xs.set i.toNat v) j = if j = i then v else rY0 xs j := rd_set (t := Y0) v h0 h1 hj
abbrev rY1 (xs : List (ByteArray × List (Int × Int))) (i : Int) : ByteArray × List (Int × Int) := rd Y1 xs i
theorem rY1_mem {xs : List (ByteArray × List (Int × Int))} {i : Int} (h0 : 0 ≤ i) (h1 : i < (xs.length : Int)) : rY1 xs i ∈ xs := rd_mem (t := Y1) h0 h1
theorem rY1_get (xs : List (ByteArray × List (Int × Int))) (j : Nat) (x : ByteArray × List (Int × Int)) (h : xs[j]? = some x) : rY1 xs (j : Int) = x := rd_get (t := Y1) xs j x h
theorem rY1_drop {xs : List (ByteArray × List (Int × Int))} {i : Int} (h0 : 0 ≤ i) (h1 : i < (xs.length : Int)) : xs.drop i.toNat = rY1 xs i :: xs.drop (i + 1).toNat := drop_rd (t := Y1) h0 h1
theorem rY1_some {xs : List (ByteArray × List (Int × Int))} {i : Int} (h0 : 0 ≤ i) (h1 : i < (xs.length : Int)) : xs[i.toNat]? = some (rY1 xs i) := rd_some (t := Y1) h0 h1
theorem rY1_set {xs : List (ByteArray × List (Int × Int))} {i : Int} (v : ByteArray × List (Int × Int)) (h0 : 0 ≤ i) (h1 : i < (xs.length : Int)) {j : Int} (hj : 0 ≤ j) : rY1 (xs.set i.toNat v) j = if j = i then v else rY1 xs j := rd_set (t := Y1) v h0 h1 hj
def BY (e : Nat) : Nat := (look [(49, 40), (60, 16), (99, 16)] e).getD 0
def gridhallkeep3_rises.f (k : Nat) : Option (Int × Int × List (Int × Int)) :=
  some (0, 0, [(10, 5), (10, 8)])
def convexpl_Check.l7 : Nat → Int → Int → (List (Int × Int)) → Int → Int → Int → Int → (List (Int × Int)) → Option Int
  | 0, _, _, _, _, _, _, _, _ => none
  | k + 1, x3, x4, x34, x35, x36, xo0_0, xo0_1, xo0_2 => if x36 < x35 then
      if 0 ≤ x36 then
        if x36 < (x34.length : Int) then
          if (rY0 x34 x36).1 < 1 then
            some 4
          else if 2000000 < (rY0 x34 x36).1 then
            some 4
          else if (rY0 x34 x36).2 < (-10000000) then
            some 4
          else if 10000000 < (rY0 x34 x36).2 then
            some 4
          else if 0 < x36 then
            if 0 ≤ (wrap64 (x36 - 1)) then
              if (wrap64 (x36 - 1)) < (xo0_2.length : Int) then
                if (rY0 x34 x36).2 ≤ (rY0 xo0_2 (wrap64 (x36 - 1))).2 then
                  some 3
                else if 1000000 < (wrap64 (x3 + (rY0 x34 x36).1)) then
                  some 4
                else if (wrap64 (x4 + (wrap64 ((rY0 x34 x36).1 * (rY0 x34 x36).2)))) < (-1000000000000000) then
                  some 4
                else if 1000000000000000 < (wrap64 (x4 + (wrap64 ((rY0 x34 x36).1 * (rY0 x34 x36).2)))) then
                  some 4
                else convexpl_Check.l7 k (wrap64 (x3 + (rY0 x34 x36).1)) (wrap64 (x4 + (wrap64 ((rY0 x34 x36).1 * (rY0 x34 x36).2)))) x34 x35 (wrap64 (x36 + 1)) xo0_0 xo0_1 xo0_2
              else none
            else none
          else if 1000000 < (wrap64 (x3 + (rY0 x34 x36).1)) then
            some 4
          else if (wrap64 (x4 + (wrap64 ((rY0 x34 x36).1 * (rY0 x34 x36).2)))) < (-1000000000000000) then
            some 4
          else if 1000000000000000 < (wrap64 (x4 + (wrap64 ((rY0 x34 x36).1 * (rY0 x34 x36).2)))) then
            some 4
          else convexpl_Check.l7 k (wrap64 (x3 + (rY0 x34 x36).1)) (wrap64 (x4 + (wrap64 ((rY0 x34 x36).1 * (rY0 x34 x36).2)))) x34 x35 (wrap64 (x36 + 1)) xo0_0 xo0_1 xo0_2
        else none
      else none
    else some 0
theorem convexpl_Check.l7_eq (k : Nat) (x3 : Int) (x4 : Int) (x34 : List (Int × Int)) (x35 : Int) (x36 : Int) (xo0_0 : Int) (xo0_1 : Int) (xo0_2 : List (Int × Int)) : convexpl_Check.l7 (k + 1) x3 x4 x34 x35 x36 xo0_0 xo0_1 xo0_2 = if x36 < x35 then
      if 0 ≤ x36 then
        if x36 < (x34.length : Int) then
          if (rY0 x34 x36).1 < 1 then
            some 4
          else if 2000000 < (rY0 x34 x36).1 then
            some 4
          else if (rY0 x34 x36).2 < (-10000000) then
            some 4
          else if 10000000 < (rY0 x34 x36).2 then
            some 4
          else if 0 < x36 then
            if 0 ≤ (wrap64 (x36 - 1)) then
              if (wrap64 (x36 - 1)) < (xo0_2.length : Int) then
                if (rY0 x34 x36).2 ≤ (rY0 xo0_2 (wrap64 (x36 - 1))).2 then
                  some 3
                else if 1000000 < (wrap64 (x3 + (rY0 x34 x36).1)) then
                  some 4
                else if (wrap64 (x4 + (wrap64 ((rY0 x34 x36).1 * (rY0 x34 x36).2)))) < (-1000000000000000) then
                  some 4
                else if 1000000000000000 < (wrap64 (x4 + (wrap64 ((rY0 x34 x36).1 * (rY0 x34 x36).2)))) then
                  some 4
                else convexpl_Check.l7 k (wrap64 (x3 + (rY0 x34 x36).1)) (wrap64 (x4 + (wrap64 ((rY0 x34 x36).1 * (rY0 x34 x36).2)))) x34 x35 (wrap64 (x36 + 1)) xo0_0 xo0_1 xo0_2
              else none
            else none
          else if 1000000 < (wrap64 (x3 + (rY0 x34 x36).1)) then
            some 4
          else if (wrap64 (x4 + (wrap64 ((rY0 x34 x36).1 * (rY0 x34 x36).2)))) < (-1000000000000000) then
            some 4
          else if 1000000000000000 < (wrap64 (x4 + (wrap64 ((rY0 x34 x36).1 * (rY0 x34 x36).2)))) then
            some 4
          else convexpl_Check.l7 k (wrap64 (x3 + (rY0 x34 x36).1)) (wrap64 (x4 + (wrap64 ((rY0 x34 x36).1 * (rY0 x34 x36).2)))) x34 x35 (wrap64 (x36 + 1)) xo0_0 xo0_1 xo0_2
        else none
      else none
    else some 0 := rfl
def convexpl_Check.f (k : Nat) (a0 : Int × Int × List (Int × Int)) : Option Int :=
  if 64 < (a0.2.2.length : Int) then
    some 2
  else if a0.1 < (-1000000) then
    some 4
  else if 1000000 < a0.1 then
    some 4
  else if a0.2.1 < (-1000000000000000) then
    some 4
  else if 1000000000000000 < a0.2.1 then
    some 4
  else convexpl_Check.l7 k a0.1 a0.2.1 a0.2.2 (a0.2.2.length : Int) 0 a0.1 a0.2.1 a0.2.2
def convexpl_high.l3 : Nat → Int → (List (Int × Int)) → Int → Int → Option Int
  | 0, _, _, _, _ => none
  | k + 1, x3, x9, x10, x11 => if x11 < x10 then
      if 0 ≤ x11 then
        if x11 < (x9.length : Int) then
          convexpl_high.l3 k (wrap64 (x3 + (rY0 x9 x11).1)) x9 x10 (wrap64 (x11 + 1))
        else none
      else none
    else some x3
theorem convexpl_high.l3_eq (k : Nat) (x3 : Int) (x9 : List (Int × Int)) (x10 : Int) (x11 : Int) : convexpl_high.l3 (k + 1) x3 x9 x10 x11 = if x11 < x10 then
      if 0 ≤ x11 then
        if x11 < (x9.length : Int) then
          convexpl_high.l3 k (wrap64 (x3 + (rY0 x9 x11).1)) x9 x10 (wrap64 (x11 + 1))
        else none
      else none
    else some x3 := rfl
def convexpl_high.f (k : Nat) (a0 : Int × Int × List (Int × Int)) : Option Int :=
  convexpl_high.l3 k a0.1 a0.2.2 (a0.2.2.length : Int) 0
def convexpl_value.l3 : Nat → Int → Int → Int → (List (Int × Int)) → Int → Int → Option Int
  | 0, _, _, _, _, _, _ => none
  | k + 1, x1, x5, x6, x15, x16, x17 => if x17 < x16 then
      if 0 ≤ x17 then
        if x17 < (x15.length : Int) then
          convexpl_value.l3 k x1 (wrap64 (x5 + (wrap64 ((mn (rY0 x15 x17).1 (wrap64 (x1 - x6))) * (rY0 x15 x17).2)))) (wrap64 (x6 + (mn (rY0 x15 x17).1 (wrap64 (x1 - x6))))) x15 x16 (wrap64 (x17 + 1))
        else none
      else none
    else some x5
theorem convexpl_value.l3_eq (k : Nat) (x1 : Int) (x5 : Int) (x6 : Int) (x15 : List (Int × Int)) (x16 : Int) (x17 : Int) : convexpl_value.l3 (k + 1) x1 x5 x6 x15 x16 x17 = if x17 < x16 then
      if 0 ≤ x17 then
        if x17 < (x15.length : Int) then
          convexpl_value.l3 k x1 (wrap64 (x5 + (wrap64 ((mn (rY0 x15 x17).1 (wrap64 (x1 - x6))) * (rY0 x15 x17).2)))) (wrap64 (x6 + (mn (rY0 x15 x17).1 (wrap64 (x1 - x6))))) x15 x16 (wrap64 (x17 + 1))
        else none
      else none
    else some x5 := rfl
def convexpl_value.f (k : Nat) (a0 : Int × Int × List (Int × Int)) (a1 : Int) : Option Int :=
  convexpl_value.l3 k a1 a0.2.1 a0.1 a0.2.2 (a0.2.2.length : Int) 0
def convexpl_At.f (k : Nat) (a0 : Int × Int × List (Int × Int)) (a1 : Int) : Option (Int × Int) :=
  (convexpl_Check.f k a0).bind fun r1 =>
  if r1 = 0 then
    if a1 < a0.1 then
      some (0, 4)
    else (convexpl_high.f k a0).bind fun r2 =>
    if r2 < a1 then
      some (0, 4)
    else (convexpl_value.f k a0 a1).bind fun r3 =>
    some (r3, 0)
  else some (0, r1)
def gridhallkeep3_slopes.f (k : Nat) : Option Bool :=
  (gridhallkeep3_rises.f k).bind fun r1 =>
  (convexpl_At.f k r1 12).bind fun r2 =>
  if r2.2 = 0 then
    some (decide (r2.1 = 66))
  else some false
def convexpl_High.f (k : Nat) (a0 : Int × Int × List (Int × Int)) : Option (Int × Int) :=
  (convexpl_Check.f k a0).bind fun r1 =>
  if r1 = 0 then
    (convexpl_high.f k a0).bind fun r2 =>
    some (r2, 0)
  else some (0, r1)
def gridhallkeep3_within.f (k : Nat) (a0 : Int) (a1 : Int) (a2 : Int) : Option Int :=
  if (wrap64 ((wrap64 (a2 - a1)) + 1)) ≠ 0 then
    if (wrap64 ((wrap64 (a2 - a1)) + 1)) ≠ 0 then
      some (wrap64 (a1 + (Int.tmod (wrap64 ((Int.tmod a0 (wrap64 ((wrap64 (a2 - a1)) + 1))) + (wrap64 ((wrap64 (a2 - a1)) + 1)))) (wrap64 ((wrap64 (a2 - a1)) + 1)))))
    else none
  else none
def convexpl_cut.l4 : Nat → Int → Int → Int → (List (Int × Int)) → Int → Int → (List (Int × Int)) → Option (List (Int × Int))
  | 0, _, _, _, _, _, _, _ => none
  | k + 1, x1, x2, x8, x16, x17, x18, xo0 => if x18 < x17 then
      if 0 ≤ x18 then
        if x18 < (x16.length : Int) then
          if (mx x8 x1) < (mn (wrap64 (x8 + (rY0 x16 x18).1)) x2) then
            if (xo0.length + [(wrap64 ((mn (wrap64 (x8 + (rY0 x16 x18).1)) x2) - (mx x8 x1)), (rY0 x16 x18).2)].length) * 16 ≤ 140737488355328 then
              convexpl_cut.l4 k x1 x2 (wrap64 (x8 + (rY0 x16 x18).1)) x16 x17 (wrap64 (x18 + 1)) (xo0 ++ [(wrap64 ((mn (wrap64 (x8 + (rY0 x16 x18).1)) x2) - (mx x8 x1)), (rY0 x16 x18).2)])
            else none
          else convexpl_cut.l4 k x1 x2 (wrap64 (x8 + (rY0 x16 x18).1)) x16 x17 (wrap64 (x18 + 1)) xo0
        else none
      else none
    else some xo0
theorem convexpl_cut.l4_eq (k : Nat) (x1 : Int) (x2 : Int) (x8 : Int) (x16 : List (Int × Int)) (x17 : Int) (x18 : Int) (xo0 : List (Int × Int)) : convexpl_cut.l4 (k + 1) x1 x2 x8 x16 x17 x18 xo0 = if x18 < x17 then
      if 0 ≤ x18 then
        if x18 < (x16.length : Int) then
          if (mx x8 x1) < (mn (wrap64 (x8 + (rY0 x16 x18).1)) x2) then
            if (xo0.length + [(wrap64 ((mn (wrap64 (x8 + (rY0 x16 x18).1)) x2) - (mx x8 x1)), (rY0 x16 x18).2)].length) * 16 ≤ 140737488355328 then
              convexpl_cut.l4 k x1 x2 (wrap64 (x8 + (rY0 x16 x18).1)) x16 x17 (wrap64 (x18 + 1)) (xo0 ++ [(wrap64 ((mn (wrap64 (x8 + (rY0 x16 x18).1)) x2) - (mx x8 x1)), (rY0 x16 x18).2)])
            else none
          else convexpl_cut.l4 k x1 x2 (wrap64 (x8 + (rY0 x16 x18).1)) x16 x17 (wrap64 (x18 + 1)) xo0
        else none
      else none
    else some xo0 := rfl
def convexpl_cut.f (k : Nat) (a0 : Int × Int × List (Int × Int)) (a1 : Int) (a2 : Int) : Option (List (Int × Int)) :=
  convexpl_cut.l4 k a1 a2 a0.1 a0.2.2 (a0.2.2.length : Int) 0 []
def cmp_isNaN_int.f (k : Nat) (a0 : Int) : Option Bool :=
  some (!decide (a0 = a0))
def cmp_Compare_int.f (k : Nat) (a0 : Int) (a1 : Int) : Option Int :=
  (cmp_isNaN_int.f k a0).bind fun r1 =>
  (cmp_isNaN_int.f k a1).bind fun r2 =>
  if r1 = true then
    if r2 = true then
      some 0
    else some (-1)
  else if r2 = true then
    some 1
  else if a0 < a1 then
    some (-1)
  else if a1 < a0 then
    some 1
  else some 0
def convexpl_made_1.f (k : Nat) (a0 : Int × Int) (a1 : Int × Int) : Option Int :=
  (cmp_Compare_int.f k a0.2 a1.2).bind fun r1 =>
  some r1
mutual
def slices_insertionSortCmpFunc_api_ConvexPiece.l1 : Nat → Int → Int → Int → (List (Int × Int)) → Option (List (Int × Int))
  | 0, _, _, _, _ => none
  | k + 1, x1, x2, x8, xo0 => if x8 < x2 then
      slices_insertionSortCmpFunc_api_ConvexPiece.l4 k x1 x2 x8 x8 xo0
    else some xo0
def slices_insertionSortCmpFunc_api_ConvexPiece.l4 : Nat → Int → Int → Int → Int → (List (Int × Int)) → Option (List (Int × Int))
  | 0, _, _, _, _, _ => none
  | k + 1, x1, x2, x8, x9, xo0 => if x1 < x9 then
      if 0 ≤ x9 then
        if x9 < (xo0.length : Int) then
          if 0 ≤ (wrap64 (x9 - 1)) then
            if (wrap64 (x9 - 1)) < (xo0.length : Int) then
              (convexpl_made_1.f k (rY0 xo0 x9) (rY0 xo0 (wrap64 (x9 - 1)))).bind fun r1 =>
              if r1 < 0 then
                if 0 ≤ (wrap64 (x9 - 1)) then
                  if (wrap64 (x9 - 1)) < (xo0.length : Int) then
                    if 0 ≤ x9 then
                      if x9 < (xo0.length : Int) then
                        if 0 ≤ x9 then
                          if x9 < (xo0.length : Int) then
                            if 0 ≤ (wrap64 (x9 - 1)) then
                              if (wrap64 (x9 - 1)) < ((xo0.set x9.toNat (rY0 xo0 (wrap64 (x9 - 1)))).length : Int) then
                                slices_insertionSortCmpFunc_api_ConvexPiece.l4 k x1 x2 x8 (wrap64 (x9 - 1)) ((xo0.set x9.toNat (rY0 xo0 (wrap64 (x9 - 1)))).set (wrap64 (x9 - 1)).toNat (rY0 xo0 x9))
                              else none
                            else none
                          else none
                        else none
                      else none
                    else none
                  else none
                else none
              else slices_insertionSortCmpFunc_api_ConvexPiece.l1 k x1 x2 (wrap64 (x8 + 1)) xo0
            else none
          else none
        else none
      else none
    else slices_insertionSortCmpFunc_api_ConvexPiece.l1 k x1 x2 (wrap64 (x8 + 1)) xo0
end
theorem slices_insertionSortCmpFunc_api_ConvexPiece.l1_eq (k : Nat) (x1 : Int) (x2 : Int) (x8 : Int) (xo0 : List (Int × Int)) : slices_insertionSortCmpFunc_api_ConvexPiece.l1 (k + 1) x1 x2 x8 xo0 = if x8 < x2 then
      slices_insertionSortCmpFunc_api_ConvexPiece.l4 k x1 x2 x8 x8 xo0
    else some xo0 := rfl
theorem slices_insertionSortCmpFunc_api_ConvexPiece.l4_eq (k : Nat) (x1 : Int) (x2 : Int) (x8 : Int) (x9 : Int) (xo0 : List (Int × Int)) : slices_insertionSortCmpFunc_api_ConvexPiece.l4 (k + 1) x1 x2 x8 x9 xo0 = if x1 < x9 then
      if 0 ≤ x9 then
        if x9 < (xo0.length : Int) then
          if 0 ≤ (wrap64 (x9 - 1)) then
            if (wrap64 (x9 - 1)) < (xo0.length : Int) then
              (convexpl_made_1.f k (rY0 xo0 x9) (rY0 xo0 (wrap64 (x9 - 1)))).bind fun r1 =>
              if r1 < 0 then
                if 0 ≤ (wrap64 (x9 - 1)) then
                  if (wrap64 (x9 - 1)) < (xo0.length : Int) then
                    if 0 ≤ x9 then
                      if x9 < (xo0.length : Int) then
                        if 0 ≤ x9 then
                          if x9 < (xo0.length : Int) then
                            if 0 ≤ (wrap64 (x9 - 1)) then
                              if (wrap64 (x9 - 1)) < ((xo0.set x9.toNat (rY0 xo0 (wrap64 (x9 - 1)))).length : Int) then
                                slices_insertionSortCmpFunc_api_ConvexPiece.l4 k x1 x2 x8 (wrap64 (x9 - 1)) ((xo0.set x9.toNat (rY0 xo0 (wrap64 (x9 - 1)))).set (wrap64 (x9 - 1)).toNat (rY0 xo0 x9))
                              else none
                            else none
                          else none
                        else none
                      else none
                    else none
                  else none
                else none
              else slices_insertionSortCmpFunc_api_ConvexPiece.l1 k x1 x2 (wrap64 (x8 + 1)) xo0
            else none
          else none
        else none
      else none
    else slices_insertionSortCmpFunc_api_ConvexPiece.l1 k x1 x2 (wrap64 (x8 + 1)) xo0 := rfl
def slices_insertionSortCmpFunc_api_ConvexPiece.f (k : Nat) (a1 : Int) (a2 : Int) (ao0 : List (Int × Int)) : Option (List (Int × Int)) :=
  slices_insertionSortCmpFunc_api_ConvexPiece.l1 k a1 a2 (wrap64 (a1 + 1)) ao0
def slices_swapRangeCmpFunc_api_ConvexPiece.l1 : Nat → Int → Int → Int → Int → (List (Int × Int)) → Option (List (Int × Int))
  | 0, _, _, _, _, _ => none
  | k + 1, x1, x2, x3, x10, xo0 => if x10 < x3 then
      if 0 ≤ (wrap64 (x2 + x10)) then
        if (wrap64 (x2 + x10)) < (xo0.length : Int) then
          if 0 ≤ (wrap64 (x1 + x10)) then
            if (wrap64 (x1 + x10)) < (xo0.length : Int) then
              if 0 ≤ (wrap64 (x1 + x10)) then
                if (wrap64 (x1 + x10)) < (xo0.length : Int) then
                  if 0 ≤ (wrap64 (x2 + x10)) then
                    if (wrap64 (x2 + x10)) < ((xo0.set (wrap64 (x1 + x10)).toNat (rY0 xo0 (wrap64 (x2 + x10)))).length : Int) then
                      slices_swapRangeCmpFunc_api_ConvexPiece.l1 k x1 x2 x3 (wrap64 (x10 + 1)) ((xo0.set (wrap64 (x1 + x10)).toNat (rY0 xo0 (wrap64 (x2 + x10)))).set (wrap64 (x2 + x10)).toNat (rY0 xo0 (wrap64 (x1 + x10))))
                    else none
                  else none
                else none
              else none
            else none
          else none
        else none
      else none
    else some xo0
theorem slices_swapRangeCmpFunc_api_ConvexPiece.l1_eq (k : Nat) (x1 : Int) (x2 : Int) (x3 : Int) (x10 : Int) (xo0 : List (Int × Int)) : slices_swapRangeCmpFunc_api_ConvexPiece.l1 (k + 1) x1 x2 x3 x10 xo0 = if x10 < x3 then
      if 0 ≤ (wrap64 (x2 + x10)) then
        if (wrap64 (x2 + x10)) < (xo0.length : Int) then
          if 0 ≤ (wrap64 (x1 + x10)) then
            if (wrap64 (x1 + x10)) < (xo0.length : Int) then
              if 0 ≤ (wrap64 (x1 + x10)) then
                if (wrap64 (x1 + x10)) < (xo0.length : Int) then
                  if 0 ≤ (wrap64 (x2 + x10)) then
                    if (wrap64 (x2 + x10)) < ((xo0.set (wrap64 (x1 + x10)).toNat (rY0 xo0 (wrap64 (x2 + x10)))).length : Int) then
                      slices_swapRangeCmpFunc_api_ConvexPiece.l1 k x1 x2 x3 (wrap64 (x10 + 1)) ((xo0.set (wrap64 (x1 + x10)).toNat (rY0 xo0 (wrap64 (x2 + x10)))).set (wrap64 (x2 + x10)).toNat (rY0 xo0 (wrap64 (x1 + x10))))
                    else none
                  else none
                else none
              else none
            else none
          else none
        else none
      else none
    else some xo0 := rfl
def slices_swapRangeCmpFunc_api_ConvexPiece.f (k : Nat) (a1 : Int) (a2 : Int) (a3 : Int) (ao0 : List (Int × Int)) : Option (List (Int × Int)) :=
  slices_swapRangeCmpFunc_api_ConvexPiece.l1 k a1 a2 a3 0 ao0
def slices_rotateCmpFunc_api_ConvexPiece.l2 : Nat → Int → Int → Int → (List (Int × Int)) → Option (List (Int × Int))
  | 0, _, _, _, _ => none
  | k + 1, x2, x10, x11, xo0 => if x10 = x11 then
      (slices_swapRangeCmpFunc_api_ConvexPiece.f k (wrap64 (x2 - x10)) x2 x10 xo0).bind fun r1 =>
      some r1
    else if x11 < x10 then
      (slices_swapRangeCmpFunc_api_ConvexPiece.f k (wrap64 (x2 - x10)) x2 x11 xo0).bind fun r2 =>
      slices_rotateCmpFunc_api_ConvexPiece.l2 k x2 (wrap64 (x10 - x11)) x11 r2
    else (slices_swapRangeCmpFunc_api_ConvexPiece.f k (wrap64 (x2 - x10)) (wrap64 ((wrap64 (x2 + x11)) - x10)) x10 xo0).bind fun r3 =>
    slices_rotateCmpFunc_api_ConvexPiece.l2 k x2 x10 (wrap64 (x11 - x10)) r3
theorem slices_rotateCmpFunc_api_ConvexPiece.l2_eq (k : Nat) (x2 : Int) (x10 : Int) (x11 : Int) (xo0 : List (Int × Int)) : slices_rotateCmpFunc_api_ConvexPiece.l2 (k + 1) x2 x10 x11 xo0 = if x10 = x11 then
      (slices_swapRangeCmpFunc_api_ConvexPiece.f k (wrap64 (x2 - x10)) x2 x10 xo0).bind fun r1 =>
      some r1
    else if x11 < x10 then
      (slices_swapRangeCmpFunc_api_ConvexPiece.f k (wrap64 (x2 - x10)) x2 x11 xo0).bind fun r2 =>
      slices_rotateCmpFunc_api_ConvexPiece.l2 k x2 (wrap64 (x10 - x11)) x11 r2
    else (slices_swapRangeCmpFunc_api_ConvexPiece.f k (wrap64 (x2 - x10)) (wrap64 ((wrap64 (x2 + x11)) - x10)) x10 xo0).bind fun r3 =>
    slices_rotateCmpFunc_api_ConvexPiece.l2 k x2 x10 (wrap64 (x11 - x10)) r3 := rfl
def slices_rotateCmpFunc_api_ConvexPiece.f (k : Nat) (a1 : Int) (a2 : Int) (a3 : Int) (ao0 : List (Int × Int)) : Option (List (Int × Int)) :=
  slices_rotateCmpFunc_api_ConvexPiece.l2 k a2 (wrap64 (a2 - a1)) (wrap64 (a3 - a2)) ao0
def slices_symMergeCmpFunc_api_ConvexPiece.l9 : Nat → Int → Int → (List (Int × Int)) → Option (List (Int × Int))
  | 0, _, _, _ => none
  | k + 1, x10, x13, xo0 => if x13 < (wrap64 (x10 - 1)) then
      if 0 ≤ (wrap64 (x13 + 1)) then
        if (wrap64 (x13 + 1)) < (xo0.length : Int) then
          if 0 ≤ x13 then
            if x13 < (xo0.length : Int) then
              if 0 ≤ x13 then
                if x13 < (xo0.length : Int) then
                  if 0 ≤ (wrap64 (x13 + 1)) then
                    if (wrap64 (x13 + 1)) < ((xo0.set x13.toNat (rY0 xo0 (wrap64 (x13 + 1)))).length : Int) then
                      slices_symMergeCmpFunc_api_ConvexPiece.l9 k x10 (wrap64 (x13 + 1)) ((xo0.set x13.toNat (rY0 xo0 (wrap64 (x13 + 1)))).set (wrap64 (x13 + 1)).toNat (rY0 xo0 x13))
                    else none
                  else none
                else none
              else none
            else none
          else none
        else none
      else none
    else some xo0
theorem slices_symMergeCmpFunc_api_ConvexPiece.l9_eq (k : Nat) (x10 : Int) (x13 : Int) (xo0 : List (Int × Int)) : slices_symMergeCmpFunc_api_ConvexPiece.l9 (k + 1) x10 x13 xo0 = if x13 < (wrap64 (x10 - 1)) then
      if 0 ≤ (wrap64 (x13 + 1)) then
        if (wrap64 (x13 + 1)) < (xo0.length : Int) then
          if 0 ≤ x13 then
            if x13 < (xo0.length : Int) then
              if 0 ≤ x13 then
                if x13 < (xo0.length : Int) then
                  if 0 ≤ (wrap64 (x13 + 1)) then
                    if (wrap64 (x13 + 1)) < ((xo0.set x13.toNat (rY0 xo0 (wrap64 (x13 + 1)))).length : Int) then
                      slices_symMergeCmpFunc_api_ConvexPiece.l9 k x10 (wrap64 (x13 + 1)) ((xo0.set x13.toNat (rY0 xo0 (wrap64 (x13 + 1)))).set (wrap64 (x13 + 1)).toNat (rY0 xo0 x13))
                    else none
                  else none
                else none
              else none
            else none
          else none
        else none
      else none
    else some xo0 := rfl
def slices_symMergeCmpFunc_api_ConvexPiece.l3 : Nat → Int → Int → Int → (List (Int × Int)) → Option (List (Int × Int))
  | 0, _, _, _, _ => none
  | k + 1, x1, x10, x11, xo0 => if x10 < x11 then
      if (0 : Int) ≤ 1 then
        if 0 ≤ (wrap64 (shrI .u64 (IntKind.wrap .u64 (wrap64 (x10 + x11))) 1)) then
          if (wrap64 (shrI .u64 (IntKind.wrap .u64 (wrap64 (x10 + x11))) 1)) < (xo0.length : Int) then
            if 0 ≤ x1 then
              if x1 < (xo0.length : Int) then
                (convexpl_made_1.f k (rY0 xo0 (wrap64 (shrI .u64 (IntKind.wrap .u64 (wrap64 (x10 + x11))) 1))) (rY0 xo0 x1)).bind fun r1 =>
                if r1 < 0 then
                  slices_symMergeCmpFunc_api_ConvexPiece.l3 k x1 (wrap64 ((wrap64 (shrI .u64 (IntKind.wrap .u64 (wrap64 (x10 + x11))) 1)) + 1)) x11 xo0
                else slices_symMergeCmpFunc_api_ConvexPiece.l3 k x1 x10 (wrap64 (shrI .u64 (IntKind.wrap .u64 (wrap64 (x10 + x11))) 1)) xo0
              else none
            else none
          else none
        else none
      else none
    else slices_symMergeCmpFunc_api_ConvexPiece.l9 k x10 x1 xo0
theorem slices_symMergeCmpFunc_api_ConvexPiece.l3_eq (k : Nat) (x1 : Int) (x10 : Int) (x11 : Int) (xo0 : List (Int × Int)) : slices_symMergeCmpFunc_api_ConvexPiece.l3 (k + 1) x1 x10 x11 xo0 = if x10 < x11 then
      if (0 : Int) ≤ 1 then
        if 0 ≤ (wrap64 (shrI .u64 (IntKind.wrap .u64 (wrap64 (x10 + x11))) 1)) then
          if (wrap64 (shrI .u64 (IntKind.wrap .u64 (wrap64 (x10 + x11))) 1)) < (xo0.length : Int) then
            if 0 ≤ x1 then
              if x1 < (xo0.length : Int) then
                (convexpl_made_1.f k (rY0 xo0 (wrap64 (shrI .u64 (IntKind.wrap .u64 (wrap64 (x10 + x11))) 1))) (rY0 xo0 x1)).bind fun r1 =>
                if r1 < 0 then
                  slices_symMergeCmpFunc_api_ConvexPiece.l3 k x1 (wrap64 ((wrap64 (shrI .u64 (IntKind.wrap .u64 (wrap64 (x10 + x11))) 1)) + 1)) x11 xo0
                else slices_symMergeCmpFunc_api_ConvexPiece.l3 k x1 x10 (wrap64 (shrI .u64 (IntKind.wrap .u64 (wrap64 (x10 + x11))) 1)) xo0
              else none
            else none
          else none
        else none
      else none
    else slices_symMergeCmpFunc_api_ConvexPiece.l9 k x10 x1 xo0 := rfl
def slices_symMergeCmpFunc_api_ConvexPiece.l21 : Nat → Int → Int → (List (Int × Int)) → Option (List (Int × Int))
  | 0, _, _, _ => none
  | k + 1, x14, x17, xo0 => if x14 < x17 then
      if 0 ≤ (wrap64 (x17 - 1)) then
        if (wrap64 (x17 - 1)) < (xo0.length : Int) then
          if 0 ≤ x17 then
            if x17 < (xo0.length : Int) then
              if 0 ≤ x17 then
                if x17 < (xo0.length : Int) then
                  if 0 ≤ (wrap64 (x17 - 1)) then
                    if (wrap64 (x17 - 1)) < ((xo0.set x17.toNat (rY0 xo0 (wrap64 (x17 - 1)))).length : Int) then
                      slices_symMergeCmpFunc_api_ConvexPiece.l21 k x14 (wrap64 (x17 - 1)) ((xo0.set x17.toNat (rY0 xo0 (wrap64 (x17 - 1)))).set (wrap64 (x17 - 1)).toNat (rY0 xo0 x17))
                    else none
                  else none
                else none
              else none
            else none
          else none
        else none
      else none
    else some xo0
theorem slices_symMergeCmpFunc_api_ConvexPiece.l21_eq (k : Nat) (x14 : Int) (x17 : Int) (xo0 : List (Int × Int)) : slices_symMergeCmpFunc_api_ConvexPiece.l21 (k + 1) x14 x17 xo0 = if x14 < x17 then
      if 0 ≤ (wrap64 (x17 - 1)) then
        if (wrap64 (x17 - 1)) < (xo0.length : Int) then
          if 0 ≤ x17 then
            if x17 < (xo0.length : Int) then
              if 0 ≤ x17 then
                if x17 < (xo0.length : Int) then
                  if 0 ≤ (wrap64 (x17 - 1)) then
                    if (wrap64 (x17 - 1)) < ((xo0.set x17.toNat (rY0 xo0 (wrap64 (x17 - 1)))).length : Int) then
                      slices_symMergeCmpFunc_api_ConvexPiece.l21 k x14 (wrap64 (x17 - 1)) ((xo0.set x17.toNat (rY0 xo0 (wrap64 (x17 - 1)))).set (wrap64 (x17 - 1)).toNat (rY0 xo0 x17))
                    else none
                  else none
                else none
              else none
            else none
          else none
        else none
      else none
    else some xo0 := rfl
def slices_symMergeCmpFunc_api_ConvexPiece.l15 : Nat → Int → Int → Int → (List (Int × Int)) → Option (List (Int × Int))
  | 0, _, _, _, _ => none
  | k + 1, x2, x14, x15, xo0 => if x14 < x15 then
      if (0 : Int) ≤ 1 then
        if 0 ≤ x2 then
          if x2 < (xo0.length : Int) then
            if 0 ≤ (wrap64 (shrI .u64 (IntKind.wrap .u64 (wrap64 (x14 + x15))) 1)) then
              if (wrap64 (shrI .u64 (IntKind.wrap .u64 (wrap64 (x14 + x15))) 1)) < (xo0.length : Int) then
                (convexpl_made_1.f k (rY0 xo0 x2) (rY0 xo0 (wrap64 (shrI .u64 (IntKind.wrap .u64 (wrap64 (x14 + x15))) 1)))).bind fun r2 =>
                if r2 < 0 then
                  slices_symMergeCmpFunc_api_ConvexPiece.l15 k x2 x14 (wrap64 (shrI .u64 (IntKind.wrap .u64 (wrap64 (x14 + x15))) 1)) xo0
                else slices_symMergeCmpFunc_api_ConvexPiece.l15 k x2 (wrap64 ((wrap64 (shrI .u64 (IntKind.wrap .u64 (wrap64 (x14 + x15))) 1)) + 1)) x15 xo0
              else none
            else none
          else none
        else none
      else none
    else slices_symMergeCmpFunc_api_ConvexPiece.l21 k x14 x2 xo0
theorem slices_symMergeCmpFunc_api_ConvexPiece.l15_eq (k : Nat) (x2 : Int) (x14 : Int) (x15 : Int) (xo0 : List (Int × Int)) : slices_symMergeCmpFunc_api_ConvexPiece.l15 (k + 1) x2 x14 x15 xo0 = if x14 < x15 then
      if (0 : Int) ≤ 1 then
        if 0 ≤ x2 then
          if x2 < (xo0.length : Int) then
            if 0 ≤ (wrap64 (shrI .u64 (IntKind.wrap .u64 (wrap64 (x14 + x15))) 1)) then
              if (wrap64 (shrI .u64 (IntKind.wrap .u64 (wrap64 (x14 + x15))) 1)) < (xo0.length : Int) then
                (convexpl_made_1.f k (rY0 xo0 x2) (rY0 xo0 (wrap64 (shrI .u64 (IntKind.wrap .u64 (wrap64 (x14 + x15))) 1)))).bind fun r2 =>
                if r2 < 0 then
                  slices_symMergeCmpFunc_api_ConvexPiece.l15 k x2 x14 (wrap64 (shrI .u64 (IntKind.wrap .u64 (wrap64 (x14 + x15))) 1)) xo0
                else slices_symMergeCmpFunc_api_ConvexPiece.l15 k x2 (wrap64 ((wrap64 (shrI .u64 (IntKind.wrap .u64 (wrap64 (x14 + x15))) 1)) + 1)) x15 xo0
              else none
            else none
          else none
        else none
      else none
    else slices_symMergeCmpFunc_api_ConvexPiece.l21 k x14 x2 xo0 := rfl
mutual
def slices_symMergeCmpFunc_api_ConvexPiece.f : Nat → Int → Int → Int → (List (Int × Int)) → Option (List (Int × Int))
  | 0, _, _, _, _ => none
  | k + 1, a1, a2, a3, ao0 => if (wrap64 (a2 - a1)) = 1 then
      slices_symMergeCmpFunc_api_ConvexPiece.l3 k a1 a2 a3 ao0
    else if (wrap64 (a3 - a2)) = 1 then
      slices_symMergeCmpFunc_api_ConvexPiece.l15 k a2 a1 a2 ao0
    else if (0 : Int) ≤ 1 then
      if (wrap64 (shrI .u64 (IntKind.wrap .u64 (wrap64 (a1 + a3))) 1)) < a2 then
        slices_symMergeCmpFunc_api_ConvexPiece.l32 k a1 a2 a3 (wrap64 (shrI .u64 (IntKind.wrap .u64 (wrap64 (a1 + a3))) 1)) (wrap64 ((wrap64 (shrI .u64 (IntKind.wrap .u64 (wrap64 (a1 + a3))) 1)) + a2)) (wrap64 ((wrap64 ((wrap64 (shrI .u64 (IntKind.wrap .u64 (wrap64 (a1 + a3))) 1)) + a2)) - a3)) (wrap64 (shrI .u64 (IntKind.wrap .u64 (wrap64 (a1 + a3))) 1)) ao0
      else slices_symMergeCmpFunc_api_ConvexPiece.l32 k a1 a2 a3 (wrap64 (shrI .u64 (IntKind.wrap .u64 (wrap64 (a1 + a3))) 1)) (wrap64 ((wrap64 (shrI .u64 (IntKind.wrap .u64 (wrap64 (a1 + a3))) 1)) + a2)) a1 a2 ao0
    else none
def slices_symMergeCmpFunc_api_ConvexPiece.l32 : Nat → Int → Int → Int → Int → Int → Int → Int → (List (Int × Int)) → Option (List (Int × Int))
  | 0, _, _, _, _, _, _, _, _ => none
  | k + 1, x1, x2, x3, x18, x19, x20, x21, xo0 => slices_symMergeCmpFunc_api_ConvexPiece.l33 k x1 x2 x3 x18 x19 x20 x21 (wrap64 (x19 - 1)) xo0
def slices_symMergeCmpFunc_api_ConvexPiece.l33 : Nat → Int → Int → Int → Int → Int → Int → Int → Int → (List (Int × Int)) → Option (List (Int × Int))
  | 0, _, _, _, _, _, _, _, _, _ => none
  | k + 1, x1, x2, x3, x18, x19, x20, x21, x22, xo0 => if x20 < x21 then
      if (0 : Int) ≤ 1 then
        if 0 ≤ (wrap64 (x22 - (wrap64 (shrI .u64 (IntKind.wrap .u64 (wrap64 (x20 + x21))) 1)))) then
          if (wrap64 (x22 - (wrap64 (shrI .u64 (IntKind.wrap .u64 (wrap64 (x20 + x21))) 1)))) < (xo0.length : Int) then
            if 0 ≤ (wrap64 (shrI .u64 (IntKind.wrap .u64 (wrap64 (x20 + x21))) 1)) then
              if (wrap64 (shrI .u64 (IntKind.wrap .u64 (wrap64 (x20 + x21))) 1)) < (xo0.length : Int) then
                (convexpl_made_1.f k (rY0 xo0 (wrap64 (x22 - (wrap64 (shrI .u64 (IntKind.wrap .u64 (wrap64 (x20 + x21))) 1))))) (rY0 xo0 (wrap64 (shrI .u64 (IntKind.wrap .u64 (wrap64 (x20 + x21))) 1)))).bind fun r3 =>
                if r3 < 0 then
                  slices_symMergeCmpFunc_api_ConvexPiece.l33 k x1 x2 x3 x18 x19 x20 (wrap64 (shrI .u64 (IntKind.wrap .u64 (wrap64 (x20 + x21))) 1)) x22 xo0
                else slices_symMergeCmpFunc_api_ConvexPiece.l33 k x1 x2 x3 x18 x19 (wrap64 ((wrap64 (shrI .u64 (IntKind.wrap .u64 (wrap64 (x20 + x21))) 1)) + 1)) x21 x22 xo0
              else none
            else none
          else none
        else none
      else none
    else if x20 < x2 then
      if x2 < (wrap64 (x19 - x20)) then
        (slices_rotateCmpFunc_api_ConvexPiece.f k x20 x2 (wrap64 (x19 - x20)) xo0).bind fun r4 =>
        slices_symMergeCmpFunc_api_ConvexPiece.l41 k x1 x3 x18 x20 (wrap64 (x19 - x20)) r4
      else slices_symMergeCmpFunc_api_ConvexPiece.l41 k x1 x3 x18 x20 (wrap64 (x19 - x20)) xo0
    else slices_symMergeCmpFunc_api_ConvexPiece.l41 k x1 x3 x18 x20 (wrap64 (x19 - x20)) xo0
def slices_symMergeCmpFunc_api_ConvexPiece.l41 : Nat → Int → Int → Int → Int → Int → (List (Int × Int)) → Option (List (Int × Int))
  | 0, _, _, _, _, _, _ => none
  | k + 1, x1, x3, x18, x20, x24, xo0 => if x1 < x20 then
      if x20 < x18 then
        (slices_symMergeCmpFunc_api_ConvexPiece.f k x1 x20 x18 xo0).bind fun r5 =>
        if x18 < x24 then
          if x24 < x3 then
            (slices_symMergeCmpFunc_api_ConvexPiece.f k x18 x24 x3 r5).bind fun r6 =>
            some r6
          else some r5
        else some r5
      else if x18 < x24 then
        if x24 < x3 then
          (slices_symMergeCmpFunc_api_ConvexPiece.f k x18 x24 x3 xo0).bind fun r7 =>
          some r7
        else some xo0
      else some xo0
    else if x18 < x24 then
      if x24 < x3 then
        (slices_symMergeCmpFunc_api_ConvexPiece.f k x18 x24 x3 xo0).bind fun r8 =>
        some r8
      else some xo0
    else some xo0
end
theorem slices_symMergeCmpFunc_api_ConvexPiece.f_eq (k : Nat) (a1 : Int) (a2 : Int) (a3 : Int) (ao0 : List (Int × Int)) : slices_symMergeCmpFunc_api_ConvexPiece.f (k + 1) a1 a2 a3 ao0 = if (wrap64 (a2 - a1)) = 1 then
      slices_symMergeCmpFunc_api_ConvexPiece.l3 k a1 a2 a3 ao0
    else if (wrap64 (a3 - a2)) = 1 then
      slices_symMergeCmpFunc_api_ConvexPiece.l15 k a2 a1 a2 ao0
    else if (0 : Int) ≤ 1 then
      if (wrap64 (shrI .u64 (IntKind.wrap .u64 (wrap64 (a1 + a3))) 1)) < a2 then
        slices_symMergeCmpFunc_api_ConvexPiece.l32 k a1 a2 a3 (wrap64 (shrI .u64 (IntKind.wrap .u64 (wrap64 (a1 + a3))) 1)) (wrap64 ((wrap64 (shrI .u64 (IntKind.wrap .u64 (wrap64 (a1 + a3))) 1)) + a2)) (wrap64 ((wrap64 ((wrap64 (shrI .u64 (IntKind.wrap .u64 (wrap64 (a1 + a3))) 1)) + a2)) - a3)) (wrap64 (shrI .u64 (IntKind.wrap .u64 (wrap64 (a1 + a3))) 1)) ao0
      else slices_symMergeCmpFunc_api_ConvexPiece.l32 k a1 a2 a3 (wrap64 (shrI .u64 (IntKind.wrap .u64 (wrap64 (a1 + a3))) 1)) (wrap64 ((wrap64 (shrI .u64 (IntKind.wrap .u64 (wrap64 (a1 + a3))) 1)) + a2)) a1 a2 ao0
    else none := rfl
theorem slices_symMergeCmpFunc_api_ConvexPiece.l32_eq (k : Nat) (x1 : Int) (x2 : Int) (x3 : Int) (x18 : Int) (x19 : Int) (x20 : Int) (x21 : Int) (xo0 : List (Int × Int)) : slices_symMergeCmpFunc_api_ConvexPiece.l32 (k + 1) x1 x2 x3 x18 x19 x20 x21 xo0 = slices_symMergeCmpFunc_api_ConvexPiece.l33 k x1 x2 x3 x18 x19 x20 x21 (wrap64 (x19 - 1)) xo0 := rfl
theorem slices_symMergeCmpFunc_api_ConvexPiece.l33_eq (k : Nat) (x1 : Int) (x2 : Int) (x3 : Int) (x18 : Int) (x19 : Int) (x20 : Int) (x21 : Int) (x22 : Int) (xo0 : List (Int × Int)) : slices_symMergeCmpFunc_api_ConvexPiece.l33 (k + 1) x1 x2 x3 x18 x19 x20 x21 x22 xo0 = if x20 < x21 then
      if (0 : Int) ≤ 1 then
        if 0 ≤ (wrap64 (x22 - (wrap64 (shrI .u64 (IntKind.wrap .u64 (wrap64 (x20 + x21))) 1)))) then
          if (wrap64 (x22 - (wrap64 (shrI .u64 (IntKind.wrap .u64 (wrap64 (x20 + x21))) 1)))) < (xo0.length : Int) then
            if 0 ≤ (wrap64 (shrI .u64 (IntKind.wrap .u64 (wrap64 (x20 + x21))) 1)) then
              if (wrap64 (shrI .u64 (IntKind.wrap .u64 (wrap64 (x20 + x21))) 1)) < (xo0.length : Int) then
                (convexpl_made_1.f k (rY0 xo0 (wrap64 (x22 - (wrap64 (shrI .u64 (IntKind.wrap .u64 (wrap64 (x20 + x21))) 1))))) (rY0 xo0 (wrap64 (shrI .u64 (IntKind.wrap .u64 (wrap64 (x20 + x21))) 1)))).bind fun r3 =>
                if r3 < 0 then
                  slices_symMergeCmpFunc_api_ConvexPiece.l33 k x1 x2 x3 x18 x19 x20 (wrap64 (shrI .u64 (IntKind.wrap .u64 (wrap64 (x20 + x21))) 1)) x22 xo0
                else slices_symMergeCmpFunc_api_ConvexPiece.l33 k x1 x2 x3 x18 x19 (wrap64 ((wrap64 (shrI .u64 (IntKind.wrap .u64 (wrap64 (x20 + x21))) 1)) + 1)) x21 x22 xo0
              else none
            else none
          else none
        else none
      else none
    else if x20 < x2 then
      if x2 < (wrap64 (x19 - x20)) then
        (slices_rotateCmpFunc_api_ConvexPiece.f k x20 x2 (wrap64 (x19 - x20)) xo0).bind fun r4 =>
        slices_symMergeCmpFunc_api_ConvexPiece.l41 k x1 x3 x18 x20 (wrap64 (x19 - x20)) r4
      else slices_symMergeCmpFunc_api_ConvexPiece.l41 k x1 x3 x18 x20 (wrap64 (x19 - x20)) xo0
    else slices_symMergeCmpFunc_api_ConvexPiece.l41 k x1 x3 x18 x20 (wrap64 (x19 - x20)) xo0 := rfl
theorem slices_symMergeCmpFunc_api_ConvexPiece.l41_eq (k : Nat) (x1 : Int) (x3 : Int) (x18 : Int) (x20 : Int) (x24 : Int) (xo0 : List (Int × Int)) : slices_symMergeCmpFunc_api_ConvexPiece.l41 (k + 1) x1 x3 x18 x20 x24 xo0 = if x1 < x20 then
      if x20 < x18 then
        (slices_symMergeCmpFunc_api_ConvexPiece.f k x1 x20 x18 xo0).bind fun r5 =>
        if x18 < x24 then
          if x24 < x3 then
            (slices_symMergeCmpFunc_api_ConvexPiece.f k x18 x24 x3 r5).bind fun r6 =>
            some r6
          else some r5
        else some r5
      else if x18 < x24 then
        if x24 < x3 then
          (slices_symMergeCmpFunc_api_ConvexPiece.f k x18 x24 x3 xo0).bind fun r7 =>
          some r7
        else some xo0
      else some xo0
    else if x18 < x24 then
      if x24 < x3 then
        (slices_symMergeCmpFunc_api_ConvexPiece.f k x18 x24 x3 xo0).bind fun r8 =>
        some r8
      else some xo0
    else some xo0 := rfl
mutual
def slices_stableCmpFunc_api_ConvexPiece.l7 : Nat → Int → Int → (List (Int × Int)) → Option (List (Int × Int))
  | 0, _, _, _ => none
  | k + 1, x1, x6, xo0 => if x6 < x1 then
      slices_stableCmpFunc_api_ConvexPiece.l9 k x1 x6 0 (wrap64 (2 * x6)) xo0
    else some xo0
def slices_stableCmpFunc_api_ConvexPiece.l9 : Nat → Int → Int → Int → Int → (List (Int × Int)) → Option (List (Int × Int))
  | 0, _, _, _, _, _ => none
  | k + 1, x1, x6, x7, x8, xo0 => if x8 ≤ x1 then
      (slices_symMergeCmpFunc_api_ConvexPiece.f k x7 (wrap64 (x7 + x6)) x8 xo0).bind fun r3 =>
      slices_stableCmpFunc_api_ConvexPiece.l9 k x1 x6 x8 (wrap64 (x8 + (wrap64 (2 * x6)))) r3
    else if (wrap64 (x7 + x6)) < x1 then
      (slices_symMergeCmpFunc_api_ConvexPiece.f k x7 (wrap64 (x7 + x6)) x1 xo0).bind fun r4 =>
      slices_stableCmpFunc_api_ConvexPiece.l7 k x1 (wrap64 (x6 * 2)) r4
    else slices_stableCmpFunc_api_ConvexPiece.l7 k x1 (wrap64 (x6 * 2)) xo0
end
theorem slices_stableCmpFunc_api_ConvexPiece.l7_eq (k : Nat) (x1 : Int) (x6 : Int) (xo0 : List (Int × Int)) : slices_stableCmpFunc_api_ConvexPiece.l7 (k + 1) x1 x6 xo0 = if x6 < x1 then
      slices_stableCmpFunc_api_ConvexPiece.l9 k x1 x6 0 (wrap64 (2 * x6)) xo0
    else some xo0 := rfl
theorem slices_stableCmpFunc_api_ConvexPiece.l9_eq (k : Nat) (x1 : Int) (x6 : Int) (x7 : Int) (x8 : Int) (xo0 : List (Int × Int)) : slices_stableCmpFunc_api_ConvexPiece.l9 (k + 1) x1 x6 x7 x8 xo0 = if x8 ≤ x1 then
      (slices_symMergeCmpFunc_api_ConvexPiece.f k x7 (wrap64 (x7 + x6)) x8 xo0).bind fun r3 =>
      slices_stableCmpFunc_api_ConvexPiece.l9 k x1 x6 x8 (wrap64 (x8 + (wrap64 (2 * x6)))) r3
    else if (wrap64 (x7 + x6)) < x1 then
      (slices_symMergeCmpFunc_api_ConvexPiece.f k x7 (wrap64 (x7 + x6)) x1 xo0).bind fun r4 =>
      slices_stableCmpFunc_api_ConvexPiece.l7 k x1 (wrap64 (x6 * 2)) r4
    else slices_stableCmpFunc_api_ConvexPiece.l7 k x1 (wrap64 (x6 * 2)) xo0 := rfl
def slices_stableCmpFunc_api_ConvexPiece.l2 : Nat → Int → Int → Int → Int → (List (Int × Int)) → Option (List (Int × Int))
  | 0, _, _, _, _, _ => none
  | k + 1, x1, x6, x7, x8, xo0 => if x8 ≤ x1 then
      (slices_insertionSortCmpFunc_api_ConvexPiece.f k x7 x8 xo0).bind fun r1 =>
      slices_stableCmpFunc_api_ConvexPiece.l2 k x1 x6 x8 (wrap64 (x8 + x6)) r1
    else (slices_insertionSortCmpFunc_api_ConvexPiece.f k x7 x1 xo0).bind fun r2 =>
    slices_stableCmpFunc_api_ConvexPiece.l7 k x1 x6 r2
theorem slices_stableCmpFunc_api_ConvexPiece.l2_eq (k : Nat) (x1 : Int) (x6 : Int) (x7 : Int) (x8 : Int) (xo0 : List (Int × Int)) : slices_stableCmpFunc_api_ConvexPiece.l2 (k + 1) x1 x6 x7 x8 xo0 = if x8 ≤ x1 then
      (slices_insertionSortCmpFunc_api_ConvexPiece.f k x7 x8 xo0).bind fun r1 =>
      slices_stableCmpFunc_api_ConvexPiece.l2 k x1 x6 x8 (wrap64 (x8 + x6)) r1
    else (slices_insertionSortCmpFunc_api_ConvexPiece.f k x7 x1 xo0).bind fun r2 =>
    slices_stableCmpFunc_api_ConvexPiece.l7 k x1 x6 r2 := rfl
def slices_stableCmpFunc_api_ConvexPiece.f (k : Nat) (a1 : Int) (ao0 : List (Int × Int)) : Option (List (Int × Int)) :=
  slices_stableCmpFunc_api_ConvexPiece.l2 k a1 20 0 20 ao0
def slices_SortStableFunc_api_ConvexPiece.f (k : Nat) (ao0 : List (Int × Int)) : Option (List (Int × Int)) :=
  (slices_stableCmpFunc_api_ConvexPiece.f k (ao0.length : Int) ao0).bind fun r1 =>
  some r1
def convexpl_made.l4 : Nat → Int → Int → (List (Int × Int)) → Int → Int → Int → Int → (List (Int × Int)) → Option ((Int × Int × List (Int × Int)) × Int × List (Int × Int))
  | 0, _, _, _, _, _, _, _, _ => none
  | k + 1, x18, x19, xo0, xo1_0, xo1_1, xo2_0, xo2_1, xo3 => if x19 < x18 then
      if 0 ≤ x19 then
        if x19 < (xo0.length : Int) then
          if (rY0 xo0 x19).1 = 0 then
            convexpl_made.l4 k x18 (wrap64 (x19 + 1)) xo0 xo1_0 xo1_1 xo2_0 xo2_1 xo3
          else if 0 ≤ (wrap64 ((xo3.length : Int) - 1)) then
            if 0 ≤ (wrap64 ((xo3.length : Int) - 1)) then
              if (wrap64 ((xo3.length : Int) - 1)) < (xo3.length : Int) then
                if (rY0 xo3 (wrap64 ((xo3.length : Int) - 1))).2 = (rY0 xo0 x19).2 then
                  if 0 ≤ (wrap64 ((xo3.length : Int) - 1)) then
                    if (wrap64 ((xo3.length : Int) - 1)) < (xo3.length : Int) then
                      if 0 ≤ (wrap64 ((xo3.length : Int) - 1)) then
                        if (wrap64 ((xo3.length : Int) - 1)) < (xo3.length : Int) then
                          convexpl_made.l4 k x18 (wrap64 (x19 + 1)) xo0 xo1_0 xo1_1 xo2_0 xo2_1 (xo3.set (wrap64 ((xo3.length : Int) - 1)).toNat (wrap64 ((rY0 xo3 (wrap64 ((xo3.length : Int) - 1))).1 + (rY0 xo0 x19).1), (rY0 xo3 (wrap64 ((xo3.length : Int) - 1))).2))
                        else none
                      else none
                    else none
                  else none
                else if (xo3.length + [rY0 xo0 x19].length) * 16 ≤ 140737488355328 then
                  convexpl_made.l4 k x18 (wrap64 (x19 + 1)) xo0 xo1_0 xo1_1 xo2_0 xo2_1 (xo3 ++ [rY0 xo0 x19])
                else none
              else none
            else none
          else if (xo3.length + [rY0 xo0 x19].length) * 16 ≤ 140737488355328 then
            convexpl_made.l4 k x18 (wrap64 (x19 + 1)) xo0 xo1_0 xo1_1 xo2_0 xo2_1 (xo3 ++ [rY0 xo0 x19])
          else none
        else none
      else none
    else (convexpl_Check.f k (xo2_0, xo2_1, xo3)).bind fun r2 =>
    if r2 = 0 then
      some ((xo2_0, xo2_1, xo3), 0, xo0)
    else some ((0, 0, []), 2, xo0)
theorem convexpl_made.l4_eq (k : Nat) (x18 : Int) (x19 : Int) (xo0 : List (Int × Int)) (xo1_0 : Int) (xo1_1 : Int) (xo2_0 : Int) (xo2_1 : Int) (xo3 : List (Int × Int)) : convexpl_made.l4 (k + 1) x18 x19 xo0 xo1_0 xo1_1 xo2_0 xo2_1 xo3 = if x19 < x18 then
      if 0 ≤ x19 then
        if x19 < (xo0.length : Int) then
          if (rY0 xo0 x19).1 = 0 then
            convexpl_made.l4 k x18 (wrap64 (x19 + 1)) xo0 xo1_0 xo1_1 xo2_0 xo2_1 xo3
          else if 0 ≤ (wrap64 ((xo3.length : Int) - 1)) then
            if 0 ≤ (wrap64 ((xo3.length : Int) - 1)) then
              if (wrap64 ((xo3.length : Int) - 1)) < (xo3.length : Int) then
                if (rY0 xo3 (wrap64 ((xo3.length : Int) - 1))).2 = (rY0 xo0 x19).2 then
                  if 0 ≤ (wrap64 ((xo3.length : Int) - 1)) then
                    if (wrap64 ((xo3.length : Int) - 1)) < (xo3.length : Int) then
                      if 0 ≤ (wrap64 ((xo3.length : Int) - 1)) then
                        if (wrap64 ((xo3.length : Int) - 1)) < (xo3.length : Int) then
                          convexpl_made.l4 k x18 (wrap64 (x19 + 1)) xo0 xo1_0 xo1_1 xo2_0 xo2_1 (xo3.set (wrap64 ((xo3.length : Int) - 1)).toNat (wrap64 ((rY0 xo3 (wrap64 ((xo3.length : Int) - 1))).1 + (rY0 xo0 x19).1), (rY0 xo3 (wrap64 ((xo3.length : Int) - 1))).2))
                        else none
                      else none
                    else none
                  else none
                else if (xo3.length + [rY0 xo0 x19].length) * 16 ≤ 140737488355328 then
                  convexpl_made.l4 k x18 (wrap64 (x19 + 1)) xo0 xo1_0 xo1_1 xo2_0 xo2_1 (xo3 ++ [rY0 xo0 x19])
                else none
              else none
            else none
          else if (xo3.length + [rY0 xo0 x19].length) * 16 ≤ 140737488355328 then
            convexpl_made.l4 k x18 (wrap64 (x19 + 1)) xo0 xo1_0 xo1_1 xo2_0 xo2_1 (xo3 ++ [rY0 xo0 x19])
          else none
        else none
      else none
    else (convexpl_Check.f k (xo2_0, xo2_1, xo3)).bind fun r2 =>
    if r2 = 0 then
      some ((xo2_0, xo2_1, xo3), 0, xo0)
    else some ((0, 0, []), 2, xo0) := rfl
def convexpl_made.f (k : Nat) (a0 : Int) (a1 : Int) (ao0 : List (Int × Int)) : Option ((Int × Int × List (Int × Int)) × Int × List (Int × Int)) :=
  (slices_SortStableFunc_api_ConvexPiece.f k ao0).bind fun r1 =>
  convexpl_made.l4 k (r1.length : Int) 0 r1 0 0 a0 a1 []
def convexpl_Restrict.f (k : Nat) (a0 : Int × Int × List (Int × Int)) (a1 : Int) (a2 : Int) : Option ((Int × Int × List (Int × Int)) × Int) :=
  (convexpl_Check.f k a0).bind fun r1 =>
  if r1 = 0 then
    (convexpl_high.f k a0).bind fun r2 =>
    if (mn a2 r2) < (mx a1 a0.1) then
      some ((0, 0, []), 8)
    else (convexpl_value.f k a0 (mx a1 a0.1)).bind fun r3 =>
    (convexpl_cut.f k a0 (mx a1 a0.1) (mn a2 r2)).bind fun r4 =>
    (convexpl_made.f k (mx a1 a0.1) r3 r4).bind fun r5 =>
    some (r5.1, r5.2.1)
  else some ((0, 0, []), r1)
def gridhallkeep3_fine_1.f (k : Nat) (a0 : Int) : Option Bool :=
  some (!decide (a0 = 0))
def slices_IndexFunc_api_Errno.l2 : Nat → List Int → Int → Int → Option Int
  | 0, _, _, _ => none
  | k + 1, x0, x7, x8 => if x8 < x7 then
      if 0 ≤ x8 then
        if x8 < (x0.length : Int) then
          (gridhallkeep3_fine_1.f k (rI64 x0 x8)).bind fun r1 =>
          if r1 = true then
            some x8
          else slices_IndexFunc_api_Errno.l2 k x0 x7 (wrap64 (x8 + 1))
        else none
      else none
    else some (-1)
theorem slices_IndexFunc_api_Errno.l2_eq (k : Nat) (x0 : List Int) (x7 : Int) (x8 : Int) : slices_IndexFunc_api_Errno.l2 (k + 1) x0 x7 x8 = if x8 < x7 then
      if 0 ≤ x8 then
        if x8 < (x0.length : Int) then
          (gridhallkeep3_fine_1.f k (rI64 x0 x8)).bind fun r1 =>
          if r1 = true then
            some x8
          else slices_IndexFunc_api_Errno.l2 k x0 x7 (wrap64 (x8 + 1))
        else none
      else none
    else some (-1) := rfl
def slices_IndexFunc_api_Errno.f (k : Nat) (a0 : List Int) : Option Int :=
  slices_IndexFunc_api_Errno.l2 k a0 (a0.length : Int) 0
def slices_ContainsFunc_api_Errno.f (k : Nat) (a0 : List Int) : Option Bool :=
  (slices_IndexFunc_api_Errno.f k a0).bind fun r1 =>
  some (decide (0 ≤ r1))
def gridhallkeep3_fine.f (k : Nat) (a0 : List Int) : Option Bool :=
  (slices_ContainsFunc_api_Errno.f k a0).bind fun r1 =>
  some (!decide (r1 = true))
def gridhallkeep3_ConvexParts.f (k : Nat) (a0 : Int × Int × List (Int × Int)) (a1 : Int) (a2 : Int) : Option Bool :=
  (gridhallkeep3_slopes.f k).bind fun r1 =>
  if r1 = true then
    (convexpl_High.f k a0).bind fun r2 =>
    if r2.2 = 0 then
      (gridhallkeep3_within.f k a1 a0.1 r2.1).bind fun r3 =>
      (convexpl_Restrict.f k a0 a0.1 r3).bind fun r4 =>
      (convexpl_Restrict.f k a0 r3 r2.1).bind fun r5 =>
      (convexpl_At.f k r4.1 a2).bind fun r6 =>
      (convexpl_At.f k r5.1 a2).bind fun r7 =>
      (convexpl_At.f k a0 a2).bind fun r8 =>
      (gridhallkeep3_fine.f k [r4.2, r5.2]).bind fun r9 =>
      if r9 = true then
        if r6.2 = 0 then
          if true = (decide (r8.2 = 0)) then
            if r6.2 = 0 then
              if r6.1 = r8.1 then
                if r7.2 = 0 then
                  some (decide (r7.1 = r8.1))
                else some true
              else some false
            else if r7.2 = 0 then
              some (decide (r7.1 = r8.1))
            else some true
          else some false
        else if (decide (r7.2 = 0)) = (decide (r8.2 = 0)) then
          if r6.2 = 0 then
            if r6.1 = r8.1 then
              if r7.2 = 0 then
                some (decide (r7.1 = r8.1))
              else some true
            else some false
          else if r7.2 = 0 then
            some (decide (r7.1 = r8.1))
          else some true
        else some false
      else some false
    else some (decide (r2.1 = 0))
  else some false
def convexpl_Turn.l7 : Nat → Int → (List (Int × Int)) → Int → Int → Int → Int → (List (Int × Int)) → Int → Int → (List (Int × Int)) → Option ((Int × Int × List (Int × Int)) × Int)
  | 0, _, _, _, _, _, _, _, _, _, _ => none
  | k + 1, x5, x18, x19, x20, xo0_0, xo0_1, xo0_2, xo1_0, xo1_1, xo2 => if x20 < x19 then
      if 0 ≤ x20 then
        if x20 < (x18.length : Int) then
          if (xo2.length + [((rY0 x18 x20).1, wrap64 (0 - (rY0 x18 x20).2))].length) * 16 ≤ 140737488355328 then
            convexpl_Turn.l7 k x5 x18 x19 (wrap64 (x20 + 1)) xo0_0 xo0_1 xo0_2 xo1_0 xo1_1 (xo2 ++ [((rY0 x18 x20).1, wrap64 (0 - (rY0 x18 x20).2))])
          else none
        else none
      else none
    else (convexpl_value.f k (xo0_0, xo0_1, xo0_2) x5).bind fun r3 =>
    (convexpl_made.f k (wrap64 (0 - x5)) r3 xo2).bind fun r4 =>
    some (r4.1, r4.2.1)
theorem convexpl_Turn.l7_eq (k : Nat) (x5 : Int) (x18 : List (Int × Int)) (x19 : Int) (x20 : Int) (xo0_0 : Int) (xo0_1 : Int) (xo0_2 : List (Int × Int)) (xo1_0 : Int) (xo1_1 : Int) (xo2 : List (Int × Int)) : convexpl_Turn.l7 (k + 1) x5 x18 x19 x20 xo0_0 xo0_1 xo0_2 xo1_0 xo1_1 xo2 = if x20 < x19 then
      if 0 ≤ x20 then
        if x20 < (x18.length : Int) then
          if (xo2.length + [((rY0 x18 x20).1, wrap64 (0 - (rY0 x18 x20).2))].length) * 16 ≤ 140737488355328 then
            convexpl_Turn.l7 k x5 x18 x19 (wrap64 (x20 + 1)) xo0_0 xo0_1 xo0_2 xo1_0 xo1_1 (xo2 ++ [((rY0 x18 x20).1, wrap64 (0 - (rY0 x18 x20).2))])
          else none
        else none
      else none
    else (convexpl_value.f k (xo0_0, xo0_1, xo0_2) x5).bind fun r3 =>
    (convexpl_made.f k (wrap64 (0 - x5)) r3 xo2).bind fun r4 =>
    some (r4.1, r4.2.1) := rfl
def convexpl_Turn.f (k : Nat) (a0 : Int × Int × List (Int × Int)) : Option ((Int × Int × List (Int × Int)) × Int) :=
  (convexpl_Check.f k a0).bind fun r1 =>
  if r1 = 0 then
    (convexpl_high.f k a0).bind fun r2 =>
    convexpl_Turn.l7 k r2 a0.2.2 (a0.2.2.length : Int) 0 a0.1 a0.2.1 a0.2.2 0 0 []
  else some ((0, 0, []), r1)
noncomputable def slices_Clone_api_ConvexPiece.f (k : Nat) (a0 : List (Int × Int)) : Option (List (Int × Int)) :=
  if a0.length = 0 then
    both (some []) (if (([] : List (Int × Int)).length + a0.length) * 16 ≤ 140737488355328 then
        some ([] ++ a0)
      else none)
  else if (([] : List (Int × Int)).length + a0.length) * 16 ≤ 140737488355328 then
    some ([] ++ a0)
  else none
noncomputable def convexpl_Move.f (k : Nat) (a0 : Int × Int × List (Int × Int)) (a1 : Int) (a2 : Int) : Option ((Int × Int × List (Int × Int)) × Int) :=
  (convexpl_Check.f k a0).bind fun r1 =>
  if r1 = 0 then
    if a1 < (-2000000) then
      some ((0, 0, []), 4)
    else if 2000000 < a1 then
      some ((0, 0, []), 4)
    else if a2 < (-1000000000000000) then
      some ((0, 0, []), 4)
    else if 1000000000000000 < a2 then
      some ((0, 0, []), 4)
    else (slices_Clone_api_ConvexPiece.f k a0.2.2).bind fun r2 =>
    (convexpl_made.f k (wrap64 (a0.1 + a1)) (wrap64 (a0.2.1 + a2)) r2).bind fun r3 =>
    some (r3.1, r3.2.1)
  else some ((0, 0, []), r1)
def slices_Equal_api_ConvexPiece.l4 : Nat → (List (Int × Int)) → (List (Int × Int)) → Int → Int → Option Bool
  | 0, _, _, _, _ => none
  | k + 1, x0, x1, x12, x13 => if x13 < x12 then
      if 0 ≤ x13 then
        if x13 < (x0.length : Int) then
          if 0 ≤ x13 then
            if x13 < (x1.length : Int) then
              if (rY0 x0 x13).1 = (rY0 x1 x13).1 ∧ (rY0 x0 x13).2 = (rY0 x1 x13).2 then
                slices_Equal_api_ConvexPiece.l4 k x0 x1 x12 (wrap64 (x13 + 1))
              else some false
            else none
          else none
        else none
      else none
    else some true
theorem slices_Equal_api_ConvexPiece.l4_eq (k : Nat) (x0 : List (Int × Int)) (x1 : List (Int × Int)) (x12 : Int) (x13 : Int) : slices_Equal_api_ConvexPiece.l4 (k + 1) x0 x1 x12 x13 = if x13 < x12 then
      if 0 ≤ x13 then
        if x13 < (x0.length : Int) then
          if 0 ≤ x13 then
            if x13 < (x1.length : Int) then
              if (rY0 x0 x13).1 = (rY0 x1 x13).1 ∧ (rY0 x0 x13).2 = (rY0 x1 x13).2 then
                slices_Equal_api_ConvexPiece.l4 k x0 x1 x12 (wrap64 (x13 + 1))
              else some false
            else none
          else none
        else none
      else none
    else some true := rfl
def slices_Equal_api_ConvexPiece.f (k : Nat) (a0 : List (Int × Int)) (a1 : List (Int × Int)) : Option Bool :=
  if (a0.length : Int) = (a1.length : Int) then
    slices_Equal_api_ConvexPiece.l4 k a0 a1 (a0.length : Int) 0
  else some false
def gridhallkeep3_sameConvex.f (k : Nat) (a0 : Int × Int × List (Int × Int)) (a1 : Int × Int × List (Int × Int)) : Option Bool :=
  if a0.1 = a1.1 then
    if a0.2.1 = a1.2.1 then
      (slices_Equal_api_ConvexPiece.f k a0.2.2 a1.2.2).bind fun r1 =>
      some r1
    else some false
  else some false
noncomputable def gridhallkeep3_ConvexTurns.f (k : Nat) (a0 : Int × Int × List (Int × Int)) (a1 : Int) (a2 : Int) : Option Bool :=
  (gridhallkeep3_rises.f k).bind fun r1 =>
  (convexpl_Turn.f k r1).bind fun r2 =>
  if r2.2 = 0 then
    if r2.1.1 = (-20) then
      if r2.1.2.1 = 130 then
        (convexpl_Turn.f k a0).bind fun r3 =>
        if r3.2 = 0 then
          (convexpl_Turn.f k r3.1).bind fun r4 =>
          (convexpl_Move.f k a0 a1 a2).bind fun r5 =>
          (convexpl_Move.f k r5.1 (wrap64 (0 - a1)) (wrap64 (0 - a2))).bind fun r6 =>
          if r4.2 = 0 then
            (gridhallkeep3_sameConvex.f k r4.1 a0).bind fun r7 =>
            if r7 = true then
              (gridhallkeep3_fine.f k [r5.2, r6.2]).bind fun r8 =>
              if r8 = true then
                (gridhallkeep3_sameConvex.f k r6.1 a0).bind fun r9 =>
                some r9
              else some true
            else some false
          else some false
        else some (decide ((r3.1.2.2.length : Int) = 0))
      else some false
    else some false
  else some false
def convexpl_Conjugate.l8 : Nat → Int → Int → Int → (List (Int × Int)) → Int → Int → Option (Int × Int)
  | 0, _, _, _, _, _, _ => none
  | k + 1, x1, x7, x8, x27, x28, x29 => if x29 < x28 then
      if 0 ≤ x29 then
        if x29 < (x27.length : Int) then
          if x1 ≤ (rY0 x27 x29).2 then
            some (wrap64 ((wrap64 (x1 * x7)) - x8), 0)
          else convexpl_Conjugate.l8 k x1 (wrap64 (x7 + (rY0 x27 x29).1)) (wrap64 (x8 + (wrap64 ((rY0 x27 x29).1 * (rY0 x27 x29).2)))) x27 x28 (wrap64 (x29 + 1))
        else none
      else none
    else some (wrap64 ((wrap64 (x1 * x7)) - x8), 0)
theorem convexpl_Conjugate.l8_eq (k : Nat) (x1 : Int) (x7 : Int) (x8 : Int) (x27 : List (Int × Int)) (x28 : Int) (x29 : Int) : convexpl_Conjugate.l8 (k + 1) x1 x7 x8 x27 x28 x29 = if x29 < x28 then
      if 0 ≤ x29 then
        if x29 < (x27.length : Int) then
          if x1 ≤ (rY0 x27 x29).2 then
            some (wrap64 ((wrap64 (x1 * x7)) - x8), 0)
          else convexpl_Conjugate.l8 k x1 (wrap64 (x7 + (rY0 x27 x29).1)) (wrap64 (x8 + (wrap64 ((rY0 x27 x29).1 * (rY0 x27 x29).2)))) x27 x28 (wrap64 (x29 + 1))
        else none
      else none
    else some (wrap64 ((wrap64 (x1 * x7)) - x8), 0) := rfl
def convexpl_Conjugate.f (k : Nat) (a0 : Int × Int × List (Int × Int)) (a1 : Int) : Option (Int × Int) :=
  (convexpl_Check.f k a0).bind fun r1 =>
  if r1 = 0 then
    if a1 < (-10000000) then
      some (0, 4)
    else if 10000000 < a1 then
      some (0, 4)
    else convexpl_Conjugate.l8 k a1 a0.1 a0.2.1 a0.2.2 (a0.2.2.length : Int) 0
  else some (0, r1)
def convexpl_both.f (k : Nat) (a0 : Int × Int × List (Int × Int)) (a1 : Int × Int × List (Int × Int)) : Option Int :=
  (convexpl_Check.f k a0).bind fun r1 =>
  if r1 = 0 then
    (convexpl_Check.f k a1).bind fun r2 =>
    some r2
  else some r1
def slices_Grow_api_ConvexPiece.l3 : Nat → Int → Option (List (Int × Int))
  | 0, _ => none
  | k + 1, x1 => if 0 < (wrap64 (x1 - (wrap64 ((0 : Int) - 0)))) then
      if (0 : Int) ≤ 0 then
        if (0 : Int) ≤ 0 then
          if 0 ≤ (wrap64 (x1 - (wrap64 ((0 : Int) - 0)))) then
            if (wrap64 (x1 - (wrap64 ((0 : Int) - 0)))) * 16 ≤ 140737488355328 then
              if (wrap64 (x1 - (wrap64 ((0 : Int) - 0)))) ≤ 140737488355328 then
                if 0 ≤ ((List.replicate (wrap64 (x1 - (wrap64 ((0 : Int) - 0)))).toNat (0, 0)).length : Int) then
                  if (0 : Int) ≤ 0 then
                    some ((List.replicate (wrap64 (x1 - (wrap64 ((0 : Int) - 0)))).toNat (0, 0)).take ((Int.toNat 0) - (Int.toNat 0)))
                  else none
                else none
              else none
            else none
          else none
        else none
      else none
    else some []
theorem slices_Grow_api_ConvexPiece.l3_eq (k : Nat) (x1 : Int) : slices_Grow_api_ConvexPiece.l3 (k + 1) x1 = if 0 < (wrap64 (x1 - (wrap64 ((0 : Int) - 0)))) then
      if (0 : Int) ≤ 0 then
        if (0 : Int) ≤ 0 then
          if 0 ≤ (wrap64 (x1 - (wrap64 ((0 : Int) - 0)))) then
            if (wrap64 (x1 - (wrap64 ((0 : Int) - 0)))) * 16 ≤ 140737488355328 then
              if (wrap64 (x1 - (wrap64 ((0 : Int) - 0)))) ≤ 140737488355328 then
                if 0 ≤ ((List.replicate (wrap64 (x1 - (wrap64 ((0 : Int) - 0)))).toNat (0, 0)).length : Int) then
                  if (0 : Int) ≤ 0 then
                    some ((List.replicate (wrap64 (x1 - (wrap64 ((0 : Int) - 0)))).toNat (0, 0)).take ((Int.toNat 0) - (Int.toNat 0)))
                  else none
                else none
              else none
            else none
          else none
        else none
      else none
    else some [] := rfl
def slices_Grow_api_ConvexPiece.f (k : Nat) (a1 : Int) : Option (List (Int × Int)) :=
  if a1 < 0 then
    none
  else slices_Grow_api_ConvexPiece.l3 k a1
def slices_Concat_api_ConvexPiece.l11 : Nat → (List (List (Int × Int))) → Int → Int → (List (Int × Int)) → Option (List (Int × Int))
  | 0, _, _, _, _ => none
  | k + 1, x25, x26, x27, xo0 => if x27 < x26 then
      if 0 ≤ x27 then
        if x27 < (x25.length : Int) then
          if (xo0.length + (rd (.list 60 Y0) x25 x27).length) * 16 ≤ 140737488355328 then
            slices_Concat_api_ConvexPiece.l11 k x25 x26 (wrap64 (x27 + 1)) (xo0 ++ (rd (.list 60 Y0) x25 x27))
          else none
        else none
      else none
    else some xo0
theorem slices_Concat_api_ConvexPiece.l11_eq (k : Nat) (x25 : List (List (Int × Int))) (x26 : Int) (x27 : Int) (xo0 : List (Int × Int)) : slices_Concat_api_ConvexPiece.l11 (k + 1) x25 x26 x27 xo0 = if x27 < x26 then
      if 0 ≤ x27 then
        if x27 < (x25.length : Int) then
          if (xo0.length + (rd (.list 60 Y0) x25 x27).length) * 16 ≤ 140737488355328 then
            slices_Concat_api_ConvexPiece.l11 k x25 x26 (wrap64 (x27 + 1)) (xo0 ++ (rd (.list 60 Y0) x25 x27))
          else none
        else none
      else none
    else some xo0 := rfl
def slices_Concat_api_ConvexPiece.l3 : Nat → (List (List (Int × Int))) → Int → (List (List (Int × Int))) → Int → Int → Option (List (Int × Int))
  | 0, _, _, _, _, _ => none
  | k + 1, x0, x3, x9, x10, x11 => if x11 < x10 then
      if 0 ≤ x11 then
        if x11 < (x9.length : Int) then
          if (wrap64 (x3 + ((rd (.list 60 Y0) x9 x11).length : Int))) < 0 then
            none
          else slices_Concat_api_ConvexPiece.l3 k x0 (wrap64 (x3 + ((rd (.list 60 Y0) x9 x11).length : Int))) x9 x10 (wrap64 (x11 + 1))
        else none
      else none
    else (slices_Grow_api_ConvexPiece.f k x3).bind fun r1 =>
    slices_Concat_api_ConvexPiece.l11 k x0 (x0.length : Int) 0 r1
theorem slices_Concat_api_ConvexPiece.l3_eq (k : Nat) (x0 : List (List (Int × Int))) (x3 : Int) (x9 : List (List (Int × Int))) (x10 : Int) (x11 : Int) : slices_Concat_api_ConvexPiece.l3 (k + 1) x0 x3 x9 x10 x11 = if x11 < x10 then
      if 0 ≤ x11 then
        if x11 < (x9.length : Int) then
          if (wrap64 (x3 + ((rd (.list 60 Y0) x9 x11).length : Int))) < 0 then
            none
          else slices_Concat_api_ConvexPiece.l3 k x0 (wrap64 (x3 + ((rd (.list 60 Y0) x9 x11).length : Int))) x9 x10 (wrap64 (x11 + 1))
        else none
      else none
    else (slices_Grow_api_ConvexPiece.f k x3).bind fun r1 =>
    slices_Concat_api_ConvexPiece.l11 k x0 (x0.length : Int) 0 r1 := rfl
def slices_Concat_api_ConvexPiece.f (k : Nat) (a0 : List (List (Int × Int))) : Option (List (Int × Int)) :=
  slices_Concat_api_ConvexPiece.l3 k a0 0 a0 (a0.length : Int) 0
def convexpl_Convolve.f (k : Nat) (a0 : Int × Int × List (Int × Int)) (a1 : Int × Int × List (Int × Int)) : Option ((Int × Int × List (Int × Int)) × Int) :=
  (convexpl_both.f k a0 a1).bind fun r1 =>
  if r1 = 0 then
    (slices_Concat_api_ConvexPiece.f k [a0.2.2, a1.2.2]).bind fun r2 =>
    (convexpl_made.f k (wrap64 (a0.1 + a1.1)) (wrap64 (a0.2.1 + a1.2.1)) r2).bind fun r3 =>
    some (r3.1, r3.2.1)
  else some ((0, 0, []), r1)
def gridhallkeep3_ConvexFenchel.f (k : Nat) (a0 : Int × Int × List (Int × Int)) (a1 : Int × Int × List (Int × Int)) (a2 : Int) (a3 : Int) : Option Bool :=
  (gridhallkeep3_rises.f k).bind fun r1 =>
  (convexpl_Conjugate.f k r1 6).bind fun r2 =>
  if r2.2 = 0 then
    if r2.1 = 10 then
      (gridhallkeep3_slopes.f k).bind fun r3 =>
      if r3 = true then
        (convexpl_Convolve.f k a0 a1).bind fun r4 =>
        (convexpl_Conjugate.f k a0 a2).bind fun r5 =>
        (convexpl_Conjugate.f k a1 a2).bind fun r6 =>
        (convexpl_Conjugate.f k r4.1 a2).bind fun r7 =>
        (convexpl_At.f k a0 a3).bind fun r8 =>
        (gridhallkeep3_fine.f k [r5.2, r8.2]).bind fun r9 =>
        if r9 = true then
          if r5.1 < (wrap64 ((wrap64 (a2 * a3)) - r8.1)) then
            some false
          else (gridhallkeep3_fine.f k [r4.2, r5.2, r6.2, r7.2]).bind fun r10 =>
          if r10 = true then
            some (decide (r7.1 = (wrap64 (r5.1 + r6.1))))
          else some true
        else (gridhallkeep3_fine.f k [r4.2, r5.2, r6.2, r7.2]).bind fun r11 =>
        if r11 = true then
          some (decide (r7.1 = (wrap64 (r5.1 + r6.1))))
        else some true
      else some false
    else some false
  else some false
def gridhallkeep3_two.f (k : Nat) (a0 : ByteArray) : Option (ByteArray × List (Int × Int)) :=
  some (a0, [(10, 5), (10, 8)])
def offer_named.l4 : Nat → ByteArray → Int → Int → Option Bool
  | 0, _, _, _ => none
  | k + 1, x0, x22, x23 => if x23 < x22 then
      if 0 ≤ x23 then
        if x23 < (x0.size : Int) then
          if (bt x0 x23) < 65 then
            if 0 ≤ x23 then
              if x23 < (x0.size : Int) then
                if (bt x0 x23) < 48 then
                  some false
                else if 0 ≤ x23 then
                  if x23 < (x0.size : Int) then
                    if 57 < (bt x0 x23) then
                      some false
                    else offer_named.l4 k x0 x22 (wrap64 (x23 + 1))
                  else none
                else none
              else none
            else none
          else if 0 ≤ x23 then
            if x23 < (x0.size : Int) then
              if 90 < (bt x0 x23) then
                if 0 ≤ x23 then
                  if x23 < (x0.size : Int) then
                    if (bt x0 x23) < 48 then
                      some false
                    else if 0 ≤ x23 then
                      if x23 < (x0.size : Int) then
                        if 57 < (bt x0 x23) then
                          some false
                        else offer_named.l4 k x0 x22 (wrap64 (x23 + 1))
                      else none
                    else none
                  else none
                else none
              else offer_named.l4 k x0 x22 (wrap64 (x23 + 1))
            else none
          else none
        else none
      else none
    else some true
theorem offer_named.l4_eq (k : Nat) (x0 : ByteArray) (x22 : Int) (x23 : Int) : offer_named.l4 (k + 1) x0 x22 x23 = if x23 < x22 then
      if 0 ≤ x23 then
        if x23 < (x0.size : Int) then
          if (bt x0 x23) < 65 then
            if 0 ≤ x23 then
              if x23 < (x0.size : Int) then
                if (bt x0 x23) < 48 then
                  some false
                else if 0 ≤ x23 then
                  if x23 < (x0.size : Int) then
                    if 57 < (bt x0 x23) then
                      some false
                    else offer_named.l4 k x0 x22 (wrap64 (x23 + 1))
                  else none
                else none
              else none
            else none
          else if 0 ≤ x23 then
            if x23 < (x0.size : Int) then
              if 90 < (bt x0 x23) then
                if 0 ≤ x23 then
                  if x23 < (x0.size : Int) then
                    if (bt x0 x23) < 48 then
                      some false
                    else if 0 ≤ x23 then
                      if x23 < (x0.size : Int) then
                        if 57 < (bt x0 x23) then
                          some false
                        else offer_named.l4 k x0 x22 (wrap64 (x23 + 1))
                      else none
                    else none
                  else none
                else none
              else offer_named.l4 k x0 x22 (wrap64 (x23 + 1))
            else none
          else none
        else none
      else none
    else some true := rfl
def offer_named.f (k : Nat) (a0 : ByteArray) : Option Bool :=
  if a0 = ByteArray.empty then
    some false
  else if 8 < (a0.size : Int) then
    some false
  else if (0 : Int) ≤ 0 then
    if 0 < (a0.size : Int) then
      if 48 ≤ (bt a0 0) then
        if (0 : Int) ≤ 0 then
          if 0 < (a0.size : Int) then
            if (bt a0 0) ≤ 57 then
              some false
            else offer_named.l4 k a0 (a0.size : Int) 0
          else none
        else none
      else offer_named.l4 k a0 (a0.size : Int) 0
    else none
  else none
def offer_Check.l7 : Nat → Int → (List (Int × Int)) → Int → Int → ByteArray → (List (Int × Int)) → Option Int
  | 0, _, _, _, _, _, _ => none
  | k + 1, x3, x15, x16, x17, xo0_0, xo0_1 => if x17 < x16 then
      if 0 ≤ x17 then
        if x17 < (x15.length : Int) then
          if (rY0 x15 x17).1 < 1 then
            some 4
          else if 100000 < (rY0 x15 x17).1 then
            some 4
          else if (rY0 x15 x17).2 < (-1000000) then
            some 4
          else if 1000000 < (rY0 x15 x17).2 then
            some 4
          else if 0 < x17 then
            if 0 ≤ (wrap64 (x17 - 1)) then
              if (wrap64 (x17 - 1)) < (xo0_1.length : Int) then
                if (rY0 x15 x17).2 < (rY0 xo0_1 (wrap64 (x17 - 1))).2 then
                  some 3
                else if 100000 < (wrap64 (x3 + (rY0 x15 x17).1)) then
                  some 2
                else offer_Check.l7 k (wrap64 (x3 + (rY0 x15 x17).1)) x15 x16 (wrap64 (x17 + 1)) xo0_0 xo0_1
              else none
            else none
          else if 100000 < (wrap64 (x3 + (rY0 x15 x17).1)) then
            some 2
          else offer_Check.l7 k (wrap64 (x3 + (rY0 x15 x17).1)) x15 x16 (wrap64 (x17 + 1)) xo0_0 xo0_1
        else none
      else none
    else some 0
theorem offer_Check.l7_eq (k : Nat) (x3 : Int) (x15 : List (Int × Int)) (x16 : Int) (x17 : Int) (xo0_0 : ByteArray) (xo0_1 : List (Int × Int)) : offer_Check.l7 (k + 1) x3 x15 x16 x17 xo0_0 xo0_1 = if x17 < x16 then
      if 0 ≤ x17 then
        if x17 < (x15.length : Int) then
          if (rY0 x15 x17).1 < 1 then
            some 4
          else if 100000 < (rY0 x15 x17).1 then
            some 4
          else if (rY0 x15 x17).2 < (-1000000) then
            some 4
          else if 1000000 < (rY0 x15 x17).2 then
            some 4
          else if 0 < x17 then
            if 0 ≤ (wrap64 (x17 - 1)) then
              if (wrap64 (x17 - 1)) < (xo0_1.length : Int) then
                if (rY0 x15 x17).2 < (rY0 xo0_1 (wrap64 (x17 - 1))).2 then
                  some 3
                else if 100000 < (wrap64 (x3 + (rY0 x15 x17).1)) then
                  some 2
                else offer_Check.l7 k (wrap64 (x3 + (rY0 x15 x17).1)) x15 x16 (wrap64 (x17 + 1)) xo0_0 xo0_1
              else none
            else none
          else if 100000 < (wrap64 (x3 + (rY0 x15 x17).1)) then
            some 2
          else offer_Check.l7 k (wrap64 (x3 + (rY0 x15 x17).1)) x15 x16 (wrap64 (x17 + 1)) xo0_0 xo0_1
        else none
      else none
    else some 0 := rfl
def offer_Check.f (k : Nat) (a0 : ByteArray × List (Int × Int)) : Option Int :=
  (offer_named.f k a0.1).bind fun r1 =>
  if r1 = true then
    if 12 < (a0.2.length : Int) then
      some 2
    else offer_Check.l7 k 0 a0.2 (a0.2.length : Int) 0 a0.1 a0.2
  else some 6
def convexpl_Of.l6 : Nat → (List (Int × Int)) → Int → Int → Int → Int → (List (Int × Int)) → Option ((Int × Int × List (Int × Int)) × Int)
  | 0, _, _, _, _, _, _ => none
  | k + 1, x15, x16, x17, xo0_0, xo0_1, xo1 => if x17 < x16 then
      if 0 ≤ x17 then
        if x17 < (x15.length : Int) then
          if (xo1.length + [rY0 x15 x17].length) * 16 ≤ 140737488355328 then
            convexpl_Of.l6 k x15 x16 (wrap64 (x17 + 1)) xo0_0 xo0_1 (xo1 ++ [rY0 x15 x17])
          else none
        else none
      else none
    else (convexpl_made.f k 0 0 xo1).bind fun r2 =>
    some (r2.1, r2.2.1)
theorem convexpl_Of.l6_eq (k : Nat) (x15 : List (Int × Int)) (x16 : Int) (x17 : Int) (xo0_0 : Int) (xo0_1 : Int) (xo1 : List (Int × Int)) : convexpl_Of.l6 (k + 1) x15 x16 x17 xo0_0 xo0_1 xo1 = if x17 < x16 then
      if 0 ≤ x17 then
        if x17 < (x15.length : Int) then
          if (xo1.length + [rY0 x15 x17].length) * 16 ≤ 140737488355328 then
            convexpl_Of.l6 k x15 x16 (wrap64 (x17 + 1)) xo0_0 xo0_1 (xo1 ++ [rY0 x15 x17])
          else none
        else none
      else none
    else (convexpl_made.f k 0 0 xo1).bind fun r2 =>
    some (r2.1, r2.2.1) := rfl
def convexpl_Of.f (k : Nat) (a0 : ByteArray × List (Int × Int)) : Option ((Int × Int × List (Int × Int)) × Int) :=
  (offer_Check.f k a0).bind fun r1 =>
  if r1 = 0 then
    convexpl_Of.l6 k a0.2 (a0.2.length : Int) 0 0 0 []
  else some ((0, 0, []), r1)
def offer_Most.l3 : Nat → Int → (List (Int × Int)) → Int → Int → Option Int
  | 0, _, _, _, _ => none
  | k + 1, x3, x7, x8, x9 => if x9 < x8 then
      if 0 ≤ x9 then
        if x9 < (x7.length : Int) then
          offer_Most.l3 k (wrap64 (x3 + (rY0 x7 x9).1)) x7 x8 (wrap64 (x9 + 1))
        else none
      else none
    else some x3
theorem offer_Most.l3_eq (k : Nat) (x3 : Int) (x7 : List (Int × Int)) (x8 : Int) (x9 : Int) : offer_Most.l3 (k + 1) x3 x7 x8 x9 = if x9 < x8 then
      if 0 ≤ x9 then
        if x9 < (x7.length : Int) then
          offer_Most.l3 k (wrap64 (x3 + (rY0 x7 x9).1)) x7 x8 (wrap64 (x9 + 1))
        else none
      else none
    else some x3 := rfl
def offer_Most.f (k : Nat) (a0 : ByteArray × List (Int × Int)) : Option Int :=
  offer_Most.l3 k 0 a0.2 (a0.2.length : Int) 0
def offer_Cost.l8 : Nat → Int → Int → (List (Int × Int)) → Int → Int → Option (Int × Int)
  | 0, _, _, _, _, _ => none
  | k + 1, x1, x7, x25, x26, x27 => if x27 < x26 then
      if 0 ≤ x27 then
        if x27 < (x25.length : Int) then
          offer_Cost.l8 k (wrap64 (x1 - (mn x1 (rY0 x25 x27).1))) (wrap64 (x7 + (wrap64 ((mn x1 (rY0 x25 x27).1) * (rY0 x25 x27).2)))) x25 x26 (wrap64 (x27 + 1))
        else none
      else none
    else some (x7, 0)
theorem offer_Cost.l8_eq (k : Nat) (x1 : Int) (x7 : Int) (x25 : List (Int × Int)) (x26 : Int) (x27 : Int) : offer_Cost.l8 (k + 1) x1 x7 x25 x26 x27 = if x27 < x26 then
      if 0 ≤ x27 then
        if x27 < (x25.length : Int) then
          offer_Cost.l8 k (wrap64 (x1 - (mn x1 (rY0 x25 x27).1))) (wrap64 (x7 + (wrap64 ((mn x1 (rY0 x25 x27).1) * (rY0 x25 x27).2)))) x25 x26 (wrap64 (x27 + 1))
        else none
      else none
    else some (x7, 0) := rfl
def offer_Cost.f (k : Nat) (a0 : ByteArray × List (Int × Int)) (a1 : Int) : Option (Int × Int) :=
  (offer_Check.f k a0).bind fun r1 =>
  if r1 = 0 then
    if a1 < 0 then
      some (0, 4)
    else (offer_Most.f k a0).bind fun r2 =>
    if r2 < a1 then
      some (0, 4)
    else offer_Cost.l8 k a1 0 a0.2 (a0.2.length : Int) 0
  else some (0, r1)
def gridhallkeep3_ConvexOffer.f (k : Nat) (a0 : ByteArray × List (Int × Int)) (a1 : Int) : Option Bool :=
  (gridhallkeep3_two.f k (ByteArray.mk #[65])).bind fun r1 =>
  (convexpl_Of.f k r1).bind fun r2 =>
  if r2.2 = 0 then
    (gridhallkeep3_rises.f k).bind fun r3 =>
    (gridhallkeep3_sameConvex.f k r2.1 r3).bind fun r4 =>
    if r4 = true then
      (gridhallkeep3_slopes.f k).bind fun r5 =>
      if r5 = true then
        (convexpl_Of.f k a0).bind fun r6 =>
        if r6.2 = 0 then
          (offer_Cost.f k a0 a1).bind fun r7 =>
          (convexpl_At.f k r6.1 a1).bind fun r8 =>
          if (decide (r7.2 = 0)) = (decide (r8.2 = 0)) then
            some (decide (r7.1 = r8.1))
          else some false
        else some (decide ((r6.1.2.2.length : Int) = 0))
      else some false
    else some false
  else some false
mutual
def offer_CheckAll.l4 : Nat → (List (ByteArray × List (Int × Int))) → (List (ByteArray × List (Int × Int))) → Int → Int → Option Int
  | 0, _, _, _, _ => none
  | k + 1, x0, x11, x12, x13 => if x13 < x12 then
      if 0 ≤ x13 then
        if x13 < (x11.length : Int) then
          (offer_Check.f k (rY1 x11 x13)).bind fun r1 =>
          if r1 = 0 then
            if x13 ≤ (x0.length : Int) then
              if 0 ≤ x13 then
                offer_CheckAll.l10 k x0 x11 x12 x13 (x0.take x13.toNat) ((x0.take x13.toNat).length : Int) 0 (rY1 x11 x13).1 (rY1 x11 x13).2
              else none
            else none
          else some r1
        else none
      else none
    else some 0
def offer_CheckAll.l10 : Nat → (List (ByteArray × List (Int × Int))) → (List (ByteArray × List (Int × Int))) → Int → Int → (List (ByteArray × List (Int × Int))) → Int → Int → ByteArray → (List (Int × Int)) → Option Int
  | 0, _, _, _, _, _, _, _, _, _ => none
  | k + 1, x0, x11, x12, x13, x25, x26, x27, xo0_0, xo0_1 => if x27 < x26 then
      if 0 ≤ x27 then
        if x27 < (x25.length : Int) then
          if (rY1 x25 x27).1 = xo0_0 then
            some 7
          else offer_CheckAll.l10 k x0 x11 x12 x13 x25 x26 (wrap64 (x27 + 1)) xo0_0 xo0_1
        else none
      else none
    else offer_CheckAll.l4 k x0 x11 x12 (wrap64 (x13 + 1))
end
theorem offer_CheckAll.l4_eq (k : Nat) (x0 : List (ByteArray × List (Int × Int))) (x11 : List (ByteArray × List (Int × Int))) (x12 : Int) (x13 : Int) : offer_CheckAll.l4 (k + 1) x0 x11 x12 x13 = if x13 < x12 then
      if 0 ≤ x13 then
        if x13 < (x11.length : Int) then
          (offer_Check.f k (rY1 x11 x13)).bind fun r1 =>
          if r1 = 0 then
            if x13 ≤ (x0.length : Int) then
              if 0 ≤ x13 then
                offer_CheckAll.l10 k x0 x11 x12 x13 (x0.take x13.toNat) ((x0.take x13.toNat).length : Int) 0 (rY1 x11 x13).1 (rY1 x11 x13).2
              else none
            else none
          else some r1
        else none
      else none
    else some 0 := rfl
theorem offer_CheckAll.l10_eq (k : Nat) (x0 : List (ByteArray × List (Int × Int))) (x11 : List (ByteArray × List (Int × Int))) (x12 : Int) (x13 : Int) (x25 : List (ByteArray × List (Int × Int))) (x26 : Int) (x27 : Int) (xo0_0 : ByteArray) (xo0_1 : List (Int × Int)) : offer_CheckAll.l10 (k + 1) x0 x11 x12 x13 x25 x26 x27 xo0_0 xo0_1 = if x27 < x26 then
      if 0 ≤ x27 then
        if x27 < (x25.length : Int) then
          if (rY1 x25 x27).1 = xo0_0 then
            some 7
          else offer_CheckAll.l10 k x0 x11 x12 x13 x25 x26 (wrap64 (x27 + 1)) xo0_0 xo0_1
        else none
      else none
    else offer_CheckAll.l4 k x0 x11 x12 (wrap64 (x13 + 1)) := rfl
def offer_CheckAll.f (k : Nat) (a0 : List (ByteArray × List (Int × Int))) : Option Int :=
  if 10 < (a0.length : Int) then
    some 2
  else offer_CheckAll.l4 k a0 a0 (a0.length : Int) 0
def dispatch_sum.l3 : Nat → Int → (List (ByteArray × List (Int × Int))) → Int → Int → Option Int
  | 0, _, _, _, _ => none
  | k + 1, x3, x6, x7, x8 => if x8 < x7 then
      if 0 ≤ x8 then
        if x8 < (x6.length : Int) then
          (offer_Most.f k (rY1 x6 x8)).bind fun r1 =>
          dispatch_sum.l3 k (wrap64 (x3 + r1)) x6 x7 (wrap64 (x8 + 1))
        else none
      else none
    else some x3
theorem dispatch_sum.l3_eq (k : Nat) (x3 : Int) (x6 : List (ByteArray × List (Int × Int))) (x7 : Int) (x8 : Int) : dispatch_sum.l3 (k + 1) x3 x6 x7 x8 = if x8 < x7 then
      if 0 ≤ x8 then
        if x8 < (x6.length : Int) then
          (offer_Most.f k (rY1 x6 x8)).bind fun r1 =>
          dispatch_sum.l3 k (wrap64 (x3 + r1)) x6 x7 (wrap64 (x8 + 1))
        else none
      else none
    else some x3 := rfl
def dispatch_sum.f (k : Nat) (a0 : List (ByteArray × List (Int × Int))) : Option Int :=
  dispatch_sum.l3 k 0 a0 (a0.length : Int) 0
def dispatch_check.f (k : Nat) (a0 : List (ByteArray × List (Int × Int))) (a1 : Int) : Option Int :=
  (offer_CheckAll.f k a0).bind fun r1 =>
  if r1 = 0 then
    if a1 < 0 then
      some 4
    else if 1000000 < a1 then
      some 4
    else (dispatch_sum.f k a0).bind fun r2 =>
    if r2 < a1 then
      some 8
    else some 0
  else some r1
mutual
def dispatch_offered.l3 : Nat → Int → Bool → Int → (List (ByteArray × List (Int × Int))) → Int → Int → Option Int
  | 0, _, _, _, _, _, _ => none
  | k + 1, x1, x2, x7, x12, x13, x14 => if x14 < x13 then
      if 0 ≤ x14 then
        if x14 < (x12.length : Int) then
          dispatch_offered.l6 k x1 x2 x7 x12 x13 x14 (rY1 x12 x14).2 ((rY1 x12 x14).2.length : Int) 0
        else none
      else none
    else some x7
def dispatch_offered.l6 : Nat → Int → Bool → Int → (List (ByteArray × List (Int × Int))) → Int → Int → (List (Int × Int)) → Int → Int → Option Int
  | 0, _, _, _, _, _, _, _, _, _ => none
  | k + 1, x1, x2, x7, x12, x13, x14, x19, x20, x21 => if x21 < x20 then
      if 0 ≤ x21 then
        if x21 < (x19.length : Int) then
          if (rY0 x19 x21).2 < x1 then
            dispatch_offered.l6 k x1 x2 (wrap64 (x7 + (rY0 x19 x21).1)) x12 x13 x14 x19 x20 (wrap64 (x21 + 1))
          else if x2 = true then
            if (rY0 x19 x21).2 = x1 then
              dispatch_offered.l6 k x1 x2 (wrap64 (x7 + (rY0 x19 x21).1)) x12 x13 x14 x19 x20 (wrap64 (x21 + 1))
            else dispatch_offered.l6 k x1 x2 x7 x12 x13 x14 x19 x20 (wrap64 (x21 + 1))
          else dispatch_offered.l6 k x1 x2 x7 x12 x13 x14 x19 x20 (wrap64 (x21 + 1))
        else none
      else none
    else dispatch_offered.l3 k x1 x2 x7 x12 x13 (wrap64 (x14 + 1))
end
theorem dispatch_offered.l3_eq (k : Nat) (x1 : Int) (x2 : Bool) (x7 : Int) (x12 : List (ByteArray × List (Int × Int))) (x13 : Int) (x14 : Int) : dispatch_offered.l3 (k + 1) x1 x2 x7 x12 x13 x14 = if x14 < x13 then
      if 0 ≤ x14 then
        if x14 < (x12.length : Int) then
          dispatch_offered.l6 k x1 x2 x7 x12 x13 x14 (rY1 x12 x14).2 ((rY1 x12 x14).2.length : Int) 0
        else none
      else none
    else some x7 := rfl
theorem dispatch_offered.l6_eq (k : Nat) (x1 : Int) (x2 : Bool) (x7 : Int) (x12 : List (ByteArray × List (Int × Int))) (x13 : Int) (x14 : Int) (x19 : List (Int × Int)) (x20 : Int) (x21 : Int) : dispatch_offered.l6 (k + 1) x1 x2 x7 x12 x13 x14 x19 x20 x21 = if x21 < x20 then
      if 0 ≤ x21 then
        if x21 < (x19.length : Int) then
          if (rY0 x19 x21).2 < x1 then
            dispatch_offered.l6 k x1 x2 (wrap64 (x7 + (rY0 x19 x21).1)) x12 x13 x14 x19 x20 (wrap64 (x21 + 1))
          else if x2 = true then
            if (rY0 x19 x21).2 = x1 then
              dispatch_offered.l6 k x1 x2 (wrap64 (x7 + (rY0 x19 x21).1)) x12 x13 x14 x19 x20 (wrap64 (x21 + 1))
            else dispatch_offered.l6 k x1 x2 x7 x12 x13 x14 x19 x20 (wrap64 (x21 + 1))
          else dispatch_offered.l6 k x1 x2 x7 x12 x13 x14 x19 x20 (wrap64 (x21 + 1))
        else none
      else none
    else dispatch_offered.l3 k x1 x2 x7 x12 x13 (wrap64 (x14 + 1)) := rfl
def dispatch_offered.f (k : Nat) (a0 : List (ByteArray × List (Int × Int))) (a1 : Int) (a2 : Bool) : Option Int :=
  dispatch_offered.l3 k a1 a2 0 a0 (a0.length : Int) 0
mutual
def dispatch_marginal.l3 : Nat → (List (ByteArray × List (Int × Int))) → Int → Int → (List (ByteArray × List (Int × Int))) → Int → Int → Option Int
  | 0, _, _, _, _, _, _ => none
  | k + 1, x0, x1, x5, x10, x11, x12 => if x12 < x11 then
      if 0 ≤ x12 then
        if x12 < (x10.length : Int) then
          dispatch_marginal.l6 k x0 x1 x5 x10 x11 x12 (rY1 x10 x12).2 ((rY1 x10 x12).2.length : Int) 0
        else none
      else none
    else some x5
def dispatch_marginal.l6 : Nat → (List (ByteArray × List (Int × Int))) → Int → Int → (List (ByteArray × List (Int × Int))) → Int → Int → (List (Int × Int)) → Int → Int → Option Int
  | 0, _, _, _, _, _, _, _, _, _ => none
  | k + 1, x0, x1, x5, x10, x11, x12, x17, x18, x19 => if x19 < x18 then
      if 0 ≤ x19 then
        if x19 < (x17.length : Int) then
          if (rY0 x17 x19).2 < x5 then
            (dispatch_offered.f k x0 (rY0 x17 x19).2 true).bind fun r1 =>
            if x1 ≤ r1 then
              dispatch_marginal.l6 k x0 x1 (rY0 x17 x19).2 x10 x11 x12 x17 x18 (wrap64 (x19 + 1))
            else dispatch_marginal.l6 k x0 x1 x5 x10 x11 x12 x17 x18 (wrap64 (x19 + 1))
          else dispatch_marginal.l6 k x0 x1 x5 x10 x11 x12 x17 x18 (wrap64 (x19 + 1))
        else none
      else none
    else dispatch_marginal.l3 k x0 x1 x5 x10 x11 (wrap64 (x12 + 1))
end
theorem dispatch_marginal.l3_eq (k : Nat) (x0 : List (ByteArray × List (Int × Int))) (x1 : Int) (x5 : Int) (x10 : List (ByteArray × List (Int × Int))) (x11 : Int) (x12 : Int) : dispatch_marginal.l3 (k + 1) x0 x1 x5 x10 x11 x12 = if x12 < x11 then
      if 0 ≤ x12 then
        if x12 < (x10.length : Int) then
          dispatch_marginal.l6 k x0 x1 x5 x10 x11 x12 (rY1 x10 x12).2 ((rY1 x10 x12).2.length : Int) 0
        else none
      else none
    else some x5 := rfl
theorem dispatch_marginal.l6_eq (k : Nat) (x0 : List (ByteArray × List (Int × Int))) (x1 : Int) (x5 : Int) (x10 : List (ByteArray × List (Int × Int))) (x11 : Int) (x12 : Int) (x17 : List (Int × Int)) (x18 : Int) (x19 : Int) : dispatch_marginal.l6 (k + 1) x0 x1 x5 x10 x11 x12 x17 x18 x19 = if x19 < x18 then
      if 0 ≤ x19 then
        if x19 < (x17.length : Int) then
          if (rY0 x17 x19).2 < x5 then
            (dispatch_offered.f k x0 (rY0 x17 x19).2 true).bind fun r1 =>
            if x1 ≤ r1 then
              dispatch_marginal.l6 k x0 x1 (rY0 x17 x19).2 x10 x11 x12 x17 x18 (wrap64 (x19 + 1))
            else dispatch_marginal.l6 k x0 x1 x5 x10 x11 x12 x17 x18 (wrap64 (x19 + 1))
          else dispatch_marginal.l6 k x0 x1 x5 x10 x11 x12 x17 x18 (wrap64 (x19 + 1))
        else none
      else none
    else dispatch_marginal.l3 k x0 x1 x5 x10 x11 (wrap64 (x12 + 1)) := rfl
def dispatch_marginal.f (k : Nat) (a0 : List (ByteArray × List (Int × Int))) (a1 : Int) : Option Int :=
  dispatch_marginal.l3 k a0 a1 2000000 a0 (a0.length : Int) 0
mutual
def offer_Supply.l8 : Nat → Int → Int → Int → (List (Int × Int)) → Int → Int → Option (Int × Int × Int)
  | 0, _, _, _, _, _, _ => none
  | k + 1, x1, x8, x9, x24, x25, x26 => if x26 < x25 then
      if 0 ≤ x26 then
        if x26 < (x24.length : Int) then
          if (rY0 x24 x26).2 < x1 then
            offer_Supply.l12 k x1 (wrap64 (x8 + (rY0 x24 x26).1)) x9 x24 x25 x26 (rY0 x24 x26).1 (rY0 x24 x26).2
          else offer_Supply.l12 k x1 x8 x9 x24 x25 x26 (rY0 x24 x26).1 (rY0 x24 x26).2
        else none
      else none
    else some (x8, x9, 0)
def offer_Supply.l12 : Nat → Int → Int → Int → (List (Int × Int)) → Int → Int → Int → Int → Option (Int × Int × Int)
  | 0, _, _, _, _, _, _, _, _ => none
  | k + 1, x1, x8, x9, x24, x25, x26, xo0_0, xo0_1 => if xo0_1 ≤ x1 then
      offer_Supply.l8 k x1 x8 (wrap64 (x9 + xo0_0)) x24 x25 (wrap64 (x26 + 1))
    else offer_Supply.l8 k x1 x8 x9 x24 x25 (wrap64 (x26 + 1))
end
theorem offer_Supply.l8_eq (k : Nat) (x1 : Int) (x8 : Int) (x9 : Int) (x24 : List (Int × Int)) (x25 : Int) (x26 : Int) : offer_Supply.l8 (k + 1) x1 x8 x9 x24 x25 x26 = if x26 < x25 then
      if 0 ≤ x26 then
        if x26 < (x24.length : Int) then
          if (rY0 x24 x26).2 < x1 then
            offer_Supply.l12 k x1 (wrap64 (x8 + (rY0 x24 x26).1)) x9 x24 x25 x26 (rY0 x24 x26).1 (rY0 x24 x26).2
          else offer_Supply.l12 k x1 x8 x9 x24 x25 x26 (rY0 x24 x26).1 (rY0 x24 x26).2
        else none
      else none
    else some (x8, x9, 0) := rfl
theorem offer_Supply.l12_eq (k : Nat) (x1 : Int) (x8 : Int) (x9 : Int) (x24 : List (Int × Int)) (x25 : Int) (x26 : Int) (xo0_0 : Int) (xo0_1 : Int) : offer_Supply.l12 (k + 1) x1 x8 x9 x24 x25 x26 xo0_0 xo0_1 = if xo0_1 ≤ x1 then
      offer_Supply.l8 k x1 x8 (wrap64 (x9 + xo0_0)) x24 x25 (wrap64 (x26 + 1))
    else offer_Supply.l8 k x1 x8 x9 x24 x25 (wrap64 (x26 + 1)) := rfl
def offer_Supply.f (k : Nat) (a0 : ByteArray × List (Int × Int)) (a1 : Int) : Option (Int × Int × Int) :=
  (offer_Check.f k a0).bind fun r1 =>
  if r1 = 0 then
    if a1 < (-2000000) then
      some (0, 0, 4)
    else if 2000000 < a1 then
      some (0, 0, 4)
    else offer_Supply.l8 k a1 0 0 a0.2 (a0.2.length : Int) 0
  else some (0, 0, r1)
def dispatch_costs.l3 : Nat → List Int → Int → (List (ByteArray × List (Int × Int))) → Int → Int → Option (List Int × Int × Int)
  | 0, _, _, _, _, _ => none
  | k + 1, x1, x7, x12, x13, x14 => if x14 < x13 then
      if 0 ≤ x14 then
        if x14 < (x12.length : Int) then
          if 0 ≤ x14 then
            if x14 < (x1.length : Int) then
              (offer_Cost.f k (rY1 x12 x14) (rI64 x1 x14)).bind fun r1 =>
              dispatch_costs.l3 k x1 (wrap64 (x7 + r1.1)) x12 x13 (wrap64 (x14 + 1))
            else none
          else none
        else none
      else none
    else some (x1, x7, 0)
theorem dispatch_costs.l3_eq (k : Nat) (x1 : List Int) (x7 : Int) (x12 : List (ByteArray × List (Int × Int))) (x13 : Int) (x14 : Int) : dispatch_costs.l3 (k + 1) x1 x7 x12 x13 x14 = if x14 < x13 then
      if 0 ≤ x14 then
        if x14 < (x12.length : Int) then
          if 0 ≤ x14 then
            if x14 < (x1.length : Int) then
              (offer_Cost.f k (rY1 x12 x14) (rI64 x1 x14)).bind fun r1 =>
              dispatch_costs.l3 k x1 (wrap64 (x7 + r1.1)) x12 x13 (wrap64 (x14 + 1))
            else none
          else none
        else none
      else none
    else some (x1, x7, 0) := rfl
def dispatch_costs.f (k : Nat) (a0 : List (ByteArray × List (Int × Int))) (a1 : List Int) : Option (List Int × Int × Int) :=
  dispatch_costs.l3 k a1 0 a0 (a0.length : Int) 0
def dispatch_Best.l10 : Nat → (List (ByteArray × List (Int × Int))) → Int → Int → (List (ByteArray × List (Int × Int))) → Int → Int → List Int → Option (List Int × Int × Int)
  | 0, _, _, _, _, _, _, _ => none
  | k + 1, x0, x9, x10, x37, x38, x39, xo0 => if x39 < x38 then
      if 0 ≤ x39 then
        if x39 < (x37.length : Int) then
          (offer_Supply.f k (rY1 x37 x39) x9).bind fun r4 =>
          if 0 ≤ x39 then
            if x39 < (xo0.length : Int) then
              dispatch_Best.l10 k x0 x9 (wrap64 (x10 - (mn x10 (wrap64 (r4.2.1 - r4.1))))) x37 x38 (wrap64 (x39 + 1)) (xo0.set x39.toNat (wrap64 (r4.1 + (mn x10 (wrap64 (r4.2.1 - r4.1))))))
            else none
          else none
        else none
      else none
    else (dispatch_costs.f k x0 xo0).bind fun r5 =>
    some r5
theorem dispatch_Best.l10_eq (k : Nat) (x0 : List (ByteArray × List (Int × Int))) (x9 : Int) (x10 : Int) (x37 : List (ByteArray × List (Int × Int))) (x38 : Int) (x39 : Int) (xo0 : List Int) : dispatch_Best.l10 (k + 1) x0 x9 x10 x37 x38 x39 xo0 = if x39 < x38 then
      if 0 ≤ x39 then
        if x39 < (x37.length : Int) then
          (offer_Supply.f k (rY1 x37 x39) x9).bind fun r4 =>
          if 0 ≤ x39 then
            if x39 < (xo0.length : Int) then
              dispatch_Best.l10 k x0 x9 (wrap64 (x10 - (mn x10 (wrap64 (r4.2.1 - r4.1))))) x37 x38 (wrap64 (x39 + 1)) (xo0.set x39.toNat (wrap64 (r4.1 + (mn x10 (wrap64 (r4.2.1 - r4.1))))))
            else none
          else none
        else none
      else none
    else (dispatch_costs.f k x0 xo0).bind fun r5 =>
    some r5 := rfl
def dispatch_Best.f (k : Nat) (a0 : List (ByteArray × List (Int × Int))) (a1 : Int) : Option (List Int × Int × Int) :=
  (dispatch_check.f k a0 a1).bind fun r1 =>
  if r1 = 0 then
    if 0 ≤ (a0.length : Int) then
      if (a0.length : Int) * 8 ≤ 140737488355328 then
        if (a0.length : Int) ≤ 140737488355328 then
          if a1 = 0 then
            some (List.replicate (a0.length : Int).toNat 0, 0, 0)
          else (dispatch_marginal.f k a0 a1).bind fun r2 =>
          (dispatch_offered.f k a0 r2 false).bind fun r3 =>
          dispatch_Best.l10 k a0 r2 (wrap64 (a1 - r3)) a0 (a0.length : Int) 0 (List.replicate (a0.length : Int).toNat 0)
        else none
      else none
    else none
  else some ([], 0, r1)
def slices_Equal_int.l4 : Nat → List Int → List Int → Int → Int → Option Bool
  | 0, _, _, _, _ => none
  | k + 1, x0, x1, x12, x13 => if x13 < x12 then
      if 0 ≤ x13 then
        if x13 < (x0.length : Int) then
          if 0 ≤ x13 then
            if x13 < (x1.length : Int) then
              if (rI64 x0 x13) = (rI64 x1 x13) then
                slices_Equal_int.l4 k x0 x1 x12 (wrap64 (x13 + 1))
              else some false
            else none
          else none
        else none
      else none
    else some true
theorem slices_Equal_int.l4_eq (k : Nat) (x0 : List Int) (x1 : List Int) (x12 : Int) (x13 : Int) : slices_Equal_int.l4 (k + 1) x0 x1 x12 x13 = if x13 < x12 then
      if 0 ≤ x13 then
        if x13 < (x0.length : Int) then
          if 0 ≤ x13 then
            if x13 < (x1.length : Int) then
              if (rI64 x0 x13) = (rI64 x1 x13) then
                slices_Equal_int.l4 k x0 x1 x12 (wrap64 (x13 + 1))
              else some false
            else none
          else none
        else none
      else none
    else some true := rfl
def slices_Equal_int.f (k : Nat) (a0 : List Int) (a1 : List Int) : Option Bool :=
  if (a0.length : Int) = (a1.length : Int) then
    slices_Equal_int.l4 k a0 a1 (a0.length : Int) 0
  else some false
def gridhallkeep3_served.f (k : Nat) : Option Bool :=
  (gridhallkeep3_two.f k (ByteArray.mk #[65])).bind fun r1 =>
  (gridhallkeep3_two.f k (ByteArray.mk #[66])).bind fun r2 =>
  (dispatch_Best.f k [r1, r2] 22).bind fun r3 =>
  if r3.2.2 = 0 then
    if r3.2.1 = 116 then
      (slices_Equal_int.f k r3.1 [12, 10]).bind fun r4 =>
      some r4
    else some false
  else some false
def gridhallkeep3_DispatchConvolves.l7 : Nat → Int → Int → Int → (List (ByteArray × List (Int × Int))) → Int → Int → Int → Int → (List (Int × Int)) → Option Bool
  | 0, _, _, _, _, _, _, _, _, _ => none
  | k + 1, x1, x6, x7, x34, x35, x36, xo0_0, xo0_1, xo0_2 => if x36 < x35 then
      if 0 ≤ x36 then
        if x36 < (x34.length : Int) then
          (convexpl_Of.f k (rY1 x34 x36)).bind fun r4 =>
          if r4.2 = 0 then
            (convexpl_Convolve.f k (xo0_0, xo0_1, xo0_2) r4.1).bind fun r5 =>
            if r5.2 = 0 then
              gridhallkeep3_DispatchConvolves.l7 k x1 x6 x7 x34 x35 (wrap64 (x36 + 1)) r5.1.1 r5.1.2.1 r5.1.2.2
            else some true
          else some true
        else none
      else none
    else (convexpl_At.f k (xo0_0, xo0_1, xo0_2) x1).bind fun r6 =>
    if (decide (x7 = 0)) = (decide (r6.2 = 0)) then
      if x6 = r6.1 then
        some true
      else some (decide (x7 = 7))
    else some (decide (x7 = 7))
theorem gridhallkeep3_DispatchConvolves.l7_eq (k : Nat) (x1 : Int) (x6 : Int) (x7 : Int) (x34 : List (ByteArray × List (Int × Int))) (x35 : Int) (x36 : Int) (xo0_0 : Int) (xo0_1 : Int) (xo0_2 : List (Int × Int)) : gridhallkeep3_DispatchConvolves.l7 (k + 1) x1 x6 x7 x34 x35 x36 xo0_0 xo0_1 xo0_2 = if x36 < x35 then
      if 0 ≤ x36 then
        if x36 < (x34.length : Int) then
          (convexpl_Of.f k (rY1 x34 x36)).bind fun r4 =>
          if r4.2 = 0 then
            (convexpl_Convolve.f k (xo0_0, xo0_1, xo0_2) r4.1).bind fun r5 =>
            if r5.2 = 0 then
              gridhallkeep3_DispatchConvolves.l7 k x1 x6 x7 x34 x35 (wrap64 (x36 + 1)) r5.1.1 r5.1.2.1 r5.1.2.2
            else some true
          else some true
        else none
      else none
    else (convexpl_At.f k (xo0_0, xo0_1, xo0_2) x1).bind fun r6 =>
    if (decide (x7 = 0)) = (decide (r6.2 = 0)) then
      if x6 = r6.1 then
        some true
      else some (decide (x7 = 7))
    else some (decide (x7 = 7)) := rfl
def gridhallkeep3_DispatchConvolves.f (k : Nat) (a0 : List (ByteArray × List (Int × Int))) (a1 : Int) : Option Bool :=
  (gridhallkeep3_served.f k).bind fun r1 =>
  if r1 = true then
    (gridhallkeep3_slopes.f k).bind fun r2 =>
    if r2 = true then
      if (mn (a0.length : Int) 4) ≤ (a0.length : Int) then
        if 0 ≤ (mn (a0.length : Int) 4) then
          (dispatch_Best.f k (a0.take (mn (a0.length : Int) 4).toNat) a1).bind fun r3 =>
          gridhallkeep3_DispatchConvolves.l7 k a1 r3.2.1 r3.2.2 (a0.take (mn (a0.length : Int) 4).toNat) ((a0.take (mn (a0.length : Int) 4).toNat).length : Int) 0 0 0 []
        else none
      else none
    else some false
  else some false
end Go.Proofs.Ytcmbckancficcaa.VE
