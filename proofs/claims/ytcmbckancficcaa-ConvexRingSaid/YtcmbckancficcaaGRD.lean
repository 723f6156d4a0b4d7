/- Functions as plain Lean (definitions printed by a program; no statement is proved here). -/
import Derived.Test.YtcmbckancficcaaVpEv
namespace Go.Proofs.Ytcmbckancficcaa.VE
set_option linter.unusedVariables false
open Go Go.RowKit
abbrev Y0 : Ty := .pair (.int .i64) (.int .i64)
abbrev Y1 : Ty := .pair (.int .i64) (.list 60 Y0)
abbrev Y2 : Ty := .pair (.int .i64) Y1
abbrev Y3 : Ty := .pair (.int .i64) Y0
abbrev Y4 : Ty := .pair (.int .i64) Y3
abbrev Y5 : Ty := .pair (.int .i64) Y4
abbrev rI64 (xs : List Int) (i : Int) : Int := rd (.int .i64) xs i
theorem rI64_mem {xs : List Int} {i : Int} (h0 : 0 ≤ i) (h1 : i < (xs.length : Int)) : rI64 xs i ∈ xs := rd_mem (t := (.int .i64)) h0 h1
theorem rI64_get (xs : List Int) (j : Nat) (x : Int) (h : xs[j]? = some x) : rI64 xs (j : Int) = x := rd_get (t := (.int .i64)) xs j x h
theorem rI64_drop {xs : List Int} {i : Int} (h0 : 0 ≤ i) (h1 : i < (xs.length : Int)) : xs.drop i.toNat = rI64 xs i :: xs.drop (i + 1).toNat := drop_rd (t := (.int .i64)) h0 h1
theorem rI64_some {xs : List Int} {i : Int} (h0 : 0 ≤ i) (h1 : i < (xs.length : Int)) : xs[i.toNat]? = some (rI64 xs i) := rd_some (t := (.int .i64)) h0 h1
theorem rI64_set {xs : List Int} {i : Int} (v : Int) (h0 : 0 ≤ i) (h1 : i < (xs.length : Int)) {j : Int} (hj : 0 ≤ j) : rI64 (xs.set i.toNat v) j = if j = i then v else rI64 xs j := rd_set (t := (.int .i64)) v h0 h1 hj
abbrev rY0 (xs : List (Int × Int)) (i : Int) : Int × Int := rd Y0 xs i
theorem rY0_mem {xs : List (Int × Int)} {i : Int} (h0 : 0 ≤ i) (h1 : i < (xs.length : Int)) : rY0 xs i ∈ xs := rd_mem (t := Y0) h0 h1
theorem rY0_get (xs : List (Int × Int)) (j : Nat) (x : Int × Int) (h : xs[j]? = some x) : rY0 xs (j : Int) = x := rd_get (t := Y0) xs j x h
theorem rY0_drop {xs : List (Int × Int)} {i : Int} (h0 : 0 ≤ i) (h1 : i < (xs.length : Int)) : xs.drop i.toNat = rY0 xs i :: xs.drop (i + 1).toNat := drop_rd (t := Y0) h0 h1
theorem rY0_some {xs : List (Int × Int)} {i : Int} (h0 : 0 ≤ i) (h1 : i < (xs.length : Int)) : xs[i.toNat]? = some (rY0 xs i) := rd_some (t := Y0) h0 h1
theorem rY0_set {xs : List (Int × Int)} {i : Int} (v : Int × Int) (h0 : 0 ≤ i) (h1 : i < (xs.length : Int)) {j : Int} (hj : 0 ≤ j) : rY0 (xs.set i.toNat v) j = if j = i then v else rY0 xs j := rd_set (t := Y0) v h0 h1 hj
abbrev rY2 (xs : List (Int × Int × List (Int × Int))) (i : Int) : Int × Int × List (Int × Int) := rd Y2 xs i
theorem rY2_mem {xs : List (Int × Int × List (Int × Int))} {i : Int} (h0 : 0 ≤ i) (h1 : i < (xs.length : Int)) : rY2 xs i ∈ xs := rd_mem (t := Y2) h0 h1
theorem rY2_get (xs : List (Int × Int × List (Int × Int))) (j : Nat) (x : Int × Int × List (Int × Int)) (h : xs[j]? = some x) : rY2 xs (j : Int) = x := rd_get (t := Y2) xs j x h
theorem rY2_drop {xs : List (Int × Int × List (Int × Int))} {i : Int} (h0 : 0 ≤ i) (h1 : i < (xs.length : Int)) : xs.drop i.toNat = rY2 xs i :: xs.drop (i + 1).toNat := drop_rd (t := Y2) h0 h1
theorem rY2_some {xs : List (Int × Int × List (Int × Int))} {i : Int} (h0 : 0 ≤ i) (h1 : i < (xs.length : Int)) : xs[i.toNat]? = some (rY2 xs i) := rd_some (t := Y2) h0 h1
theorem rY2_set {xs : List (Int × Int × List (Int × Int))} {i : Int} (v : Int × Int × List (Int × Int)) (h0 : 0 ≤ i) (h1 : i < (xs.length : Int)) {j : Int} (hj : 0 ≤ j) : rY2 (xs.set i.toNat v) j = if j = i then v else rY2 xs j := rd_set (t := Y2) v h0 h1 hj
def BY (e : Nat) : Nat := (look [(3, 8), (60, 16), (68, 16)] e).getD 0
def storage_Check.f (k : Nat) (a0 : Int × Int × Int × Int × Int) : Option Int :=
  if a0.1 < 0 then
    some 4
  else if 100000 < a0.1 then
    some 4
  else if a0.2.1 < 0 then
    some 4
  else if 100000 < a0.2.1 then
    some 4
  else if a0.2.2.1 < 0 then
    some 4
  else if 100000 < a0.2.2.1 then
    some 4
  else if a0.2.2.2.1 < 0 then
    some 4
  else if a0.2.2.1 < a0.2.2.2.1 then
    some 4
  else if a0.2.2.2.2 < 0 then
    some 4
  else if a0.2.2.1 < a0.2.2.2.2 then
    some 4
  else some 0
def storage_checkPrices.l4 : Nat → List Int → Int → Int → Option Int
  | 0, _, _, _ => none
  | k + 1, x8, x9, x10 => if x10 < x9 then
      if 0 ≤ x10 then
        if x10 < (x8.length : Int) then
          if (rI64 x8 x10) < (-1000000) then
            some 4
          else if 1000000 < (rI64 x8 x10) then
            some 4
          else storage_checkPrices.l4 k x8 x9 (wrap64 (x10 + 1))
        else none
      else none
    else some 0
theorem storage_checkPrices.l4_eq (k : Nat) (x8 : List Int) (x9 : Int) (x10 : Int) : storage_checkPrices.l4 (k + 1) x8 x9 x10 = if x10 < x9 then
      if 0 ≤ x10 then
        if x10 < (x8.length : Int) then
          if (rI64 x8 x10) < (-1000000) then
            some 4
          else if 1000000 < (rI64 x8 x10) then
            some 4
          else storage_checkPrices.l4 k x8 x9 (wrap64 (x10 + 1))
        else none
      else none
    else some 0 := rfl
def storage_checkPrices.f (k : Nat) (a0 : List Int) : Option Int :=
  if 24 < (a0.length : Int) then
    some 2
  else storage_checkPrices.l4 k a0 (a0.length : Int) 0
def storage_trade.f (k : Nat) (a0 : Int × Int × Int × Int × Int) (a1 : Int) : Option (Int × Int × List (Int × Int)) :=
  if 0 < (wrap64 (a0.1 + a0.2.1)) then
    some (wrap64 (0 - a0.2.1), wrap64 ((wrap64 (0 - a0.2.1)) * a1), [(wrap64 (a0.1 + a0.2.1), a1)])
  else some (wrap64 (0 - a0.2.1), wrap64 ((wrap64 (0 - a0.2.1)) * a1), [])
def convexpl_Check.l7 : Nat → Int → Int → (List (Int × Int)) → Int → Int → Int → Int → (List (Int × Int)) → Option Int
  | 0, _, _, _, _, _, _, _, _ => none
  | k + 1, x3, x4, x34, x35, x36, xo0_0, xo0_1, xo0_2 => if x36 < x35 then
      if 0 ≤ x36 then
        if x36 < (x34.length : Int) then
          if (rY0 x34 x36).1 < 1 then
            some 4
          else if 2000000 < (rY0 x34 x36).1 then
            some 4
          else if (rY0 x34 x36).2 < (-10000000) then
            some 4
          else if 10000000 < (rY0 x34 x36).2 then
            some 4
          else if 0 < x36 then
            if 0 ≤ (wrap64 (x36 - 1)) then
              if (wrap64 (x36 - 1)) < (xo0_2.length : Int) then
                if (rY0 x34 x36).2 ≤ (rY0 xo0_2 (wrap64 (x36 - 1))).2 then
                  some 3
                else if 1000000 < (wrap64 (x3 + (rY0 x34 x36).1)) then
                  some 4
                else if (wrap64 (x4 + (wrap64 ((rY0 x34 x36).1 * (rY0 x34 x36).2)))) < (-1000000000000000) then
                  some 4
                else if 1000000000000000 < (wrap64 (x4 + (wrap64 ((rY0 x34 x36).1 * (rY0 x34 x36).2)))) then
                  some 4
                else convexpl_Check.l7 k (wrap64 (x3 + (rY0 x34 x36).1)) (wrap64 (x4 + (wrap64 ((rY0 x34 x36).1 * (rY0 x34 x36).2)))) x34 x35 (wrap64 (x36 + 1)) xo0_0 xo0_1 xo0_2
              else none
            else none
          else if 1000000 < (wrap64 (x3 + (rY0 x34 x36).1)) then
            some 4
          else if (wrap64 (x4 + (wrap64 ((rY0 x34 x36).1 * (rY0 x34 x36).2)))) < (-1000000000000000) then
            some 4
          else if 1000000000000000 < (wrap64 (x4 + (wrap64 ((rY0 x34 x36).1 * (rY0 x34 x36).2)))) then
            some 4
          else convexpl_Check.l7 k (wrap64 (x3 + (rY0 x34 x36).1)) (wrap64 (x4 + (wrap64 ((rY0 x34 x36).1 * (rY0 x34 x36).2)))) x34 x35 (wrap64 (x36 + 1)) xo0_0 xo0_1 xo0_2
        else none
      else none
    else some 0
theorem convexpl_Check.l7_eq (k : Nat) (x3 : Int) (x4 : Int) (x34 : List (Int × Int)) (x35 : Int) (x36 : Int) (xo0_0 : Int) (xo0_1 : Int) (xo0_2 : List (Int × Int)) : convexpl_Check.l7 (k + 1) x3 x4 x34 x35 x36 xo0_0 xo0_1 xo0_2 = if x36 < x35 then
      if 0 ≤ x36 then
        if x36 < (x34.length : Int) then
          if (rY0 x34 x36).1 < 1 then
            some 4
          else if 2000000 < (rY0 x34 x36).1 then
            some 4
          else if (rY0 x34 x36).2 < (-10000000) then
            some 4
          else if 10000000 < (rY0 x34 x36).2 then
            some 4
          else if 0 < x36 then
            if 0 ≤ (wrap64 (x36 - 1)) then
              if (wrap64 (x36 - 1)) < (xo0_2.length : Int) then
                if (rY0 x34 x36).2 ≤ (rY0 xo0_2 (wrap64 (x36 - 1))).2 then
                  some 3
                else if 1000000 < (wrap64 (x3 + (rY0 x34 x36).1)) then
                  some 4
                else if (wrap64 (x4 + (wrap64 ((rY0 x34 x36).1 * (rY0 x34 x36).2)))) < (-1000000000000000) then
                  some 4
                else if 1000000000000000 < (wrap64 (x4 + (wrap64 ((rY0 x34 x36).1 * (rY0 x34 x36).2)))) then
                  some 4
                else convexpl_Check.l7 k (wrap64 (x3 + (rY0 x34 x36).1)) (wrap64 (x4 + (wrap64 ((rY0 x34 x36).1 * (rY0 x34 x36).2)))) x34 x35 (wrap64 (x36 + 1)) xo0_0 xo0_1 xo0_2
              else none
            else none
          else if 1000000 < (wrap64 (x3 + (rY0 x34 x36).1)) then
            some 4
          else if (wrap64 (x4 + (wrap64 ((rY0 x34 x36).1 * (rY0 x34 x36).2)))) < (-1000000000000000) then
            some 4
          else if 1000000000000000 < (wrap64 (x4 + (wrap64 ((rY0 x34 x36).1 * (rY0 x34 x36).2)))) then
            some 4
          else convexpl_Check.l7 k (wrap64 (x3 + (rY0 x34 x36).1)) (wrap64 (x4 + (wrap64 ((rY0 x34 x36).1 * (rY0 x34 x36).2)))) x34 x35 (wrap64 (x36 + 1)) xo0_0 xo0_1 xo0_2
        else none
      else none
    else some 0 := rfl
def convexpl_Check.f (k : Nat) (a0 : Int × Int × List (Int × Int)) : Option Int :=
  if 64 < (a0.2.2.length : Int) then
    some 2
  else if a0.1 < (-1000000) then
    some 4
  else if 1000000 < a0.1 then
    some 4
  else if a0.2.1 < (-1000000000000000) then
    some 4
  else if 1000000000000000 < a0.2.1 then
    some 4
  else convexpl_Check.l7 k a0.1 a0.2.1 a0.2.2 (a0.2.2.length : Int) 0 a0.1 a0.2.1 a0.2.2
def convexpl_both.f (k : Nat) (a0 : Int × Int × List (Int × Int)) (a1 : Int × Int × List (Int × Int)) : Option Int :=
  (convexpl_Check.f k a0).bind fun r1 =>
  if r1 = 0 then
    (convexpl_Check.f k a1).bind fun r2 =>
    some r2
  else some r1
def slices_Grow_api_ConvexPiece.l3 : Nat → Int → Option (List (Int × Int))
  | 0, _ => none
  | k + 1, x1 => if 0 < (wrap64 (x1 - (wrap64 ((0 : Int) - 0)))) then
      if (0 : Int) ≤ 0 then
        if (0 : Int) ≤ 0 then
          if 0 ≤ (wrap64 (x1 - (wrap64 ((0 : Int) - 0)))) then
            if (wrap64 (x1 - (wrap64 ((0 : Int) - 0)))) * 16 ≤ 140737488355328 then
              if (wrap64 (x1 - (wrap64 ((0 : Int) - 0)))) ≤ 140737488355328 then
                if 0 ≤ ((List.replicate (wrap64 (x1 - (wrap64 ((0 : Int) - 0)))).toNat (0, 0)).length : Int) then
                  if (0 : Int) ≤ 0 then
                    some ((List.replicate (wrap64 (x1 - (wrap64 ((0 : Int) - 0)))).toNat (0, 0)).take ((Int.toNat 0) - (Int.toNat 0)))
                  else none
                else none
              else none
            else none
          else none
        else none
      else none
    else some []
theorem slices_Grow_api_ConvexPiece.l3_eq (k : Nat) (x1 : Int) : slices_Grow_api_ConvexPiece.l3 (k + 1) x1 = if 0 < (wrap64 (x1 - (wrap64 ((0 : Int) - 0)))) then
      if (0 : Int) ≤ 0 then
        if (0 : Int) ≤ 0 then
          if 0 ≤ (wrap64 (x1 - (wrap64 ((0 : Int) - 0)))) then
            if (wrap64 (x1 - (wrap64 ((0 : Int) - 0)))) * 16 ≤ 140737488355328 then
              if (wrap64 (x1 - (wrap64 ((0 : Int) - 0)))) ≤ 140737488355328 then
                if 0 ≤ ((List.replicate (wrap64 (x1 - (wrap64 ((0 : Int) - 0)))).toNat (0, 0)).length : Int) then
                  if (0 : Int) ≤ 0 then
                    some ((List.replicate (wrap64 (x1 - (wrap64 ((0 : Int) - 0)))).toNat (0, 0)).take ((Int.toNat 0) - (Int.toNat 0)))
                  else none
                else none
              else none
            else none
          else none
        else none
      else none
    else some [] := rfl
def slices_Grow_api_ConvexPiece.f (k : Nat) (a1 : Int) : Option (List (Int × Int)) :=
  if a1 < 0 then
    none
  else slices_Grow_api_ConvexPiece.l3 k a1
def slices_Concat_api_ConvexPiece.l11 : Nat → (List (List (Int × Int))) → Int → Int → (List (Int × Int)) → Option (List (Int × Int))
  | 0, _, _, _, _ => none
  | k + 1, x25, x26, x27, xo0 => if x27 < x26 then
      if 0 ≤ x27 then
        if x27 < (x25.length : Int) then
          if (xo0.length + (rd (.list 60 Y0) x25 x27).length) * 16 ≤ 140737488355328 then
            slices_Concat_api_ConvexPiece.l11 k x25 x26 (wrap64 (x27 + 1)) (xo0 ++ (rd (.list 60 Y0) x25 x27))
          else none
        else none
      else none
    else some xo0
theorem slices_Concat_api_ConvexPiece.l11_eq (k : Nat) (x25 : List (List (Int × Int))) (x26 : Int) (x27 : Int) (xo0 : List (Int × Int)) : slices_Concat_api_ConvexPiece.l11 (k + 1) x25 x26 x27 xo0 = if x27 < x26 then
      if 0 ≤ x27 then
        if x27 < (x25.length : Int) then
          if (xo0.length + (rd (.list 60 Y0) x25 x27).length) * 16 ≤ 140737488355328 then
            slices_Concat_api_ConvexPiece.l11 k x25 x26 (wrap64 (x27 + 1)) (xo0 ++ (rd (.list 60 Y0) x25 x27))
          else none
        else none
      else none
    else some xo0 := rfl
def slices_Concat_api_ConvexPiece.l3 : Nat → (List (List (Int × Int))) → Int → (List (List (Int × Int))) → Int → Int → Option (List (Int × Int))
  | 0, _, _, _, _, _ => none
  | k + 1, x0, x3, x9, x10, x11 => if x11 < x10 then
      if 0 ≤ x11 then
        if x11 < (x9.length : Int) then
          if (wrap64 (x3 + ((rd (.list 60 Y0) x9 x11).length : Int))) < 0 then
            none
          else slices_Concat_api_ConvexPiece.l3 k x0 (wrap64 (x3 + ((rd (.list 60 Y0) x9 x11).length : Int))) x9 x10 (wrap64 (x11 + 1))
        else none
      else none
    else (slices_Grow_api_ConvexPiece.f k x3).bind fun r1 =>
    slices_Concat_api_ConvexPiece.l11 k x0 (x0.length : Int) 0 r1
theorem slices_Concat_api_ConvexPiece.l3_eq (k : Nat) (x0 : List (List (Int × Int))) (x3 : Int) (x9 : List (List (Int × Int))) (x10 : Int) (x11 : Int) : slices_Concat_api_ConvexPiece.l3 (k + 1) x0 x3 x9 x10 x11 = if x11 < x10 then
      if 0 ≤ x11 then
        if x11 < (x9.length : Int) then
          if (wrap64 (x3 + ((rd (.list 60 Y0) x9 x11).length : Int))) < 0 then
            none
          else slices_Concat_api_ConvexPiece.l3 k x0 (wrap64 (x3 + ((rd (.list 60 Y0) x9 x11).length : Int))) x9 x10 (wrap64 (x11 + 1))
        else none
      else none
    else (slices_Grow_api_ConvexPiece.f k x3).bind fun r1 =>
    slices_Concat_api_ConvexPiece.l11 k x0 (x0.length : Int) 0 r1 := rfl
def slices_Concat_api_ConvexPiece.f (k : Nat) (a0 : List (List (Int × Int))) : Option (List (Int × Int)) :=
  slices_Concat_api_ConvexPiece.l3 k a0 0 a0 (a0.length : Int) 0
def cmp_isNaN_int.f (k : Nat) (a0 : Int) : Option Bool :=
  some (!decide (a0 = a0))
def cmp_Compare_int.f (k : Nat) (a0 : Int) (a1 : Int) : Option Int :=
  (cmp_isNaN_int.f k a0).bind fun r1 =>
  (cmp_isNaN_int.f k a1).bind fun r2 =>
  if r1 = true then
    if r2 = true then
      some 0
    else some (-1)
  else if r2 = true then
    some 1
  else if a0 < a1 then
    some (-1)
  else if a1 < a0 then
    some 1
  else some 0
def convexpl_made_1.f (k : Nat) (a0 : Int × Int) (a1 : Int × Int) : Option Int :=
  (cmp_Compare_int.f k a0.2 a1.2).bind fun r1 =>
  some r1
mutual
def slices_insertionSortCmpFunc_api_ConvexPiece.l1 : Nat → Int → Int → Int → (List (Int × Int)) → Option (List (Int × Int))
  | 0, _, _, _, _ => none
  | k + 1, x1, x2, x8, xo0 => if x8 < x2 then
      slices_insertionSortCmpFunc_api_ConvexPiece.l4 k x1 x2 x8 x8 xo0
    else some xo0
def slices_insertionSortCmpFunc_api_ConvexPiece.l4 : Nat → Int → Int → Int → Int → (List (Int × Int)) → Option (List (Int × Int))
  | 0, _, _, _, _, _ => none
  | k + 1, x1, x2, x8, x9, xo0 => if x1 < x9 then
      if 0 ≤ x9 then
        if x9 < (xo0.length : Int) then
          if 0 ≤ (wrap64 (x9 - 1)) then
            if (wrap64 (x9 - 1)) < (xo0.length : Int) then
              (convexpl_made_1.f k (rY0 xo0 x9) (rY0 xo0 (wrap64 (x9 - 1)))).bind fun r1 =>
              if r1 < 0 then
                if 0 ≤ (wrap64 (x9 - 1)) then
                  if (wrap64 (x9 - 1)) < (xo0.length : Int) then
                    if 0 ≤ x9 then
                      if x9 < (xo0.length : Int) then
                        if 0 ≤ x9 then
                          if x9 < (xo0.length : Int) then
                            if 0 ≤ (wrap64 (x9 - 1)) then
                              if (wrap64 (x9 - 1)) < ((xo0.set x9.toNat (rY0 xo0 (wrap64 (x9 - 1)))).length : Int) then
                                slices_insertionSortCmpFunc_api_ConvexPiece.l4 k x1 x2 x8 (wrap64 (x9 - 1)) ((xo0.set x9.toNat (rY0 xo0 (wrap64 (x9 - 1)))).set (wrap64 (x9 - 1)).toNat (rY0 xo0 x9))
                              else none
                            else none
                          else none
                        else none
                      else none
                    else none
                  else none
                else none
              else slices_insertionSortCmpFunc_api_ConvexPiece.l1 k x1 x2 (wrap64 (x8 + 1)) xo0
            else none
          else none
        else none
      else none
    else slices_insertionSortCmpFunc_api_ConvexPiece.l1 k x1 x2 (wrap64 (x8 + 1)) xo0
end
theorem slices_insertionSortCmpFunc_api_ConvexPiece.l1_eq (k : Nat) (x1 : Int) (x2 : Int) (x8 : Int) (xo0 : List (Int × Int)) : slices_insertionSortCmpFunc_api_ConvexPiece.l1 (k + 1) x1 x2 x8 xo0 = if x8 < x2 then
      slices_insertionSortCmpFunc_api_ConvexPiece.l4 k x1 x2 x8 x8 xo0
    else some xo0 := rfl
theorem slices_insertionSortCmpFunc_api_ConvexPiece.l4_eq (k : Nat) (x1 : Int) (x2 : Int) (x8 : Int) (x9 : Int) (xo0 : List (Int × Int)) : slices_insertionSortCmpFunc_api_ConvexPiece.l4 (k + 1) x1 x2 x8 x9 xo0 = if x1 < x9 then
      if 0 ≤ x9 then
        if x9 < (xo0.length : Int) then
          if 0 ≤ (wrap64 (x9 - 1)) then
            if (wrap64 (x9 - 1)) < (xo0.length : Int) then
              (convexpl_made_1.f k (rY0 xo0 x9) (rY0 xo0 (wrap64 (x9 - 1)))).bind fun r1 =>
              if r1 < 0 then
                if 0 ≤ (wrap64 (x9 - 1)) then
                  if (wrap64 (x9 - 1)) < (xo0.length : Int) then
                    if 0 ≤ x9 then
                      if x9 < (xo0.length : Int) then
                        if 0 ≤ x9 then
                          if x9 < (xo0.length : Int) then
                            if 0 ≤ (wrap64 (x9 - 1)) then
                              if (wrap64 (x9 - 1)) < ((xo0.set x9.toNat (rY0 xo0 (wrap64 (x9 - 1)))).length : Int) then
                                slices_insertionSortCmpFunc_api_ConvexPiece.l4 k x1 x2 x8 (wrap64 (x9 - 1)) ((xo0.set x9.toNat (rY0 xo0 (wrap64 (x9 - 1)))).set (wrap64 (x9 - 1)).toNat (rY0 xo0 x9))
                              else none
                            else none
                          else none
                        else none
                      else none
                    else none
                  else none
                else none
              else slices_insertionSortCmpFunc_api_ConvexPiece.l1 k x1 x2 (wrap64 (x8 + 1)) xo0
            else none
          else none
        else none
      else none
    else slices_insertionSortCmpFunc_api_ConvexPiece.l1 k x1 x2 (wrap64 (x8 + 1)) xo0 := rfl
def slices_insertionSortCmpFunc_api_ConvexPiece.f (k : Nat) (a1 : Int) (a2 : Int) (ao0 : List (Int × Int)) : Option (List (Int × Int)) :=
  slices_insertionSortCmpFunc_api_ConvexPiece.l1 k a1 a2 (wrap64 (a1 + 1)) ao0
def slices_swapRangeCmpFunc_api_ConvexPiece.l1 : Nat → Int → Int → Int → Int → (List (Int × Int)) → Option (List (Int × Int))
  | 0, _, _, _, _, _ => none
  | k + 1, x1, x2, x3, x10, xo0 => if x10 < x3 then
      if 0 ≤ (wrap64 (x2 + x10)) then
        if (wrap64 (x2 + x10)) < (xo0.length : Int) then
          if 0 ≤ (wrap64 (x1 + x10)) then
            if (wrap64 (x1 + x10)) < (xo0.length : Int) then
              if 0 ≤ (wrap64 (x1 + x10)) then
                if (wrap64 (x1 + x10)) < (xo0.length : Int) then
                  if 0 ≤ (wrap64 (x2 + x10)) then
                    if (wrap64 (x2 + x10)) < ((xo0.set (wrap64 (x1 + x10)).toNat (rY0 xo0 (wrap64 (x2 + x10)))).length : Int) then
                      slices_swapRangeCmpFunc_api_ConvexPiece.l1 k x1 x2 x3 (wrap64 (x10 + 1)) ((xo0.set (wrap64 (x1 + x10)).toNat (rY0 xo0 (wrap64 (x2 + x10)))).set (wrap64 (x2 + x10)).toNat (rY0 xo0 (wrap64 (x1 + x10))))
                    else none
                  else none
                else none
              else none
            else none
          else none
        else none
      else none
    else some xo0
theorem slices_swapRangeCmpFunc_api_ConvexPiece.l1_eq (k : Nat) (x1 : Int) (x2 : Int) (x3 : Int) (x10 : Int) (xo0 : List (Int × Int)) : slices_swapRangeCmpFunc_api_ConvexPiece.l1 (k + 1) x1 x2 x3 x10 xo0 = if x10 < x3 then
      if 0 ≤ (wrap64 (x2 + x10)) then
        if (wrap64 (x2 + x10)) < (xo0.length : Int) then
          if 0 ≤ (wrap64 (x1 + x10)) then
            if (wrap64 (x1 + x10)) < (xo0.length : Int) then
              if 0 ≤ (wrap64 (x1 + x10)) then
                if (wrap64 (x1 + x10)) < (xo0.length : Int) then
                  if 0 ≤ (wrap64 (x2 + x10)) then
                    if (wrap64 (x2 + x10)) < ((xo0.set (wrap64 (x1 + x10)).toNat (rY0 xo0 (wrap64 (x2 + x10)))).length : Int) then
                      slices_swapRangeCmpFunc_api_ConvexPiece.l1 k x1 x2 x3 (wrap64 (x10 + 1)) ((xo0.set (wrap64 (x1 + x10)).toNat (rY0 xo0 (wrap64 (x2 + x10)))).set (wrap64 (x2 + x10)).toNat (rY0 xo0 (wrap64 (x1 + x10))))
                    else none
                  else none
                else none
              else none
            else none
          else none
        else none
      else none
    else some xo0 := rfl
def slices_swapRangeCmpFunc_api_ConvexPiece.f (k : Nat) (a1 : Int) (a2 : Int) (a3 : Int) (ao0 : List (Int × Int)) : Option (List (Int × Int)) :=
  slices_swapRangeCmpFunc_api_ConvexPiece.l1 k a1 a2 a3 0 ao0
def slices_rotateCmpFunc_api_ConvexPiece.l2 : Nat → Int → Int → Int → (List (Int × Int)) → Option (List (Int × Int))
  | 0, _, _, _, _ => none
  | k + 1, x2, x10, x11, xo0 => if x10 = x11 then
      (slices_swapRangeCmpFunc_api_ConvexPiece.f k (wrap64 (x2 - x10)) x2 x10 xo0).bind fun r1 =>
      some r1
    else if x11 < x10 then
      (slices_swapRangeCmpFunc_api_ConvexPiece.f k (wrap64 (x2 - x10)) x2 x11 xo0).bind fun r2 =>
      slices_rotateCmpFunc_api_ConvexPiece.l2 k x2 (wrap64 (x10 - x11)) x11 r2
    else (slices_swapRangeCmpFunc_api_ConvexPiece.f k (wrap64 (x2 - x10)) (wrap64 ((wrap64 (x2 + x11)) - x10)) x10 xo0).bind fun r3 =>
    slices_rotateCmpFunc_api_ConvexPiece.l2 k x2 x10 (wrap64 (x11 - x10)) r3
theorem slices_rotateCmpFunc_api_ConvexPiece.l2_eq (k : Nat) (x2 : Int) (x10 : Int) (x11 : Int) (xo0 : List (Int × Int)) : slices_rotateCmpFunc_api_ConvexPiece.l2 (k + 1) x2 x10 x11 xo0 = if x10 = x11 then
      (slices_swapRangeCmpFunc_api_ConvexPiece.f k (wrap64 (x2 - x10)) x2 x10 xo0).bind fun r1 =>
      some r1
    else if x11 < x10 then
      (slices_swapRangeCmpFunc_api_ConvexPiece.f k (wrap64 (x2 - x10)) x2 x11 xo0).bind fun r2 =>
      slices_rotateCmpFunc_api_ConvexPiece.l2 k x2 (wrap64 (x10 - x11)) x11 r2
    else (slices_swapRangeCmpFunc_api_ConvexPiece.f k (wrap64 (x2 - x10)) (wrap64 ((wrap64 (x2 + x11)) - x10)) x10 xo0).bind fun r3 =>
    slices_rotateCmpFunc_api_ConvexPiece.l2 k x2 x10 (wrap64 (x11 - x10)) r3 := rfl
def slices_rotateCmpFunc_api_ConvexPiece.f (k : Nat) (a1 : Int) (a2 : Int) (a3 : Int) (ao0 : List (Int × Int)) : Option (List (Int × Int)) :=
  slices_rotateCmpFunc_api_ConvexPiece.l2 k a2 (wrap64 (a2 - a1)) (wrap64 (a3 - a2)) ao0
def slices_symMergeCmpFunc_api_ConvexPiece.l9 : Nat → Int → Int → (List (Int × Int)) → Option (List (Int × Int))
  | 0, _, _, _ => none
  | k + 1, x10, x13, xo0 => if x13 < (wrap64 (x10 - 1)) then
      if 0 ≤ (wrap64 (x13 + 1)) then
        if (wrap64 (x13 + 1)) < (xo0.length : Int) then
          if 0 ≤ x13 then
            if x13 < (xo0.length : Int) then
              if 0 ≤ x13 then
                if x13 < (xo0.length : Int) then
                  if 0 ≤ (wrap64 (x13 + 1)) then
                    if (wrap64 (x13 + 1)) < ((xo0.set x13.toNat (rY0 xo0 (wrap64 (x13 + 1)))).length : Int) then
                      slices_symMergeCmpFunc_api_ConvexPiece.l9 k x10 (wrap64 (x13 + 1)) ((xo0.set x13.toNat (rY0 xo0 (wrap64 (x13 + 1)))).set (wrap64 (x13 + 1)).toNat (rY0 xo0 x13))
                    else none
                  else none
                else none
              else none
            else none
          else none
        else none
      else none
    else some xo0
theorem slices_symMergeCmpFunc_api_ConvexPiece.l9_eq (k : Nat) (x10 : Int) (x13 : Int) (xo0 : List (Int × Int)) : slices_symMergeCmpFunc_api_ConvexPiece.l9 (k + 1) x10 x13 xo0 = if x13 < (wrap64 (x10 - 1)) then
      if 0 ≤ (wrap64 (x13 + 1)) then
        if (wrap64 (x13 + 1)) < (xo0.length : Int) then
          if 0 ≤ x13 then
            if x13 < (xo0.length : Int) then
              if 0 ≤ x13 then
                if x13 < (xo0.length : Int) then
                  if 0 ≤ (wrap64 (x13 + 1)) then
                    if (wrap64 (x13 + 1)) < ((xo0.set x13.toNat (rY0 xo0 (wrap64 (x13 + 1)))).length : Int) then
                      slices_symMergeCmpFunc_api_ConvexPiece.l9 k x10 (wrap64 (x13 + 1)) ((xo0.set x13.toNat (rY0 xo0 (wrap64 (x13 + 1)))).set (wrap64 (x13 + 1)).toNat (rY0 xo0 x13))
                    else none
                  else none
                else none
              else none
            else none
          else none
        else none
      else none
    else some xo0 := rfl
def slices_symMergeCmpFunc_api_ConvexPiece.l3 : Nat → Int → Int → Int → (List (Int × Int)) → Option (List (Int × Int))
  | 0, _, _, _, _ => none
  | k + 1, x1, x10, x11, xo0 => if x10 < x11 then
      if (0 : Int) ≤ 1 then
        if 0 ≤ (wrap64 (shrI .u64 (IntKind.wrap .u64 (wrap64 (x10 + x11))) 1)) then
          if (wrap64 (shrI .u64 (IntKind.wrap .u64 (wrap64 (x10 + x11))) 1)) < (xo0.length : Int) then
            if 0 ≤ x1 then
              if x1 < (xo0.length : Int) then
                (convexpl_made_1.f k (rY0 xo0 (wrap64 (shrI .u64 (IntKind.wrap .u64 (wrap64 (x10 + x11))) 1))) (rY0 xo0 x1)).bind fun r1 =>
                if r1 < 0 then
                  slices_symMergeCmpFunc_api_ConvexPiece.l3 k x1 (wrap64 ((wrap64 (shrI .u64 (IntKind.wrap .u64 (wrap64 (x10 + x11))) 1)) + 1)) x11 xo0
                else slices_symMergeCmpFunc_api_ConvexPiece.l3 k x1 x10 (wrap64 (shrI .u64 (IntKind.wrap .u64 (wrap64 (x10 + x11))) 1)) xo0
              else none
            else none
          else none
        else none
      else none
    else slices_symMergeCmpFunc_api_ConvexPiece.l9 k x10 x1 xo0
theorem slices_symMergeCmpFunc_api_ConvexPiece.l3_eq (k : Nat) (x1 : Int) (x10 : Int) (x11 : Int) (xo0 : List (Int × Int)) : slices_symMergeCmpFunc_api_ConvexPiece.l3 (k + 1) x1 x10 x11 xo0 = if x10 < x11 then
      if (0 : Int) ≤ 1 then
        if 0 ≤ (wrap64 (shrI .u64 (IntKind.wrap .u64 (wrap64 (x10 + x11))) 1)) then
          if (wrap64 (shrI .u64 (IntKind.wrap .u64 (wrap64 (x10 + x11))) 1)) < (xo0.length : Int) then
            if 0 ≤ x1 then
              if x1 < (xo0.length : Int) then
                (convexpl_made_1.f k (rY0 xo0 (wrap64 (shrI .u64 (IntKind.wrap .u64 (wrap64 (x10 + x11))) 1))) (rY0 xo0 x1)).bind fun r1 =>
                if r1 < 0 then
                  slices_symMergeCmpFunc_api_ConvexPiece.l3 k x1 (wrap64 ((wrap64 (shrI .u64 (IntKind.wrap .u64 (wrap64 (x10 + x11))) 1)) + 1)) x11 xo0
                else slices_symMergeCmpFunc_api_ConvexPiece.l3 k x1 x10 (wrap64 (shrI .u64 (IntKind.wrap .u64 (wrap64 (x10 + x11))) 1)) xo0
              else none
            else none
          else none
        else none
      else none
    else slices_symMergeCmpFunc_api_ConvexPiece.l9 k x10 x1 xo0 := rfl
def slices_symMergeCmpFunc_api_ConvexPiece.l21 : Nat → Int → Int → (List (Int × Int)) → Option (List (Int × Int))
  | 0, _, _, _ => none
  | k + 1, x14, x17, xo0 => if x14 < x17 then
      if 0 ≤ (wrap64 (x17 - 1)) then
        if (wrap64 (x17 - 1)) < (xo0.length : Int) then
          if 0 ≤ x17 then
            if x17 < (xo0.length : Int) then
              if 0 ≤ x17 then
                if x17 < (xo0.length : Int) then
                  if 0 ≤ (wrap64 (x17 - 1)) then
                    if (wrap64 (x17 - 1)) < ((xo0.set x17.toNat (rY0 xo0 (wrap64 (x17 - 1)))).length : Int) then
                      slices_symMergeCmpFunc_api_ConvexPiece.l21 k x14 (wrap64 (x17 - 1)) ((xo0.set x17.toNat (rY0 xo0 (wrap64 (x17 - 1)))).set (wrap64 (x17 - 1)).toNat (rY0 xo0 x17))
                    else none
                  else none
                else none
              else none
            else none
          else none
        else none
      else none
    else some xo0
theorem slices_symMergeCmpFunc_api_ConvexPiece.l21_eq (k : Nat) (x14 : Int) (x17 : Int) (xo0 : List (Int × Int)) : slices_symMergeCmpFunc_api_ConvexPiece.l21 (k + 1) x14 x17 xo0 = if x14 < x17 then
      if 0 ≤ (wrap64 (x17 - 1)) then
        if (wrap64 (x17 - 1)) < (xo0.length : Int) then
          if 0 ≤ x17 then
            if x17 < (xo0.length : Int) then
              if 0 ≤ x17 then
                if x17 < (xo0.length : Int) then
                  if 0 ≤ (wrap64 (x17 - 1)) then
                    if (wrap64 (x17 - 1)) < ((xo0.set x17.toNat (rY0 xo0 (wrap64 (x17 - 1)))).length : Int) then
                      slices_symMergeCmpFunc_api_ConvexPiece.l21 k x14 (wrap64 (x17 - 1)) ((xo0.set x17.toNat (rY0 xo0 (wrap64 (x17 - 1)))).set (wrap64 (x17 - 1)).toNat (rY0 xo0 x17))
                    else none
                  else none
                else none
              else none
            else none
          else none
        else none
      else none
    else some xo0 := rfl
def slices_symMergeCmpFunc_api_ConvexPiece.l15 : Nat → Int → Int → Int → (List (Int × Int)) → Option (List (Int × Int))
  | 0, _, _, _, _ => none
  | k + 1, x2, x14, x15, xo0 => if x14 < x15 then
      if (0 : Int) ≤ 1 then
        if 0 ≤ x2 then
          if x2 < (xo0.length : Int) then
            if 0 ≤ (wrap64 (shrI .u64 (IntKind.wrap .u64 (wrap64 (x14 + x15))) 1)) then
              if (wrap64 (shrI .u64 (IntKind.wrap .u64 (wrap64 (x14 + x15))) 1)) < (xo0.length : Int) then
                (convexpl_made_1.f k (rY0 xo0 x2) (rY0 xo0 (wrap64 (shrI .u64 (IntKind.wrap .u64 (wrap64 (x14 + x15))) 1)))).bind fun r2 =>
                if r2 < 0 then
                  slices_symMergeCmpFunc_api_ConvexPiece.l15 k x2 x14 (wrap64 (shrI .u64 (IntKind.wrap .u64 (wrap64 (x14 + x15))) 1)) xo0
                else slices_symMergeCmpFunc_api_ConvexPiece.l15 k x2 (wrap64 ((wrap64 (shrI .u64 (IntKind.wrap .u64 (wrap64 (x14 + x15))) 1)) + 1)) x15 xo0
              else none
            else none
          else none
        else none
      else none
    else slices_symMergeCmpFunc_api_ConvexPiece.l21 k x14 x2 xo0
theorem slices_symMergeCmpFunc_api_ConvexPiece.l15_eq (k : Nat) (x2 : Int) (x14 : Int) (x15 : Int) (xo0 : List (Int × Int)) : slices_symMergeCmpFunc_api_ConvexPiece.l15 (k + 1) x2 x14 x15 xo0 = if x14 < x15 then
      if (0 : Int) ≤ 1 then
        if 0 ≤ x2 then
          if x2 < (xo0.length : Int) then
            if 0 ≤ (wrap64 (shrI .u64 (IntKind.wrap .u64 (wrap64 (x14 + x15))) 1)) then
              if (wrap64 (shrI .u64 (IntKind.wrap .u64 (wrap64 (x14 + x15))) 1)) < (xo0.length : Int) then
                (convexpl_made_1.f k (rY0 xo0 x2) (rY0 xo0 (wrap64 (shrI .u64 (IntKind.wrap .u64 (wrap64 (x14 + x15))) 1)))).bind fun r2 =>
                if r2 < 0 then
                  slices_symMergeCmpFunc_api_ConvexPiece.l15 k x2 x14 (wrap64 (shrI .u64 (IntKind.wrap .u64 (wrap64 (x14 + x15))) 1)) xo0
                else slices_symMergeCmpFunc_api_ConvexPiece.l15 k x2 (wrap64 ((wrap64 (shrI .u64 (IntKind.wrap .u64 (wrap64 (x14 + x15))) 1)) + 1)) x15 xo0
              else none
            else none
          else none
        else none
      else none
    else slices_symMergeCmpFunc_api_ConvexPiece.l21 k x14 x2 xo0 := rfl
mutual
def slices_symMergeCmpFunc_api_ConvexPiece.f : Nat → Int → Int → Int → (List (Int × Int)) → Option (List (Int × Int))
  | 0, _, _, _, _ => none
  | k + 1, a1, a2, a3, ao0 => if (wrap64 (a2 - a1)) = 1 then
      slices_symMergeCmpFunc_api_ConvexPiece.l3 k a1 a2 a3 ao0
    else if (wrap64 (a3 - a2)) = 1 then
      slices_symMergeCmpFunc_api_ConvexPiece.l15 k a2 a1 a2 ao0
    else if (0 : Int) ≤ 1 then
      if (wrap64 (shrI .u64 (IntKind.wrap .u64 (wrap64 (a1 + a3))) 1)) < a2 then
        slices_symMergeCmpFunc_api_ConvexPiece.l32 k a1 a2 a3 (wrap64 (shrI .u64 (IntKind.wrap .u64 (wrap64 (a1 + a3))) 1)) (wrap64 ((wrap64 (shrI .u64 (IntKind.wrap .u64 (wrap64 (a1 + a3))) 1)) + a2)) (wrap64 ((wrap64 ((wrap64 (shrI .u64 (IntKind.wrap .u64 (wrap64 (a1 + a3))) 1)) + a2)) - a3)) (wrap64 (shrI .u64 (IntKind.wrap .u64 (wrap64 (a1 + a3))) 1)) ao0
      else slices_symMergeCmpFunc_api_ConvexPiece.l32 k a1 a2 a3 (wrap64 (shrI .u64 (IntKind.wrap .u64 (wrap64 (a1 + a3))) 1)) (wrap64 ((wrap64 (shrI .u64 (IntKind.wrap .u64 (wrap64 (a1 + a3))) 1)) + a2)) a1 a2 ao0
    else none
def slices_symMergeCmpFunc_api_ConvexPiece.l32 : Nat → Int → Int → Int → Int → Int → Int → Int → (List (Int × Int)) → Option (List (Int × Int))
  | 0, _, _, _, _, _, _, _, _ => none
  | k + 1, x1, x2, x3, x18, x19, x20, x21, xo0 => slices_symMergeCmpFunc_api_ConvexPiece.l33 k x1 x2 x3 x18 x19 x20 x21 (wrap64 (x19 - 1)) xo0
def slices_symMergeCmpFunc_api_ConvexPiece.l33 : Nat → Int → Int → Int → Int → Int → Int → Int → Int → (List (Int × Int)) → Option (List (Int × Int))
  | 0, _, _, _, _, _, _, _, _, _ => none
  | k + 1, x1, x2, x3, x18, x19, x20, x21, x22, xo0 => if x20 < x21 then
      if (0 : Int) ≤ 1 then
        if 0 ≤ (wrap64 (x22 - (wrap64 (shrI .u64 (IntKind.wrap .u64 (wrap64 (x20 + x21))) 1)))) then
          if (wrap64 (x22 - (wrap64 (shrI .u64 (IntKind.wrap .u64 (wrap64 (x20 + x21))) 1)))) < (xo0.length : Int) then
            if 0 ≤ (wrap64 (shrI .u64 (IntKind.wrap .u64 (wrap64 (x20 + x21))) 1)) then
              if (wrap64 (shrI .u64 (IntKind.wrap .u64 (wrap64 (x20 + x21))) 1)) < (xo0.length : Int) then
                (convexpl_made_1.f k (rY0 xo0 (wrap64 (x22 - (wrap64 (shrI .u64 (IntKind.wrap .u64 (wrap64 (x20 + x21))) 1))))) (rY0 xo0 (wrap64 (shrI .u64 (IntKind.wrap .u64 (wrap64 (x20 + x21))) 1)))).bind fun r3 =>
                if r3 < 0 then
                  slices_symMergeCmpFunc_api_ConvexPiece.l33 k x1 x2 x3 x18 x19 x20 (wrap64 (shrI .u64 (IntKind.wrap .u64 (wrap64 (x20 + x21))) 1)) x22 xo0
                else slices_symMergeCmpFunc_api_ConvexPiece.l33 k x1 x2 x3 x18 x19 (wrap64 ((wrap64 (shrI .u64 (IntKind.wrap .u64 (wrap64 (x20 + x21))) 1)) + 1)) x21 x22 xo0
              else none
            else none
          else none
        else none
      else none
    else if x20 < x2 then
      if x2 < (wrap64 (x19 - x20)) then
        (slices_rotateCmpFunc_api_ConvexPiece.f k x20 x2 (wrap64 (x19 - x20)) xo0).bind fun r4 =>
        slices_symMergeCmpFunc_api_ConvexPiece.l41 k x1 x3 x18 x20 (wrap64 (x19 - x20)) r4
      else slices_symMergeCmpFunc_api_ConvexPiece.l41 k x1 x3 x18 x20 (wrap64 (x19 - x20)) xo0
    else slices_symMergeCmpFunc_api_ConvexPiece.l41 k x1 x3 x18 x20 (wrap64 (x19 - x20)) xo0
def slices_symMergeCmpFunc_api_ConvexPiece.l41 : Nat → Int → Int → Int → Int → Int → (List (Int × Int)) → Option (List (Int × Int))
  | 0, _, _, _, _, _, _ => none
  | k + 1, x1, x3, x18, x20, x24, xo0 => if x1 < x20 then
      if x20 < x18 then
        (slices_symMergeCmpFunc_api_ConvexPiece.f k x1 x20 x18 xo0).bind fun r5 =>
        if x18 < x24 then
          if x24 < x3 then
            (slices_symMergeCmpFunc_api_ConvexPiece.f k x18 x24 x3 r5).bind fun r6 =>
            some r6
          else some r5
        else some r5
      else if x18 < x24 then
        if x24 < x3 then
          (slices_symMergeCmpFunc_api_ConvexPiece.f k x18 x24 x3 xo0).bind fun r7 =>
          some r7
        else some xo0
      else some xo0
    else if x18 < x24 then
      if x24 < x3 then
        (slices_symMergeCmpFunc_api_ConvexPiece.f k x18 x24 x3 xo0).bind fun r8 =>
        some r8
      else some xo0
    else some xo0
end
theorem slices_symMergeCmpFunc_api_ConvexPiece.f_eq (k : Nat) (a1 : Int) (a2 : Int) (a3 : Int) (ao0 : List (Int × Int)) : slices_symMergeCmpFunc_api_ConvexPiece.f (k + 1) a1 a2 a3 ao0 = if (wrap64 (a2 - a1)) = 1 then
      slices_symMergeCmpFunc_api_ConvexPiece.l3 k a1 a2 a3 ao0
    else if (wrap64 (a3 - a2)) = 1 then
      slices_symMergeCmpFunc_api_ConvexPiece.l15 k a2 a1 a2 ao0
    else if (0 : Int) ≤ 1 then
      if (wrap64 (shrI .u64 (IntKind.wrap .u64 (wrap64 (a1 + a3))) 1)) < a2 then
        slices_symMergeCmpFunc_api_ConvexPiece.l32 k a1 a2 a3 (wrap64 (shrI .u64 (IntKind.wrap .u64 (wrap64 (a1 + a3))) 1)) (wrap64 ((wrap64 (shrI .u64 (IntKind.wrap .u64 (wrap64 (a1 + a3))) 1)) + a2)) (wrap64 ((wrap64 ((wrap64 (shrI .u64 (IntKind.wrap .u64 (wrap64 (a1 + a3))) 1)) + a2)) - a3)) (wrap64 (shrI .u64 (IntKind.wrap .u64 (wrap64 (a1 + a3))) 1)) ao0
      else slices_symMergeCmpFunc_api_ConvexPiece.l32 k a1 a2 a3 (wrap64 (shrI .u64 (IntKind.wrap .u64 (wrap64 (a1 + a3))) 1)) (wrap64 ((wrap64 (shrI .u64 (IntKind.wrap .u64 (wrap64 (a1 + a3))) 1)) + a2)) a1 a2 ao0
    else none := rfl
theorem slices_symMergeCmpFunc_api_ConvexPiece.l32_eq (k : Nat) (x1 : Int) (x2 : Int) (x3 : Int) (x18 : Int) (x19 : Int) (x20 : Int) (x21 : Int) (xo0 : List (Int × Int)) : slices_symMergeCmpFunc_api_ConvexPiece.l32 (k + 1) x1 x2 x3 x18 x19 x20 x21 xo0 = slices_symMergeCmpFunc_api_ConvexPiece.l33 k x1 x2 x3 x18 x19 x20 x21 (wrap64 (x19 - 1)) xo0 := rfl
theorem slices_symMergeCmpFunc_api_ConvexPiece.l33_eq (k : Nat) (x1 : Int) (x2 : Int) (x3 : Int) (x18 : Int) (x19 : Int) (x20 : Int) (x21 : Int) (x22 : Int) (xo0 : List (Int × Int)) : slices_symMergeCmpFunc_api_ConvexPiece.l33 (k + 1) x1 x2 x3 x18 x19 x20 x21 x22 xo0 = if x20 < x21 then
      if (0 : Int) ≤ 1 then
        if 0 ≤ (wrap64 (x22 - (wrap64 (shrI .u64 (IntKind.wrap .u64 (wrap64 (x20 + x21))) 1)))) then
          if (wrap64 (x22 - (wrap64 (shrI .u64 (IntKind.wrap .u64 (wrap64 (x20 + x21))) 1)))) < (xo0.length : Int) then
            if 0 ≤ (wrap64 (shrI .u64 (IntKind.wrap .u64 (wrap64 (x20 + x21))) 1)) then
              if (wrap64 (shrI .u64 (IntKind.wrap .u64 (wrap64 (x20 + x21))) 1)) < (xo0.length : Int) then
                (convexpl_made_1.f k (rY0 xo0 (wrap64 (x22 - (wrap64 (shrI .u64 (IntKind.wrap .u64 (wrap64 (x20 + x21))) 1))))) (rY0 xo0 (wrap64 (shrI .u64 (IntKind.wrap .u64 (wrap64 (x20 + x21))) 1)))).bind fun r3 =>
                if r3 < 0 then
                  slices_symMergeCmpFunc_api_ConvexPiece.l33 k x1 x2 x3 x18 x19 x20 (wrap64 (shrI .u64 (IntKind.wrap .u64 (wrap64 (x20 + x21))) 1)) x22 xo0
                else slices_symMergeCmpFunc_api_ConvexPiece.l33 k x1 x2 x3 x18 x19 (wrap64 ((wrap64 (shrI .u64 (IntKind.wrap .u64 (wrap64 (x20 + x21))) 1)) + 1)) x21 x22 xo0
              else none
            else none
          else none
        else none
      else none
    else if x20 < x2 then
      if x2 < (wrap64 (x19 - x20)) then
        (slices_rotateCmpFunc_api_ConvexPiece.f k x20 x2 (wrap64 (x19 - x20)) xo0).bind fun r4 =>
        slices_symMergeCmpFunc_api_ConvexPiece.l41 k x1 x3 x18 x20 (wrap64 (x19 - x20)) r4
      else slices_symMergeCmpFunc_api_ConvexPiece.l41 k x1 x3 x18 x20 (wrap64 (x19 - x20)) xo0
    else slices_symMergeCmpFunc_api_ConvexPiece.l41 k x1 x3 x18 x20 (wrap64 (x19 - x20)) xo0 := rfl
theorem slices_symMergeCmpFunc_api_ConvexPiece.l41_eq (k : Nat) (x1 : Int) (x3 : Int) (x18 : Int) (x20 : Int) (x24 : Int) (xo0 : List (Int × Int)) : slices_symMergeCmpFunc_api_ConvexPiece.l41 (k + 1) x1 x3 x18 x20 x24 xo0 = if x1 < x20 then
      if x20 < x18 then
        (slices_symMergeCmpFunc_api_ConvexPiece.f k x1 x20 x18 xo0).bind fun r5 =>
        if x18 < x24 then
          if x24 < x3 then
            (slices_symMergeCmpFunc_api_ConvexPiece.f k x18 x24 x3 r5).bind fun r6 =>
            some r6
          else some r5
        else some r5
      else if x18 < x24 then
        if x24 < x3 then
          (slices_symMergeCmpFunc_api_ConvexPiece.f k x18 x24 x3 xo0).bind fun r7 =>
          some r7
        else some xo0
      else some xo0
    else if x18 < x24 then
      if x24 < x3 then
        (slices_symMergeCmpFunc_api_ConvexPiece.f k x18 x24 x3 xo0).bind fun r8 =>
        some r8
      else some xo0
    else some xo0 := rfl
mutual
def slices_stableCmpFunc_api_ConvexPiece.l7 : Nat → Int → Int → (List (Int × Int)) → Option (List (Int × Int))
  | 0, _, _, _ => none
  | k + 1, x1, x6, xo0 => if x6 < x1 then
      slices_stableCmpFunc_api_ConvexPiece.l9 k x1 x6 0 (wrap64 (2 * x6)) xo0
    else some xo0
def slices_stableCmpFunc_api_ConvexPiece.l9 : Nat → Int → Int → Int → Int → (List (Int × Int)) → Option (List (Int × Int))
  | 0, _, _, _, _, _ => none
  | k + 1, x1, x6, x7, x8, xo0 => if x8 ≤ x1 then
      (slices_symMergeCmpFunc_api_ConvexPiece.f k x7 (wrap64 (x7 + x6)) x8 xo0).bind fun r3 =>
      slices_stableCmpFunc_api_ConvexPiece.l9 k x1 x6 x8 (wrap64 (x8 + (wrap64 (2 * x6)))) r3
    else if (wrap64 (x7 + x6)) < x1 then
      (slices_symMergeCmpFunc_api_ConvexPiece.f k x7 (wrap64 (x7 + x6)) x1 xo0).bind fun r4 =>
      slices_stableCmpFunc_api_ConvexPiece.l7 k x1 (wrap64 (x6 * 2)) r4
    else slices_stableCmpFunc_api_ConvexPiece.l7 k x1 (wrap64 (x6 * 2)) xo0
end
theorem slices_stableCmpFunc_api_ConvexPiece.l7_eq (k : Nat) (x1 : Int) (x6 : Int) (xo0 : List (Int × Int)) : slices_stableCmpFunc_api_ConvexPiece.l7 (k + 1) x1 x6 xo0 = if x6 < x1 then
      slices_stableCmpFunc_api_ConvexPiece.l9 k x1 x6 0 (wrap64 (2 * x6)) xo0
    else some xo0 := rfl
theorem slices_stableCmpFunc_api_ConvexPiece.l9_eq (k : Nat) (x1 : Int) (x6 : Int) (x7 : Int) (x8 : Int) (xo0 : List (Int × Int)) : slices_stableCmpFunc_api_ConvexPiece.l9 (k + 1) x1 x6 x7 x8 xo0 = if x8 ≤ x1 then
      (slices_symMergeCmpFunc_api_ConvexPiece.f k x7 (wrap64 (x7 + x6)) x8 xo0).bind fun r3 =>
      slices_stableCmpFunc_api_ConvexPiece.l9 k x1 x6 x8 (wrap64 (x8 + (wrap64 (2 * x6)))) r3
    else if (wrap64 (x7 + x6)) < x1 then
      (slices_symMergeCmpFunc_api_ConvexPiece.f k x7 (wrap64 (x7 + x6)) x1 xo0).bind fun r4 =>
      slices_stableCmpFunc_api_ConvexPiece.l7 k x1 (wrap64 (x6 * 2)) r4
    else slices_stableCmpFunc_api_ConvexPiece.l7 k x1 (wrap64 (x6 * 2)) xo0 := rfl
def slices_stableCmpFunc_api_ConvexPiece.l2 : Nat → Int → Int → Int → Int → (List (Int × Int)) → Option (List (Int × Int))
  | 0, _, _, _, _, _ => none
  | k + 1, x1, x6, x7, x8, xo0 => if x8 ≤ x1 then
      (slices_insertionSortCmpFunc_api_ConvexPiece.f k x7 x8 xo0).bind fun r1 =>
      slices_stableCmpFunc_api_ConvexPiece.l2 k x1 x6 x8 (wrap64 (x8 + x6)) r1
    else (slices_insertionSortCmpFunc_api_ConvexPiece.f k x7 x1 xo0).bind fun r2 =>
    slices_stableCmpFunc_api_ConvexPiece.l7 k x1 x6 r2
theorem slices_stableCmpFunc_api_ConvexPiece.l2_eq (k : Nat) (x1 : Int) (x6 : Int) (x7 : Int) (x8 : Int) (xo0 : List (Int × Int)) : slices_stableCmpFunc_api_ConvexPiece.l2 (k + 1) x1 x6 x7 x8 xo0 = if x8 ≤ x1 then
      (slices_insertionSortCmpFunc_api_ConvexPiece.f k x7 x8 xo0).bind fun r1 =>
      slices_stableCmpFunc_api_ConvexPiece.l2 k x1 x6 x8 (wrap64 (x8 + x6)) r1
    else (slices_insertionSortCmpFunc_api_ConvexPiece.f k x7 x1 xo0).bind fun r2 =>
    slices_stableCmpFunc_api_ConvexPiece.l7 k x1 x6 r2 := rfl
def slices_stableCmpFunc_api_ConvexPiece.f (k : Nat) (a1 : Int) (ao0 : List (Int × Int)) : Option (List (Int × Int)) :=
  slices_stableCmpFunc_api_ConvexPiece.l2 k a1 20 0 20 ao0
def slices_SortStableFunc_api_ConvexPiece.f (k : Nat) (ao0 : List (Int × Int)) : Option (List (Int × Int)) :=
  (slices_stableCmpFunc_api_ConvexPiece.f k (ao0.length : Int) ao0).bind fun r1 =>
  some r1
def convexpl_made.l4 : Nat → Int → Int → (List (Int × Int)) → Int → Int → Int → Int → (List (Int × Int)) → Option ((Int × Int × List (Int × Int)) × Int × List (Int × Int))
  | 0, _, _, _, _, _, _, _, _ => none
  | k + 1, x18, x19, xo0, xo1_0, xo1_1, xo2_0, xo2_1, xo3 => if x19 < x18 then
      if 0 ≤ x19 then
        if x19 < (xo0.length : Int) then
          if (rY0 xo0 x19).1 = 0 then
            convexpl_made.l4 k x18 (wrap64 (x19 + 1)) xo0 xo1_0 xo1_1 xo2_0 xo2_1 xo3
          else if 0 ≤ (wrap64 ((xo3.length : Int) - 1)) then
            if 0 ≤ (wrap64 ((xo3.length : Int) - 1)) then
              if (wrap64 ((xo3.length : Int) - 1)) < (xo3.length : Int) then
                if (rY0 xo3 (wrap64 ((xo3.length : Int) - 1))).2 = (rY0 xo0 x19).2 then
                  if 0 ≤ (wrap64 ((xo3.length : Int) - 1)) then
                    if (wrap64 ((xo3.length : Int) - 1)) < (xo3.length : Int) then
                      if 0 ≤ (wrap64 ((xo3.length : Int) - 1)) then
                        if (wrap64 ((xo3.length : Int) - 1)) < (xo3.length : Int) then
                          convexpl_made.l4 k x18 (wrap64 (x19 + 1)) xo0 xo1_0 xo1_1 xo2_0 xo2_1 (xo3.set (wrap64 ((xo3.length : Int) - 1)).toNat (wrap64 ((rY0 xo3 (wrap64 ((xo3.length : Int) - 1))).1 + (rY0 xo0 x19).1), (rY0 xo3 (wrap64 ((xo3.length : Int) - 1))).2))
                        else none
                      else none
                    else none
                  else none
                else if (xo3.length + [rY0 xo0 x19].length) * 16 ≤ 140737488355328 then
                  convexpl_made.l4 k x18 (wrap64 (x19 + 1)) xo0 xo1_0 xo1_1 xo2_0 xo2_1 (xo3 ++ [rY0 xo0 x19])
                else none
              else none
            else none
          else if (xo3.length + [rY0 xo0 x19].length) * 16 ≤ 140737488355328 then
            convexpl_made.l4 k x18 (wrap64 (x19 + 1)) xo0 xo1_0 xo1_1 xo2_0 xo2_1 (xo3 ++ [rY0 xo0 x19])
          else none
        else none
      else none
    else (convexpl_Check.f k (xo2_0, xo2_1, xo3)).bind fun r2 =>
    if r2 = 0 then
      some ((xo2_0, xo2_1, xo3), 0, xo0)
    else some ((0, 0, []), 2, xo0)
theorem convexpl_made.l4_eq (k : Nat) (x18 : Int) (x19 : Int) (xo0 : List (Int × Int)) (xo1_0 : Int) (xo1_1 : Int) (xo2_0 : Int) (xo2_1 : Int) (xo3 : List (Int × Int)) : convexpl_made.l4 (k + 1) x18 x19 xo0 xo1_0 xo1_1 xo2_0 xo2_1 xo3 = if x19 < x18 then
      if 0 ≤ x19 then
        if x19 < (xo0.length : Int) then
          if (rY0 xo0 x19).1 = 0 then
            convexpl_made.l4 k x18 (wrap64 (x19 + 1)) xo0 xo1_0 xo1_1 xo2_0 xo2_1 xo3
          else if 0 ≤ (wrap64 ((xo3.length : Int) - 1)) then
            if 0 ≤ (wrap64 ((xo3.length : Int) - 1)) then
              if (wrap64 ((xo3.length : Int) - 1)) < (xo3.length : Int) then
                if (rY0 xo3 (wrap64 ((xo3.length : Int) - 1))).2 = (rY0 xo0 x19).2 then
                  if 0 ≤ (wrap64 ((xo3.length : Int) - 1)) then
                    if (wrap64 ((xo3.length : Int) - 1)) < (xo3.length : Int) then
                      if 0 ≤ (wrap64 ((xo3.length : Int) - 1)) then
                        if (wrap64 ((xo3.length : Int) - 1)) < (xo3.length : Int) then
                          convexpl_made.l4 k x18 (wrap64 (x19 + 1)) xo0 xo1_0 xo1_1 xo2_0 xo2_1 (xo3.set (wrap64 ((xo3.length : Int) - 1)).toNat (wrap64 ((rY0 xo3 (wrap64 ((xo3.length : Int) - 1))).1 + (rY0 xo0 x19).1), (rY0 xo3 (wrap64 ((xo3.length : Int) - 1))).2))
                        else none
                      else none
                    else none
                  else none
                else if (xo3.length + [rY0 xo0 x19].length) * 16 ≤ 140737488355328 then
                  convexpl_made.l4 k x18 (wrap64 (x19 + 1)) xo0 xo1_0 xo1_1 xo2_0 xo2_1 (xo3 ++ [rY0 xo0 x19])
                else none
              else none
            else none
          else if (xo3.length + [rY0 xo0 x19].length) * 16 ≤ 140737488355328 then
            convexpl_made.l4 k x18 (wrap64 (x19 + 1)) xo0 xo1_0 xo1_1 xo2_0 xo2_1 (xo3 ++ [rY0 xo0 x19])
          else none
        else none
      else none
    else (convexpl_Check.f k (xo2_0, xo2_1, xo3)).bind fun r2 =>
    if r2 = 0 then
      some ((xo2_0, xo2_1, xo3), 0, xo0)
    else some ((0, 0, []), 2, xo0) := rfl
def convexpl_made.f (k : Nat) (a0 : Int) (a1 : Int) (ao0 : List (Int × Int)) : Option ((Int × Int × List (Int × Int)) × Int × List (Int × Int)) :=
  (slices_SortStableFunc_api_ConvexPiece.f k ao0).bind fun r1 =>
  convexpl_made.l4 k (r1.length : Int) 0 r1 0 0 a0 a1 []
def convexpl_Convolve.f (k : Nat) (a0 : Int × Int × List (Int × Int)) (a1 : Int × Int × List (Int × Int)) : Option ((Int × Int × List (Int × Int)) × Int) :=
  (convexpl_both.f k a0 a1).bind fun r1 =>
  if r1 = 0 then
    (slices_Concat_api_ConvexPiece.f k [a0.2.2, a1.2.2]).bind fun r2 =>
    (convexpl_made.f k (wrap64 (a0.1 + a1.1)) (wrap64 (a0.2.1 + a1.2.1)) r2).bind fun r3 =>
    some (r3.1, r3.2.1)
  else some ((0, 0, []), r1)
def convexpl_high.l3 : Nat → Int → (List (Int × Int)) → Int → Int → Option Int
  | 0, _, _, _, _ => none
  | k + 1, x3, x9, x10, x11 => if x11 < x10 then
      if 0 ≤ x11 then
        if x11 < (x9.length : Int) then
          convexpl_high.l3 k (wrap64 (x3 + (rY0 x9 x11).1)) x9 x10 (wrap64 (x11 + 1))
        else none
      else none
    else some x3
theorem convexpl_high.l3_eq (k : Nat) (x3 : Int) (x9 : List (Int × Int)) (x10 : Int) (x11 : Int) : convexpl_high.l3 (k + 1) x3 x9 x10 x11 = if x11 < x10 then
      if 0 ≤ x11 then
        if x11 < (x9.length : Int) then
          convexpl_high.l3 k (wrap64 (x3 + (rY0 x9 x11).1)) x9 x10 (wrap64 (x11 + 1))
        else none
      else none
    else some x3 := rfl
def convexpl_high.f (k : Nat) (a0 : Int × Int × List (Int × Int)) : Option Int :=
  convexpl_high.l3 k a0.1 a0.2.2 (a0.2.2.length : Int) 0
def convexpl_value.l3 : Nat → Int → Int → Int → (List (Int × Int)) → Int → Int → Option Int
  | 0, _, _, _, _, _, _ => none
  | k + 1, x1, x5, x6, x15, x16, x17 => if x17 < x16 then
      if 0 ≤ x17 then
        if x17 < (x15.length : Int) then
          convexpl_value.l3 k x1 (wrap64 (x5 + (wrap64 ((mn (rY0 x15 x17).1 (wrap64 (x1 - x6))) * (rY0 x15 x17).2)))) (wrap64 (x6 + (mn (rY0 x15 x17).1 (wrap64 (x1 - x6))))) x15 x16 (wrap64 (x17 + 1))
        else none
      else none
    else some x5
theorem convexpl_value.l3_eq (k : Nat) (x1 : Int) (x5 : Int) (x6 : Int) (x15 : List (Int × Int)) (x16 : Int) (x17 : Int) : convexpl_value.l3 (k + 1) x1 x5 x6 x15 x16 x17 = if x17 < x16 then
      if 0 ≤ x17 then
        if x17 < (x15.length : Int) then
          convexpl_value.l3 k x1 (wrap64 (x5 + (wrap64 ((mn (rY0 x15 x17).1 (wrap64 (x1 - x6))) * (rY0 x15 x17).2)))) (wrap64 (x6 + (mn (rY0 x15 x17).1 (wrap64 (x1 - x6))))) x15 x16 (wrap64 (x17 + 1))
        else none
      else none
    else some x5 := rfl
def convexpl_value.f (k : Nat) (a0 : Int × Int × List (Int × Int)) (a1 : Int) : Option Int :=
  convexpl_value.l3 k a1 a0.2.1 a0.1 a0.2.2 (a0.2.2.length : Int) 0
def convexpl_cut.l4 : Nat → Int → Int → Int → (List (Int × Int)) → Int → Int → (List (Int × Int)) → Option (List (Int × Int))
  | 0, _, _, _, _, _, _, _ => none
  | k + 1, x1, x2, x8, x16, x17, x18, xo0 => if x18 < x17 then
      if 0 ≤ x18 then
        if x18 < (x16.length : Int) then
          if (mx x8 x1) < (mn (wrap64 (x8 + (rY0 x16 x18).1)) x2) then
            if (xo0.length + [(wrap64 ((mn (wrap64 (x8 + (rY0 x16 x18).1)) x2) - (mx x8 x1)), (rY0 x16 x18).2)].length) * 16 ≤ 140737488355328 then
              convexpl_cut.l4 k x1 x2 (wrap64 (x8 + (rY0 x16 x18).1)) x16 x17 (wrap64 (x18 + 1)) (xo0 ++ [(wrap64 ((mn (wrap64 (x8 + (rY0 x16 x18).1)) x2) - (mx x8 x1)), (rY0 x16 x18).2)])
            else none
          else convexpl_cut.l4 k x1 x2 (wrap64 (x8 + (rY0 x16 x18).1)) x16 x17 (wrap64 (x18 + 1)) xo0
        else none
      else none
    else some xo0
theorem convexpl_cut.l4_eq (k : Nat) (x1 : Int) (x2 : Int) (x8 : Int) (x16 : List (Int × Int)) (x17 : Int) (x18 : Int) (xo0 : List (Int × Int)) : convexpl_cut.l4 (k + 1) x1 x2 x8 x16 x17 x18 xo0 = if x18 < x17 then
      if 0 ≤ x18 then
        if x18 < (x16.length : Int) then
          if (mx x8 x1) < (mn (wrap64 (x8 + (rY0 x16 x18).1)) x2) then
            if (xo0.length + [(wrap64 ((mn (wrap64 (x8 + (rY0 x16 x18).1)) x2) - (mx x8 x1)), (rY0 x16 x18).2)].length) * 16 ≤ 140737488355328 then
              convexpl_cut.l4 k x1 x2 (wrap64 (x8 + (rY0 x16 x18).1)) x16 x17 (wrap64 (x18 + 1)) (xo0 ++ [(wrap64 ((mn (wrap64 (x8 + (rY0 x16 x18).1)) x2) - (mx x8 x1)), (rY0 x16 x18).2)])
            else none
          else convexpl_cut.l4 k x1 x2 (wrap64 (x8 + (rY0 x16 x18).1)) x16 x17 (wrap64 (x18 + 1)) xo0
        else none
      else none
    else some xo0 := rfl
def convexpl_cut.f (k : Nat) (a0 : Int × Int × List (Int × Int)) (a1 : Int) (a2 : Int) : Option (List (Int × Int)) :=
  convexpl_cut.l4 k a1 a2 a0.1 a0.2.2 (a0.2.2.length : Int) 0 []
def convexpl_Restrict.f (k : Nat) (a0 : Int × Int × List (Int × Int)) (a1 : Int) (a2 : Int) : Option ((Int × Int × List (Int × Int)) × Int) :=
  (convexpl_Check.f k a0).bind fun r1 =>
  if r1 = 0 then
    (convexpl_high.f k a0).bind fun r2 =>
    if (mn a2 r2) < (mx a1 a0.1) then
      some ((0, 0, []), 8)
    else (convexpl_value.f k a0 (mx a1 a0.1)).bind fun r3 =>
    (convexpl_cut.f k a0 (mx a1 a0.1) (mn a2 r2)).bind fun r4 =>
    (convexpl_made.f k (mx a1 a0.1) r3 r4).bind fun r5 =>
    some (r5.1, r5.2.1)
  else some ((0, 0, []), r1)
def storage_values.l3 : Nat → List Int → Int → Int → Int → Int → Int → Int → Int → (List (Int × Int × List (Int × Int))) → Option ((List (Int × Int × List (Int × Int))) × Int)
  | 0, _, _, _, _, _, _, _, _, _ => none
  | k + 1, x15, x16, x17, xo0_0, xo0_1, xo0_2, xo0_3, xo0_4, xo1 => if x17 < x16 then
      if 0 ≤ x17 then
        if x17 < (x15.length : Int) then
          if 0 ≤ (wrap64 ((xo1.length : Int) - 1)) then
            if (wrap64 ((xo1.length : Int) - 1)) < (xo1.length : Int) then
              (storage_trade.f k (xo0_0, xo0_1, xo0_2, xo0_3, xo0_4) (rI64 x15 x17)).bind fun r1 =>
              (convexpl_Convolve.f k (rY2 xo1 (wrap64 ((xo1.length : Int) - 1))) r1).bind fun r2 =>
              if r2.2 = 0 then
                (convexpl_Restrict.f k r2.1 0 xo0_2).bind fun r3 =>
                if r3.2 = 0 then
                  if (xo1.length + [r3.1].length) * 40 ≤ 140737488355328 then
                    storage_values.l3 k x15 x16 (wrap64 (x17 + 1)) xo0_0 xo0_1 xo0_2 xo0_3 xo0_4 (xo1 ++ [r3.1])
                  else none
                else some ([], r3.2)
              else some ([], r2.2)
            else none
          else none
        else none
      else none
    else some (xo1, 0)
theorem storage_values.l3_eq (k : Nat) (x15 : List Int) (x16 : Int) (x17 : Int) (xo0_0 : Int) (xo0_1 : Int) (xo0_2 : Int) (xo0_3 : Int) (xo0_4 : Int) (xo1 : List (Int × Int × List (Int × Int))) : storage_values.l3 (k + 1) x15 x16 x17 xo0_0 xo0_1 xo0_2 xo0_3 xo0_4 xo1 = if x17 < x16 then
      if 0 ≤ x17 then
        if x17 < (x15.length : Int) then
          if 0 ≤ (wrap64 ((xo1.length : Int) - 1)) then
            if (wrap64 ((xo1.length : Int) - 1)) < (xo1.length : Int) then
              (storage_trade.f k (xo0_0, xo0_1, xo0_2, xo0_3, xo0_4) (rI64 x15 x17)).bind fun r1 =>
              (convexpl_Convolve.f k (rY2 xo1 (wrap64 ((xo1.length : Int) - 1))) r1).bind fun r2 =>
              if r2.2 = 0 then
                (convexpl_Restrict.f k r2.1 0 xo0_2).bind fun r3 =>
                if r3.2 = 0 then
                  if (xo1.length + [r3.1].length) * 40 ≤ 140737488355328 then
                    storage_values.l3 k x15 x16 (wrap64 (x17 + 1)) xo0_0 xo0_1 xo0_2 xo0_3 xo0_4 (xo1 ++ [r3.1])
                  else none
                else some ([], r3.2)
              else some ([], r2.2)
            else none
          else none
        else none
      else none
    else some (xo1, 0) := rfl
def storage_values.f (k : Nat) (a0 : Int × Int × Int × Int × Int) (a1 : List Int) : Option ((List (Int × Int × List (Int × Int))) × Int) :=
  storage_values.l3 k a1 (a1.length : Int) 0 a0.1 a0.2.1 a0.2.2.1 a0.2.2.2.1 a0.2.2.2.2 [(a0.2.2.2.1, 0, [])]
def storage_Value.f (k : Nat) (a0 : Int × Int × Int × Int × Int) (a1 : List Int) : Option ((Int × Int × List (Int × Int)) × Int) :=
  (storage_Check.f k a0).bind fun r1 =>
  if r1 = 0 then
    (storage_checkPrices.f k a1).bind fun r2 =>
    if r2 = 0 then
      (storage_values.f k a0 a1).bind fun r3 =>
      if r3.2 = 0 then
        if 0 ≤ (wrap64 ((r3.1.length : Int) - 1)) then
          if (wrap64 ((r3.1.length : Int) - 1)) < (r3.1.length : Int) then
            some (rY2 r3.1 (wrap64 ((r3.1.length : Int) - 1)), 0)
          else none
        else none
      else some ((0, 0, []), r3.2)
    else some ((0, 0, []), r2)
  else some ((0, 0, []), r1)
def storage_Run.l12 : Nat → List Int → Int → Int → List Int → Int → Int → Int → Int → Int → Int → Int → List Int → Option (List Int × Int × Int)
  | 0, _, _, _, _, _, _, _, _, _, _, _, _ => none
  | k + 1, x1, x11, x12, x33, x34, x35, xo0_0, xo0_1, xo0_2, xo0_3, xo0_4, xo1 => if x35 < x34 then
      if 0 ≤ x35 then
        if x35 < (x33.length : Int) then
          if (rI64 x33 x35) < (wrap64 (0 - xo0_1)) then
            some ([], 0, 17)
          else if xo0_0 < (rI64 x33 x35) then
            some ([], 0, 17)
          else if (wrap64 (x11 + (rI64 x33 x35))) < 0 then
            some ([], 0, 4)
          else if xo0_2 < (wrap64 (x11 + (rI64 x33 x35))) then
            some ([], 0, 4)
          else if (xo1.length + [wrap64 (x11 + (rI64 x33 x35))].length) * 8 ≤ 140737488355328 then
            if 0 ≤ x35 then
              if x35 < (x1.length : Int) then
                storage_Run.l12 k x1 (wrap64 (x11 + (rI64 x33 x35))) (wrap64 (x12 + (wrap64 ((rI64 x33 x35) * (rI64 x1 x35))))) x33 x34 (wrap64 (x35 + 1)) xo0_0 xo0_1 xo0_2 xo0_3 xo0_4 (xo1 ++ [wrap64 (x11 + (rI64 x33 x35))])
              else none
            else none
          else none
        else none
      else none
    else if x11 < xo0_4 then
      some ([], 0, 14)
    else some (xo1, x12, 0)
theorem storage_Run.l12_eq (k : Nat) (x1 : List Int) (x11 : Int) (x12 : Int) (x33 : List Int) (x34 : Int) (x35 : Int) (xo0_0 : Int) (xo0_1 : Int) (xo0_2 : Int) (xo0_3 : Int) (xo0_4 : Int) (xo1 : List Int) : storage_Run.l12 (k + 1) x1 x11 x12 x33 x34 x35 xo0_0 xo0_1 xo0_2 xo0_3 xo0_4 xo1 = if x35 < x34 then
      if 0 ≤ x35 then
        if x35 < (x33.length : Int) then
          if (rI64 x33 x35) < (wrap64 (0 - xo0_1)) then
            some ([], 0, 17)
          else if xo0_0 < (rI64 x33 x35) then
            some ([], 0, 17)
          else if (wrap64 (x11 + (rI64 x33 x35))) < 0 then
            some ([], 0, 4)
          else if xo0_2 < (wrap64 (x11 + (rI64 x33 x35))) then
            some ([], 0, 4)
          else if (xo1.length + [wrap64 (x11 + (rI64 x33 x35))].length) * 8 ≤ 140737488355328 then
            if 0 ≤ x35 then
              if x35 < (x1.length : Int) then
                storage_Run.l12 k x1 (wrap64 (x11 + (rI64 x33 x35))) (wrap64 (x12 + (wrap64 ((rI64 x33 x35) * (rI64 x1 x35))))) x33 x34 (wrap64 (x35 + 1)) xo0_0 xo0_1 xo0_2 xo0_3 xo0_4 (xo1 ++ [wrap64 (x11 + (rI64 x33 x35))])
              else none
            else none
          else none
        else none
      else none
    else if x11 < xo0_4 then
      some ([], 0, 14)
    else some (xo1, x12, 0) := rfl
def storage_Run.f (k : Nat) (a0 : Int × Int × Int × Int × Int) (a1 : List Int) (a2 : List Int) : Option (List Int × Int × Int) :=
  (storage_Check.f k a0).bind fun r1 =>
  if r1 = 0 then
    (storage_checkPrices.f k a1).bind fun r2 =>
    if r2 = 0 then
      if (a2.length : Int) = (a1.length : Int) then
        storage_Run.l12 k a1 a0.2.2.2.1 0 a2 (a2.length : Int) 0 a0.1 a0.2.1 a0.2.2.1 a0.2.2.2.1 a0.2.2.2.2 []
      else some ([], 0, 3)
    else some ([], 0, r2)
  else some ([], 0, r1)
def gridhallkeep3_StorageValue.l13 : Nat → List Int → Int → Int → Int → (List (Int × Int)) → Int → Int → Option Bool
  | 0, _, _, _, _, _, _, _ => none
  | k + 1, x14, x15, x17, x18, x101, x102, x103 => if x103 < x102 then
      if 0 ≤ x103 then
        if x103 < (x101.length : Int) then
          if 0 ≤ (wrap64 ((x14.length : Int) - 1)) then
            if (wrap64 ((x14.length : Int) - 1)) < (x14.length : Int) then
              gridhallkeep3_StorageValue.l13 k x14 x15 (wrap64 (x17 + (mn (rY0 x101 x103).1 (mx 0 (wrap64 ((rI64 x14 (wrap64 ((x14.length : Int) - 1))) - x17)))))) (wrap64 (x18 + (wrap64 ((mn (rY0 x101 x103).1 (mx 0 (wrap64 ((rI64 x14 (wrap64 ((x14.length : Int) - 1))) - x17)))) * (rY0 x101 x103).2)))) x101 x102 (wrap64 (x103 + 1))
            else none
          else none
        else none
      else none
    else if 0 ≤ (wrap64 ((x14.length : Int) - 1)) then
      if (wrap64 ((x14.length : Int) - 1)) < (x14.length : Int) then
        if x17 = (rI64 x14 (wrap64 ((x14.length : Int) - 1))) then
          some (decide (x18 ≤ x15))
        else some false
      else none
    else none
theorem gridhallkeep3_StorageValue.l13_eq (k : Nat) (x14 : List Int) (x15 : Int) (x17 : Int) (x18 : Int) (x101 : List (Int × Int)) (x102 : Int) (x103 : Int) : gridhallkeep3_StorageValue.l13 (k + 1) x14 x15 x17 x18 x101 x102 x103 = if x103 < x102 then
      if 0 ≤ x103 then
        if x103 < (x101.length : Int) then
          if 0 ≤ (wrap64 ((x14.length : Int) - 1)) then
            if (wrap64 ((x14.length : Int) - 1)) < (x14.length : Int) then
              gridhallkeep3_StorageValue.l13 k x14 x15 (wrap64 (x17 + (mn (rY0 x101 x103).1 (mx 0 (wrap64 ((rI64 x14 (wrap64 ((x14.length : Int) - 1))) - x17)))))) (wrap64 (x18 + (wrap64 ((mn (rY0 x101 x103).1 (mx 0 (wrap64 ((rI64 x14 (wrap64 ((x14.length : Int) - 1))) - x17)))) * (rY0 x101 x103).2)))) x101 x102 (wrap64 (x103 + 1))
            else none
          else none
        else none
      else none
    else if 0 ≤ (wrap64 ((x14.length : Int) - 1)) then
      if (wrap64 ((x14.length : Int) - 1)) < (x14.length : Int) then
        if x17 = (rI64 x14 (wrap64 ((x14.length : Int) - 1))) then
          some (decide (x18 ≤ x15))
        else some false
      else none
    else none := rfl
def gridhallkeep3_StorageValue.f (k : Nat) (a0 : Int × Int × Int × Int × Int) (a1 : List Int) (a2 : List Int) : Option Bool :=
  (storage_Value.f k (2, 0, 5, 0, 0) [4]).bind fun r1 =>
  if r1.2 = 0 then
    if (r1.1.2.2.length : Int) = 1 then
      if (0 : Int) ≤ 0 then
        if 0 < (r1.1.2.2.length : Int) then
          if (rY0 r1.1.2.2 0).1 = 2 ∧ (rY0 r1.1.2.2 0).2 = 4 then
            (storage_Run.f k (1, 0, 1, 0, 0) [4] [1]).bind fun r2 =>
            if r2.2.2 = 0 then
              if r2.2.1 = 4 then
                if (r2.1.length : Int) = 1 then
                  (storage_Value.f k a0 a1).bind fun r3 =>
                  (storage_Run.f k a0 a1 a2).bind fun r4 =>
                  if r3.2 = 0 then
                    if r4.2.2 = 0 then
                      if (r4.1.length : Int) = 0 then
                        if r3.2 = 0 then
                          some true
                        else some (decide ((r3.1.2.2.length : Int) = 0))
                      else gridhallkeep3_StorageValue.l13 k r4.1 r4.2.1 r3.1.1 r3.1.2.1 r3.1.2.2 (r3.1.2.2.length : Int) 0
                    else if r3.2 = 0 then
                      some true
                    else some (decide ((r3.1.2.2.length : Int) = 0))
                  else if r3.2 = 0 then
                    some true
                  else some (decide ((r3.1.2.2.length : Int) = 0))
                else some false
              else some false
            else some false
          else some false
        else none
      else none
    else some false
  else some false
def convexpl_Least.l6 : Nat → Int → Int → (List (Int × Int)) → Int → Int → Option (Int × Int × Int)
  | 0, _, _, _, _, _ => none
  | k + 1, x6, x7, x20, x21, x22 => if x22 < x21 then
      if 0 ≤ x22 then
        if x22 < (x20.length : Int) then
          if 0 ≤ (rY0 x20 x22).2 then
            some (x6, x7, 0)
          else convexpl_Least.l6 k (wrap64 (x6 + (rY0 x20 x22).1)) (wrap64 (x7 + (wrap64 ((rY0 x20 x22).1 * (rY0 x20 x22).2)))) x20 x21 (wrap64 (x22 + 1))
        else none
      else none
    else some (x6, x7, 0)
theorem convexpl_Least.l6_eq (k : Nat) (x6 : Int) (x7 : Int) (x20 : List (Int × Int)) (x21 : Int) (x22 : Int) : convexpl_Least.l6 (k + 1) x6 x7 x20 x21 x22 = if x22 < x21 then
      if 0 ≤ x22 then
        if x22 < (x20.length : Int) then
          if 0 ≤ (rY0 x20 x22).2 then
            some (x6, x7, 0)
          else convexpl_Least.l6 k (wrap64 (x6 + (rY0 x20 x22).1)) (wrap64 (x7 + (wrap64 ((rY0 x20 x22).1 * (rY0 x20 x22).2)))) x20 x21 (wrap64 (x22 + 1))
        else none
      else none
    else some (x6, x7, 0) := rfl
def convexpl_Least.f (k : Nat) (a0 : Int × Int × List (Int × Int)) : Option (Int × Int × Int) :=
  (convexpl_Check.f k a0).bind fun r1 =>
  if r1 = 0 then
    convexpl_Least.l6 k a0.1 a0.2.1 a0.2.2 (a0.2.2.length : Int) 0
  else some (0, 0, r1)
def convexpl_Turn.l7 : Nat → Int → (List (Int × Int)) → Int → Int → Int → Int → (List (Int × Int)) → Int → Int → (List (Int × Int)) → Option ((Int × Int × List (Int × Int)) × Int)
  | 0, _, _, _, _, _, _, _, _, _, _ => none
  | k + 1, x5, x18, x19, x20, xo0_0, xo0_1, xo0_2, xo1_0, xo1_1, xo2 => if x20 < x19 then
      if 0 ≤ x20 then
        if x20 < (x18.length : Int) then
          if (xo2.length + [((rY0 x18 x20).1, wrap64 (0 - (rY0 x18 x20).2))].length) * 16 ≤ 140737488355328 then
            convexpl_Turn.l7 k x5 x18 x19 (wrap64 (x20 + 1)) xo0_0 xo0_1 xo0_2 xo1_0 xo1_1 (xo2 ++ [((rY0 x18 x20).1, wrap64 (0 - (rY0 x18 x20).2))])
          else none
        else none
      else none
    else (convexpl_value.f k (xo0_0, xo0_1, xo0_2) x5).bind fun r3 =>
    (convexpl_made.f k (wrap64 (0 - x5)) r3 xo2).bind fun r4 =>
    some (r4.1, r4.2.1)
theorem convexpl_Turn.l7_eq (k : Nat) (x5 : Int) (x18 : List (Int × Int)) (x19 : Int) (x20 : Int) (xo0_0 : Int) (xo0_1 : Int) (xo0_2 : List (Int × Int)) (xo1_0 : Int) (xo1_1 : Int) (xo2 : List (Int × Int)) : convexpl_Turn.l7 (k + 1) x5 x18 x19 x20 xo0_0 xo0_1 xo0_2 xo1_0 xo1_1 xo2 = if x20 < x19 then
      if 0 ≤ x20 then
        if x20 < (x18.length : Int) then
          if (xo2.length + [((rY0 x18 x20).1, wrap64 (0 - (rY0 x18 x20).2))].length) * 16 ≤ 140737488355328 then
            convexpl_Turn.l7 k x5 x18 x19 (wrap64 (x20 + 1)) xo0_0 xo0_1 xo0_2 xo1_0 xo1_1 (xo2 ++ [((rY0 x18 x20).1, wrap64 (0 - (rY0 x18 x20).2))])
          else none
        else none
      else none
    else (convexpl_value.f k (xo0_0, xo0_1, xo0_2) x5).bind fun r3 =>
    (convexpl_made.f k (wrap64 (0 - x5)) r3 xo2).bind fun r4 =>
    some (r4.1, r4.2.1) := rfl
def convexpl_Turn.f (k : Nat) (a0 : Int × Int × List (Int × Int)) : Option ((Int × Int × List (Int × Int)) × Int) :=
  (convexpl_Check.f k a0).bind fun r1 =>
  if r1 = 0 then
    (convexpl_high.f k a0).bind fun r2 =>
    convexpl_Turn.l7 k r2 a0.2.2 (a0.2.2.length : Int) 0 a0.1 a0.2.1 a0.2.2 0 0 []
  else some ((0, 0, []), r1)
def slices_Clone_api_ConvexPiece.f (k : Nat) (a0 : List (Int × Int)) : Option (List (Int × Int)) :=
  if a0.length = 0 then
    both (some []) (if (([] : List (Int × Int)).length + a0.length) * 16 ≤ 140737488355328 then
        some ([] ++ a0)
      else none)
  else if (([] : List (Int × Int)).length + a0.length) * 16 ≤ 140737488355328 then
    some ([] ++ a0)
  else none
def convexpl_Move.f (k : Nat) (a0 : Int × Int × List (Int × Int)) (a1 : Int) (a2 : Int) : Option ((Int × Int × List (Int × Int)) × Int) :=
  (convexpl_Check.f k a0).bind fun r1 =>
  if r1 = 0 then
    if a1 < (-2000000) then
      some ((0, 0, []), 4)
    else if 2000000 < a1 then
      some ((0, 0, []), 4)
    else if a2 < (-1000000000000000) then
      some ((0, 0, []), 4)
    else if 1000000000000000 < a2 then
      some ((0, 0, []), 4)
    else (slices_Clone_api_ConvexPiece.f k a0.2.2).bind fun r2 =>
    (convexpl_made.f k (wrap64 (a0.1 + a1)) (wrap64 (a0.2.1 + a2)) r2).bind fun r3 =>
    some (r3.1, r3.2.1)
  else some ((0, 0, []), r1)
def convexpl_shorter.f (k : Nat) (a0 : List (Int × Int)) (a1 : Int) : Option (List (Int × Int)) :=
  (slices_Clone_api_ConvexPiece.f k a0).bind fun r1 =>
  if (0 : Int) ≤ 0 then
    if 0 < (r1.length : Int) then
      if (0 : Int) ≤ 0 then
        if 0 < (r1.length : Int) then
          if (0 : Int) ≤ 0 then
            if 0 < ((r1.set (Int.toNat 0) (wrap64 ((rY0 r1 0).1 - a1), (rY0 r1 0).2)).length : Int) then
              if (rY0 (r1.set (Int.toNat 0) (wrap64 ((rY0 r1 0).1 - a1), (rY0 r1 0).2)) 0).1 = 0 then
                if (0 : Int) ≤ 1 then
                  if 1 ≤ ((r1.set (Int.toNat 0) (wrap64 ((rY0 r1 0).1 - a1), (rY0 r1 0).2)).length : Int) then
                    some (((r1.set (Int.toNat 0) (wrap64 ((rY0 r1 0).1 - a1), (rY0 r1 0).2)).drop (Int.toNat 1)).take ((Int.toNat ((r1.set (Int.toNat 0) (wrap64 ((rY0 r1 0).1 - a1), (rY0 r1 0).2)).length : Int)) - (Int.toNat 1)))
                  else none
                else none
              else some (r1.set (Int.toNat 0) (wrap64 ((rY0 r1 0).1 - a1), (rY0 r1 0).2))
            else none
          else none
        else none
      else none
    else none
  else none
def convexpl_Add.l9 : Nat → Int → (List (Int × Int)) → (List (Int × Int)) → Int → Int → (List (Int × Int)) → Int → Int → (List (Int × Int)) → Int → Int → (List (Int × Int)) → Option ((Int × Int × List (Int × Int)) × Int)
  | 0, _, _, _, _, _, _, _, _, _, _, _, _ => none
  | k + 1, x7, x9, x10, xo0_0, xo0_1, xo0_2, xo1_0, xo1_1, xo1_2, xo2_0, xo2_1, xo3 => if 0 < (x9.length : Int) then
      if 0 < (x10.length : Int) then
        if (0 : Int) ≤ 0 then
          if 0 < (x9.length : Int) then
            if (0 : Int) ≤ 0 then
              if 0 < (x10.length : Int) then
                if (0 : Int) ≤ 0 then
                  if 0 < (x9.length : Int) then
                    if (0 : Int) ≤ 0 then
                      if 0 < (x10.length : Int) then
                        if (xo3.length + [(mn (rY0 x9 0).1 (rY0 x10 0).1, wrap64 ((rY0 x9 0).2 + (rY0 x10 0).2))].length) * 16 ≤ 140737488355328 then
                          (convexpl_shorter.f k x9 (mn (rY0 x9 0).1 (rY0 x10 0).1)).bind fun r6 =>
                          (convexpl_shorter.f k x10 (mn (rY0 x9 0).1 (rY0 x10 0).1)).bind fun r7 =>
                          convexpl_Add.l9 k x7 r6 r7 xo0_0 xo0_1 xo0_2 xo1_0 xo1_1 xo1_2 xo2_0 xo2_1 (xo3 ++ [(mn (rY0 x9 0).1 (rY0 x10 0).1, wrap64 ((rY0 x9 0).2 + (rY0 x10 0).2))])
                        else none
                      else none
                    else none
                  else none
                else none
              else none
            else none
          else none
        else none
      else (convexpl_value.f k (xo0_0, xo0_1, xo0_2) x7).bind fun r8 =>
      (convexpl_value.f k (xo1_0, xo1_1, xo1_2) x7).bind fun r9 =>
      (convexpl_made.f k x7 (wrap64 (r8 + r9)) xo3).bind fun r10 =>
      some (r10.1, r10.2.1)
    else (convexpl_value.f k (xo0_0, xo0_1, xo0_2) x7).bind fun r11 =>
    (convexpl_value.f k (xo1_0, xo1_1, xo1_2) x7).bind fun r12 =>
    (convexpl_made.f k x7 (wrap64 (r11 + r12)) xo3).bind fun r13 =>
    some (r13.1, r13.2.1)
theorem convexpl_Add.l9_eq (k : Nat) (x7 : Int) (x9 : List (Int × Int)) (x10 : List (Int × Int)) (xo0_0 : Int) (xo0_1 : Int) (xo0_2 : List (Int × Int)) (xo1_0 : Int) (xo1_1 : Int) (xo1_2 : List (Int × Int)) (xo2_0 : Int) (xo2_1 : Int) (xo3 : List (Int × Int)) : convexpl_Add.l9 (k + 1) x7 x9 x10 xo0_0 xo0_1 xo0_2 xo1_0 xo1_1 xo1_2 xo2_0 xo2_1 xo3 = if 0 < (x9.length : Int) then
      if 0 < (x10.length : Int) then
        if (0 : Int) ≤ 0 then
          if 0 < (x9.length : Int) then
            if (0 : Int) ≤ 0 then
              if 0 < (x10.length : Int) then
                if (0 : Int) ≤ 0 then
                  if 0 < (x9.length : Int) then
                    if (0 : Int) ≤ 0 then
                      if 0 < (x10.length : Int) then
                        if (xo3.length + [(mn (rY0 x9 0).1 (rY0 x10 0).1, wrap64 ((rY0 x9 0).2 + (rY0 x10 0).2))].length) * 16 ≤ 140737488355328 then
                          (convexpl_shorter.f k x9 (mn (rY0 x9 0).1 (rY0 x10 0).1)).bind fun r6 =>
                          (convexpl_shorter.f k x10 (mn (rY0 x9 0).1 (rY0 x10 0).1)).bind fun r7 =>
                          convexpl_Add.l9 k x7 r6 r7 xo0_0 xo0_1 xo0_2 xo1_0 xo1_1 xo1_2 xo2_0 xo2_1 (xo3 ++ [(mn (rY0 x9 0).1 (rY0 x10 0).1, wrap64 ((rY0 x9 0).2 + (rY0 x10 0).2))])
                        else none
                      else none
                    else none
                  else none
                else none
              else none
            else none
          else none
        else none
      else (convexpl_value.f k (xo0_0, xo0_1, xo0_2) x7).bind fun r8 =>
      (convexpl_value.f k (xo1_0, xo1_1, xo1_2) x7).bind fun r9 =>
      (convexpl_made.f k x7 (wrap64 (r8 + r9)) xo3).bind fun r10 =>
      some (r10.1, r10.2.1)
    else (convexpl_value.f k (xo0_0, xo0_1, xo0_2) x7).bind fun r11 =>
    (convexpl_value.f k (xo1_0, xo1_1, xo1_2) x7).bind fun r12 =>
    (convexpl_made.f k x7 (wrap64 (r11 + r12)) xo3).bind fun r13 =>
    some (r13.1, r13.2.1) := rfl
def convexpl_Add.f (k : Nat) (a0 : Int × Int × List (Int × Int)) (a1 : Int × Int × List (Int × Int)) : Option ((Int × Int × List (Int × Int)) × Int) :=
  (convexpl_both.f k a0 a1).bind fun r1 =>
  if r1 = 0 then
    (convexpl_high.f k a0).bind fun r2 =>
    (convexpl_high.f k a1).bind fun r3 =>
    if (mn r2 r3) < (mx a0.1 a1.1) then
      some ((0, 0, []), 8)
    else (convexpl_cut.f k a0 (mx a0.1 a1.1) (mn r2 r3)).bind fun r4 =>
    (convexpl_cut.f k a1 (mx a0.1 a1.1) (mn r2 r3)).bind fun r5 =>
    convexpl_Add.l9 k (mx a0.1 a1.1) r4 r5 a0.1 a0.2.1 a0.2.2 a1.1 a1.2.1 a1.2.2 0 0 []
  else some ((0, 0, []), r1)
def storage_Best.l16 : Nat → List Int → (List (Int × Int × List (Int × Int))) → Int → Int → Int → Int → Int → Int → Int → Int → List Int → Option (List Int × Int × Int)
  | 0, _, _, _, _, _, _, _, _, _, _, _ => none
  | k + 1, x1, x9, x12, x13, x16, xo0_0, xo0_1, xo0_2, xo0_3, xo0_4, xo1 => if 0 ≤ x16 then
      if 0 ≤ x16 then
        if x16 < (x9.length : Int) then
          (convexpl_Turn.f k (rY2 x9 x16)).bind fun r6 =>
          if r6.2 = 0 then
            (convexpl_Move.f k r6.1 x12 0).bind fun r7 =>
            if r7.2 = 0 then
              if 0 ≤ x16 then
                if x16 < (x1.length : Int) then
                  (storage_trade.f k (xo0_0, xo0_1, xo0_2, xo0_3, xo0_4) (rI64 x1 x16)).bind fun r8 =>
                  (convexpl_Add.f k r7.1 r8).bind fun r9 =>
                  if r9.2 = 0 then
                    (convexpl_Least.f k r9.1).bind fun r10 =>
                    if 0 ≤ x16 then
                      if x16 < (xo1.length : Int) then
                        storage_Best.l16 k x1 x9 (wrap64 (x12 - r10.1)) x13 (wrap64 (x16 - 1)) xo0_0 xo0_1 xo0_2 xo0_3 xo0_4 (xo1.set x16.toNat r10.1)
                      else none
                    else none
                  else some ([], 0, r9.2)
                else none
              else none
            else some ([], 0, r7.2)
          else some ([], 0, r6.2)
        else none
      else none
    else some (xo1, x13, 0)
theorem storage_Best.l16_eq (k : Nat) (x1 : List Int) (x9 : List (Int × Int × List (Int × Int))) (x12 : Int) (x13 : Int) (x16 : Int) (xo0_0 : Int) (xo0_1 : Int) (xo0_2 : Int) (xo0_3 : Int) (xo0_4 : Int) (xo1 : List Int) : storage_Best.l16 (k + 1) x1 x9 x12 x13 x16 xo0_0 xo0_1 xo0_2 xo0_3 xo0_4 xo1 = if 0 ≤ x16 then
      if 0 ≤ x16 then
        if x16 < (x9.length : Int) then
          (convexpl_Turn.f k (rY2 x9 x16)).bind fun r6 =>
          if r6.2 = 0 then
            (convexpl_Move.f k r6.1 x12 0).bind fun r7 =>
            if r7.2 = 0 then
              if 0 ≤ x16 then
                if x16 < (x1.length : Int) then
                  (storage_trade.f k (xo0_0, xo0_1, xo0_2, xo0_3, xo0_4) (rI64 x1 x16)).bind fun r8 =>
                  (convexpl_Add.f k r7.1 r8).bind fun r9 =>
                  if r9.2 = 0 then
                    (convexpl_Least.f k r9.1).bind fun r10 =>
                    if 0 ≤ x16 then
                      if x16 < (xo1.length : Int) then
                        storage_Best.l16 k x1 x9 (wrap64 (x12 - r10.1)) x13 (wrap64 (x16 - 1)) xo0_0 xo0_1 xo0_2 xo0_3 xo0_4 (xo1.set x16.toNat r10.1)
                      else none
                    else none
                  else some ([], 0, r9.2)
                else none
              else none
            else some ([], 0, r7.2)
          else some ([], 0, r6.2)
        else none
      else none
    else some (xo1, x13, 0) := rfl
def storage_Best.f (k : Nat) (a0 : Int × Int × Int × Int × Int) (a1 : List Int) : Option (List Int × Int × Int) :=
  (storage_Check.f k a0).bind fun r1 =>
  if r1 = 0 then
    (storage_checkPrices.f k a1).bind fun r2 =>
    if r2 = 0 then
      (storage_values.f k a0 a1).bind fun r3 =>
      if r3.2 = 0 then
        if 0 ≤ (wrap64 ((r3.1.length : Int) - 1)) then
          if (wrap64 ((r3.1.length : Int) - 1)) < (r3.1.length : Int) then
            (convexpl_Restrict.f k (rY2 r3.1 (wrap64 ((r3.1.length : Int) - 1))) a0.2.2.2.2 a0.2.2.1).bind fun r4 =>
            if r4.2 = 0 then
              (convexpl_Least.f k r4.1).bind fun r5 =>
              if 0 ≤ (a1.length : Int) then
                if (a1.length : Int) * 8 ≤ 140737488355328 then
                  if (a1.length : Int) ≤ 140737488355328 then
                    storage_Best.l16 k a1 r3.1 r5.1 r5.2.1 (wrap64 ((a1.length : Int) - 1)) a0.1 a0.2.1 a0.2.2.1 a0.2.2.2.1 a0.2.2.2.2 (List.replicate (a1.length : Int).toNat 0)
                  else none
                else none
              else none
            else some ([], 0, r4.2)
          else none
        else none
      else some ([], 0, r3.2)
    else some ([], 0, r2)
  else some ([], 0, r1)
def slices_Equal_int.l4 : Nat → List Int → List Int → Int → Int → Option Bool
  | 0, _, _, _, _ => none
  | k + 1, x0, x1, x12, x13 => if x13 < x12 then
      if 0 ≤ x13 then
        if x13 < (x0.length : Int) then
          if 0 ≤ x13 then
            if x13 < (x1.length : Int) then
              if (rI64 x0 x13) = (rI64 x1 x13) then
                slices_Equal_int.l4 k x0 x1 x12 (wrap64 (x13 + 1))
              else some false
            else none
          else none
        else none
      else none
    else some true
theorem slices_Equal_int.l4_eq (k : Nat) (x0 : List Int) (x1 : List Int) (x12 : Int) (x13 : Int) : slices_Equal_int.l4 (k + 1) x0 x1 x12 x13 = if x13 < x12 then
      if 0 ≤ x13 then
        if x13 < (x0.length : Int) then
          if 0 ≤ x13 then
            if x13 < (x1.length : Int) then
              if (rI64 x0 x13) = (rI64 x1 x13) then
                slices_Equal_int.l4 k x0 x1 x12 (wrap64 (x13 + 1))
              else some false
            else none
          else none
        else none
      else none
    else some true := rfl
def slices_Equal_int.f (k : Nat) (a0 : List Int) (a1 : List Int) : Option Bool :=
  if (a0.length : Int) = (a1.length : Int) then
    slices_Equal_int.l4 k a0 a1 (a0.length : Int) 0
  else some false
def gridhallkeep3_stores.f (k : Nat) : Option Bool :=
  (storage_Best.f k (10, 10, 10, 0, 0) [2, 5]).bind fun r1 =>
  if r1.2.2 = 0 then
    if r1.2.1 = (-30) then
      (slices_Equal_int.f k r1.1 [10, (-10)]).bind fun r2 =>
      some r2
    else some false
  else some false
def gridhallkeep3_within.f (k : Nat) (a0 : Int) (a1 : Int) (a2 : Int) : Option Int :=
  if (wrap64 ((wrap64 (a2 - a1)) + 1)) ≠ 0 then
    if (wrap64 ((wrap64 (a2 - a1)) + 1)) ≠ 0 then
      some (wrap64 (a1 + (Int.tmod (wrap64 ((Int.tmod a0 (wrap64 ((wrap64 (a2 - a1)) + 1))) + (wrap64 ((wrap64 (a2 - a1)) + 1)))) (wrap64 ((wrap64 (a2 - a1)) + 1)))))
    else none
  else none
def gridhallkeep3_fine_1.f (k : Nat) (a0 : Int) : Option Bool :=
  some (!decide (a0 = 0))
def slices_IndexFunc_api_Errno.l2 : Nat → List Int → Int → Int → Option Int
  | 0, _, _, _ => none
  | k + 1, x0, x7, x8 => if x8 < x7 then
      if 0 ≤ x8 then
        if x8 < (x0.length : Int) then
          (gridhallkeep3_fine_1.f k (rI64 x0 x8)).bind fun r1 =>
          if r1 = true then
            some x8
          else slices_IndexFunc_api_Errno.l2 k x0 x7 (wrap64 (x8 + 1))
        else none
      else none
    else some (-1)
theorem slices_IndexFunc_api_Errno.l2_eq (k : Nat) (x0 : List Int) (x7 : Int) (x8 : Int) : slices_IndexFunc_api_Errno.l2 (k + 1) x0 x7 x8 = if x8 < x7 then
      if 0 ≤ x8 then
        if x8 < (x0.length : Int) then
          (gridhallkeep3_fine_1.f k (rI64 x0 x8)).bind fun r1 =>
          if r1 = true then
            some x8
          else slices_IndexFunc_api_Errno.l2 k x0 x7 (wrap64 (x8 + 1))
        else none
      else none
    else some (-1) := rfl
def slices_IndexFunc_api_Errno.f (k : Nat) (a0 : List Int) : Option Int :=
  slices_IndexFunc_api_Errno.l2 k a0 (a0.length : Int) 0
def slices_ContainsFunc_api_Errno.f (k : Nat) (a0 : List Int) : Option Bool :=
  (slices_IndexFunc_api_Errno.f k a0).bind fun r1 =>
  some (decide (0 ≤ r1))
def gridhallkeep3_fine.f (k : Nat) (a0 : List Int) : Option Bool :=
  (slices_ContainsFunc_api_Errno.f k a0).bind fun r1 =>
  some (!decide (r1 = true))
def gridhallkeep3_StorageLarger.f (k : Nat) (a0 : Int × Int × Int × Int × Int) (a1 : List Int) (a2 : Int) : Option Bool :=
  (gridhallkeep3_stores.f k).bind fun r1 =>
  if r1 = true then
    (storage_Best.f k a0 a1).bind fun r2 =>
    (gridhallkeep3_within.f k a2 0 50).bind fun r3 =>
    (storage_Best.f k (wrap64 (a0.1 + r3), wrap64 (a0.2.1 + r3), wrap64 (a0.2.2.1 + r3), a0.2.2.2) a1).bind fun r4 =>
    (gridhallkeep3_fine.f k [r2.2.2, r4.2.2]).bind fun r5 =>
    if r5 = true then
      some (decide (r4.2.1 ≤ r2.2.1))
    else some true
  else some false
def gridhallkeep3_StorageKept.f (k : Nat) (a0 : Int × Int × Int × Int × Int) (a1 : List Int) (a2 : List Int) : Option Bool :=
  (storage_Run.f k (1, 0, 1, 0, 0) [4] [1]).bind fun r1 =>
  if r1.2.2 = 0 then
    if r1.2.1 = 4 then
      (gridhallkeep3_stores.f k).bind fun r2 =>
      if r2 = true then
        (storage_Best.f k a0 a1).bind fun r3 =>
        (storage_Run.f k a0 a1 a2).bind fun r4 =>
        if r3.2.2 = 0 then
          (storage_Run.f k a0 a1 r3.1).bind fun r5 =>
          if r5.2.2 = 0 then
            if r5.2.1 = r3.2.1 then
              if r4.2.2 = 0 then
                some (decide (r3.2.1 ≤ r4.2.1))
              else some true
            else some false
          else some false
        else if (r3.1.length : Int) = 0 then
          if r3.2.1 = 0 then
            if r4.2.2 = 0 then
              some (decide (r3.2.2 = 2))
            else some true
          else some false
        else some false
      else some false
    else some false
  else some false
def ramp_Check.l4 : Nat → Int → Int → Int → (List (Int × Int)) → Int → Int → Option Int
  | 0, _, _, _, _, _, _ => none
  | k + 1, x1, x2, x3, x14, x15, x16 => if x16 < x15 then
      if 0 ≤ x16 then
        if x16 < (x14.length : Int) then
          if (rY0 x14 x16).1 < 0 then
            some 4
          else if (rY0 x14 x16).2 < (rY0 x14 x16).1 then
            some 4
          else if 100000 < (rY0 x14 x16).2 then
            some 4
          else ramp_Check.l4 k x1 x2 x3 x14 x15 (wrap64 (x16 + 1))
        else none
      else none
    else if x1 < 0 then
      some 4
    else if 100000 < x1 then
      some 4
    else if x2 < 0 then
      some 4
    else if 100000 < x2 then
      some 4
    else if x3 < 0 then
      some 4
    else if 100000 < x3 then
      some 4
    else some 0
theorem ramp_Check.l4_eq (k : Nat) (x1 : Int) (x2 : Int) (x3 : Int) (x14 : List (Int × Int)) (x15 : Int) (x16 : Int) : ramp_Check.l4 (k + 1) x1 x2 x3 x14 x15 x16 = if x16 < x15 then
      if 0 ≤ x16 then
        if x16 < (x14.length : Int) then
          if (rY0 x14 x16).1 < 0 then
            some 4
          else if (rY0 x14 x16).2 < (rY0 x14 x16).1 then
            some 4
          else if 100000 < (rY0 x14 x16).2 then
            some 4
          else ramp_Check.l4 k x1 x2 x3 x14 x15 (wrap64 (x16 + 1))
        else none
      else none
    else if x1 < 0 then
      some 4
    else if 100000 < x1 then
      some 4
    else if x2 < 0 then
      some 4
    else if 100000 < x2 then
      some 4
    else if x3 < 0 then
      some 4
    else if 100000 < x3 then
      some 4
    else some 0 := rfl
def ramp_Check.f (k : Nat) (a0 : List (Int × Int)) (a1 : Int) (a2 : Int) (a3 : Int) : Option Int :=
  if 24 < (a0.length : Int) then
    some 2
  else ramp_Check.l4 k a1 a2 a3 a0 (a0.length : Int) 0
def ramp_Feasible.l8 : Nat → (List (Int × Int)) → Int → Int → Int → List Int → Int → Int → Option (Bool × Int)
  | 0, _, _, _, _, _, _, _ => none
  | k + 1, x0, x2, x3, x13, x30, x31, x32 => if x32 < x31 then
      if 0 ≤ x32 then
        if x32 < (x30.length : Int) then
          if 0 ≤ x32 then
            if x32 < (x0.length : Int) then
              if (rI64 x30 x32) < (rY0 x0 x32).1 then
                some (false, 0)
              else if 0 ≤ x32 then
                if x32 < (x0.length : Int) then
                  if (rY0 x0 x32).2 < (rI64 x30 x32) then
                    some (false, 0)
                  else if (wrap64 (x13 + x2)) < (rI64 x30 x32) then
                    some (false, 0)
                  else if (rI64 x30 x32) < (wrap64 (x13 - x3)) then
                    some (false, 0)
                  else ramp_Feasible.l8 k x0 x2 x3 (rI64 x30 x32) x30 x31 (wrap64 (x32 + 1))
                else none
              else none
            else none
          else none
        else none
      else none
    else some (true, 0)
theorem ramp_Feasible.l8_eq (k : Nat) (x0 : List (Int × Int)) (x2 : Int) (x3 : Int) (x13 : Int) (x30 : List Int) (x31 : Int) (x32 : Int) : ramp_Feasible.l8 (k + 1) x0 x2 x3 x13 x30 x31 x32 = if x32 < x31 then
      if 0 ≤ x32 then
        if x32 < (x30.length : Int) then
          if 0 ≤ x32 then
            if x32 < (x0.length : Int) then
              if (rI64 x30 x32) < (rY0 x0 x32).1 then
                some (false, 0)
              else if 0 ≤ x32 then
                if x32 < (x0.length : Int) then
                  if (rY0 x0 x32).2 < (rI64 x30 x32) then
                    some (false, 0)
                  else if (wrap64 (x13 + x2)) < (rI64 x30 x32) then
                    some (false, 0)
                  else if (rI64 x30 x32) < (wrap64 (x13 - x3)) then
                    some (false, 0)
                  else ramp_Feasible.l8 k x0 x2 x3 (rI64 x30 x32) x30 x31 (wrap64 (x32 + 1))
                else none
              else none
            else none
          else none
        else none
      else none
    else some (true, 0) := rfl
def ramp_Feasible.f (k : Nat) (a0 : List (Int × Int)) (a1 : Int) (a2 : Int) (a3 : Int) (a4 : List Int) : Option (Bool × Int) :=
  (ramp_Check.f k a0 a1 a2 a3).bind fun r1 =>
  if r1 = 0 then
    if (a4.length : Int) = (a0.length : Int) then
      ramp_Feasible.l8 k a0 a2 a3 a1 a4 (a4.length : Int) 0
    else some (false, 3)
  else some (false, r1)
def ramp_steps.f (k : Nat) (a0 : Int) (a1 : Int) : Option (Int × Int × List (Int × Int)) :=
  if a0 < a1 then
    some (a0, 0, [(wrap64 (a1 - a0), 0)])
  else some (a0, 0, [])
def ramp_away.f (k : Nat) (a0 : Int) : Option (Int × Int × List (Int × Int)) :=
  some ((-100000), wrap64 (a0 + 100000), [(wrap64 (a0 + 100000), (-1)), (wrap64 (200000 - a0), 1)])
mutual
def ramp_values.l3 : Nat → Int → Int → List Int → (List (Int × Int)) → Int → Int → (List (Int × Int × List (Int × Int))) → Option ((List (Int × Int × List (Int × Int))) × Int)
  | 0, _, _, _, _, _, _, _ => none
  | k + 1, x2, x3, x4, x20, x21, x22, xo0 => if x22 < x21 then
      if 0 ≤ x22 then
        if x22 < (x20.length : Int) then
          if 0 ≤ x22 then
            if x22 < (xo0.length : Int) then
              (ramp_steps.f k (wrap64 (0 - x3)) x2).bind fun r1 =>
              (convexpl_Convolve.f k (rY2 xo0 x22) r1).bind fun r2 =>
              if r2.2 = 0 then
                (convexpl_Restrict.f k r2.1 (rY0 x20 x22).1 (rY0 x20 x22).2).bind fun r3 =>
                ramp_values.l8 k x2 x3 x4 x22 r3.2 x20 x21 x22 xo0 r3.1.1 r3.1.2.1 r3.1.2.2
              else ramp_values.l8 k x2 x3 x4 x22 r2.2 x20 x21 x22 xo0 r2.1.1 r2.1.2.1 r2.1.2.2
            else none
          else none
        else none
      else none
    else some (xo0, 0)
def ramp_values.l8 : Nat → Int → Int → List Int → Int → Int → (List (Int × Int)) → Int → Int → (List (Int × Int × List (Int × Int))) → Int → Int → (List (Int × Int)) → Option ((List (Int × Int × List (Int × Int))) × Int)
  | 0, _, _, _, _, _, _, _, _, _, _, _, _ => none
  | k + 1, x2, x3, x4, x13, x16, x20, x21, x22, xo0, xo1_0, xo1_1, xo1_2 => if x16 = 0 then
      if 0 ≤ x13 then
        if x13 < (x4.length : Int) then
          (ramp_away.f k (rI64 x4 x13)).bind fun r4 =>
          (convexpl_Add.f k (xo1_0, xo1_1, xo1_2) r4).bind fun r5 =>
          if r5.2 = 0 then
            if (xo0.length + [r5.1].length) * 40 ≤ 140737488355328 then
              ramp_values.l3 k x2 x3 x4 x20 x21 (wrap64 (x22 + 1)) (xo0 ++ [r5.1])
            else none
          else some ([], r5.2)
        else none
      else none
    else if x16 = 0 then
      if (xo0.length + [(xo1_0, xo1_1, xo1_2)].length) * 40 ≤ 140737488355328 then
        ramp_values.l3 k x2 x3 x4 x20 x21 (wrap64 (x22 + 1)) (xo0 ++ [(xo1_0, xo1_1, xo1_2)])
      else none
    else some ([], x16)
end
theorem ramp_values.l3_eq (k : Nat) (x2 : Int) (x3 : Int) (x4 : List Int) (x20 : List (Int × Int)) (x21 : Int) (x22 : Int) (xo0 : List (Int × Int × List (Int × Int))) : ramp_values.l3 (k + 1) x2 x3 x4 x20 x21 x22 xo0 = if x22 < x21 then
      if 0 ≤ x22 then
        if x22 < (x20.length : Int) then
          if 0 ≤ x22 then
            if x22 < (xo0.length : Int) then
              (ramp_steps.f k (wrap64 (0 - x3)) x2).bind fun r1 =>
              (convexpl_Convolve.f k (rY2 xo0 x22) r1).bind fun r2 =>
              if r2.2 = 0 then
                (convexpl_Restrict.f k r2.1 (rY0 x20 x22).1 (rY0 x20 x22).2).bind fun r3 =>
                ramp_values.l8 k x2 x3 x4 x22 r3.2 x20 x21 x22 xo0 r3.1.1 r3.1.2.1 r3.1.2.2
              else ramp_values.l8 k x2 x3 x4 x22 r2.2 x20 x21 x22 xo0 r2.1.1 r2.1.2.1 r2.1.2.2
            else none
          else none
        else none
      else none
    else some (xo0, 0) := rfl
theorem ramp_values.l8_eq (k : Nat) (x2 : Int) (x3 : Int) (x4 : List Int) (x13 : Int) (x16 : Int) (x20 : List (Int × Int)) (x21 : Int) (x22 : Int) (xo0 : List (Int × Int × List (Int × Int))) (xo1_0 : Int) (xo1_1 : Int) (xo1_2 : List (Int × Int)) : ramp_values.l8 (k + 1) x2 x3 x4 x13 x16 x20 x21 x22 xo0 xo1_0 xo1_1 xo1_2 = if x16 = 0 then
      if 0 ≤ x13 then
        if x13 < (x4.length : Int) then
          (ramp_away.f k (rI64 x4 x13)).bind fun r4 =>
          (convexpl_Add.f k (xo1_0, xo1_1, xo1_2) r4).bind fun r5 =>
          if r5.2 = 0 then
            if (xo0.length + [r5.1].length) * 40 ≤ 140737488355328 then
              ramp_values.l3 k x2 x3 x4 x20 x21 (wrap64 (x22 + 1)) (xo0 ++ [r5.1])
            else none
          else some ([], r5.2)
        else none
      else none
    else if x16 = 0 then
      if (xo0.length + [(xo1_0, xo1_1, xo1_2)].length) * 40 ≤ 140737488355328 then
        ramp_values.l3 k x2 x3 x4 x20 x21 (wrap64 (x22 + 1)) (xo0 ++ [(xo1_0, xo1_1, xo1_2)])
      else none
    else some ([], x16) := rfl
def ramp_values.f (k : Nat) (a0 : List (Int × Int)) (a1 : Int) (a2 : Int) (a3 : Int) (a4 : List Int) : Option ((List (Int × Int × List (Int × Int))) × Int) :=
  ramp_values.l3 k a2 a3 a4 a0 (a0.length : Int) 0 [(a1, 0, [])]
def ramp_Nearest.l18 : Nat → (List (Int × Int)) → Int → Int → (List (Int × Int × List (Int × Int))) → Int → Int → List Int → Option (List Int × Int × Int)
  | 0, _, _, _, _, _, _, _ => none
  | k + 1, x0, x2, x3, x16, x19, x20, xo0 => if 0 < x20 then
      if 0 ≤ x20 then
        if x20 < (x16.length : Int) then
          if x20 = (x0.length : Int) then
            (convexpl_Least.f k (rY2 x16 x20)).bind fun r3 =>
            if 0 ≤ (wrap64 (x20 - 1)) then
              if (wrap64 (x20 - 1)) < (xo0.length : Int) then
                ramp_Nearest.l18 k x0 x2 x3 x16 r3.2.1 (wrap64 (x20 - 1)) (xo0.set (wrap64 (x20 - 1)).toNat r3.1)
              else none
            else none
          else if 0 ≤ x20 then
            if x20 < (xo0.length : Int) then
              if 0 ≤ x20 then
                if x20 < (xo0.length : Int) then
                  (convexpl_Restrict.f k (rY2 x16 x20) (wrap64 ((rI64 xo0 x20) - x2)) (wrap64 ((rI64 xo0 x20) + x3))).bind fun r4 =>
                  if r4.2 = 0 then
                    (convexpl_Least.f k r4.1).bind fun r5 =>
                    if 0 ≤ (wrap64 (x20 - 1)) then
                      if (wrap64 (x20 - 1)) < (xo0.length : Int) then
                        ramp_Nearest.l18 k x0 x2 x3 x16 x19 (wrap64 (x20 - 1)) (xo0.set (wrap64 (x20 - 1)).toNat r5.1)
                      else none
                    else none
                  else some ([], 0, r4.2)
                else none
              else none
            else none
          else none
        else none
      else none
    else some (xo0, x19, 0)
theorem ramp_Nearest.l18_eq (k : Nat) (x0 : List (Int × Int)) (x2 : Int) (x3 : Int) (x16 : List (Int × Int × List (Int × Int))) (x19 : Int) (x20 : Int) (xo0 : List Int) : ramp_Nearest.l18 (k + 1) x0 x2 x3 x16 x19 x20 xo0 = if 0 < x20 then
      if 0 ≤ x20 then
        if x20 < (x16.length : Int) then
          if x20 = (x0.length : Int) then
            (convexpl_Least.f k (rY2 x16 x20)).bind fun r3 =>
            if 0 ≤ (wrap64 (x20 - 1)) then
              if (wrap64 (x20 - 1)) < (xo0.length : Int) then
                ramp_Nearest.l18 k x0 x2 x3 x16 r3.2.1 (wrap64 (x20 - 1)) (xo0.set (wrap64 (x20 - 1)).toNat r3.1)
              else none
            else none
          else if 0 ≤ x20 then
            if x20 < (xo0.length : Int) then
              if 0 ≤ x20 then
                if x20 < (xo0.length : Int) then
                  (convexpl_Restrict.f k (rY2 x16 x20) (wrap64 ((rI64 xo0 x20) - x2)) (wrap64 ((rI64 xo0 x20) + x3))).bind fun r4 =>
                  if r4.2 = 0 then
                    (convexpl_Least.f k r4.1).bind fun r5 =>
                    if 0 ≤ (wrap64 (x20 - 1)) then
                      if (wrap64 (x20 - 1)) < (xo0.length : Int) then
                        ramp_Nearest.l18 k x0 x2 x3 x16 x19 (wrap64 (x20 - 1)) (xo0.set (wrap64 (x20 - 1)).toNat r5.1)
                      else none
                    else none
                  else some ([], 0, r4.2)
                else none
              else none
            else none
          else none
        else none
      else none
    else some (xo0, x19, 0) := rfl
def ramp_Nearest.l7 : Nat → (List (Int × Int)) → Int → Int → Int → List Int → List Int → Int → Int → Option (List Int × Int × Int)
  | 0, _, _, _, _, _, _, _, _ => none
  | k + 1, x0, x1, x2, x3, x4, x35, x36, x37 => if x37 < x36 then
      if 0 ≤ x37 then
        if x37 < (x35.length : Int) then
          if (rI64 x35 x37) < 0 then
            some ([], 0, 4)
          else if 100000 < (rI64 x35 x37) then
            some ([], 0, 4)
          else ramp_Nearest.l7 k x0 x1 x2 x3 x4 x35 x36 (wrap64 (x37 + 1))
        else none
      else none
    else (ramp_values.f k x0 x1 x2 x3 x4).bind fun r2 =>
    if r2.2 = 0 then
      if 0 ≤ (x0.length : Int) then
        if (x0.length : Int) * 8 ≤ 140737488355328 then
          if (x0.length : Int) ≤ 140737488355328 then
            ramp_Nearest.l18 k x0 x2 x3 r2.1 0 (x0.length : Int) (List.replicate (x0.length : Int).toNat 0)
          else none
        else none
      else none
    else some ([], 0, r2.2)
theorem ramp_Nearest.l7_eq (k : Nat) (x0 : List (Int × Int)) (x1 : Int) (x2 : Int) (x3 : Int) (x4 : List Int) (x35 : List Int) (x36 : Int) (x37 : Int) : ramp_Nearest.l7 (k + 1) x0 x1 x2 x3 x4 x35 x36 x37 = if x37 < x36 then
      if 0 ≤ x37 then
        if x37 < (x35.length : Int) then
          if (rI64 x35 x37) < 0 then
            some ([], 0, 4)
          else if 100000 < (rI64 x35 x37) then
            some ([], 0, 4)
          else ramp_Nearest.l7 k x0 x1 x2 x3 x4 x35 x36 (wrap64 (x37 + 1))
        else none
      else none
    else (ramp_values.f k x0 x1 x2 x3 x4).bind fun r2 =>
    if r2.2 = 0 then
      if 0 ≤ (x0.length : Int) then
        if (x0.length : Int) * 8 ≤ 140737488355328 then
          if (x0.length : Int) ≤ 140737488355328 then
            ramp_Nearest.l18 k x0 x2 x3 r2.1 0 (x0.length : Int) (List.replicate (x0.length : Int).toNat 0)
          else none
        else none
      else none
    else some ([], 0, r2.2) := rfl
def ramp_Nearest.f (k : Nat) (a0 : List (Int × Int)) (a1 : Int) (a2 : Int) (a3 : Int) (a4 : List Int) : Option (List Int × Int × Int) :=
  (ramp_Check.f k a0 a1 a2 a3).bind fun r1 =>
  if r1 = 0 then
    if (a4.length : Int) = (a0.length : Int) then
      ramp_Nearest.l7 k a0 a1 a2 a3 a4 a4 (a4.length : Int) 0
    else some ([], 0, 3)
  else some ([], 0, r1)
def gridhallkeep3_near.f (k : Nat) : Option Bool :=
  (ramp_Nearest.f k [(0, 40), (0, 40)] 0 10 10 [30, 15]).bind fun r1 =>
  if r1.2.2 = 0 then
    if r1.2.1 = 20 then
      (slices_Equal_int.f k r1.1 [10, 15]).bind fun r2 =>
      some r2
    else some false
  else some false
def gridhallkeep3_RampKept_1.l3 : Nat → Int → List Int → Int → Int → List Int → Option (Int × List Int)
  | 0, _, _, _, _, _ => none
  | k + 1, x4, x7, x8, x9, xo0 => if x9 < x8 then
      if 0 ≤ x9 then
        if x9 < (x7.length : Int) then
          if 0 ≤ x9 then
            if x9 < (xo0.length : Int) then
              if 0 ≤ x9 then
                if x9 < (xo0.length : Int) then
                  gridhallkeep3_RampKept_1.l3 k (wrap64 (x4 + (mx (wrap64 ((rI64 x7 x9) - (rI64 xo0 x9))) (wrap64 ((rI64 xo0 x9) - (rI64 x7 x9)))))) x7 x8 (wrap64 (x9 + 1)) xo0
                else none
              else none
            else none
          else none
        else none
      else none
    else some (x4, xo0)
theorem gridhallkeep3_RampKept_1.l3_eq (k : Nat) (x4 : Int) (x7 : List Int) (x8 : Int) (x9 : Int) (xo0 : List Int) : gridhallkeep3_RampKept_1.l3 (k + 1) x4 x7 x8 x9 xo0 = if x9 < x8 then
      if 0 ≤ x9 then
        if x9 < (x7.length : Int) then
          if 0 ≤ x9 then
            if x9 < (xo0.length : Int) then
              if 0 ≤ x9 then
                if x9 < (xo0.length : Int) then
                  gridhallkeep3_RampKept_1.l3 k (wrap64 (x4 + (mx (wrap64 ((rI64 x7 x9) - (rI64 xo0 x9))) (wrap64 ((rI64 xo0 x9) - (rI64 x7 x9)))))) x7 x8 (wrap64 (x9 + 1)) xo0
                else none
              else none
            else none
          else none
        else none
      else none
    else some (x4, xo0) := rfl
def gridhallkeep3_RampKept_1.f (k : Nat) (a0 : List Int) (ao0 : List Int) : Option (Int × List Int) :=
  gridhallkeep3_RampKept_1.l3 k 0 a0 (a0.length : Int) 0 ao0
def gridhallkeep3_RampKept.f (k : Nat) (a0 : List (Int × Int)) (a1 : Int) (a2 : Int) (a3 : Int) (a4 : List Int) (a5 : List Int) : Option Bool :=
  (ramp_Feasible.f k [(0, 9)] 0 5 5 [5]).bind fun r1 =>
  if r1.2 = 0 then
    if r1.1 = true then
      (gridhallkeep3_near.f k).bind fun r2 =>
      if r2 = true then
        (ramp_Nearest.f k a0 a1 a2 a3 a4).bind fun r3 =>
        if r3.2.2 = 0 then
          (ramp_Feasible.f k a0 a1 a2 a3 r3.1).bind fun r4 =>
          (ramp_Feasible.f k a0 a1 a2 a3 a5).bind fun r5 =>
          if r4.2 = 0 then
            if r4.1 = true then
              (gridhallkeep3_RampKept_1.f k r3.1 a4).bind fun r6 =>
              if r6.1 = r3.2.1 then
                if r5.2 = 0 then
                  if r5.1 = true then
                    (gridhallkeep3_RampKept_1.f k a5 r6.2).bind fun r7 =>
                    some (decide (r3.2.1 ≤ r7.1))
                  else some true
                else some true
              else some false
            else some false
          else some false
        else if (r3.1.length : Int) = 0 then
          some (decide (r3.2.1 = 0))
        else some false
      else some false
    else some false
  else some false
def ramp_Range.l15 : Nat → Int → Int → Int → (List (Int × Int)) → Option ((List (Int × Int)) × Int)
  | 0, _, _, _, _ => none
  | k + 1, x2, x3, x15, xo0 => if 0 ≤ x15 then
      if 0 ≤ x15 then
        if x15 < (xo0.length : Int) then
          if 0 ≤ (wrap64 (x15 + 1)) then
            if (wrap64 (x15 + 1)) < (xo0.length : Int) then
              if 0 ≤ x15 then
                if x15 < (xo0.length : Int) then
                  if 0 ≤ x15 then
                    if x15 < ((xo0.set x15.toNat (mx (rY0 xo0 x15).1 (wrap64 ((rY0 xo0 (wrap64 (x15 + 1))).1 - x2)), (rY0 xo0 x15).2)).length : Int) then
                      if 0 ≤ (wrap64 (x15 + 1)) then
                        if (wrap64 (x15 + 1)) < ((xo0.set x15.toNat (mx (rY0 xo0 x15).1 (wrap64 ((rY0 xo0 (wrap64 (x15 + 1))).1 - x2)), (rY0 xo0 x15).2)).length : Int) then
                          if 0 ≤ x15 then
                            if x15 < ((xo0.set x15.toNat (mx (rY0 xo0 x15).1 (wrap64 ((rY0 xo0 (wrap64 (x15 + 1))).1 - x2)), (rY0 xo0 x15).2)).length : Int) then
                              ramp_Range.l15 k x2 x3 (wrap64 (x15 - 1)) ((xo0.set x15.toNat (mx (rY0 xo0 x15).1 (wrap64 ((rY0 xo0 (wrap64 (x15 + 1))).1 - x2)), (rY0 xo0 x15).2)).set x15.toNat ((rY0 (xo0.set x15.toNat (mx (rY0 xo0 x15).1 (wrap64 ((rY0 xo0 (wrap64 (x15 + 1))).1 - x2)), (rY0 xo0 x15).2)) x15).1, mn (rY0 (xo0.set x15.toNat (mx (rY0 xo0 x15).1 (wrap64 ((rY0 xo0 (wrap64 (x15 + 1))).1 - x2)), (rY0 xo0 x15).2)) x15).2 (wrap64 ((rY0 (xo0.set x15.toNat (mx (rY0 xo0 x15).1 (wrap64 ((rY0 xo0 (wrap64 (x15 + 1))).1 - x2)), (rY0 xo0 x15).2)) (wrap64 (x15 + 1))).2 + x3))))
                            else none
                          else none
                        else none
                      else none
                    else none
                  else none
                else none
              else none
            else none
          else none
        else none
      else none
    else some (xo0, 0)
theorem ramp_Range.l15_eq (k : Nat) (x2 : Int) (x3 : Int) (x15 : Int) (xo0 : List (Int × Int)) : ramp_Range.l15 (k + 1) x2 x3 x15 xo0 = if 0 ≤ x15 then
      if 0 ≤ x15 then
        if x15 < (xo0.length : Int) then
          if 0 ≤ (wrap64 (x15 + 1)) then
            if (wrap64 (x15 + 1)) < (xo0.length : Int) then
              if 0 ≤ x15 then
                if x15 < (xo0.length : Int) then
                  if 0 ≤ x15 then
                    if x15 < ((xo0.set x15.toNat (mx (rY0 xo0 x15).1 (wrap64 ((rY0 xo0 (wrap64 (x15 + 1))).1 - x2)), (rY0 xo0 x15).2)).length : Int) then
                      if 0 ≤ (wrap64 (x15 + 1)) then
                        if (wrap64 (x15 + 1)) < ((xo0.set x15.toNat (mx (rY0 xo0 x15).1 (wrap64 ((rY0 xo0 (wrap64 (x15 + 1))).1 - x2)), (rY0 xo0 x15).2)).length : Int) then
                          if 0 ≤ x15 then
                            if x15 < ((xo0.set x15.toNat (mx (rY0 xo0 x15).1 (wrap64 ((rY0 xo0 (wrap64 (x15 + 1))).1 - x2)), (rY0 xo0 x15).2)).length : Int) then
                              ramp_Range.l15 k x2 x3 (wrap64 (x15 - 1)) ((xo0.set x15.toNat (mx (rY0 xo0 x15).1 (wrap64 ((rY0 xo0 (wrap64 (x15 + 1))).1 - x2)), (rY0 xo0 x15).2)).set x15.toNat ((rY0 (xo0.set x15.toNat (mx (rY0 xo0 x15).1 (wrap64 ((rY0 xo0 (wrap64 (x15 + 1))).1 - x2)), (rY0 xo0 x15).2)) x15).1, mn (rY0 (xo0.set x15.toNat (mx (rY0 xo0 x15).1 (wrap64 ((rY0 xo0 (wrap64 (x15 + 1))).1 - x2)), (rY0 xo0 x15).2)) x15).2 (wrap64 ((rY0 (xo0.set x15.toNat (mx (rY0 xo0 x15).1 (wrap64 ((rY0 xo0 (wrap64 (x15 + 1))).1 - x2)), (rY0 xo0 x15).2)) (wrap64 (x15 + 1))).2 + x3))))
                            else none
                          else none
                        else none
                      else none
                    else none
                  else none
                else none
              else none
            else none
          else none
        else none
      else none
    else some (xo0, 0) := rfl
def ramp_Range.l7 : Nat → Int → Int → (List (Int × Int)) → Int → Int → (List (Int × Int)) → Int → Int → Option ((List (Int × Int)) × Int)
  | 0, _, _, _, _, _, _, _, _ => none
  | k + 1, x2, x3, x27, x28, x29, xo0, xo1_0, xo1_1 => if x29 < x28 then
      if 0 ≤ x29 then
        if x29 < (x27.length : Int) then
          if (mn (rY0 x27 x29).2 (wrap64 (xo1_1 + x2))) < (mx (rY0 x27 x29).1 (wrap64 (xo1_0 - x3))) then
            some ([], 8)
          else if (xo0.length + [(mx (rY0 x27 x29).1 (wrap64 (xo1_0 - x3)), mn (rY0 x27 x29).2 (wrap64 (xo1_1 + x2)))].length) * 16 ≤ 140737488355328 then
            ramp_Range.l7 k x2 x3 x27 x28 (wrap64 (x29 + 1)) (xo0 ++ [(mx (rY0 x27 x29).1 (wrap64 (xo1_0 - x3)), mn (rY0 x27 x29).2 (wrap64 (xo1_1 + x2)))]) (mx (rY0 x27 x29).1 (wrap64 (xo1_0 - x3))) (mn (rY0 x27 x29).2 (wrap64 (xo1_1 + x2)))
          else none
        else none
      else none
    else ramp_Range.l15 k x2 x3 (wrap64 ((xo0.length : Int) - 2)) xo0
theorem ramp_Range.l7_eq (k : Nat) (x2 : Int) (x3 : Int) (x27 : List (Int × Int)) (x28 : Int) (x29 : Int) (xo0 : List (Int × Int)) (xo1_0 : Int) (xo1_1 : Int) : ramp_Range.l7 (k + 1) x2 x3 x27 x28 x29 xo0 xo1_0 xo1_1 = if x29 < x28 then
      if 0 ≤ x29 then
        if x29 < (x27.length : Int) then
          if (mn (rY0 x27 x29).2 (wrap64 (xo1_1 + x2))) < (mx (rY0 x27 x29).1 (wrap64 (xo1_0 - x3))) then
            some ([], 8)
          else if (xo0.length + [(mx (rY0 x27 x29).1 (wrap64 (xo1_0 - x3)), mn (rY0 x27 x29).2 (wrap64 (xo1_1 + x2)))].length) * 16 ≤ 140737488355328 then
            ramp_Range.l7 k x2 x3 x27 x28 (wrap64 (x29 + 1)) (xo0 ++ [(mx (rY0 x27 x29).1 (wrap64 (xo1_0 - x3)), mn (rY0 x27 x29).2 (wrap64 (xo1_1 + x2)))]) (mx (rY0 x27 x29).1 (wrap64 (xo1_0 - x3))) (mn (rY0 x27 x29).2 (wrap64 (xo1_1 + x2)))
          else none
        else none
      else none
    else ramp_Range.l15 k x2 x3 (wrap64 ((xo0.length : Int) - 2)) xo0 := rfl
def ramp_Range.f (k : Nat) (a0 : List (Int × Int)) (a1 : Int) (a2 : Int) (a3 : Int) : Option ((List (Int × Int)) × Int) :=
  (ramp_Check.f k a0 a1 a2 a3).bind fun r1 =>
  if r1 = 0 then
    ramp_Range.l7 k a2 a3 a0 (a0.length : Int) 0 [] a1 a1
  else some ([], r1)
def gridhallkeep3_RampWithin.l14 : Nat → (List (Int × Int)) → Int → Int → List Int → Int → Int → Option Bool
  | 0, _, _, _, _, _, _ => none
  | k + 1, x13, x18, x19, x87, x88, x89 => if x89 < x88 then
      if 0 ≤ x89 then
        if x89 < (x87.length : Int) then
          if (x13.length : Int) ≤ x89 then
            some false
          else if 0 ≤ x89 then
            if x89 < (x13.length : Int) then
              if (rI64 x87 x89) < (rY0 x13 x89).1 then
                some false
              else if 0 ≤ x89 then
                if x89 < (x13.length : Int) then
                  if (rY0 x13 x89).2 < (rI64 x87 x89) then
                    some false
                  else gridhallkeep3_RampWithin.l14 k x13 x18 x19 x87 x88 (wrap64 (x89 + 1))
                else none
              else none
            else none
          else none
        else none
      else none
    else if x19 = 0 then
      some (decide (x18 = 0))
    else some false
theorem gridhallkeep3_RampWithin.l14_eq (k : Nat) (x13 : List (Int × Int)) (x18 : Int) (x19 : Int) (x87 : List Int) (x88 : Int) (x89 : Int) : gridhallkeep3_RampWithin.l14 (k + 1) x13 x18 x19 x87 x88 x89 = if x89 < x88 then
      if 0 ≤ x89 then
        if x89 < (x87.length : Int) then
          if (x13.length : Int) ≤ x89 then
            some false
          else if 0 ≤ x89 then
            if x89 < (x13.length : Int) then
              if (rI64 x87 x89) < (rY0 x13 x89).1 then
                some false
              else if 0 ≤ x89 then
                if x89 < (x13.length : Int) then
                  if (rY0 x13 x89).2 < (rI64 x87 x89) then
                    some false
                  else gridhallkeep3_RampWithin.l14 k x13 x18 x19 x87 x88 (wrap64 (x89 + 1))
                else none
              else none
            else none
          else none
        else none
      else none
    else if x19 = 0 then
      some (decide (x18 = 0))
    else some false := rfl
def gridhallkeep3_RampWithin.f (k : Nat) (a0 : List (Int × Int)) (a1 : Int) (a2 : Int) (a3 : Int) (a4 : List Int) : Option Bool :=
  (ramp_Feasible.f k [(0, 9)] 0 5 5 [5]).bind fun r1 =>
  if r1.2 = 0 then
    if r1.1 = true then
      (gridhallkeep3_near.f k).bind fun r2 =>
      if r2 = true then
        (ramp_Range.f k a0 a1 a2 a3).bind fun r3 =>
        (ramp_Feasible.f k a0 a1 a2 a3 a4).bind fun r4 =>
        (ramp_Nearest.f k a0 a1 a2 a3 a4).bind fun r5 =>
        if r4.2 = 0 then
          if r3.2 = 0 then
            if r4.1 = true then
              gridhallkeep3_RampWithin.l14 k r3.1 r5.2.1 r5.2.2 a4 (a4.length : Int) 0
            else if r5.2.2 = 0 then
              some (decide (0 < r5.2.1))
            else some true
          else if (r3.1.length : Int) = 0 then
            some (!decide (r4.1 = true))
          else some false
        else some (!decide (r4.1 = true))
      else some false
    else some false
  else some false
def gridhallkeep3_rises.f (k : Nat) : Option (Int × Int × List (Int × Int)) :=
  some (0, 0, [(10, 5), (10, 8)])
def convexpl_At.f (k : Nat) (a0 : Int × Int × List (Int × Int)) (a1 : Int) : Option (Int × Int) :=
  (convexpl_Check.f k a0).bind fun r1 =>
  if r1 = 0 then
    if a1 < a0.1 then
      some (0, 4)
    else (convexpl_high.f k a0).bind fun r2 =>
    if r2 < a1 then
      some (0, 4)
    else (convexpl_value.f k a0 a1).bind fun r3 =>
    some (r3, 0)
  else some (0, r1)
def gridhallkeep3_slopes.f (k : Nat) : Option Bool :=
  (gridhallkeep3_rises.f k).bind fun r1 =>
  (convexpl_At.f k r1 12).bind fun r2 =>
  if r2.2 = 0 then
    some (decide (r2.1 = 66))
  else some false
def convexpl_Conjugate.l8 : Nat → Int → Int → Int → (List (Int × Int)) → Int → Int → Option (Int × Int)
  | 0, _, _, _, _, _, _ => none
  | k + 1, x1, x7, x8, x27, x28, x29 => if x29 < x28 then
      if 0 ≤ x29 then
        if x29 < (x27.length : Int) then
          if x1 ≤ (rY0 x27 x29).2 then
            some (wrap64 ((wrap64 (x1 * x7)) - x8), 0)
          else convexpl_Conjugate.l8 k x1 (wrap64 (x7 + (rY0 x27 x29).1)) (wrap64 (x8 + (wrap64 ((rY0 x27 x29).1 * (rY0 x27 x29).2)))) x27 x28 (wrap64 (x29 + 1))
        else none
      else none
    else some (wrap64 ((wrap64 (x1 * x7)) - x8), 0)
theorem convexpl_Conjugate.l8_eq (k : Nat) (x1 : Int) (x7 : Int) (x8 : Int) (x27 : List (Int × Int)) (x28 : Int) (x29 : Int) : convexpl_Conjugate.l8 (k + 1) x1 x7 x8 x27 x28 x29 = if x29 < x28 then
      if 0 ≤ x29 then
        if x29 < (x27.length : Int) then
          if x1 ≤ (rY0 x27 x29).2 then
            some (wrap64 ((wrap64 (x1 * x7)) - x8), 0)
          else convexpl_Conjugate.l8 k x1 (wrap64 (x7 + (rY0 x27 x29).1)) (wrap64 (x8 + (wrap64 ((rY0 x27 x29).1 * (rY0 x27 x29).2)))) x27 x28 (wrap64 (x29 + 1))
        else none
      else none
    else some (wrap64 ((wrap64 (x1 * x7)) - x8), 0) := rfl
def convexpl_Conjugate.f (k : Nat) (a0 : Int × Int × List (Int × Int)) (a1 : Int) : Option (Int × Int) :=
  (convexpl_Check.f k a0).bind fun r1 =>
  if r1 = 0 then
    if a1 < (-10000000) then
      some (0, 4)
    else if 10000000 < a1 then
      some (0, 4)
    else convexpl_Conjugate.l8 k a1 a0.1 a0.2.1 a0.2.2 (a0.2.2.length : Int) 0
  else some (0, r1)
def slices_Equal_api_ConvexPiece.l4 : Nat → (List (Int × Int)) → (List (Int × Int)) → Int → Int → Option Bool
  | 0, _, _, _, _ => none
  | k + 1, x0, x1, x12, x13 => if x13 < x12 then
      if 0 ≤ x13 then
        if x13 < (x0.length : Int) then
          if 0 ≤ x13 then
            if x13 < (x1.length : Int) then
              if (rY0 x0 x13).1 = (rY0 x1 x13).1 ∧ (rY0 x0 x13).2 = (rY0 x1 x13).2 then
                slices_Equal_api_ConvexPiece.l4 k x0 x1 x12 (wrap64 (x13 + 1))
              else some false
            else none
          else none
        else none
      else none
    else some true
theorem slices_Equal_api_ConvexPiece.l4_eq (k : Nat) (x0 : List (Int × Int)) (x1 : List (Int × Int)) (x12 : Int) (x13 : Int) : slices_Equal_api_ConvexPiece.l4 (k + 1) x0 x1 x12 x13 = if x13 < x12 then
      if 0 ≤ x13 then
        if x13 < (x0.length : Int) then
          if 0 ≤ x13 then
            if x13 < (x1.length : Int) then
              if (rY0 x0 x13).1 = (rY0 x1 x13).1 ∧ (rY0 x0 x13).2 = (rY0 x1 x13).2 then
                slices_Equal_api_ConvexPiece.l4 k x0 x1 x12 (wrap64 (x13 + 1))
              else some false
            else none
          else none
        else none
      else none
    else some true := rfl
def slices_Equal_api_ConvexPiece.f (k : Nat) (a0 : List (Int × Int)) (a1 : List (Int × Int)) : Option Bool :=
  if (a0.length : Int) = (a1.length : Int) then
    slices_Equal_api_ConvexPiece.l4 k a0 a1 (a0.length : Int) 0
  else some false
def gridhallkeep3_sameConvex.f (k : Nat) (a0 : Int × Int × List (Int × Int)) (a1 : Int × Int × List (Int × Int)) : Option Bool :=
  if a0.1 = a1.1 then
    if a0.2.1 = a1.2.1 then
      (slices_Equal_api_ConvexPiece.f k a0.2.2 a1.2.2).bind fun r1 =>
      some r1
    else some false
  else some false
def gridhallkeep3_ConvexRing.l4 : Nat → Int → Int → Int → Int → (List (Int × Int)) → Int → Int → (List (Int × Int)) → Int → Int → (List (Int × Int)) → List Nat → Option Bool
  | 0, _, _, _, _, _, _, _, _, _, _, _, _ => none
  | k + 1, x22, x23, xo0_0, xo0_1, xo0_2, xo1_0, xo1_1, xo1_2, xo2_0, xo2_1, xo2_2, xo3 => if x23 < x22 then
      if 0 ≤ x23 then
        if x23 < (xo3.length : Int) then
          if (rd (.fn [34, 30]) xo3 x23) = 0 then
            (convexpl_Add.f k (xo0_0, xo0_1, xo0_2) (xo1_0, xo1_1, xo1_2)).bind fun r133 =>
            if (rd (.fn [34, 30]) xo3 x23) = 0 then
              (convexpl_Add.f k (xo1_0, xo1_1, xo1_2) (xo0_0, xo0_1, xo0_2)).bind fun r199 =>
              (gridhallkeep3_fine.f k [r133.2]).bind fun r200 =>
              (gridhallkeep3_fine.f k [r199.2]).bind fun r201 =>
              if r200 = r201 then
                (gridhallkeep3_fine.f k [r133.2]).bind fun r202 =>
                if r202 = true then
                  (gridhallkeep3_sameConvex.f k r133.1 r199.1).bind fun r203 =>
                  if r203 = true then
                    if (rd (.fn [34, 30]) xo3 x23) = 0 then
                      (convexpl_Add.f k (xo1_0, xo1_1, xo1_2) (xo2_0, xo2_1, xo2_2)).bind fun r219 =>
                      if (rd (.fn [34, 30]) xo3 x23) = 0 then
                        (convexpl_Add.f k r133.1 (xo2_0, xo2_1, xo2_2)).bind fun r227 =>
                        if (rd (.fn [34, 30]) xo3 x23) = 0 then
                          (convexpl_Add.f k (xo0_0, xo0_1, xo0_2) r219.1).bind fun r231 =>
                          (gridhallkeep3_fine.f k [r133.2, r219.2, r227.2, r231.2]).bind fun r232 =>
                          if r232 = true then
                            (gridhallkeep3_sameConvex.f k r227.1 r231.1).bind fun r233 =>
                            if r233 = true then
                              gridhallkeep3_ConvexRing.l4 k x22 (wrap64 (x23 + 1)) xo0_0 xo0_1 xo0_2 xo1_0 xo1_1 xo1_2 xo2_0 xo2_1 xo2_2 xo3
                            else some false
                          else gridhallkeep3_ConvexRing.l4 k x22 (wrap64 (x23 + 1)) xo0_0 xo0_1 xo0_2 xo1_0 xo1_1 xo1_2 xo2_0 xo2_1 xo2_2 xo3
                        else if (rd (.fn [34, 30]) xo3 x23) = 1 then
                          (convexpl_Convolve.f k (xo0_0, xo0_1, xo0_2) r219.1).bind fun r228 =>
                          (gridhallkeep3_fine.f k [r133.2, r219.2, r227.2, r228.2]).bind fun r229 =>
                          if r229 = true then
                            (gridhallkeep3_sameConvex.f k r227.1 r228.1).bind fun r230 =>
                            if r230 = true then
                              gridhallkeep3_ConvexRing.l4 k x22 (wrap64 (x23 + 1)) xo0_0 xo0_1 xo0_2 xo1_0 xo1_1 xo1_2 xo2_0 xo2_1 xo2_2 xo3
                            else some false
                          else gridhallkeep3_ConvexRing.l4 k x22 (wrap64 (x23 + 1)) xo0_0 xo0_1 xo0_2 xo1_0 xo1_1 xo1_2 xo2_0 xo2_1 xo2_2 xo3
                        else none
                      else if (rd (.fn [34, 30]) xo3 x23) = 1 then
                        (convexpl_Convolve.f k r133.1 (xo2_0, xo2_1, xo2_2)).bind fun r220 =>
                        if (rd (.fn [34, 30]) xo3 x23) = 0 then
                          (convexpl_Add.f k (xo0_0, xo0_1, xo0_2) r219.1).bind fun r224 =>
                          (gridhallkeep3_fine.f k [r133.2, r219.2, r220.2, r224.2]).bind fun r225 =>
                          if r225 = true then
                            (gridhallkeep3_sameConvex.f k r220.1 r224.1).bind fun r226 =>
                            if r226 = true then
                              gridhallkeep3_ConvexRing.l4 k x22 (wrap64 (x23 + 1)) xo0_0 xo0_1 xo0_2 xo1_0 xo1_1 xo1_2 xo2_0 xo2_1 xo2_2 xo3
                            else some false
                          else gridhallkeep3_ConvexRing.l4 k x22 (wrap64 (x23 + 1)) xo0_0 xo0_1 xo0_2 xo1_0 xo1_1 xo1_2 xo2_0 xo2_1 xo2_2 xo3
                        else if (rd (.fn [34, 30]) xo3 x23) = 1 then
                          (convexpl_Convolve.f k (xo0_0, xo0_1, xo0_2) r219.1).bind fun r221 =>
                          (gridhallkeep3_fine.f k [r133.2, r219.2, r220.2, r221.2]).bind fun r222 =>
                          if r222 = true then
                            (gridhallkeep3_sameConvex.f k r220.1 r221.1).bind fun r223 =>
                            if r223 = true then
                              gridhallkeep3_ConvexRing.l4 k x22 (wrap64 (x23 + 1)) xo0_0 xo0_1 xo0_2 xo1_0 xo1_1 xo1_2 xo2_0 xo2_1 xo2_2 xo3
                            else some false
                          else gridhallkeep3_ConvexRing.l4 k x22 (wrap64 (x23 + 1)) xo0_0 xo0_1 xo0_2 xo1_0 xo1_1 xo1_2 xo2_0 xo2_1 xo2_2 xo3
                        else none
                      else none
                    else if (rd (.fn [34, 30]) xo3 x23) = 1 then
                      (convexpl_Convolve.f k (xo1_0, xo1_1, xo1_2) (xo2_0, xo2_1, xo2_2)).bind fun r204 =>
                      if (rd (.fn [34, 30]) xo3 x23) = 0 then
                        (convexpl_Add.f k r133.1 (xo2_0, xo2_1, xo2_2)).bind fun r212 =>
                        if (rd (.fn [34, 30]) xo3 x23) = 0 then
                          (convexpl_Add.f k (xo0_0, xo0_1, xo0_2) r204.1).bind fun r216 =>
                          (gridhallkeep3_fine.f k [r133.2, r204.2, r212.2, r216.2]).bind fun r217 =>
                          if r217 = true then
                            (gridhallkeep3_sameConvex.f k r212.1 r216.1).bind fun r218 =>
                            if r218 = true then
                              gridhallkeep3_ConvexRing.l4 k x22 (wrap64 (x23 + 1)) xo0_0 xo0_1 xo0_2 xo1_0 xo1_1 xo1_2 xo2_0 xo2_1 xo2_2 xo3
                            else some false
                          else gridhallkeep3_ConvexRing.l4 k x22 (wrap64 (x23 + 1)) xo0_0 xo0_1 xo0_2 xo1_0 xo1_1 xo1_2 xo2_0 xo2_1 xo2_2 xo3
                        else if (rd (.fn [34, 30]) xo3 x23) = 1 then
                          (convexpl_Convolve.f k (xo0_0, xo0_1, xo0_2) r204.1).bind fun r213 =>
                          (gridhallkeep3_fine.f k [r133.2, r204.2, r212.2, r213.2]).bind fun r214 =>
                          if r214 = true then
                            (gridhallkeep3_sameConvex.f k r212.1 r213.1).bind fun r215 =>
                            if r215 = true then
                              gridhallkeep3_ConvexRing.l4 k x22 (wrap64 (x23 + 1)) xo0_0 xo0_1 xo0_2 xo1_0 xo1_1 xo1_2 xo2_0 xo2_1 xo2_2 xo3
                            else some false
                          else gridhallkeep3_ConvexRing.l4 k x22 (wrap64 (x23 + 1)) xo0_0 xo0_1 xo0_2 xo1_0 xo1_1 xo1_2 xo2_0 xo2_1 xo2_2 xo3
                        else none
                      else if (rd (.fn [34, 30]) xo3 x23) = 1 then
                        (convexpl_Convolve.f k r133.1 (xo2_0, xo2_1, xo2_2)).bind fun r205 =>
                        if (rd (.fn [34, 30]) xo3 x23) = 0 then
                          (convexpl_Add.f k (xo0_0, xo0_1, xo0_2) r204.1).bind fun r209 =>
                          (gridhallkeep3_fine.f k [r133.2, r204.2, r205.2, r209.2]).bind fun r210 =>
                          if r210 = true then
                            (gridhallkeep3_sameConvex.f k r205.1 r209.1).bind fun r211 =>
                            if r211 = true then
                              gridhallkeep3_ConvexRing.l4 k x22 (wrap64 (x23 + 1)) xo0_0 xo0_1 xo0_2 xo1_0 xo1_1 xo1_2 xo2_0 xo2_1 xo2_2 xo3
                            else some false
                          else gridhallkeep3_ConvexRing.l4 k x22 (wrap64 (x23 + 1)) xo0_0 xo0_1 xo0_2 xo1_0 xo1_1 xo1_2 xo2_0 xo2_1 xo2_2 xo3
                        else if (rd (.fn [34, 30]) xo3 x23) = 1 then
                          (convexpl_Convolve.f k (xo0_0, xo0_1, xo0_2) r204.1).bind fun r206 =>
                          (gridhallkeep3_fine.f k [r133.2, r204.2, r205.2, r206.2]).bind fun r207 =>
                          if r207 = true then
                            (gridhallkeep3_sameConvex.f k r205.1 r206.1).bind fun r208 =>
                            if r208 = true then
                              gridhallkeep3_ConvexRing.l4 k x22 (wrap64 (x23 + 1)) xo0_0 xo0_1 xo0_2 xo1_0 xo1_1 xo1_2 xo2_0 xo2_1 xo2_2 xo3
                            else some false
                          else gridhallkeep3_ConvexRing.l4 k x22 (wrap64 (x23 + 1)) xo0_0 xo0_1 xo0_2 xo1_0 xo1_1 xo1_2 xo2_0 xo2_1 xo2_2 xo3
                        else none
                      else none
                    else none
                  else some false
                else if (rd (.fn [34, 30]) xo3 x23) = 0 then
                  (convexpl_Add.f k (xo1_0, xo1_1, xo1_2) (xo2_0, xo2_1, xo2_2)).bind fun r249 =>
                  if (rd (.fn [34, 30]) xo3 x23) = 0 then
                    (convexpl_Add.f k r133.1 (xo2_0, xo2_1, xo2_2)).bind fun r257 =>
                    if (rd (.fn [34, 30]) xo3 x23) = 0 then
                      (convexpl_Add.f k (xo0_0, xo0_1, xo0_2) r249.1).bind fun r261 =>
                      (gridhallkeep3_fine.f k [r133.2, r249.2, r257.2, r261.2]).bind fun r262 =>
                      if r262 = true then
                        (gridhallkeep3_sameConvex.f k r257.1 r261.1).bind fun r263 =>
                        if r263 = true then
                          gridhallkeep3_ConvexRing.l4 k x22 (wrap64 (x23 + 1)) xo0_0 xo0_1 xo0_2 xo1_0 xo1_1 xo1_2 xo2_0 xo2_1 xo2_2 xo3
                        else some false
                      else gridhallkeep3_ConvexRing.l4 k x22 (wrap64 (x23 + 1)) xo0_0 xo0_1 xo0_2 xo1_0 xo1_1 xo1_2 xo2_0 xo2_1 xo2_2 xo3
                    else if (rd (.fn [34, 30]) xo3 x23) = 1 then
                      (convexpl_Convolve.f k (xo0_0, xo0_1, xo0_2) r249.1).bind fun r258 =>
                      (gridhallkeep3_fine.f k [r133.2, r249.2, r257.2, r258.2]).bind fun r259 =>
                      if r259 = true then
                        (gridhallkeep3_sameConvex.f k r257.1 r258.1).bind fun r260 =>
                        if r260 = true then
                          gridhallkeep3_ConvexRing.l4 k x22 (wrap64 (x23 + 1)) xo0_0 xo0_1 xo0_2 xo1_0 xo1_1 xo1_2 xo2_0 xo2_1 xo2_2 xo3
                        else some false
                      else gridhallkeep3_ConvexRing.l4 k x22 (wrap64 (x23 + 1)) xo0_0 xo0_1 xo0_2 xo1_0 xo1_1 xo1_2 xo2_0 xo2_1 xo2_2 xo3
                    else none
                  else if (rd (.fn [34, 30]) xo3 x23) = 1 then
                    (convexpl_Convolve.f k r133.1 (xo2_0, xo2_1, xo2_2)).bind fun r250 =>
                    if (rd (.fn [34, 30]) xo3 x23) = 0 then
                      (convexpl_Add.f k (xo0_0, xo0_1, xo0_2) r249.1).bind fun r254 =>
                      (gridhallkeep3_fine.f k [r133.2, r249.2, r250.2, r254.2]).bind fun r255 =>
                      if r255 = true then
                        (gridhallkeep3_sameConvex.f k r250.1 r254.1).bind fun r256 =>
                        if r256 = true then
                          gridhallkeep3_ConvexRing.l4 k x22 (wrap64 (x23 + 1)) xo0_0 xo0_1 xo0_2 xo1_0 xo1_1 xo1_2 xo2_0 xo2_1 xo2_2 xo3
                        else some false
                      else gridhallkeep3_ConvexRing.l4 k x22 (wrap64 (x23 + 1)) xo0_0 xo0_1 xo0_2 xo1_0 xo1_1 xo1_2 xo2_0 xo2_1 xo2_2 xo3
                    else if (rd (.fn [34, 30]) xo3 x23) = 1 then
                      (convexpl_Convolve.f k (xo0_0, xo0_1, xo0_2) r249.1).bind fun r251 =>
                      (gridhallkeep3_fine.f k [r133.2, r249.2, r250.2, r251.2]).bind fun r252 =>
                      if r252 = true then
                        (gridhallkeep3_sameConvex.f k r250.1 r251.1).bind fun r253 =>
                        if r253 = true then
                          gridhallkeep3_ConvexRing.l4 k x22 (wrap64 (x23 + 1)) xo0_0 xo0_1 xo0_2 xo1_0 xo1_1 xo1_2 xo2_0 xo2_1 xo2_2 xo3
                        else some false
                      else gridhallkeep3_ConvexRing.l4 k x22 (wrap64 (x23 + 1)) xo0_0 xo0_1 xo0_2 xo1_0 xo1_1 xo1_2 xo2_0 xo2_1 xo2_2 xo3
                    else none
                  else none
                else if (rd (.fn [34, 30]) xo3 x23) = 1 then
                  (convexpl_Convolve.f k (xo1_0, xo1_1, xo1_2) (xo2_0, xo2_1, xo2_2)).bind fun r234 =>
                  if (rd (.fn [34, 30]) xo3 x23) = 0 then
                    (convexpl_Add.f k r133.1 (xo2_0, xo2_1, xo2_2)).bind fun r242 =>
                    if (rd (.fn [34, 30]) xo3 x23) = 0 then
                      (convexpl_Add.f k (xo0_0, xo0_1, xo0_2) r234.1).bind fun r246 =>
                      (gridhallkeep3_fine.f k [r133.2, r234.2, r242.2, r246.2]).bind fun r247 =>
                      if r247 = true then
                        (gridhallkeep3_sameConvex.f k r242.1 r246.1).bind fun r248 =>
                        if r248 = true then
                          gridhallkeep3_ConvexRing.l4 k x22 (wrap64 (x23 + 1)) xo0_0 xo0_1 xo0_2 xo1_0 xo1_1 xo1_2 xo2_0 xo2_1 xo2_2 xo3
                        else some false
                      else gridhallkeep3_ConvexRing.l4 k x22 (wrap64 (x23 + 1)) xo0_0 xo0_1 xo0_2 xo1_0 xo1_1 xo1_2 xo2_0 xo2_1 xo2_2 xo3
                    else if (rd (.fn [34, 30]) xo3 x23) = 1 then
                      (convexpl_Convolve.f k (xo0_0, xo0_1, xo0_2) r234.1).bind fun r243 =>
                      (gridhallkeep3_fine.f k [r133.2, r234.2, r242.2, r243.2]).bind fun r244 =>
                      if r244 = true then
                        (gridhallkeep3_sameConvex.f k r242.1 r243.1).bind fun r245 =>
                        if r245 = true then
                          gridhallkeep3_ConvexRing.l4 k x22 (wrap64 (x23 + 1)) xo0_0 xo0_1 xo0_2 xo1_0 xo1_1 xo1_2 xo2_0 xo2_1 xo2_2 xo3
                        else some false
                      else gridhallkeep3_ConvexRing.l4 k x22 (wrap64 (x23 + 1)) xo0_0 xo0_1 xo0_2 xo1_0 xo1_1 xo1_2 xo2_0 xo2_1 xo2_2 xo3
                    else none
                  else if (rd (.fn [34, 30]) xo3 x23) = 1 then
                    (convexpl_Convolve.f k r133.1 (xo2_0, xo2_1, xo2_2)).bind fun r235 =>
                    if (rd (.fn [34, 30]) xo3 x23) = 0 then
                      (convexpl_Add.f k (xo0_0, xo0_1, xo0_2) r234.1).bind fun r239 =>
                      (gridhallkeep3_fine.f k [r133.2, r234.2, r235.2, r239.2]).bind fun r240 =>
                      if r240 = true then
                        (gridhallkeep3_sameConvex.f k r235.1 r239.1).bind fun r241 =>
                        if r241 = true then
                          gridhallkeep3_ConvexRing.l4 k x22 (wrap64 (x23 + 1)) xo0_0 xo0_1 xo0_2 xo1_0 xo1_1 xo1_2 xo2_0 xo2_1 xo2_2 xo3
                        else some false
                      else gridhallkeep3_ConvexRing.l4 k x22 (wrap64 (x23 + 1)) xo0_0 xo0_1 xo0_2 xo1_0 xo1_1 xo1_2 xo2_0 xo2_1 xo2_2 xo3
                    else if (rd (.fn [34, 30]) xo3 x23) = 1 then
                      (convexpl_Convolve.f k (xo0_0, xo0_1, xo0_2) r234.1).bind fun r236 =>
                      (gridhallkeep3_fine.f k [r133.2, r234.2, r235.2, r236.2]).bind fun r237 =>
                      if r237 = true then
                        (gridhallkeep3_sameConvex.f k r235.1 r236.1).bind fun r238 =>
                        if r238 = true then
                          gridhallkeep3_ConvexRing.l4 k x22 (wrap64 (x23 + 1)) xo0_0 xo0_1 xo0_2 xo1_0 xo1_1 xo1_2 xo2_0 xo2_1 xo2_2 xo3
                        else some false
                      else gridhallkeep3_ConvexRing.l4 k x22 (wrap64 (x23 + 1)) xo0_0 xo0_1 xo0_2 xo1_0 xo1_1 xo1_2 xo2_0 xo2_1 xo2_2 xo3
                    else none
                  else none
                else none
              else some false
            else if (rd (.fn [34, 30]) xo3 x23) = 1 then
              (convexpl_Convolve.f k (xo1_0, xo1_1, xo1_2) (xo0_0, xo0_1, xo0_2)).bind fun r134 =>
              (gridhallkeep3_fine.f k [r133.2]).bind fun r135 =>
              (gridhallkeep3_fine.f k [r134.2]).bind fun r136 =>
              if r135 = r136 then
                (gridhallkeep3_fine.f k [r133.2]).bind fun r137 =>
                if r137 = true then
                  (gridhallkeep3_sameConvex.f k r133.1 r134.1).bind fun r138 =>
                  if r138 = true then
                    if (rd (.fn [34, 30]) xo3 x23) = 0 then
                      (convexpl_Add.f k (xo1_0, xo1_1, xo1_2) (xo2_0, xo2_1, xo2_2)).bind fun r154 =>
                      if (rd (.fn [34, 30]) xo3 x23) = 0 then
                        (convexpl_Add.f k r133.1 (xo2_0, xo2_1, xo2_2)).bind fun r162 =>
                        if (rd (.fn [34, 30]) xo3 x23) = 0 then
                          (convexpl_Add.f k (xo0_0, xo0_1, xo0_2) r154.1).bind fun r166 =>
                          (gridhallkeep3_fine.f k [r133.2, r154.2, r162.2, r166.2]).bind fun r167 =>
                          if r167 = true then
                            (gridhallkeep3_sameConvex.f k r162.1 r166.1).bind fun r168 =>
                            if r168 = true then
                              gridhallkeep3_ConvexRing.l4 k x22 (wrap64 (x23 + 1)) xo0_0 xo0_1 xo0_2 xo1_0 xo1_1 xo1_2 xo2_0 xo2_1 xo2_2 xo3
                            else some false
                          else gridhallkeep3_ConvexRing.l4 k x22 (wrap64 (x23 + 1)) xo0_0 xo0_1 xo0_2 xo1_0 xo1_1 xo1_2 xo2_0 xo2_1 xo2_2 xo3
                        else if (rd (.fn [34, 30]) xo3 x23) = 1 then
                          (convexpl_Convolve.f k (xo0_0, xo0_1, xo0_2) r154.1).bind fun r163 =>
                          (gridhallkeep3_fine.f k [r133.2, r154.2, r162.2, r163.2]).bind fun r164 =>
                          if r164 = true then
                            (gridhallkeep3_sameConvex.f k r162.1 r163.1).bind fun r165 =>
                            if r165 = true then
                              gridhallkeep3_ConvexRing.l4 k x22 (wrap64 (x23 + 1)) xo0_0 xo0_1 xo0_2 xo1_0 xo1_1 xo1_2 xo2_0 xo2_1 xo2_2 xo3
                            else some false
                          else gridhallkeep3_ConvexRing.l4 k x22 (wrap64 (x23 + 1)) xo0_0 xo0_1 xo0_2 xo1_0 xo1_1 xo1_2 xo2_0 xo2_1 xo2_2 xo3
                        else none
                      else if (rd (.fn [34, 30]) xo3 x23) = 1 then
                        (convexpl_Convolve.f k r133.1 (xo2_0, xo2_1, xo2_2)).bind fun r155 =>
                        if (rd (.fn [34, 30]) xo3 x23) = 0 then
                          (convexpl_Add.f k (xo0_0, xo0_1, xo0_2) r154.1).bind fun r159 =>
                          (gridhallkeep3_fine.f k [r133.2, r154.2, r155.2, r159.2]).bind fun r160 =>
                          if r160 = true then
                            (gridhallkeep3_sameConvex.f k r155.1 r159.1).bind fun r161 =>
                            if r161 = true then
                              gridhallkeep3_ConvexRing.l4 k x22 (wrap64 (x23 + 1)) xo0_0 xo0_1 xo0_2 xo1_0 xo1_1 xo1_2 xo2_0 xo2_1 xo2_2 xo3
                            else some false
                          else gridhallkeep3_ConvexRing.l4 k x22 (wrap64 (x23 + 1)) xo0_0 xo0_1 xo0_2 xo1_0 xo1_1 xo1_2 xo2_0 xo2_1 xo2_2 xo3
                        else if (rd (.fn [34, 30]) xo3 x23) = 1 then
                          (convexpl_Convolve.f k (xo0_0, xo0_1, xo0_2) r154.1).bind fun r156 =>
                          (gridhallkeep3_fine.f k [r133.2, r154.2, r155.2, r156.2]).bind fun r157 =>
                          if r157 = true then
                            (gridhallkeep3_sameConvex.f k r155.1 r156.1).bind fun r158 =>
                            if r158 = true then
                              gridhallkeep3_ConvexRing.l4 k x22 (wrap64 (x23 + 1)) xo0_0 xo0_1 xo0_2 xo1_0 xo1_1 xo1_2 xo2_0 xo2_1 xo2_2 xo3
                            else some false
                          else gridhallkeep3_ConvexRing.l4 k x22 (wrap64 (x23 + 1)) xo0_0 xo0_1 xo0_2 xo1_0 xo1_1 xo1_2 xo2_0 xo2_1 xo2_2 xo3
                        else none
                      else none
                    else if (rd (.fn [34, 30]) xo3 x23) = 1 then
                      (convexpl_Convolve.f k (xo1_0, xo1_1, xo1_2) (xo2_0, xo2_1, xo2_2)).bind fun r139 =>
                      if (rd (.fn [34, 30]) xo3 x23) = 0 then
                        (convexpl_Add.f k r133.1 (xo2_0, xo2_1, xo2_2)).bind fun r147 =>
                        if (rd (.fn [34, 30]) xo3 x23) = 0 then
                          (convexpl_Add.f k (xo0_0, xo0_1, xo0_2) r139.1).bind fun r151 =>
                          (gridhallkeep3_fine.f k [r133.2, r139.2, r147.2, r151.2]).bind fun r152 =>
                          if r152 = true then
                            (gridhallkeep3_sameConvex.f k r147.1 r151.1).bind fun r153 =>
                            if r153 = true then
                              gridhallkeep3_ConvexRing.l4 k x22 (wrap64 (x23 + 1)) xo0_0 xo0_1 xo0_2 xo1_0 xo1_1 xo1_2 xo2_0 xo2_1 xo2_2 xo3
                            else some false
                          else gridhallkeep3_ConvexRing.l4 k x22 (wrap64 (x23 + 1)) xo0_0 xo0_1 xo0_2 xo1_0 xo1_1 xo1_2 xo2_0 xo2_1 xo2_2 xo3
                        else if (rd (.fn [34, 30]) xo3 x23) = 1 then
                          (convexpl_Convolve.f k (xo0_0, xo0_1, xo0_2) r139.1).bind fun r148 =>
                          (gridhallkeep3_fine.f k [r133.2, r139.2, r147.2, r148.2]).bind fun r149 =>
                          if r149 = true then
                            (gridhallkeep3_sameConvex.f k r147.1 r148.1).bind fun r150 =>
                            if r150 = true then
                              gridhallkeep3_ConvexRing.l4 k x22 (wrap64 (x23 + 1)) xo0_0 xo0_1 xo0_2 xo1_0 xo1_1 xo1_2 xo2_0 xo2_1 xo2_2 xo3
                            else some false
                          else gridhallkeep3_ConvexRing.l4 k x22 (wrap64 (x23 + 1)) xo0_0 xo0_1 xo0_2 xo1_0 xo1_1 xo1_2 xo2_0 xo2_1 xo2_2 xo3
                        else none
                      else if (rd (.fn [34, 30]) xo3 x23) = 1 then
                        (convexpl_Convolve.f k r133.1 (xo2_0, xo2_1, xo2_2)).bind fun r140 =>
                        if (rd (.fn [34, 30]) xo3 x23) = 0 then
                          (convexpl_Add.f k (xo0_0, xo0_1, xo0_2) r139.1).bind fun r144 =>
                          (gridhallkeep3_fine.f k [r133.2, r139.2, r140.2, r144.2]).bind fun r145 =>
                          if r145 = true then
                            (gridhallkeep3_sameConvex.f k r140.1 r144.1).bind fun r146 =>
                            if r146 = true then
                              gridhallkeep3_ConvexRing.l4 k x22 (wrap64 (x23 + 1)) xo0_0 xo0_1 xo0_2 xo1_0 xo1_1 xo1_2 xo2_0 xo2_1 xo2_2 xo3
                            else some false
                          else gridhallkeep3_ConvexRing.l4 k x22 (wrap64 (x23 + 1)) xo0_0 xo0_1 xo0_2 xo1_0 xo1_1 xo1_2 xo2_0 xo2_1 xo2_2 xo3
                        else if (rd (.fn [34, 30]) xo3 x23) = 1 then
                          (convexpl_Convolve.f k (xo0_0, xo0_1, xo0_2) r139.1).bind fun r141 =>
                          (gridhallkeep3_fine.f k [r133.2, r139.2, r140.2, r141.2]).bind fun r142 =>
                          if r142 = true then
                            (gridhallkeep3_sameConvex.f k r140.1 r141.1).bind fun r143 =>
                            if r143 = true then
                              gridhallkeep3_ConvexRing.l4 k x22 (wrap64 (x23 + 1)) xo0_0 xo0_1 xo0_2 xo1_0 xo1_1 xo1_2 xo2_0 xo2_1 xo2_2 xo3
                            else some false
                          else gridhallkeep3_ConvexRing.l4 k x22 (wrap64 (x23 + 1)) xo0_0 xo0_1 xo0_2 xo1_0 xo1_1 xo1_2 xo2_0 xo2_1 xo2_2 xo3
                        else none
                      else none
                    else none
                  else some false
                else if (rd (.fn [34, 30]) xo3 x23) = 0 then
                  (convexpl_Add.f k (xo1_0, xo1_1, xo1_2) (xo2_0, xo2_1, xo2_2)).bind fun r184 =>
                  if (rd (.fn [34, 30]) xo3 x23) = 0 then
                    (convexpl_Add.f k r133.1 (xo2_0, xo2_1, xo2_2)).bind fun r192 =>
                    if (rd (.fn [34, 30]) xo3 x23) = 0 then
                      (convexpl_Add.f k (xo0_0, xo0_1, xo0_2) r184.1).bind fun r196 =>
                      (gridhallkeep3_fine.f k [r133.2, r184.2, r192.2, r196.2]).bind fun r197 =>
                      if r197 = true then
                        (gridhallkeep3_sameConvex.f k r192.1 r196.1).bind fun r198 =>
                        if r198 = true then
                          gridhallkeep3_ConvexRing.l4 k x22 (wrap64 (x23 + 1)) xo0_0 xo0_1 xo0_2 xo1_0 xo1_1 xo1_2 xo2_0 xo2_1 xo2_2 xo3
                        else some false
                      else gridhallkeep3_ConvexRing.l4 k x22 (wrap64 (x23 + 1)) xo0_0 xo0_1 xo0_2 xo1_0 xo1_1 xo1_2 xo2_0 xo2_1 xo2_2 xo3
                    else if (rd (.fn [34, 30]) xo3 x23) = 1 then
                      (convexpl_Convolve.f k (xo0_0, xo0_1, xo0_2) r184.1).bind fun r193 =>
                      (gridhallkeep3_fine.f k [r133.2, r184.2, r192.2, r193.2]).bind fun r194 =>
                      if r194 = true then
                        (gridhallkeep3_sameConvex.f k r192.1 r193.1).bind fun r195 =>
                        if r195 = true then
                          gridhallkeep3_ConvexRing.l4 k x22 (wrap64 (x23 + 1)) xo0_0 xo0_1 xo0_2 xo1_0 xo1_1 xo1_2 xo2_0 xo2_1 xo2_2 xo3
                        else some false
                      else gridhallkeep3_ConvexRing.l4 k x22 (wrap64 (x23 + 1)) xo0_0 xo0_1 xo0_2 xo1_0 xo1_1 xo1_2 xo2_0 xo2_1 xo2_2 xo3
                    else none
                  else if (rd (.fn [34, 30]) xo3 x23) = 1 then
                    (convexpl_Convolve.f k r133.1 (xo2_0, xo2_1, xo2_2)).bind fun r185 =>
                    if (rd (.fn [34, 30]) xo3 x23) = 0 then
                      (convexpl_Add.f k (xo0_0, xo0_1, xo0_2) r184.1).bind fun r189 =>
                      (gridhallkeep3_fine.f k [r133.2, r184.2, r185.2, r189.2]).bind fun r190 =>
                      if r190 = true then
                        (gridhallkeep3_sameConvex.f k r185.1 r189.1).bind fun r191 =>
                        if r191 = true then
                          gridhallkeep3_ConvexRing.l4 k x22 (wrap64 (x23 + 1)) xo0_0 xo0_1 xo0_2 xo1_0 xo1_1 xo1_2 xo2_0 xo2_1 xo2_2 xo3
                        else some false
                      else gridhallkeep3_ConvexRing.l4 k x22 (wrap64 (x23 + 1)) xo0_0 xo0_1 xo0_2 xo1_0 xo1_1 xo1_2 xo2_0 xo2_1 xo2_2 xo3
                    else if (rd (.fn [34, 30]) xo3 x23) = 1 then
                      (convexpl_Convolve.f k (xo0_0, xo0_1, xo0_2) r184.1).bind fun r186 =>
                      (gridhallkeep3_fine.f k [r133.2, r184.2, r185.2, r186.2]).bind fun r187 =>
                      if r187 = true then
                        (gridhallkeep3_sameConvex.f k r185.1 r186.1).bind fun r188 =>
                        if r188 = true then
                          gridhallkeep3_ConvexRing.l4 k x22 (wrap64 (x23 + 1)) xo0_0 xo0_1 xo0_2 xo1_0 xo1_1 xo1_2 xo2_0 xo2_1 xo2_2 xo3
                        else some false
                      else gridhallkeep3_ConvexRing.l4 k x22 (wrap64 (x23 + 1)) xo0_0 xo0_1 xo0_2 xo1_0 xo1_1 xo1_2 xo2_0 xo2_1 xo2_2 xo3
                    else none
                  else none
                else if (rd (.fn [34, 30]) xo3 x23) = 1 then
                  (convexpl_Convolve.f k (xo1_0, xo1_1, xo1_2) (xo2_0, xo2_1, xo2_2)).bind fun r169 =>
                  if (rd (.fn [34, 30]) xo3 x23) = 0 then
                    (convexpl_Add.f k r133.1 (xo2_0, xo2_1, xo2_2)).bind fun r177 =>
                    if (rd (.fn [34, 30]) xo3 x23) = 0 then
                      (convexpl_Add.f k (xo0_0, xo0_1, xo0_2) r169.1).bind fun r181 =>
                      (gridhallkeep3_fine.f k [r133.2, r169.2, r177.2, r181.2]).bind fun r182 =>
                      if r182 = true then
                        (gridhallkeep3_sameConvex.f k r177.1 r181.1).bind fun r183 =>
                        if r183 = true then
                          gridhallkeep3_ConvexRing.l4 k x22 (wrap64 (x23 + 1)) xo0_0 xo0_1 xo0_2 xo1_0 xo1_1 xo1_2 xo2_0 xo2_1 xo2_2 xo3
                        else some false
                      else gridhallkeep3_ConvexRing.l4 k x22 (wrap64 (x23 + 1)) xo0_0 xo0_1 xo0_2 xo1_0 xo1_1 xo1_2 xo2_0 xo2_1 xo2_2 xo3
                    else if (rd (.fn [34, 30]) xo3 x23) = 1 then
                      (convexpl_Convolve.f k (xo0_0, xo0_1, xo0_2) r169.1).bind fun r178 =>
                      (gridhallkeep3_fine.f k [r133.2, r169.2, r177.2, r178.2]).bind fun r179 =>
                      if r179 = true then
                        (gridhallkeep3_sameConvex.f k r177.1 r178.1).bind fun r180 =>
                        if r180 = true then
                          gridhallkeep3_ConvexRing.l4 k x22 (wrap64 (x23 + 1)) xo0_0 xo0_1 xo0_2 xo1_0 xo1_1 xo1_2 xo2_0 xo2_1 xo2_2 xo3
                        else some false
                      else gridhallkeep3_ConvexRing.l4 k x22 (wrap64 (x23 + 1)) xo0_0 xo0_1 xo0_2 xo1_0 xo1_1 xo1_2 xo2_0 xo2_1 xo2_2 xo3
                    else none
                  else if (rd (.fn [34, 30]) xo3 x23) = 1 then
                    (convexpl_Convolve.f k r133.1 (xo2_0, xo2_1, xo2_2)).bind fun r170 =>
                    if (rd (.fn [34, 30]) xo3 x23) = 0 then
                      (convexpl_Add.f k (xo0_0, xo0_1, xo0_2) r169.1).bind fun r174 =>
                      (gridhallkeep3_fine.f k [r133.2, r169.2, r170.2, r174.2]).bind fun r175 =>
                      if r175 = true then
                        (gridhallkeep3_sameConvex.f k r170.1 r174.1).bind fun r176 =>
                        if r176 = true then
                          gridhallkeep3_ConvexRing.l4 k x22 (wrap64 (x23 + 1)) xo0_0 xo0_1 xo0_2 xo1_0 xo1_1 xo1_2 xo2_0 xo2_1 xo2_2 xo3
                        else some false
                      else gridhallkeep3_ConvexRing.l4 k x22 (wrap64 (x23 + 1)) xo0_0 xo0_1 xo0_2 xo1_0 xo1_1 xo1_2 xo2_0 xo2_1 xo2_2 xo3
                    else if (rd (.fn [34, 30]) xo3 x23) = 1 then
                      (convexpl_Convolve.f k (xo0_0, xo0_1, xo0_2) r169.1).bind fun r171 =>
                      (gridhallkeep3_fine.f k [r133.2, r169.2, r170.2, r171.2]).bind fun r172 =>
                      if r172 = true then
                        (gridhallkeep3_sameConvex.f k r170.1 r171.1).bind fun r173 =>
                        if r173 = true then
                          gridhallkeep3_ConvexRing.l4 k x22 (wrap64 (x23 + 1)) xo0_0 xo0_1 xo0_2 xo1_0 xo1_1 xo1_2 xo2_0 xo2_1 xo2_2 xo3
                        else some false
                      else gridhallkeep3_ConvexRing.l4 k x22 (wrap64 (x23 + 1)) xo0_0 xo0_1 xo0_2 xo1_0 xo1_1 xo1_2 xo2_0 xo2_1 xo2_2 xo3
                    else none
                  else none
                else none
              else some false
            else none
          else if (rd (.fn [34, 30]) xo3 x23) = 1 then
            (convexpl_Convolve.f k (xo0_0, xo0_1, xo0_2) (xo1_0, xo1_1, xo1_2)).bind fun r2 =>
            if (rd (.fn [34, 30]) xo3 x23) = 0 then
              (convexpl_Add.f k (xo1_0, xo1_1, xo1_2) (xo0_0, xo0_1, xo0_2)).bind fun r68 =>
              (gridhallkeep3_fine.f k [r2.2]).bind fun r69 =>
              (gridhallkeep3_fine.f k [r68.2]).bind fun r70 =>
              if r69 = r70 then
                (gridhallkeep3_fine.f k [r2.2]).bind fun r71 =>
                if r71 = true then
                  (gridhallkeep3_sameConvex.f k r2.1 r68.1).bind fun r72 =>
                  if r72 = true then
                    if (rd (.fn [34, 30]) xo3 x23) = 0 then
                      (convexpl_Add.f k (xo1_0, xo1_1, xo1_2) (xo2_0, xo2_1, xo2_2)).bind fun r88 =>
                      if (rd (.fn [34, 30]) xo3 x23) = 0 then
                        (convexpl_Add.f k r2.1 (xo2_0, xo2_1, xo2_2)).bind fun r96 =>
                        if (rd (.fn [34, 30]) xo3 x23) = 0 then
                          (convexpl_Add.f k (xo0_0, xo0_1, xo0_2) r88.1).bind fun r100 =>
                          (gridhallkeep3_fine.f k [r2.2, r88.2, r96.2, r100.2]).bind fun r101 =>
                          if r101 = true then
                            (gridhallkeep3_sameConvex.f k r96.1 r100.1).bind fun r102 =>
                            if r102 = true then
                              gridhallkeep3_ConvexRing.l4 k x22 (wrap64 (x23 + 1)) xo0_0 xo0_1 xo0_2 xo1_0 xo1_1 xo1_2 xo2_0 xo2_1 xo2_2 xo3
                            else some false
                          else gridhallkeep3_ConvexRing.l4 k x22 (wrap64 (x23 + 1)) xo0_0 xo0_1 xo0_2 xo1_0 xo1_1 xo1_2 xo2_0 xo2_1 xo2_2 xo3
                        else if (rd (.fn [34, 30]) xo3 x23) = 1 then
                          (convexpl_Convolve.f k (xo0_0, xo0_1, xo0_2) r88.1).bind fun r97 =>
                          (gridhallkeep3_fine.f k [r2.2, r88.2, r96.2, r97.2]).bind fun r98 =>
                          if r98 = true then
                            (gridhallkeep3_sameConvex.f k r96.1 r97.1).bind fun r99 =>
                            if r99 = true then
                              gridhallkeep3_ConvexRing.l4 k x22 (wrap64 (x23 + 1)) xo0_0 xo0_1 xo0_2 xo1_0 xo1_1 xo1_2 xo2_0 xo2_1 xo2_2 xo3
                            else some false
                          else gridhallkeep3_ConvexRing.l4 k x22 (wrap64 (x23 + 1)) xo0_0 xo0_1 xo0_2 xo1_0 xo1_1 xo1_2 xo2_0 xo2_1 xo2_2 xo3
                        else none
                      else if (rd (.fn [34, 30]) xo3 x23) = 1 then
                        (convexpl_Convolve.f k r2.1 (xo2_0, xo2_1, xo2_2)).bind fun r89 =>
                        if (rd (.fn [34, 30]) xo3 x23) = 0 then
                          (convexpl_Add.f k (xo0_0, xo0_1, xo0_2) r88.1).bind fun r93 =>
                          (gridhallkeep3_fine.f k [r2.2, r88.2, r89.2, r93.2]).bind fun r94 =>
                          if r94 = true then
                            (gridhallkeep3_sameConvex.f k r89.1 r93.1).bind fun r95 =>
                            if r95 = true then
                              gridhallkeep3_ConvexRing.l4 k x22 (wrap64 (x23 + 1)) xo0_0 xo0_1 xo0_2 xo1_0 xo1_1 xo1_2 xo2_0 xo2_1 xo2_2 xo3
                            else some false
                          else gridhallkeep3_ConvexRing.l4 k x22 (wrap64 (x23 + 1)) xo0_0 xo0_1 xo0_2 xo1_0 xo1_1 xo1_2 xo2_0 xo2_1 xo2_2 xo3
                        else if (rd (.fn [34, 30]) xo3 x23) = 1 then
                          (convexpl_Convolve.f k (xo0_0, xo0_1, xo0_2) r88.1).bind fun r90 =>
                          (gridhallkeep3_fine.f k [r2.2, r88.2, r89.2, r90.2]).bind fun r91 =>
                          if r91 = true then
                            (gridhallkeep3_sameConvex.f k r89.1 r90.1).bind fun r92 =>
                            if r92 = true then
                              gridhallkeep3_ConvexRing.l4 k x22 (wrap64 (x23 + 1)) xo0_0 xo0_1 xo0_2 xo1_0 xo1_1 xo1_2 xo2_0 xo2_1 xo2_2 xo3
                            else some false
                          else gridhallkeep3_ConvexRing.l4 k x22 (wrap64 (x23 + 1)) xo0_0 xo0_1 xo0_2 xo1_0 xo1_1 xo1_2 xo2_0 xo2_1 xo2_2 xo3
                        else none
                      else none
                    else if (rd (.fn [34, 30]) xo3 x23) = 1 then
                      (convexpl_Convolve.f k (xo1_0, xo1_1, xo1_2) (xo2_0, xo2_1, xo2_2)).bind fun r73 =>
                      if (rd (.fn [34, 30]) xo3 x23) = 0 then
                        (convexpl_Add.f k r2.1 (xo2_0, xo2_1, xo2_2)).bind fun r81 =>
                        if (rd (.fn [34, 30]) xo3 x23) = 0 then
                          (convexpl_Add.f k (xo0_0, xo0_1, xo0_2) r73.1).bind fun r85 =>
                          (gridhallkeep3_fine.f k [r2.2, r73.2, r81.2, r85.2]).bind fun r86 =>
                          if r86 = true then
                            (gridhallkeep3_sameConvex.f k r81.1 r85.1).bind fun r87 =>
                            if r87 = true then
                              gridhallkeep3_ConvexRing.l4 k x22 (wrap64 (x23 + 1)) xo0_0 xo0_1 xo0_2 xo1_0 xo1_1 xo1_2 xo2_0 xo2_1 xo2_2 xo3
                            else some false
                          else gridhallkeep3_ConvexRing.l4 k x22 (wrap64 (x23 + 1)) xo0_0 xo0_1 xo0_2 xo1_0 xo1_1 xo1_2 xo2_0 xo2_1 xo2_2 xo3
                        else if (rd (.fn [34, 30]) xo3 x23) = 1 then
                          (convexpl_Convolve.f k (xo0_0, xo0_1, xo0_2) r73.1).bind fun r82 =>
                          (gridhallkeep3_fine.f k [r2.2, r73.2, r81.2, r82.2]).bind fun r83 =>
                          if r83 = true then
                            (gridhallkeep3_sameConvex.f k r81.1 r82.1).bind fun r84 =>
                            if r84 = true then
                              gridhallkeep3_ConvexRing.l4 k x22 (wrap64 (x23 + 1)) xo0_0 xo0_1 xo0_2 xo1_0 xo1_1 xo1_2 xo2_0 xo2_1 xo2_2 xo3
                            else some false
                          else gridhallkeep3_ConvexRing.l4 k x22 (wrap64 (x23 + 1)) xo0_0 xo0_1 xo0_2 xo1_0 xo1_1 xo1_2 xo2_0 xo2_1 xo2_2 xo3
                        else none
                      else if (rd (.fn [34, 30]) xo3 x23) = 1 then
                        (convexpl_Convolve.f k r2.1 (xo2_0, xo2_1, xo2_2)).bind fun r74 =>
                        if (rd (.fn [34, 30]) xo3 x23) = 0 then
                          (convexpl_Add.f k (xo0_0, xo0_1, xo0_2) r73.1).bind fun r78 =>
                          (gridhallkeep3_fine.f k [r2.2, r73.2, r74.2, r78.2]).bind fun r79 =>
                          if r79 = true then
                            (gridhallkeep3_sameConvex.f k r74.1 r78.1).bind fun r80 =>
                            if r80 = true then
                              gridhallkeep3_ConvexRing.l4 k x22 (wrap64 (x23 + 1)) xo0_0 xo0_1 xo0_2 xo1_0 xo1_1 xo1_2 xo2_0 xo2_1 xo2_2 xo3
                            else some false
                          else gridhallkeep3_ConvexRing.l4 k x22 (wrap64 (x23 + 1)) xo0_0 xo0_1 xo0_2 xo1_0 xo1_1 xo1_2 xo2_0 xo2_1 xo2_2 xo3
                        else if (rd (.fn [34, 30]) xo3 x23) = 1 then
                          (convexpl_Convolve.f k (xo0_0, xo0_1, xo0_2) r73.1).bind fun r75 =>
                          (gridhallkeep3_fine.f k [r2.2, r73.2, r74.2, r75.2]).bind fun r76 =>
                          if r76 = true then
                            (gridhallkeep3_sameConvex.f k r74.1 r75.1).bind fun r77 =>
                            if r77 = true then
                              gridhallkeep3_ConvexRing.l4 k x22 (wrap64 (x23 + 1)) xo0_0 xo0_1 xo0_2 xo1_0 xo1_1 xo1_2 xo2_0 xo2_1 xo2_2 xo3
                            else some false
                          else gridhallkeep3_ConvexRing.l4 k x22 (wrap64 (x23 + 1)) xo0_0 xo0_1 xo0_2 xo1_0 xo1_1 xo1_2 xo2_0 xo2_1 xo2_2 xo3
                        else none
                      else none
                    else none
                  else some false
                else if (rd (.fn [34, 30]) xo3 x23) = 0 then
                  (convexpl_Add.f k (xo1_0, xo1_1, xo1_2) (xo2_0, xo2_1, xo2_2)).bind fun r118 =>
                  if (rd (.fn [34, 30]) xo3 x23) = 0 then
                    (convexpl_Add.f k r2.1 (xo2_0, xo2_1, xo2_2)).bind fun r126 =>
                    if (rd (.fn [34, 30]) xo3 x23) = 0 then
                      (convexpl_Add.f k (xo0_0, xo0_1, xo0_2) r118.1).bind fun r130 =>
                      (gridhallkeep3_fine.f k [r2.2, r118.2, r126.2, r130.2]).bind fun r131 =>
                      if r131 = true then
                        (gridhallkeep3_sameConvex.f k r126.1 r130.1).bind fun r132 =>
                        if r132 = true then
                          gridhallkeep3_ConvexRing.l4 k x22 (wrap64 (x23 + 1)) xo0_0 xo0_1 xo0_2 xo1_0 xo1_1 xo1_2 xo2_0 xo2_1 xo2_2 xo3
                        else some false
                      else gridhallkeep3_ConvexRing.l4 k x22 (wrap64 (x23 + 1)) xo0_0 xo0_1 xo0_2 xo1_0 xo1_1 xo1_2 xo2_0 xo2_1 xo2_2 xo3
                    else if (rd (.fn [34, 30]) xo3 x23) = 1 then
                      (convexpl_Convolve.f k (xo0_0, xo0_1, xo0_2) r118.1).bind fun r127 =>
                      (gridhallkeep3_fine.f k [r2.2, r118.2, r126.2, r127.2]).bind fun r128 =>
                      if r128 = true then
                        (gridhallkeep3_sameConvex.f k r126.1 r127.1).bind fun r129 =>
                        if r129 = true then
                          gridhallkeep3_ConvexRing.l4 k x22 (wrap64 (x23 + 1)) xo0_0 xo0_1 xo0_2 xo1_0 xo1_1 xo1_2 xo2_0 xo2_1 xo2_2 xo3
                        else some false
                      else gridhallkeep3_ConvexRing.l4 k x22 (wrap64 (x23 + 1)) xo0_0 xo0_1 xo0_2 xo1_0 xo1_1 xo1_2 xo2_0 xo2_1 xo2_2 xo3
                    else none
                  else if (rd (.fn [34, 30]) xo3 x23) = 1 then
                    (convexpl_Convolve.f k r2.1 (xo2_0, xo2_1, xo2_2)).bind fun r119 =>
                    if (rd (.fn [34, 30]) xo3 x23) = 0 then
                      (convexpl_Add.f k (xo0_0, xo0_1, xo0_2) r118.1).bind fun r123 =>
                      (gridhallkeep3_fine.f k [r2.2, r118.2, r119.2, r123.2]).bind fun r124 =>
                      if r124 = true then
                        (gridhallkeep3_sameConvex.f k r119.1 r123.1).bind fun r125 =>
                        if r125 = true then
                          gridhallkeep3_ConvexRing.l4 k x22 (wrap64 (x23 + 1)) xo0_0 xo0_1 xo0_2 xo1_0 xo1_1 xo1_2 xo2_0 xo2_1 xo2_2 xo3
                        else some false
                      else gridhallkeep3_ConvexRing.l4 k x22 (wrap64 (x23 + 1)) xo0_0 xo0_1 xo0_2 xo1_0 xo1_1 xo1_2 xo2_0 xo2_1 xo2_2 xo3
                    else if (rd (.fn [34, 30]) xo3 x23) = 1 then
                      (convexpl_Convolve.f k (xo0_0, xo0_1, xo0_2) r118.1).bind fun r120 =>
                      (gridhallkeep3_fine.f k [r2.2, r118.2, r119.2, r120.2]).bind fun r121 =>
                      if r121 = true then
                        (gridhallkeep3_sameConvex.f k r119.1 r120.1).bind fun r122 =>
                        if r122 = true then
                          gridhallkeep3_ConvexRing.l4 k x22 (wrap64 (x23 + 1)) xo0_0 xo0_1 xo0_2 xo1_0 xo1_1 xo1_2 xo2_0 xo2_1 xo2_2 xo3
                        else some false
                      else gridhallkeep3_ConvexRing.l4 k x22 (wrap64 (x23 + 1)) xo0_0 xo0_1 xo0_2 xo1_0 xo1_1 xo1_2 xo2_0 xo2_1 xo2_2 xo3
                    else none
                  else none
                else if (rd (.fn [34, 30]) xo3 x23) = 1 then
                  (convexpl_Convolve.f k (xo1_0, xo1_1, xo1_2) (xo2_0, xo2_1, xo2_2)).bind fun r103 =>
                  if (rd (.fn [34, 30]) xo3 x23) = 0 then
                    (convexpl_Add.f k r2.1 (xo2_0, xo2_1, xo2_2)).bind fun r111 =>
                    if (rd (.fn [34, 30]) xo3 x23) = 0 then
                      (convexpl_Add.f k (xo0_0, xo0_1, xo0_2) r103.1).bind fun r115 =>
                      (gridhallkeep3_fine.f k [r2.2, r103.2, r111.2, r115.2]).bind fun r116 =>
                      if r116 = true then
                        (gridhallkeep3_sameConvex.f k r111.1 r115.1).bind fun r117 =>
                        if r117 = true then
                          gridhallkeep3_ConvexRing.l4 k x22 (wrap64 (x23 + 1)) xo0_0 xo0_1 xo0_2 xo1_0 xo1_1 xo1_2 xo2_0 xo2_1 xo2_2 xo3
                        else some false
                      else gridhallkeep3_ConvexRing.l4 k x22 (wrap64 (x23 + 1)) xo0_0 xo0_1 xo0_2 xo1_0 xo1_1 xo1_2 xo2_0 xo2_1 xo2_2 xo3
                    else if (rd (.fn [34, 30]) xo3 x23) = 1 then
                      (convexpl_Convolve.f k (xo0_0, xo0_1, xo0_2) r103.1).bind fun r112 =>
                      (gridhallkeep3_fine.f k [r2.2, r103.2, r111.2, r112.2]).bind fun r113 =>
                      if r113 = true then
                        (gridhallkeep3_sameConvex.f k r111.1 r112.1).bind fun r114 =>
                        if r114 = true then
                          gridhallkeep3_ConvexRing.l4 k x22 (wrap64 (x23 + 1)) xo0_0 xo0_1 xo0_2 xo1_0 xo1_1 xo1_2 xo2_0 xo2_1 xo2_2 xo3
                        else some false
                      else gridhallkeep3_ConvexRing.l4 k x22 (wrap64 (x23 + 1)) xo0_0 xo0_1 xo0_2 xo1_0 xo1_1 xo1_2 xo2_0 xo2_1 xo2_2 xo3
                    else none
                  else if (rd (.fn [34, 30]) xo3 x23) = 1 then
                    (convexpl_Convolve.f k r2.1 (xo2_0, xo2_1, xo2_2)).bind fun r104 =>
                    if (rd (.fn [34, 30]) xo3 x23) = 0 then
                      (convexpl_Add.f k (xo0_0, xo0_1, xo0_2) r103.1).bind fun r108 =>
                      (gridhallkeep3_fine.f k [r2.2, r103.2, r104.2, r108.2]).bind fun r109 =>
                      if r109 = true then
                        (gridhallkeep3_sameConvex.f k r104.1 r108.1).bind fun r110 =>
                        if r110 = true then
                          gridhallkeep3_ConvexRing.l4 k x22 (wrap64 (x23 + 1)) xo0_0 xo0_1 xo0_2 xo1_0 xo1_1 xo1_2 xo2_0 xo2_1 xo2_2 xo3
                        else some false
                      else gridhallkeep3_ConvexRing.l4 k x22 (wrap64 (x23 + 1)) xo0_0 xo0_1 xo0_2 xo1_0 xo1_1 xo1_2 xo2_0 xo2_1 xo2_2 xo3
                    else if (rd (.fn [34, 30]) xo3 x23) = 1 then
                      (convexpl_Convolve.f k (xo0_0, xo0_1, xo0_2) r103.1).bind fun r105 =>
                      (gridhallkeep3_fine.f k [r2.2, r103.2, r104.2, r105.2]).bind fun r106 =>
                      if r106 = true then
                        (gridhallkeep3_sameConvex.f k r104.1 r105.1).bind fun r107 =>
                        if r107 = true then
                          gridhallkeep3_ConvexRing.l4 k x22 (wrap64 (x23 + 1)) xo0_0 xo0_1 xo0_2 xo1_0 xo1_1 xo1_2 xo2_0 xo2_1 xo2_2 xo3
                        else some false
                      else gridhallkeep3_ConvexRing.l4 k x22 (wrap64 (x23 + 1)) xo0_0 xo0_1 xo0_2 xo1_0 xo1_1 xo1_2 xo2_0 xo2_1 xo2_2 xo3
                    else none
                  else none
                else none
              else some false
            else if (rd (.fn [34, 30]) xo3 x23) = 1 then
              (convexpl_Convolve.f k (xo1_0, xo1_1, xo1_2) (xo0_0, xo0_1, xo0_2)).bind fun r3 =>
              (gridhallkeep3_fine.f k [r2.2]).bind fun r4 =>
              (gridhallkeep3_fine.f k [r3.2]).bind fun r5 =>
              if r4 = r5 then
                (gridhallkeep3_fine.f k [r2.2]).bind fun r6 =>
                if r6 = true then
                  (gridhallkeep3_sameConvex.f k r2.1 r3.1).bind fun r7 =>
                  if r7 = true then
                    if (rd (.fn [34, 30]) xo3 x23) = 0 then
                      (convexpl_Add.f k (xo1_0, xo1_1, xo1_2) (xo2_0, xo2_1, xo2_2)).bind fun r23 =>
                      if (rd (.fn [34, 30]) xo3 x23) = 0 then
                        (convexpl_Add.f k r2.1 (xo2_0, xo2_1, xo2_2)).bind fun r31 =>
                        if (rd (.fn [34, 30]) xo3 x23) = 0 then
                          (convexpl_Add.f k (xo0_0, xo0_1, xo0_2) r23.1).bind fun r35 =>
                          (gridhallkeep3_fine.f k [r2.2, r23.2, r31.2, r35.2]).bind fun r36 =>
                          if r36 = true then
                            (gridhallkeep3_sameConvex.f k r31.1 r35.1).bind fun r37 =>
                            if r37 = true then
                              gridhallkeep3_ConvexRing.l4 k x22 (wrap64 (x23 + 1)) xo0_0 xo0_1 xo0_2 xo1_0 xo1_1 xo1_2 xo2_0 xo2_1 xo2_2 xo3
                            else some false
                          else gridhallkeep3_ConvexRing.l4 k x22 (wrap64 (x23 + 1)) xo0_0 xo0_1 xo0_2 xo1_0 xo1_1 xo1_2 xo2_0 xo2_1 xo2_2 xo3
                        else if (rd (.fn [34, 30]) xo3 x23) = 1 then
                          (convexpl_Convolve.f k (xo0_0, xo0_1, xo0_2) r23.1).bind fun r32 =>
                          (gridhallkeep3_fine.f k [r2.2, r23.2, r31.2, r32.2]).bind fun r33 =>
                          if r33 = true then
                            (gridhallkeep3_sameConvex.f k r31.1 r32.1).bind fun r34 =>
                            if r34 = true then
                              gridhallkeep3_ConvexRing.l4 k x22 (wrap64 (x23 + 1)) xo0_0 xo0_1 xo0_2 xo1_0 xo1_1 xo1_2 xo2_0 xo2_1 xo2_2 xo3
                            else some false
                          else gridhallkeep3_ConvexRing.l4 k x22 (wrap64 (x23 + 1)) xo0_0 xo0_1 xo0_2 xo1_0 xo1_1 xo1_2 xo2_0 xo2_1 xo2_2 xo3
                        else none
                      else if (rd (.fn [34, 30]) xo3 x23) = 1 then
                        (convexpl_Convolve.f k r2.1 (xo2_0, xo2_1, xo2_2)).bind fun r24 =>
                        if (rd (.fn [34, 30]) xo3 x23) = 0 then
                          (convexpl_Add.f k (xo0_0, xo0_1, xo0_2) r23.1).bind fun r28 =>
                          (gridhallkeep3_fine.f k [r2.2, r23.2, r24.2, r28.2]).bind fun r29 =>
                          if r29 = true then
                            (gridhallkeep3_sameConvex.f k r24.1 r28.1).bind fun r30 =>
                            if r30 = true then
                              gridhallkeep3_ConvexRing.l4 k x22 (wrap64 (x23 + 1)) xo0_0 xo0_1 xo0_2 xo1_0 xo1_1 xo1_2 xo2_0 xo2_1 xo2_2 xo3
                            else some false
                          else gridhallkeep3_ConvexRing.l4 k x22 (wrap64 (x23 + 1)) xo0_0 xo0_1 xo0_2 xo1_0 xo1_1 xo1_2 xo2_0 xo2_1 xo2_2 xo3
                        else if (rd (.fn [34, 30]) xo3 x23) = 1 then
                          (convexpl_Convolve.f k (xo0_0, xo0_1, xo0_2) r23.1).bind fun r25 =>
                          (gridhallkeep3_fine.f k [r2.2, r23.2, r24.2, r25.2]).bind fun r26 =>
                          if r26 = true then
                            (gridhallkeep3_sameConvex.f k r24.1 r25.1).bind fun r27 =>
                            if r27 = true then
                              gridhallkeep3_ConvexRing.l4 k x22 (wrap64 (x23 + 1)) xo0_0 xo0_1 xo0_2 xo1_0 xo1_1 xo1_2 xo2_0 xo2_1 xo2_2 xo3
                            else some false
                          else gridhallkeep3_ConvexRing.l4 k x22 (wrap64 (x23 + 1)) xo0_0 xo0_1 xo0_2 xo1_0 xo1_1 xo1_2 xo2_0 xo2_1 xo2_2 xo3
                        else none
                      else none
                    else if (rd (.fn [34, 30]) xo3 x23) = 1 then
                      (convexpl_Convolve.f k (xo1_0, xo1_1, xo1_2) (xo2_0, xo2_1, xo2_2)).bind fun r8 =>
                      if (rd (.fn [34, 30]) xo3 x23) = 0 then
                        (convexpl_Add.f k r2.1 (xo2_0, xo2_1, xo2_2)).bind fun r16 =>
                        if (rd (.fn [34, 30]) xo3 x23) = 0 then
                          (convexpl_Add.f k (xo0_0, xo0_1, xo0_2) r8.1).bind fun r20 =>
                          (gridhallkeep3_fine.f k [r2.2, r8.2, r16.2, r20.2]).bind fun r21 =>
                          if r21 = true then
                            (gridhallkeep3_sameConvex.f k r16.1 r20.1).bind fun r22 =>
                            if r22 = true then
                              gridhallkeep3_ConvexRing.l4 k x22 (wrap64 (x23 + 1)) xo0_0 xo0_1 xo0_2 xo1_0 xo1_1 xo1_2 xo2_0 xo2_1 xo2_2 xo3
                            else some false
                          else gridhallkeep3_ConvexRing.l4 k x22 (wrap64 (x23 + 1)) xo0_0 xo0_1 xo0_2 xo1_0 xo1_1 xo1_2 xo2_0 xo2_1 xo2_2 xo3
                        else if (rd (.fn [34, 30]) xo3 x23) = 1 then
                          (convexpl_Convolve.f k (xo0_0, xo0_1, xo0_2) r8.1).bind fun r17 =>
                          (gridhallkeep3_fine.f k [r2.2, r8.2, r16.2, r17.2]).bind fun r18 =>
                          if r18 = true then
                            (gridhallkeep3_sameConvex.f k r16.1 r17.1).bind fun r19 =>
                            if r19 = true then
                              gridhallkeep3_ConvexRing.l4 k x22 (wrap64 (x23 + 1)) xo0_0 xo0_1 xo0_2 xo1_0 xo1_1 xo1_2 xo2_0 xo2_1 xo2_2 xo3
                            else some false
                          else gridhallkeep3_ConvexRing.l4 k x22 (wrap64 (x23 + 1)) xo0_0 xo0_1 xo0_2 xo1_0 xo1_1 xo1_2 xo2_0 xo2_1 xo2_2 xo3
                        else none
                      else if (rd (.fn [34, 30]) xo3 x23) = 1 then
                        (convexpl_Convolve.f k r2.1 (xo2_0, xo2_1, xo2_2)).bind fun r9 =>
                        if (rd (.fn [34, 30]) xo3 x23) = 0 then
                          (convexpl_Add.f k (xo0_0, xo0_1, xo0_2) r8.1).bind fun r13 =>
                          (gridhallkeep3_fine.f k [r2.2, r8.2, r9.2, r13.2]).bind fun r14 =>
                          if r14 = true then
                            (gridhallkeep3_sameConvex.f k r9.1 r13.1).bind fun r15 =>
                            if r15 = true then
                              gridhallkeep3_ConvexRing.l4 k x22 (wrap64 (x23 + 1)) xo0_0 xo0_1 xo0_2 xo1_0 xo1_1 xo1_2 xo2_0 xo2_1 xo2_2 xo3
                            else some false
                          else gridhallkeep3_ConvexRing.l4 k x22 (wrap64 (x23 + 1)) xo0_0 xo0_1 xo0_2 xo1_0 xo1_1 xo1_2 xo2_0 xo2_1 xo2_2 xo3
                        else if (rd (.fn [34, 30]) xo3 x23) = 1 then
                          (convexpl_Convolve.f k (xo0_0, xo0_1, xo0_2) r8.1).bind fun r10 =>
                          (gridhallkeep3_fine.f k [r2.2, r8.2, r9.2, r10.2]).bind fun r11 =>
                          if r11 = true then
                            (gridhallkeep3_sameConvex.f k r9.1 r10.1).bind fun r12 =>
                            if r12 = true then
                              gridhallkeep3_ConvexRing.l4 k x22 (wrap64 (x23 + 1)) xo0_0 xo0_1 xo0_2 xo1_0 xo1_1 xo1_2 xo2_0 xo2_1 xo2_2 xo3
                            else some false
                          else gridhallkeep3_ConvexRing.l4 k x22 (wrap64 (x23 + 1)) xo0_0 xo0_1 xo0_2 xo1_0 xo1_1 xo1_2 xo2_0 xo2_1 xo2_2 xo3
                        else none
                      else none
                    else none
                  else some false
                else if (rd (.fn [34, 30]) xo3 x23) = 0 then
                  (convexpl_Add.f k (xo1_0, xo1_1, xo1_2) (xo2_0, xo2_1, xo2_2)).bind fun r53 =>
                  if (rd (.fn [34, 30]) xo3 x23) = 0 then
                    (convexpl_Add.f k r2.1 (xo2_0, xo2_1, xo2_2)).bind fun r61 =>
                    if (rd (.fn [34, 30]) xo3 x23) = 0 then
                      (convexpl_Add.f k (xo0_0, xo0_1, xo0_2) r53.1).bind fun r65 =>
                      (gridhallkeep3_fine.f k [r2.2, r53.2, r61.2, r65.2]).bind fun r66 =>
                      if r66 = true then
                        (gridhallkeep3_sameConvex.f k r61.1 r65.1).bind fun r67 =>
                        if r67 = true then
                          gridhallkeep3_ConvexRing.l4 k x22 (wrap64 (x23 + 1)) xo0_0 xo0_1 xo0_2 xo1_0 xo1_1 xo1_2 xo2_0 xo2_1 xo2_2 xo3
                        else some false
                      else gridhallkeep3_ConvexRing.l4 k x22 (wrap64 (x23 + 1)) xo0_0 xo0_1 xo0_2 xo1_0 xo1_1 xo1_2 xo2_0 xo2_1 xo2_2 xo3
                    else if (rd (.fn [34, 30]) xo3 x23) = 1 then
                      (convexpl_Convolve.f k (xo0_0, xo0_1, xo0_2) r53.1).bind fun r62 =>
                      (gridhallkeep3_fine.f k [r2.2, r53.2, r61.2, r62.2]).bind fun r63 =>
                      if r63 = true then
                        (gridhallkeep3_sameConvex.f k r61.1 r62.1).bind fun r64 =>
                        if r64 = true then
                          gridhallkeep3_ConvexRing.l4 k x22 (wrap64 (x23 + 1)) xo0_0 xo0_1 xo0_2 xo1_0 xo1_1 xo1_2 xo2_0 xo2_1 xo2_2 xo3
                        else some false
                      else gridhallkeep3_ConvexRing.l4 k x22 (wrap64 (x23 + 1)) xo0_0 xo0_1 xo0_2 xo1_0 xo1_1 xo1_2 xo2_0 xo2_1 xo2_2 xo3
                    else none
                  else if (rd (.fn [34, 30]) xo3 x23) = 1 then
                    (convexpl_Convolve.f k r2.1 (xo2_0, xo2_1, xo2_2)).bind fun r54 =>
                    if (rd (.fn [34, 30]) xo3 x23) = 0 then
                      (convexpl_Add.f k (xo0_0, xo0_1, xo0_2) r53.1).bind fun r58 =>
                      (gridhallkeep3_fine.f k [r2.2, r53.2, r54.2, r58.2]).bind fun r59 =>
                      if r59 = true then
                        (gridhallkeep3_sameConvex.f k r54.1 r58.1).bind fun r60 =>
                        if r60 = true then
                          gridhallkeep3_ConvexRing.l4 k x22 (wrap64 (x23 + 1)) xo0_0 xo0_1 xo0_2 xo1_0 xo1_1 xo1_2 xo2_0 xo2_1 xo2_2 xo3
                        else some false
                      else gridhallkeep3_ConvexRing.l4 k x22 (wrap64 (x23 + 1)) xo0_0 xo0_1 xo0_2 xo1_0 xo1_1 xo1_2 xo2_0 xo2_1 xo2_2 xo3
                    else if (rd (.fn [34, 30]) xo3 x23) = 1 then
                      (convexpl_Convolve.f k (xo0_0, xo0_1, xo0_2) r53.1).bind fun r55 =>
                      (gridhallkeep3_fine.f k [r2.2, r53.2, r54.2, r55.2]).bind fun r56 =>
                      if r56 = true then
                        (gridhallkeep3_sameConvex.f k r54.1 r55.1).bind fun r57 =>
                        if r57 = true then
                          gridhallkeep3_ConvexRing.l4 k x22 (wrap64 (x23 + 1)) xo0_0 xo0_1 xo0_2 xo1_0 xo1_1 xo1_2 xo2_0 xo2_1 xo2_2 xo3
                        else some false
                      else gridhallkeep3_ConvexRing.l4 k x22 (wrap64 (x23 + 1)) xo0_0 xo0_1 xo0_2 xo1_0 xo1_1 xo1_2 xo2_0 xo2_1 xo2_2 xo3
                    else none
                  else none
                else if (rd (.fn [34, 30]) xo3 x23) = 1 then
                  (convexpl_Convolve.f k (xo1_0, xo1_1, xo1_2) (xo2_0, xo2_1, xo2_2)).bind fun r38 =>
                  if (rd (.fn [34, 30]) xo3 x23) = 0 then
                    (convexpl_Add.f k r2.1 (xo2_0, xo2_1, xo2_2)).bind fun r46 =>
                    if (rd (.fn [34, 30]) xo3 x23) = 0 then
                      (convexpl_Add.f k (xo0_0, xo0_1, xo0_2) r38.1).bind fun r50 =>
                      (gridhallkeep3_fine.f k [r2.2, r38.2, r46.2, r50.2]).bind fun r51 =>
                      if r51 = true then
                        (gridhallkeep3_sameConvex.f k r46.1 r50.1).bind fun r52 =>
                        if r52 = true then
                          gridhallkeep3_ConvexRing.l4 k x22 (wrap64 (x23 + 1)) xo0_0 xo0_1 xo0_2 xo1_0 xo1_1 xo1_2 xo2_0 xo2_1 xo2_2 xo3
                        else some false
                      else gridhallkeep3_ConvexRing.l4 k x22 (wrap64 (x23 + 1)) xo0_0 xo0_1 xo0_2 xo1_0 xo1_1 xo1_2 xo2_0 xo2_1 xo2_2 xo3
                    else if (rd (.fn [34, 30]) xo3 x23) = 1 then
                      (convexpl_Convolve.f k (xo0_0, xo0_1, xo0_2) r38.1).bind fun r47 =>
                      (gridhallkeep3_fine.f k [r2.2, r38.2, r46.2, r47.2]).bind fun r48 =>
                      if r48 = true then
                        (gridhallkeep3_sameConvex.f k r46.1 r47.1).bind fun r49 =>
                        if r49 = true then
                          gridhallkeep3_ConvexRing.l4 k x22 (wrap64 (x23 + 1)) xo0_0 xo0_1 xo0_2 xo1_0 xo1_1 xo1_2 xo2_0 xo2_1 xo2_2 xo3
                        else some false
                      else gridhallkeep3_ConvexRing.l4 k x22 (wrap64 (x23 + 1)) xo0_0 xo0_1 xo0_2 xo1_0 xo1_1 xo1_2 xo2_0 xo2_1 xo2_2 xo3
                    else none
                  else if (rd (.fn [34, 30]) xo3 x23) = 1 then
                    (convexpl_Convolve.f k r2.1 (xo2_0, xo2_1, xo2_2)).bind fun r39 =>
                    if (rd (.fn [34, 30]) xo3 x23) = 0 then
                      (convexpl_Add.f k (xo0_0, xo0_1, xo0_2) r38.1).bind fun r43 =>
                      (gridhallkeep3_fine.f k [r2.2, r38.2, r39.2, r43.2]).bind fun r44 =>
                      if r44 = true then
                        (gridhallkeep3_sameConvex.f k r39.1 r43.1).bind fun r45 =>
                        if r45 = true then
                          gridhallkeep3_ConvexRing.l4 k x22 (wrap64 (x23 + 1)) xo0_0 xo0_1 xo0_2 xo1_0 xo1_1 xo1_2 xo2_0 xo2_1 xo2_2 xo3
                        else some false
                      else gridhallkeep3_ConvexRing.l4 k x22 (wrap64 (x23 + 1)) xo0_0 xo0_1 xo0_2 xo1_0 xo1_1 xo1_2 xo2_0 xo2_1 xo2_2 xo3
                    else if (rd (.fn [34, 30]) xo3 x23) = 1 then
                      (convexpl_Convolve.f k (xo0_0, xo0_1, xo0_2) r38.1).bind fun r40 =>
                      (gridhallkeep3_fine.f k [r2.2, r38.2, r39.2, r40.2]).bind fun r41 =>
                      if r41 = true then
                        (gridhallkeep3_sameConvex.f k r39.1 r40.1).bind fun r42 =>
                        if r42 = true then
                          gridhallkeep3_ConvexRing.l4 k x22 (wrap64 (x23 + 1)) xo0_0 xo0_1 xo0_2 xo1_0 xo1_1 xo1_2 xo2_0 xo2_1 xo2_2 xo3
                        else some false
                      else gridhallkeep3_ConvexRing.l4 k x22 (wrap64 (x23 + 1)) xo0_0 xo0_1 xo0_2 xo1_0 xo1_1 xo1_2 xo2_0 xo2_1 xo2_2 xo3
                    else none
                  else none
                else none
              else some false
            else none
          else none
        else none
      else none
    else some true
theorem gridhallkeep3_ConvexRing.l4_eq (k : Nat) (x22 : Int) (x23 : Int) (xo0_0 : Int) (xo0_1 : Int) (xo0_2 : List (Int × Int)) (xo1_0 : Int) (xo1_1 : Int) (xo1_2 : List (Int × Int)) (xo2_0 : Int) (xo2_1 : Int) (xo2_2 : List (Int × Int)) (xo3 : List Nat) : gridhallkeep3_ConvexRing.l4 (k + 1) x22 x23 xo0_0 xo0_1 xo0_2 xo1_0 xo1_1 xo1_2 xo2_0 xo2_1 xo2_2 xo3 = if x23 < x22 then
      if 0 ≤ x23 then
        if x23 < (xo3.length : Int) then
          if (rd (.fn [34, 30]) xo3 x23) = 0 then
            (convexpl_Add.f k (xo0_0, xo0_1, xo0_2) (xo1_0, xo1_1, xo1_2)).bind fun r133 =>
            if (rd (.fn [34, 30]) xo3 x23) = 0 then
              (convexpl_Add.f k (xo1_0, xo1_1, xo1_2) (xo0_0, xo0_1, xo0_2)).bind fun r199 =>
              (gridhallkeep3_fine.f k [r133.2]).bind fun r200 =>
              (gridhallkeep3_fine.f k [r199.2]).bind fun r201 =>
              if r200 = r201 then
                (gridhallkeep3_fine.f k [r133.2]).bind fun r202 =>
                if r202 = true then
                  (gridhallkeep3_sameConvex.f k r133.1 r199.1).bind fun r203 =>
                  if r203 = true then
                    if (rd (.fn [34, 30]) xo3 x23) = 0 then
                      (convexpl_Add.f k (xo1_0, xo1_1, xo1_2) (xo2_0, xo2_1, xo2_2)).bind fun r219 =>
                      if (rd (.fn [34, 30]) xo3 x23) = 0 then
                        (convexpl_Add.f k r133.1 (xo2_0, xo2_1, xo2_2)).bind fun r227 =>
                        if (rd (.fn [34, 30]) xo3 x23) = 0 then
                          (convexpl_Add.f k (xo0_0, xo0_1, xo0_2) r219.1).bind fun r231 =>
                          (gridhallkeep3_fine.f k [r133.2, r219.2, r227.2, r231.2]).bind fun r232 =>
                          if r232 = true then
                            (gridhallkeep3_sameConvex.f k r227.1 r231.1).bind fun r233 =>
                            if r233 = true then
                              gridhallkeep3_ConvexRing.l4 k x22 (wrap64 (x23 + 1)) xo0_0 xo0_1 xo0_2 xo1_0 xo1_1 xo1_2 xo2_0 xo2_1 xo2_2 xo3
                            else some false
                          else gridhallkeep3_ConvexRing.l4 k x22 (wrap64 (x23 + 1)) xo0_0 xo0_1 xo0_2 xo1_0 xo1_1 xo1_2 xo2_0 xo2_1 xo2_2 xo3
                        else if (rd (.fn [34, 30]) xo3 x23) = 1 then
                          (convexpl_Convolve.f k (xo0_0, xo0_1, xo0_2) r219.1).bind fun r228 =>
                          (gridhallkeep3_fine.f k [r133.2, r219.2, r227.2, r228.2]).bind fun r229 =>
                          if r229 = true then
                            (gridhallkeep3_sameConvex.f k r227.1 r228.1).bind fun r230 =>
                            if r230 = true then
                              gridhallkeep3_ConvexRing.l4 k x22 (wrap64 (x23 + 1)) xo0_0 xo0_1 xo0_2 xo1_0 xo1_1 xo1_2 xo2_0 xo2_1 xo2_2 xo3
                            else some false
                          else gridhallkeep3_ConvexRing.l4 k x22 (wrap64 (x23 + 1)) xo0_0 xo0_1 xo0_2 xo1_0 xo1_1 xo1_2 xo2_0 xo2_1 xo2_2 xo3
                        else none
                      else if (rd (.fn [34, 30]) xo3 x23) = 1 then
                        (convexpl_Convolve.f k r133.1 (xo2_0, xo2_1, xo2_2)).bind fun r220 =>
                        if (rd (.fn [34, 30]) xo3 x23) = 0 then
                          (convexpl_Add.f k (xo0_0, xo0_1, xo0_2) r219.1).bind fun r224 =>
                          (gridhallkeep3_fine.f k [r133.2, r219.2, r220.2, r224.2]).bind fun r225 =>
                          if r225 = true then
                            (gridhallkeep3_sameConvex.f k r220.1 r224.1).bind fun r226 =>
                            if r226 = true then
                              gridhallkeep3_ConvexRing.l4 k x22 (wrap64 (x23 + 1)) xo0_0 xo0_1 xo0_2 xo1_0 xo1_1 xo1_2 xo2_0 xo2_1 xo2_2 xo3
                            else some false
                          else gridhallkeep3_ConvexRing.l4 k x22 (wrap64 (x23 + 1)) xo0_0 xo0_1 xo0_2 xo1_0 xo1_1 xo1_2 xo2_0 xo2_1 xo2_2 xo3
                        else if (rd (.fn [34, 30]) xo3 x23) = 1 then
                          (convexpl_Convolve.f k (xo0_0, xo0_1, xo0_2) r219.1).bind fun r221 =>
                          (gridhallkeep3_fine.f k [r133.2, r219.2, r220.2, r221.2]).bind fun r222 =>
                          if r222 = true then
                            (gridhallkeep3_sameConvex.f k r220.1 r221.1).bind fun r223 =>
                            if r223 = true then
                              gridhallkeep3_ConvexRing.l4 k x22 (wrap64 (x23 + 1)) xo0_0 xo0_1 xo0_2 xo1_0 xo1_1 xo1_2 xo2_0 xo2_1 xo2_2 xo3
                            else some false
                          else gridhallkeep3_ConvexRing.l4 k x22 (wrap64 (x23 + 1)) xo0_0 xo0_1 xo0_2 xo1_0 xo1_1 xo1_2 xo2_0 xo2_1 xo2_2 xo3
                        else none
                      else none
                    else if (rd (.fn [34, 30]) xo3 x23) = 1 then
                      (convexpl_Convolve.f k (xo1_0, xo1_1, xo1_2) (xo2_0, xo2_1, xo2_2)).bind fun r204 =>
                      if (rd (.fn [34, 30]) xo3 x23) = 0 then
                        (convexpl_Add.f k r133.1 (xo2_0, xo2_1, xo2_2)).bind fun r212 =>
                        if (rd (.fn [34, 30]) xo3 x23) = 0 then
                          (convexpl_Add.f k (xo0_0, xo0_1, xo0_2) r204.1).bind fun r216 =>
                          (gridhallkeep3_fine.f k [r133.2, r204.2, r212.2, r216.2]).bind fun r217 =>
                          if r217 = true then
                            (gridhallkeep3_sameConvex.f k r212.1 r216.1).bind fun r218 =>
                            if r218 = true then
                              gridhallkeep3_ConvexRing.l4 k x22 (wrap64 (x23 + 1)) xo0_0 xo0_1 xo0_2 xo1_0 xo1_1 xo1_2 xo2_0 xo2_1 xo2_2 xo3
                            else some false
                          else gridhallkeep3_ConvexRing.l4 k x22 (wrap64 (x23 + 1)) xo0_0 xo0_1 xo0_2 xo1_0 xo1_1 xo1_2 xo2_0 xo2_1 xo2_2 xo3
                        else if (rd (.fn [34, 30]) xo3 x23) = 1 then
                          (convexpl_Convolve.f k (xo0_0, xo0_1, xo0_2) r204.1).bind fun r213 =>
                          (gridhallkeep3_fine.f k [r133.2, r204.2, r212.2, r213.2]).bind fun r214 =>
                          if r214 = true then
                            (gridhallkeep3_sameConvex.f k r212.1 r213.1).bind fun r215 =>
                            if r215 = true then
                              gridhallkeep3_ConvexRing.l4 k x22 (wrap64 (x23 + 1)) xo0_0 xo0_1 xo0_2 xo1_0 xo1_1 xo1_2 xo2_0 xo2_1 xo2_2 xo3
                            else some false
                          else gridhallkeep3_ConvexRing.l4 k x22 (wrap64 (x23 + 1)) xo0_0 xo0_1 xo0_2 xo1_0 xo1_1 xo1_2 xo2_0 xo2_1 xo2_2 xo3
                        else none
                      else if (rd (.fn [34, 30]) xo3 x23) = 1 then
                        (convexpl_Convolve.f k r133.1 (xo2_0, xo2_1, xo2_2)).bind fun r205 =>
                        if (rd (.fn [34, 30]) xo3 x23) = 0 then
                          (convexpl_Add.f k (xo0_0, xo0_1, xo0_2) r204.1).bind fun r209 =>
                          (gridhallkeep3_fine.f k [r133.2, r204.2, r205.2, r209.2]).bind fun r210 =>
                          if r210 = true then
                            (gridhallkeep3_sameConvex.f k r205.1 r209.1).bind fun r211 =>
                            if r211 = true then
                              gridhallkeep3_ConvexRing.l4 k x22 (wrap64 (x23 + 1)) xo0_0 xo0_1 xo0_2 xo1_0 xo1_1 xo1_2 xo2_0 xo2_1 xo2_2 xo3
                            else some false
                          else gridhallkeep3_ConvexRing.l4 k x22 (wrap64 (x23 + 1)) xo0_0 xo0_1 xo0_2 xo1_0 xo1_1 xo1_2 xo2_0 xo2_1 xo2_2 xo3
                        else if (rd (.fn [34, 30]) xo3 x23) = 1 then
                          (convexpl_Convolve.f k (xo0_0, xo0_1, xo0_2) r204.1).bind fun r206 =>
                          (gridhallkeep3_fine.f k [r133.2, r204.2, r205.2, r206.2]).bind fun r207 =>
                          if r207 = true then
                            (gridhallkeep3_sameConvex.f k r205.1 r206.1).bind fun r208 =>
                            if r208 = true then
                              gridhallkeep3_ConvexRing.l4 k x22 (wrap64 (x23 + 1)) xo0_0 xo0_1 xo0_2 xo1_0 xo1_1 xo1_2 xo2_0 xo2_1 xo2_2 xo3
                            else some false
                          else gridhallkeep3_ConvexRing.l4 k x22 (wrap64 (x23 + 1)) xo0_0 xo0_1 xo0_2 xo1_0 xo1_1 xo1_2 xo2_0 xo2_1 xo2_2 xo3
                        else none
                      else none
                    else none
                  else some false
                else if (rd (.fn [34, 30]) xo3 x23) = 0 then
                  (convexpl_Add.f k (xo1_0, xo1_1, xo1_2) (xo2_0, xo2_1, xo2_2)).bind fun r249 =>
                  if (rd (.fn [34, 30]) xo3 x23) = 0 then
                    (convexpl_Add.f k r133.1 (xo2_0, xo2_1, xo2_2)).bind fun r257 =>
                    if (rd (.fn [34, 30]) xo3 x23) = 0 then
                      (convexpl_Add.f k (xo0_0, xo0_1, xo0_2) r249.1).bind fun r261 =>
                      (gridhallkeep3_fine.f k [r133.2, r249.2, r257.2, r261.2]).bind fun r262 =>
                      if r262 = true then
                        (gridhallkeep3_sameConvex.f k r257.1 r261.1).bind fun r263 =>
                        if r263 = true then
                          gridhallkeep3_ConvexRing.l4 k x22 (wrap64 (x23 + 1)) xo0_0 xo0_1 xo0_2 xo1_0 xo1_1 xo1_2 xo2_0 xo2_1 xo2_2 xo3
                        else some false
                      else gridhallkeep3_ConvexRing.l4 k x22 (wrap64 (x23 + 1)) xo0_0 xo0_1 xo0_2 xo1_0 xo1_1 xo1_2 xo2_0 xo2_1 xo2_2 xo3
                    else if (rd (.fn [34, 30]) xo3 x23) = 1 then
                      (convexpl_Convolve.f k (xo0_0, xo0_1, xo0_2) r249.1).bind fun r258 =>
                      (gridhallkeep3_fine.f k [r133.2, r249.2, r257.2, r258.2]).bind fun r259 =>
                      if r259 = true then
                        (gridhallkeep3_sameConvex.f k r257.1 r258.1).bind fun r260 =>
                        if r260 = true then
                          gridhallkeep3_ConvexRing.l4 k x22 (wrap64 (x23 + 1)) xo0_0 xo0_1 xo0_2 xo1_0 xo1_1 xo1_2 xo2_0 xo2_1 xo2_2 xo3
                        else some false
                      else gridhallkeep3_ConvexRing.l4 k x22 (wrap64 (x23 + 1)) xo0_0 xo0_1 xo0_2 xo1_0 xo1_1 xo1_2 xo2_0 xo2_1 xo2_2 xo3
                    else none
                  else if (rd (.fn [34, 30]) xo3 x23) = 1 then
                    (convexpl_Convolve.f k r133.1 (xo2_0, xo2_1, xo2_2)).bind fun r250 =>
                    if (rd (.fn [34, 30]) xo3 x23) = 0 then
                      (convexpl_Add.f k (xo0_0, xo0_1, xo0_2) r249.1).bind fun r254 =>
                      (gridhallkeep3_fine.f k [r133.2, r249.2, r250.2, r254.2]).bind fun r255 =>
                      if r255 = true then
                        (gridhallkeep3_sameConvex.f k r250.1 r254.1).bind fun r256 =>
                        if r256 = true then
                          gridhallkeep3_ConvexRing.l4 k x22 (wrap64 (x23 + 1)) xo0_0 xo0_1 xo0_2 xo1_0 xo1_1 xo1_2 xo2_0 xo2_1 xo2_2 xo3
                        else some false
                      else gridhallkeep3_ConvexRing.l4 k x22 (wrap64 (x23 + 1)) xo0_0 xo0_1 xo0_2 xo1_0 xo1_1 xo1_2 xo2_0 xo2_1 xo2_2 xo3
                    else if (rd (.fn [34, 30]) xo3 x23) = 1 then
                      (convexpl_Convolve.f k (xo0_0, xo0_1, xo0_2) r249.1).bind fun r251 =>
                      (gridhallkeep3_fine.f k [r133.2, r249.2, r250.2, r251.2]).bind fun r252 =>
                      if r252 = true then
                        (gridhallkeep3_sameConvex.f k r250.1 r251.1).bind fun r253 =>
                        if r253 = true then
                          gridhallkeep3_ConvexRing.l4 k x22 (wrap64 (x23 + 1)) xo0_0 xo0_1 xo0_2 xo1_0 xo1_1 xo1_2 xo2_0 xo2_1 xo2_2 xo3
                        else some false
                      else gridhallkeep3_ConvexRing.l4 k x22 (wrap64 (x23 + 1)) xo0_0 xo0_1 xo0_2 xo1_0 xo1_1 xo1_2 xo2_0 xo2_1 xo2_2 xo3
                    else none
                  else none
                else if (rd (.fn [34, 30]) xo3 x23) = 1 then
                  (convexpl_Convolve.f k (xo1_0, xo1_1, xo1_2) (xo2_0, xo2_1, xo2_2)).bind fun r234 =>
                  if (rd (.fn [34, 30]) xo3 x23) = 0 then
                    (convexpl_Add.f k r133.1 (xo2_0, xo2_1, xo2_2)).bind fun r242 =>
                    if (rd (.fn [34, 30]) xo3 x23) = 0 then
                      (convexpl_Add.f k (xo0_0, xo0_1, xo0_2) r234.1).bind fun r246 =>
                      (gridhallkeep3_fine.f k [r133.2, r234.2, r242.2, r246.2]).bind fun r247 =>
                      if r247 = true then
                        (gridhallkeep3_sameConvex.f k r242.1 r246.1).bind fun r248 =>
                        if r248 = true then
                          gridhallkeep3_ConvexRing.l4 k x22 (wrap64 (x23 + 1)) xo0_0 xo0_1 xo0_2 xo1_0 xo1_1 xo1_2 xo2_0 xo2_1 xo2_2 xo3
                        else some false
                      else gridhallkeep3_ConvexRing.l4 k x22 (wrap64 (x23 + 1)) xo0_0 xo0_1 xo0_2 xo1_0 xo1_1 xo1_2 xo2_0 xo2_1 xo2_2 xo3
                    else if (rd (.fn [34, 30]) xo3 x23) = 1 then
                      (convexpl_Convolve.f k (xo0_0, xo0_1, xo0_2) r234.1).bind fun r243 =>
                      (gridhallkeep3_fine.f k [r133.2, r234.2, r242.2, r243.2]).bind fun r244 =>
                      if r244 = true then
                        (gridhallkeep3_sameConvex.f k r242.1 r243.1).bind fun r245 =>
                        if r245 = true then
                          gridhallkeep3_ConvexRing.l4 k x22 (wrap64 (x23 + 1)) xo0_0 xo0_1 xo0_2 xo1_0 xo1_1 xo1_2 xo2_0 xo2_1 xo2_2 xo3
                        else some false
                      else gridhallkeep3_ConvexRing.l4 k x22 (wrap64 (x23 + 1)) xo0_0 xo0_1 xo0_2 xo1_0 xo1_1 xo1_2 xo2_0 xo2_1 xo2_2 xo3
                    else none
                  else if (rd (.fn [34, 30]) xo3 x23) = 1 then
                    (convexpl_Convolve.f k r133.1 (xo2_0, xo2_1, xo2_2)).bind fun r235 =>
                    if (rd (.fn [34, 30]) xo3 x23) = 0 then
                      (convexpl_Add.f k (xo0_0, xo0_1, xo0_2) r234.1).bind fun r239 =>
                      (gridhallkeep3_fine.f k [r133.2, r234.2, r235.2, r239.2]).bind fun r240 =>
                      if r240 = true then
                        (gridhallkeep3_sameConvex.f k r235.1 r239.1).bind fun r241 =>
                        if r241 = true then
                          gridhallkeep3_ConvexRing.l4 k x22 (wrap64 (x23 + 1)) xo0_0 xo0_1 xo0_2 xo1_0 xo1_1 xo1_2 xo2_0 xo2_1 xo2_2 xo3
                        else some false
                      else gridhallkeep3_ConvexRing.l4 k x22 (wrap64 (x23 + 1)) xo0_0 xo0_1 xo0_2 xo1_0 xo1_1 xo1_2 xo2_0 xo2_1 xo2_2 xo3
                    else if (rd (.fn [34, 30]) xo3 x23) = 1 then
                      (convexpl_Convolve.f k (xo0_0, xo0_1, xo0_2) r234.1).bind fun r236 =>
                      (gridhallkeep3_fine.f k [r133.2, r234.2, r235.2, r236.2]).bind fun r237 =>
                      if r237 = true then
                        (gridhallkeep3_sameConvex.f k r235.1 r236.1).bind fun r238 =>
                        if r238 = true then
                          gridhallkeep3_ConvexRing.l4 k x22 (wrap64 (x23 + 1)) xo0_0 xo0_1 xo0_2 xo1_0 xo1_1 xo1_2 xo2_0 xo2_1 xo2_2 xo3
                        else some false
                      else gridhallkeep3_ConvexRing.l4 k x22 (wrap64 (x23 + 1)) xo0_0 xo0_1 xo0_2 xo1_0 xo1_1 xo1_2 xo2_0 xo2_1 xo2_2 xo3
                    else none
                  else none
                else none
              else some false
            else if (rd (.fn [34, 30]) xo3 x23) = 1 then
              (convexpl_Convolve.f k (xo1_0, xo1_1, xo1_2) (xo0_0, xo0_1, xo0_2)).bind fun r134 =>
              (gridhallkeep3_fine.f k [r133.2]).bind fun r135 =>
              (gridhallkeep3_fine.f k [r134.2]).bind fun r136 =>
              if r135 = r136 then
                (gridhallkeep3_fine.f k [r133.2]).bind fun r137 =>
                if r137 = true then
                  (gridhallkeep3_sameConvex.f k r133.1 r134.1).bind fun r138 =>
                  if r138 = true then
                    if (rd (.fn [34, 30]) xo3 x23) = 0 then
                      (convexpl_Add.f k (xo1_0, xo1_1, xo1_2) (xo2_0, xo2_1, xo2_2)).bind fun r154 =>
                      if (rd (.fn [34, 30]) xo3 x23) = 0 then
                        (convexpl_Add.f k r133.1 (xo2_0, xo2_1, xo2_2)).bind fun r162 =>
                        if (rd (.fn [34, 30]) xo3 x23) = 0 then
                          (convexpl_Add.f k (xo0_0, xo0_1, xo0_2) r154.1).bind fun r166 =>
                          (gridhallkeep3_fine.f k [r133.2, r154.2, r162.2, r166.2]).bind fun r167 =>
                          if r167 = true then
                            (gridhallkeep3_sameConvex.f k r162.1 r166.1).bind fun r168 =>
                            if r168 = true then
                              gridhallkeep3_ConvexRing.l4 k x22 (wrap64 (x23 + 1)) xo0_0 xo0_1 xo0_2 xo1_0 xo1_1 xo1_2 xo2_0 xo2_1 xo2_2 xo3
                            else some false
                          else gridhallkeep3_ConvexRing.l4 k x22 (wrap64 (x23 + 1)) xo0_0 xo0_1 xo0_2 xo1_0 xo1_1 xo1_2 xo2_0 xo2_1 xo2_2 xo3
                        else if (rd (.fn [34, 30]) xo3 x23) = 1 then
                          (convexpl_Convolve.f k (xo0_0, xo0_1, xo0_2) r154.1).bind fun r163 =>
                          (gridhallkeep3_fine.f k [r133.2, r154.2, r162.2, r163.2]).bind fun r164 =>
                          if r164 = true then
                            (gridhallkeep3_sameConvex.f k r162.1 r163.1).bind fun r165 =>
                            if r165 = true then
                              gridhallkeep3_ConvexRing.l4 k x22 (wrap64 (x23 + 1)) xo0_0 xo0_1 xo0_2 xo1_0 xo1_1 xo1_2 xo2_0 xo2_1 xo2_2 xo3
                            else some false
                          else gridhallkeep3_ConvexRing.l4 k x22 (wrap64 (x23 + 1)) xo0_0 xo0_1 xo0_2 xo1_0 xo1_1 xo1_2 xo2_0 xo2_1 xo2_2 xo3
                        else none
                      else if (rd (.fn [34, 30]) xo3 x23) = 1 then
                        (convexpl_Convolve.f k r133.1 (xo2_0, xo2_1, xo2_2)).bind fun r155 =>
                        if (rd (.fn [34, 30]) xo3 x23) = 0 then
                          (convexpl_Add.f k (xo0_0, xo0_1, xo0_2) r154.1).bind fun r159 =>
                          (gridhallkeep3_fine.f k [r133.2, r154.2, r155.2, r159.2]).bind fun r160 =>
                          if r160 = true then
                            (gridhallkeep3_sameConvex.f k r155.1 r159.1).bind fun r161 =>
                            if r161 = true then
                              gridhallkeep3_ConvexRing.l4 k x22 (wrap64 (x23 + 1)) xo0_0 xo0_1 xo0_2 xo1_0 xo1_1 xo1_2 xo2_0 xo2_1 xo2_2 xo3
                            else some false
                          else gridhallkeep3_ConvexRing.l4 k x22 (wrap64 (x23 + 1)) xo0_0 xo0_1 xo0_2 xo1_0 xo1_1 xo1_2 xo2_0 xo2_1 xo2_2 xo3
                        else if (rd (.fn [34, 30]) xo3 x23) = 1 then
                          (convexpl_Convolve.f k (xo0_0, xo0_1, xo0_2) r154.1).bind fun r156 =>
                          (gridhallkeep3_fine.f k [r133.2, r154.2, r155.2, r156.2]).bind fun r157 =>
                          if r157 = true then
                            (gridhallkeep3_sameConvex.f k r155.1 r156.1).bind fun r158 =>
                            if r158 = true then
                              gridhallkeep3_ConvexRing.l4 k x22 (wrap64 (x23 + 1)) xo0_0 xo0_1 xo0_2 xo1_0 xo1_1 xo1_2 xo2_0 xo2_1 xo2_2 xo3
                            else some false
                          else gridhallkeep3_ConvexRing.l4 k x22 (wrap64 (x23 + 1)) xo0_0 xo0_1 xo0_2 xo1_0 xo1_1 xo1_2 xo2_0 xo2_1 xo2_2 xo3
                        else none
                      else none
                    else if (rd (.fn [34, 30]) xo3 x23) = 1 then
                      (convexpl_Convolve.f k (xo1_0, xo1_1, xo1_2) (xo2_0, xo2_1, xo2_2)).bind fun r139 =>
                      if (rd (.fn [34, 30]) xo3 x23) = 0 then
                        (convexpl_Add.f k r133.1 (xo2_0, xo2_1, xo2_2)).bind fun r147 =>
                        if (rd (.fn [34, 30]) xo3 x23) = 0 then
                          (convexpl_Add.f k (xo0_0, xo0_1, xo0_2) r139.1).bind fun r151 =>
                          (gridhallkeep3_fine.f k [r133.2, r139.2, r147.2, r151.2]).bind fun r152 =>
                          if r152 = true then
                            (gridhallkeep3_sameConvex.f k r147.1 r151.1).bind fun r153 =>
                            if r153 = true then
                              gridhallkeep3_ConvexRing.l4 k x22 (wrap64 (x23 + 1)) xo0_0 xo0_1 xo0_2 xo1_0 xo1_1 xo1_2 xo2_0 xo2_1 xo2_2 xo3
                            else some false
                          else gridhallkeep3_ConvexRing.l4 k x22 (wrap64 (x23 + 1)) xo0_0 xo0_1 xo0_2 xo1_0 xo1_1 xo1_2 xo2_0 xo2_1 xo2_2 xo3
                        else if (rd (.fn [34, 30]) xo3 x23) = 1 then
                          (convexpl_Convolve.f k (xo0_0, xo0_1, xo0_2) r139.1).bind fun r148 =>
                          (gridhallkeep3_fine.f k [r133.2, r139.2, r147.2, r148.2]).bind fun r149 =>
                          if r149 = true then
                            (gridhallkeep3_sameConvex.f k r147.1 r148.1).bind fun r150 =>
                            if r150 = true then
                              gridhallkeep3_ConvexRing.l4 k x22 (wrap64 (x23 + 1)) xo0_0 xo0_1 xo0_2 xo1_0 xo1_1 xo1_2 xo2_0 xo2_1 xo2_2 xo3
                            else some false
                          else gridhallkeep3_ConvexRing.l4 k x22 (wrap64 (x23 + 1)) xo0_0 xo0_1 xo0_2 xo1_0 xo1_1 xo1_2 xo2_0 xo2_1 xo2_2 xo3
                        else none
                      else if (rd (.fn [34, 30]) xo3 x23) = 1 then
                        (convexpl_Convolve.f k r133.1 (xo2_0, xo2_1, xo2_2)).bind fun r140 =>
                        if (rd (.fn [34, 30]) xo3 x23) = 0 then
                          (convexpl_Add.f k (xo0_0, xo0_1, xo0_2) r139.1).bind fun r144 =>
                          (gridhallkeep3_fine.f k [r133.2, r139.2, r140.2, r144.2]).bind fun r145 =>
                          if r145 = true then
                            (gridhallkeep3_sameConvex.f k r140.1 r144.1).bind fun r146 =>
                            if r146 = true then
                              gridhallkeep3_ConvexRing.l4 k x22 (wrap64 (x23 + 1)) xo0_0 xo0_1 xo0_2 xo1_0 xo1_1 xo1_2 xo2_0 xo2_1 xo2_2 xo3
                            else some false
                          else gridhallkeep3_ConvexRing.l4 k x22 (wrap64 (x23 + 1)) xo0_0 xo0_1 xo0_2 xo1_0 xo1_1 xo1_2 xo2_0 xo2_1 xo2_2 xo3
                        else if (rd (.fn [34, 30]) xo3 x23) = 1 then
                          (convexpl_Convolve.f k (xo0_0, xo0_1, xo0_2) r139.1).bind fun r141 =>
                          (gridhallkeep3_fine.f k [r133.2, r139.2, r140.2, r141.2]).bind fun r142 =>
                          if r142 = true then
                            (gridhallkeep3_sameConvex.f k r140.1 r141.1).bind fun r143 =>
                            if r143 = true then
                              gridhallkeep3_ConvexRing.l4 k x22 (wrap64 (x23 + 1)) xo0_0 xo0_1 xo0_2 xo1_0 xo1_1 xo1_2 xo2_0 xo2_1 xo2_2 xo3
                            else some false
                          else gridhallkeep3_ConvexRing.l4 k x22 (wrap64 (x23 + 1)) xo0_0 xo0_1 xo0_2 xo1_0 xo1_1 xo1_2 xo2_0 xo2_1 xo2_2 xo3
                        else none
                      else none
                    else none
                  else some false
                else if (rd (.fn [34, 30]) xo3 x23) = 0 then
                  (convexpl_Add.f k (xo1_0, xo1_1, xo1_2) (xo2_0, xo2_1, xo2_2)).bind fun r184 =>
                  if (rd (.fn [34, 30]) xo3 x23) = 0 then
                    (convexpl_Add.f k r133.1 (xo2_0, xo2_1, xo2_2)).bind fun r192 =>
                    if (rd (.fn [34, 30]) xo3 x23) = 0 then
                      (convexpl_Add.f k (xo0_0, xo0_1, xo0_2) r184.1).bind fun r196 =>
                      (gridhallkeep3_fine.f k [r133.2, r184.2, r192.2, r196.2]).bind fun r197 =>
                      if r197 = true then
                        (gridhallkeep3_sameConvex.f k r192.1 r196.1).bind fun r198 =>
                        if r198 = true then
                          gridhallkeep3_ConvexRing.l4 k x22 (wrap64 (x23 + 1)) xo0_0 xo0_1 xo0_2 xo1_0 xo1_1 xo1_2 xo2_0 xo2_1 xo2_2 xo3
                        else some false
                      else gridhallkeep3_ConvexRing.l4 k x22 (wrap64 (x23 + 1)) xo0_0 xo0_1 xo0_2 xo1_0 xo1_1 xo1_2 xo2_0 xo2_1 xo2_2 xo3
                    else if (rd (.fn [34, 30]) xo3 x23) = 1 then
                      (convexpl_Convolve.f k (xo0_0, xo0_1, xo0_2) r184.1).bind fun r193 =>
                      (gridhallkeep3_fine.f k [r133.2, r184.2, r192.2, r193.2]).bind fun r194 =>
                      if r194 = true then
                        (gridhallkeep3_sameConvex.f k r192.1 r193.1).bind fun r195 =>
                        if r195 = true then
                          gridhallkeep3_ConvexRing.l4 k x22 (wrap64 (x23 + 1)) xo0_0 xo0_1 xo0_2 xo1_0 xo1_1 xo1_2 xo2_0 xo2_1 xo2_2 xo3
                        else some false
                      else gridhallkeep3_ConvexRing.l4 k x22 (wrap64 (x23 + 1)) xo0_0 xo0_1 xo0_2 xo1_0 xo1_1 xo1_2 xo2_0 xo2_1 xo2_2 xo3
                    else none
                  else if (rd (.fn [34, 30]) xo3 x23) = 1 then
                    (convexpl_Convolve.f k r133.1 (xo2_0, xo2_1, xo2_2)).bind fun r185 =>
                    if (rd (.fn [34, 30]) xo3 x23) = 0 then
                      (convexpl_Add.f k (xo0_0, xo0_1, xo0_2) r184.1).bind fun r189 =>
                      (gridhallkeep3_fine.f k [r133.2, r184.2, r185.2, r189.2]).bind fun r190 =>
                      if r190 = true then
                        (gridhallkeep3_sameConvex.f k r185.1 r189.1).bind fun r191 =>
                        if r191 = true then
                          gridhallkeep3_ConvexRing.l4 k x22 (wrap64 (x23 + 1)) xo0_0 xo0_1 xo0_2 xo1_0 xo1_1 xo1_2 xo2_0 xo2_1 xo2_2 xo3
                        else some false
                      else gridhallkeep3_ConvexRing.l4 k x22 (wrap64 (x23 + 1)) xo0_0 xo0_1 xo0_2 xo1_0 xo1_1 xo1_2 xo2_0 xo2_1 xo2_2 xo3
                    else if (rd (.fn [34, 30]) xo3 x23) = 1 then
                      (convexpl_Convolve.f k (xo0_0, xo0_1, xo0_2) r184.1).bind fun r186 =>
                      (gridhallkeep3_fine.f k [r133.2, r184.2, r185.2, r186.2]).bind fun r187 =>
                      if r187 = true then
                        (gridhallkeep3_sameConvex.f k r185.1 r186.1).bind fun r188 =>
                        if r188 = true then
                          gridhallkeep3_ConvexRing.l4 k x22 (wrap64 (x23 + 1)) xo0_0 xo0_1 xo0_2 xo1_0 xo1_1 xo1_2 xo2_0 xo2_1 xo2_2 xo3
                        else some false
                      else gridhallkeep3_ConvexRing.l4 k x22 (wrap64 (x23 + 1)) xo0_0 xo0_1 xo0_2 xo1_0 xo1_1 xo1_2 xo2_0 xo2_1 xo2_2 xo3
                    else none
                  else none
                else if (rd (.fn [34, 30]) xo3 x23) = 1 then
                  (convexpl_Convolve.f k (xo1_0, xo1_1, xo1_2) (xo2_0, xo2_1, xo2_2)).bind fun r169 =>
                  if (rd (.fn [34, 30]) xo3 x23) = 0 then
                    (convexpl_Add.f k r133.1 (xo2_0, xo2_1, xo2_2)).bind fun r177 =>
                    if (rd (.fn [34, 30]) xo3 x23) = 0 then
                      (convexpl_Add.f k (xo0_0, xo0_1, xo0_2) r169.1).bind fun r181 =>
                      (gridhallkeep3_fine.f k [r133.2, r169.2, r177.2, r181.2]).bind fun r182 =>
                      if r182 = true then
                        (gridhallkeep3_sameConvex.f k r177.1 r181.1).bind fun r183 =>
                        if r183 = true then
                          gridhallkeep3_ConvexRing.l4 k x22 (wrap64 (x23 + 1)) xo0_0 xo0_1 xo0_2 xo1_0 xo1_1 xo1_2 xo2_0 xo2_1 xo2_2 xo3
                        else some false
                      else gridhallkeep3_ConvexRing.l4 k x22 (wrap64 (x23 + 1)) xo0_0 xo0_1 xo0_2 xo1_0 xo1_1 xo1_2 xo2_0 xo2_1 xo2_2 xo3
                    else if (rd (.fn [34, 30]) xo3 x23) = 1 then
                      (convexpl_Convolve.f k (xo0_0, xo0_1, xo0_2) r169.1).bind fun r178 =>
                      (gridhallkeep3_fine.f k [r133.2, r169.2, r177.2, r178.2]).bind fun r179 =>
                      if r179 = true then
                        (gridhallkeep3_sameConvex.f k r177.1 r178.1).bind fun r180 =>
                        if r180 = true then
                          gridhallkeep3_ConvexRing.l4 k x22 (wrap64 (x23 + 1)) xo0_0 xo0_1 xo0_2 xo1_0 xo1_1 xo1_2 xo2_0 xo2_1 xo2_2 xo3
                        else some false
                      else gridhallkeep3_ConvexRing.l4 k x22 (wrap64 (x23 + 1)) xo0_0 xo0_1 xo0_2 xo1_0 xo1_1 xo1_2 xo2_0 xo2_1 xo2_2 xo3
                    else none
                  else if (rd (.fn [34, 30]) xo3 x23) = 1 then
                    (convexpl_Convolve.f k r133.1 (xo2_0, xo2_1, xo2_2)).bind fun r170 =>
                    if (rd (.fn [34, 30]) xo3 x23) = 0 then
                      (convexpl_Add.f k (xo0_0, xo0_1, xo0_2) r169.1).bind fun r174 =>
                      (gridhallkeep3_fine.f k [r133.2, r169.2, r170.2, r174.2]).bind fun r175 =>
                      if r175 = true then
                        (gridhallkeep3_sameConvex.f k r170.1 r174.1).bind fun r176 =>
                        if r176 = true then
                          gridhallkeep3_ConvexRing.l4 k x22 (wrap64 (x23 + 1)) xo0_0 xo0_1 xo0_2 xo1_0 xo1_1 xo1_2 xo2_0 xo2_1 xo2_2 xo3
                        else some false
                      else gridhallkeep3_ConvexRing.l4 k x22 (wrap64 (x23 + 1)) xo0_0 xo0_1 xo0_2 xo1_0 xo1_1 xo1_2 xo2_0 xo2_1 xo2_2 xo3
                    else if (rd (.fn [34, 30]) xo3 x23) = 1 then
                      (convexpl_Convolve.f k (xo0_0, xo0_1, xo0_2) r169.1).bind fun r171 =>
                      (gridhallkeep3_fine.f k [r133.2, r169.2, r170.2, r171.2]).bind fun r172 =>
                      if r172 = true then
                        (gridhallkeep3_sameConvex.f k r170.1 r171.1).bind fun r173 =>
                        if r173 = true then
                          gridhallkeep3_ConvexRing.l4 k x22 (wrap64 (x23 + 1)) xo0_0 xo0_1 xo0_2 xo1_0 xo1_1 xo1_2 xo2_0 xo2_1 xo2_2 xo3
                        else some false
                      else gridhallkeep3_ConvexRing.l4 k x22 (wrap64 (x23 + 1)) xo0_0 xo0_1 xo0_2 xo1_0 xo1_1 xo1_2 xo2_0 xo2_1 xo2_2 xo3
                    else none
                  else none
                else none
              else some false
            else none
          else if (rd (.fn [34, 30]) xo3 x23) = 1 then
            (convexpl_Convolve.f k (xo0_0, xo0_1, xo0_2) (xo1_0, xo1_1, xo1_2)).bind fun r2 =>
            if (rd (.fn [34, 30]) xo3 x23) = 0 then
              (convexpl_Add.f k (xo1_0, xo1_1, xo1_2) (xo0_0, xo0_1, xo0_2)).bind fun r68 =>
              (gridhallkeep3_fine.f k [r2.2]).bind fun r69 =>
              (gridhallkeep3_fine.f k [r68.2]).bind fun r70 =>
              if r69 = r70 then
                (gridhallkeep3_fine.f k [r2.2]).bind fun r71 =>
                if r71 = true then
                  (gridhallkeep3_sameConvex.f k r2.1 r68.1).bind fun r72 =>
                  if r72 = true then
                    if (rd (.fn [34, 30]) xo3 x23) = 0 then
                      (convexpl_Add.f k (xo1_0, xo1_1, xo1_2) (xo2_0, xo2_1, xo2_2)).bind fun r88 =>
                      if (rd (.fn [34, 30]) xo3 x23) = 0 then
                        (convexpl_Add.f k r2.1 (xo2_0, xo2_1, xo2_2)).bind fun r96 =>
                        if (rd (.fn [34, 30]) xo3 x23) = 0 then
                          (convexpl_Add.f k (xo0_0, xo0_1, xo0_2) r88.1).bind fun r100 =>
                          (gridhallkeep3_fine.f k [r2.2, r88.2, r96.2, r100.2]).bind fun r101 =>
                          if r101 = true then
                            (gridhallkeep3_sameConvex.f k r96.1 r100.1).bind fun r102 =>
                            if r102 = true then
                              gridhallkeep3_ConvexRing.l4 k x22 (wrap64 (x23 + 1)) xo0_0 xo0_1 xo0_2 xo1_0 xo1_1 xo1_2 xo2_0 xo2_1 xo2_2 xo3
                            else some false
                          else gridhallkeep3_ConvexRing.l4 k x22 (wrap64 (x23 + 1)) xo0_0 xo0_1 xo0_2 xo1_0 xo1_1 xo1_2 xo2_0 xo2_1 xo2_2 xo3
                        else if (rd (.fn [34, 30]) xo3 x23) = 1 then
                          (convexpl_Convolve.f k (xo0_0, xo0_1, xo0_2) r88.1).bind fun r97 =>
                          (gridhallkeep3_fine.f k [r2.2, r88.2, r96.2, r97.2]).bind fun r98 =>
                          if r98 = true then
                            (gridhallkeep3_sameConvex.f k r96.1 r97.1).bind fun r99 =>
                            if r99 = true then
                              gridhallkeep3_ConvexRing.l4 k x22 (wrap64 (x23 + 1)) xo0_0 xo0_1 xo0_2 xo1_0 xo1_1 xo1_2 xo2_0 xo2_1 xo2_2 xo3
                            else some false
                          else gridhallkeep3_ConvexRing.l4 k x22 (wrap64 (x23 + 1)) xo0_0 xo0_1 xo0_2 xo1_0 xo1_1 xo1_2 xo2_0 xo2_1 xo2_2 xo3
                        else none
                      else if (rd (.fn [34, 30]) xo3 x23) = 1 then
                        (convexpl_Convolve.f k r2.1 (xo2_0, xo2_1, xo2_2)).bind fun r89 =>
                        if (rd (.fn [34, 30]) xo3 x23) = 0 then
                          (convexpl_Add.f k (xo0_0, xo0_1, xo0_2) r88.1).bind fun r93 =>
                          (gridhallkeep3_fine.f k [r2.2, r88.2, r89.2, r93.2]).bind fun r94 =>
                          if r94 = true then
                            (gridhallkeep3_sameConvex.f k r89.1 r93.1).bind fun r95 =>
                            if r95 = true then
                              gridhallkeep3_ConvexRing.l4 k x22 (wrap64 (x23 + 1)) xo0_0 xo0_1 xo0_2 xo1_0 xo1_1 xo1_2 xo2_0 xo2_1 xo2_2 xo3
                            else some false
                          else gridhallkeep3_ConvexRing.l4 k x22 (wrap64 (x23 + 1)) xo0_0 xo0_1 xo0_2 xo1_0 xo1_1 xo1_2 xo2_0 xo2_1 xo2_2 xo3
                        else if (rd (.fn [34, 30]) xo3 x23) = 1 then
                          (convexpl_Convolve.f k (xo0_0, xo0_1, xo0_2) r88.1).bind fun r90 =>
                          (gridhallkeep3_fine.f k [r2.2, r88.2, r89.2, r90.2]).bind fun r91 =>
                          if r91 = true then
                            (gridhallkeep3_sameConvex.f k r89.1 r90.1).bind fun r92 =>
                            if r92 = true then
                              gridhallkeep3_ConvexRing.l4 k x22 (wrap64 (x23 + 1)) xo0_0 xo0_1 xo0_2 xo1_0 xo1_1 xo1_2 xo2_0 xo2_1 xo2_2 xo3
                            else some false
                          else gridhallkeep3_ConvexRing.l4 k x22 (wrap64 (x23 + 1)) xo0_0 xo0_1 xo0_2 xo1_0 xo1_1 xo1_2 xo2_0 xo2_1 xo2_2 xo3
                        else none
                      else none
                    else if (rd (.fn [34, 30]) xo3 x23) = 1 then
                      (convexpl_Convolve.f k (xo1_0, xo1_1, xo1_2) (xo2_0, xo2_1, xo2_2)).bind fun r73 =>
                      if (rd (.fn [34, 30]) xo3 x23) = 0 then
                        (convexpl_Add.f k r2.1 (xo2_0, xo2_1, xo2_2)).bind fun r81 =>
                        if (rd (.fn [34, 30]) xo3 x23) = 0 then
                          (convexpl_Add.f k (xo0_0, xo0_1, xo0_2) r73.1).bind fun r85 =>
                          (gridhallkeep3_fine.f k [r2.2, r73.2, r81.2, r85.2]).bind fun r86 =>
                          if r86 = true then
                            (gridhallkeep3_sameConvex.f k r81.1 r85.1).bind fun r87 =>
                            if r87 = true then
                              gridhallkeep3_ConvexRing.l4 k x22 (wrap64 (x23 + 1)) xo0_0 xo0_1 xo0_2 xo1_0 xo1_1 xo1_2 xo2_0 xo2_1 xo2_2 xo3
                            else some false
                          else gridhallkeep3_ConvexRing.l4 k x22 (wrap64 (x23 + 1)) xo0_0 xo0_1 xo0_2 xo1_0 xo1_1 xo1_2 xo2_0 xo2_1 xo2_2 xo3
                        else if (rd (.fn [34, 30]) xo3 x23) = 1 then
                          (convexpl_Convolve.f k (xo0_0, xo0_1, xo0_2) r73.1).bind fun r82 =>
                          (gridhallkeep3_fine.f k [r2.2, r73.2, r81.2, r82.2]).bind fun r83 =>
                          if r83 = true then
                            (gridhallkeep3_sameConvex.f k r81.1 r82.1).bind fun r84 =>
                            if r84 = true then
                              gridhallkeep3_ConvexRing.l4 k x22 (wrap64 (x23 + 1)) xo0_0 xo0_1 xo0_2 xo1_0 xo1_1 xo1_2 xo2_0 xo2_1 xo2_2 xo3
                            else some false
                          else gridhallkeep3_ConvexRing.l4 k x22 (wrap64 (x23 + 1)) xo0_0 xo0_1 xo0_2 xo1_0 xo1_1 xo1_2 xo2_0 xo2_1 xo2_2 xo3
                        else none
                      else if (rd (.fn [34, 30]) xo3 x23) = 1 then
                        (convexpl_Convolve.f k r2.1 (xo2_0, xo2_1, xo2_2)).bind fun r74 =>
                        if (rd (.fn [34, 30]) xo3 x23) = 0 then
                          (convexpl_Add.f k (xo0_0, xo0_1, xo0_2) r73.1).bind fun r78 =>
                          (gridhallkeep3_fine.f k [r2.2, r73.2, r74.2, r78.2]).bind fun r79 =>
                          if r79 = true then
                            (gridhallkeep3_sameConvex.f k r74.1 r78.1).bind fun r80 =>
                            if r80 = true then
                              gridhallkeep3_ConvexRing.l4 k x22 (wrap64 (x23 + 1)) xo0_0 xo0_1 xo0_2 xo1_0 xo1_1 xo1_2 xo2_0 xo2_1 xo2_2 xo3
                            else some false
                          else gridhallkeep3_ConvexRing.l4 k x22 (wrap64 (x23 + 1)) xo0_0 xo0_1 xo0_2 xo1_0 xo1_1 xo1_2 xo2_0 xo2_1 xo2_2 xo3
                        else if (rd (.fn [34, 30]) xo3 x23) = 1 then
                          (convexpl_Convolve.f k (xo0_0, xo0_1, xo0_2) r73.1).bind fun r75 =>
                          (gridhallkeep3_fine.f k [r2.2, r73.2, r74.2, r75.2]).bind fun r76 =>
                          if r76 = true then
                            (gridhallkeep3_sameConvex.f k r74.1 r75.1).bind fun r77 =>
                            if r77 = true then
                              gridhallkeep3_ConvexRing.l4 k x22 (wrap64 (x23 + 1)) xo0_0 xo0_1 xo0_2 xo1_0 xo1_1 xo1_2 xo2_0 xo2_1 xo2_2 xo3
                            else some false
                          else gridhallkeep3_ConvexRing.l4 k x22 (wrap64 (x23 + 1)) xo0_0 xo0_1 xo0_2 xo1_0 xo1_1 xo1_2 xo2_0 xo2_1 xo2_2 xo3
                        else none
                      else none
                    else none
                  else some false
                else if (rd (.fn [34, 30]) xo3 x23) = 0 then
                  (convexpl_Add.f k (xo1_0, xo1_1, xo1_2) (xo2_0, xo2_1, xo2_2)).bind fun r118 =>
                  if (rd (.fn [34, 30]) xo3 x23) = 0 then
                    (convexpl_Add.f k r2.1 (xo2_0, xo2_1, xo2_2)).bind fun r126 =>
                    if (rd (.fn [34, 30]) xo3 x23) = 0 then
                      (convexpl_Add.f k (xo0_0, xo0_1, xo0_2) r118.1).bind fun r130 =>
                      (gridhallkeep3_fine.f k [r2.2, r118.2, r126.2, r130.2]).bind fun r131 =>
                      if r131 = true then
                        (gridhallkeep3_sameConvex.f k r126.1 r130.1).bind fun r132 =>
                        if r132 = true then
                          gridhallkeep3_ConvexRing.l4 k x22 (wrap64 (x23 + 1)) xo0_0 xo0_1 xo0_2 xo1_0 xo1_1 xo1_2 xo2_0 xo2_1 xo2_2 xo3
                        else some false
                      else gridhallkeep3_ConvexRing.l4 k x22 (wrap64 (x23 + 1)) xo0_0 xo0_1 xo0_2 xo1_0 xo1_1 xo1_2 xo2_0 xo2_1 xo2_2 xo3
                    else if (rd (.fn [34, 30]) xo3 x23) = 1 then
                      (convexpl_Convolve.f k (xo0_0, xo0_1, xo0_2) r118.1).bind fun r127 =>
                      (gridhallkeep3_fine.f k [r2.2, r118.2, r126.2, r127.2]).bind fun r128 =>
                      if r128 = true then
                        (gridhallkeep3_sameConvex.f k r126.1 r127.1).bind fun r129 =>
                        if r129 = true then
                          gridhallkeep3_ConvexRing.l4 k x22 (wrap64 (x23 + 1)) xo0_0 xo0_1 xo0_2 xo1_0 xo1_1 xo1_2 xo2_0 xo2_1 xo2_2 xo3
                        else some false
                      else gridhallkeep3_ConvexRing.l4 k x22 (wrap64 (x23 + 1)) xo0_0 xo0_1 xo0_2 xo1_0 xo1_1 xo1_2 xo2_0 xo2_1 xo2_2 xo3
                    else none
                  else if (rd (.fn [34, 30]) xo3 x23) = 1 then
                    (convexpl_Convolve.f k r2.1 (xo2_0, xo2_1, xo2_2)).bind fun r119 =>
                    if (rd (.fn [34, 30]) xo3 x23) = 0 then
                      (convexpl_Add.f k (xo0_0, xo0_1, xo0_2) r118.1).bind fun r123 =>
                      (gridhallkeep3_fine.f k [r2.2, r118.2, r119.2, r123.2]).bind fun r124 =>
                      if r124 = true then
                        (gridhallkeep3_sameConvex.f k r119.1 r123.1).bind fun r125 =>
                        if r125 = true then
                          gridhallkeep3_ConvexRing.l4 k x22 (wrap64 (x23 + 1)) xo0_0 xo0_1 xo0_2 xo1_0 xo1_1 xo1_2 xo2_0 xo2_1 xo2_2 xo3
                        else some false
                      else gridhallkeep3_ConvexRing.l4 k x22 (wrap64 (x23 + 1)) xo0_0 xo0_1 xo0_2 xo1_0 xo1_1 xo1_2 xo2_0 xo2_1 xo2_2 xo3
                    else if (rd (.fn [34, 30]) xo3 x23) = 1 then
                      (convexpl_Convolve.f k (xo0_0, xo0_1, xo0_2) r118.1).bind fun r120 =>
                      (gridhallkeep3_fine.f k [r2.2, r118.2, r119.2, r120.2]).bind fun r121 =>
                      if r121 = true then
                        (gridhallkeep3_sameConvex.f k r119.1 r120.1).bind fun r122 =>
                        if r122 = true then
                          gridhallkeep3_ConvexRing.l4 k x22 (wrap64 (x23 + 1)) xo0_0 xo0_1 xo0_2 xo1_0 xo1_1 xo1_2 xo2_0 xo2_1 xo2_2 xo3
                        else some false
                      else gridhallkeep3_ConvexRing.l4 k x22 (wrap64 (x23 + 1)) xo0_0 xo0_1 xo0_2 xo1_0 xo1_1 xo1_2 xo2_0 xo2_1 xo2_2 xo3
                    else none
                  else none
                else if (rd (.fn [34, 30]) xo3 x23) = 1 then
                  (convexpl_Convolve.f k (xo1_0, xo1_1, xo1_2) (xo2_0, xo2_1, xo2_2)).bind fun r103 =>
                  if (rd (.fn [34, 30]) xo3 x23) = 0 then
                    (convexpl_Add.f k r2.1 (xo2_0, xo2_1, xo2_2)).bind fun r111 =>
                    if (rd (.fn [34, 30]) xo3 x23) = 0 then
                      (convexpl_Add.f k (xo0_0, xo0_1, xo0_2) r103.1).bind fun r115 =>
                      (gridhallkeep3_fine.f k [r2.2, r103.2, r111.2, r115.2]).bind fun r116 =>
                      if r116 = true then
                        (gridhallkeep3_sameConvex.f k r111.1 r115.1).bind fun r117 =>
                        if r117 = true then
                          gridhallkeep3_ConvexRing.l4 k x22 (wrap64 (x23 + 1)) xo0_0 xo0_1 xo0_2 xo1_0 xo1_1 xo1_2 xo2_0 xo2_1 xo2_2 xo3
                        else some false
                      else gridhallkeep3_ConvexRing.l4 k x22 (wrap64 (x23 + 1)) xo0_0 xo0_1 xo0_2 xo1_0 xo1_1 xo1_2 xo2_0 xo2_1 xo2_2 xo3
                    else if (rd (.fn [34, 30]) xo3 x23) = 1 then
                      (convexpl_Convolve.f k (xo0_0, xo0_1, xo0_2) r103.1).bind fun r112 =>
                      (gridhallkeep3_fine.f k [r2.2, r103.2, r111.2, r112.2]).bind fun r113 =>
                      if r113 = true then
                        (gridhallkeep3_sameConvex.f k r111.1 r112.1).bind fun r114 =>
                        if r114 = true then
                          gridhallkeep3_ConvexRing.l4 k x22 (wrap64 (x23 + 1)) xo0_0 xo0_1 xo0_2 xo1_0 xo1_1 xo1_2 xo2_0 xo2_1 xo2_2 xo3
                        else some false
                      else gridhallkeep3_ConvexRing.l4 k x22 (wrap64 (x23 + 1)) xo0_0 xo0_1 xo0_2 xo1_0 xo1_1 xo1_2 xo2_0 xo2_1 xo2_2 xo3
                    else none
                  else if (rd (.fn [34, 30]) xo3 x23) = 1 then
                    (convexpl_Convolve.f k r2.1 (xo2_0, xo2_1, xo2_2)).bind fun r104 =>
                    if (rd (.fn [34, 30]) xo3 x23) = 0 then
                      (convexpl_Add.f k (xo0_0, xo0_1, xo0_2) r103.1).bind fun r108 =>
                      (gridhallkeep3_fine.f k [r2.2, r103.2, r104.2, r108.2]).bind fun r109 =>
                      if r109 = true then
                        (gridhallkeep3_sameConvex.f k r104.1 r108.1).bind fun r110 =>
                        if r110 = true then
                          gridhallkeep3_ConvexRing.l4 k x22 (wrap64 (x23 + 1)) xo0_0 xo0_1 xo0_2 xo1_0 xo1_1 xo1_2 xo2_0 xo2_1 xo2_2 xo3
                        else some false
                      else gridhallkeep3_ConvexRing.l4 k x22 (wrap64 (x23 + 1)) xo0_0 xo0_1 xo0_2 xo1_0 xo1_1 xo1_2 xo2_0 xo2_1 xo2_2 xo3
                    else if (rd (.fn [34, 30]) xo3 x23) = 1 then
                      (convexpl_Convolve.f k (xo0_0, xo0_1, xo0_2) r103.1).bind fun r105 =>
                      (gridhallkeep3_fine.f k [r2.2, r103.2, r104.2, r105.2]).bind fun r106 =>
                      if r106 = true then
                        (gridhallkeep3_sameConvex.f k r104.1 r105.1).bind fun r107 =>
                        if r107 = true then
                          gridhallkeep3_ConvexRing.l4 k x22 (wrap64 (x23 + 1)) xo0_0 xo0_1 xo0_2 xo1_0 xo1_1 xo1_2 xo2_0 xo2_1 xo2_2 xo3
                        else some false
                      else gridhallkeep3_ConvexRing.l4 k x22 (wrap64 (x23 + 1)) xo0_0 xo0_1 xo0_2 xo1_0 xo1_1 xo1_2 xo2_0 xo2_1 xo2_2 xo3
                    else none
                  else none
                else none
              else some false
            else if (rd (.fn [34, 30]) xo3 x23) = 1 then
              (convexpl_Convolve.f k (xo1_0, xo1_1, xo1_2) (xo0_0, xo0_1, xo0_2)).bind fun r3 =>
              (gridhallkeep3_fine.f k [r2.2]).bind fun r4 =>
              (gridhallkeep3_fine.f k [r3.2]).bind fun r5 =>
              if r4 = r5 then
                (gridhallkeep3_fine.f k [r2.2]).bind fun r6 =>
                if r6 = true then
                  (gridhallkeep3_sameConvex.f k r2.1 r3.1).bind fun r7 =>
                  if r7 = true then
                    if (rd (.fn [34, 30]) xo3 x23) = 0 then
                      (convexpl_Add.f k (xo1_0, xo1_1, xo1_2) (xo2_0, xo2_1, xo2_2)).bind fun r23 =>
                      if (rd (.fn [34, 30]) xo3 x23) = 0 then
                        (convexpl_Add.f k r2.1 (xo2_0, xo2_1, xo2_2)).bind fun r31 =>
                        if (rd (.fn [34, 30]) xo3 x23) = 0 then
                          (convexpl_Add.f k (xo0_0, xo0_1, xo0_2) r23.1).bind fun r35 =>
                          (gridhallkeep3_fine.f k [r2.2, r23.2, r31.2, r35.2]).bind fun r36 =>
                          if r36 = true then
                            (gridhallkeep3_sameConvex.f k r31.1 r35.1).bind fun r37 =>
                            if r37 = true then
                              gridhallkeep3_ConvexRing.l4 k x22 (wrap64 (x23 + 1)) xo0_0 xo0_1 xo0_2 xo1_0 xo1_1 xo1_2 xo2_0 xo2_1 xo2_2 xo3
                            else some false
                          else gridhallkeep3_ConvexRing.l4 k x22 (wrap64 (x23 + 1)) xo0_0 xo0_1 xo0_2 xo1_0 xo1_1 xo1_2 xo2_0 xo2_1 xo2_2 xo3
                        else if (rd (.fn [34, 30]) xo3 x23) = 1 then
                          (convexpl_Convolve.f k (xo0_0, xo0_1, xo0_2) r23.1).bind fun r32 =>
                          (gridhallkeep3_fine.f k [r2.2, r23.2, r31.2, r32.2]).bind fun r33 =>
                          if r33 = true then
                            (gridhallkeep3_sameConvex.f k r31.1 r32.1).bind fun r34 =>
                            if r34 = true then
                              gridhallkeep3_ConvexRing.l4 k x22 (wrap64 (x23 + 1)) xo0_0 xo0_1 xo0_2 xo1_0 xo1_1 xo1_2 xo2_0 xo2_1 xo2_2 xo3
                            else some false
                          else gridhallkeep3_ConvexRing.l4 k x22 (wrap64 (x23 + 1)) xo0_0 xo0_1 xo0_2 xo1_0 xo1_1 xo1_2 xo2_0 xo2_1 xo2_2 xo3
                        else none
                      else if (rd (.fn [34, 30]) xo3 x23) = 1 then
                        (convexpl_Convolve.f k r2.1 (xo2_0, xo2_1, xo2_2)).bind fun r24 =>
                        if (rd (.fn [34, 30]) xo3 x23) = 0 then
                          (convexpl_Add.f k (xo0_0, xo0_1, xo0_2) r23.1).bind fun r28 =>
                          (gridhallkeep3_fine.f k [r2.2, r23.2, r24.2, r28.2]).bind fun r29 =>
                          if r29 = true then
                            (gridhallkeep3_sameConvex.f k r24.1 r28.1).bind fun r30 =>
                            if r30 = true then
                              gridhallkeep3_ConvexRing.l4 k x22 (wrap64 (x23 + 1)) xo0_0 xo0_1 xo0_2 xo1_0 xo1_1 xo1_2 xo2_0 xo2_1 xo2_2 xo3
                            else some false
                          else gridhallkeep3_ConvexRing.l4 k x22 (wrap64 (x23 + 1)) xo0_0 xo0_1 xo0_2 xo1_0 xo1_1 xo1_2 xo2_0 xo2_1 xo2_2 xo3
                        else if (rd (.fn [34, 30]) xo3 x23) = 1 then
                          (convexpl_Convolve.f k (xo0_0, xo0_1, xo0_2) r23.1).bind fun r25 =>
                          (gridhallkeep3_fine.f k [r2.2, r23.2, r24.2, r25.2]).bind fun r26 =>
                          if r26 = true then
                            (gridhallkeep3_sameConvex.f k r24.1 r25.1).bind fun r27 =>
                            if r27 = true then
                              gridhallkeep3_ConvexRing.l4 k x22 (wrap64 (x23 + 1)) xo0_0 xo0_1 xo0_2 xo1_0 xo1_1 xo1_2 xo2_0 xo2_1 xo2_2 xo3
                            else some false
                          else gridhallkeep3_ConvexRing.l4 k x22 (wrap64 (x23 + 1)) xo0_0 xo0_1 xo0_2 xo1_0 xo1_1 xo1_2 xo2_0 xo2_1 xo2_2 xo3
                        else none
                      else none
                    else if (rd (.fn [34, 30]) xo3 x23) = 1 then
                      (convexpl_Convolve.f k (xo1_0, xo1_1, xo1_2) (xo2_0, xo2_1, xo2_2)).bind fun r8 =>
                      if (rd (.fn [34, 30]) xo3 x23) = 0 then
                        (convexpl_Add.f k r2.1 (xo2_0, xo2_1, xo2_2)).bind fun r16 =>
                        if (rd (.fn [34, 30]) xo3 x23) = 0 then
                          (convexpl_Add.f k (xo0_0, xo0_1, xo0_2) r8.1).bind fun r20 =>
                          (gridhallkeep3_fine.f k [r2.2, r8.2, r16.2, r20.2]).bind fun r21 =>
                          if r21 = true then
                            (gridhallkeep3_sameConvex.f k r16.1 r20.1).bind fun r22 =>
                            if r22 = true then
                              gridhallkeep3_ConvexRing.l4 k x22 (wrap64 (x23 + 1)) xo0_0 xo0_1 xo0_2 xo1_0 xo1_1 xo1_2 xo2_0 xo2_1 xo2_2 xo3
                            else some false
                          else gridhallkeep3_ConvexRing.l4 k x22 (wrap64 (x23 + 1)) xo0_0 xo0_1 xo0_2 xo1_0 xo1_1 xo1_2 xo2_0 xo2_1 xo2_2 xo3
                        else if (rd (.fn [34, 30]) xo3 x23) = 1 then
                          (convexpl_Convolve.f k (xo0_0, xo0_1, xo0_2) r8.1).bind fun r17 =>
                          (gridhallkeep3_fine.f k [r2.2, r8.2, r16.2, r17.2]).bind fun r18 =>
                          if r18 = true then
                            (gridhallkeep3_sameConvex.f k r16.1 r17.1).bind fun r19 =>
                            if r19 = true then
                              gridhallkeep3_ConvexRing.l4 k x22 (wrap64 (x23 + 1)) xo0_0 xo0_1 xo0_2 xo1_0 xo1_1 xo1_2 xo2_0 xo2_1 xo2_2 xo3
                            else some false
                          else gridhallkeep3_ConvexRing.l4 k x22 (wrap64 (x23 + 1)) xo0_0 xo0_1 xo0_2 xo1_0 xo1_1 xo1_2 xo2_0 xo2_1 xo2_2 xo3
                        else none
                      else if (rd (.fn [34, 30]) xo3 x23) = 1 then
                        (convexpl_Convolve.f k r2.1 (xo2_0, xo2_1, xo2_2)).bind fun r9 =>
                        if (rd (.fn [34, 30]) xo3 x23) = 0 then
                          (convexpl_Add.f k (xo0_0, xo0_1, xo0_2) r8.1).bind fun r13 =>
                          (gridhallkeep3_fine.f k [r2.2, r8.2, r9.2, r13.2]).bind fun r14 =>
                          if r14 = true then
                            (gridhallkeep3_sameConvex.f k r9.1 r13.1).bind fun r15 =>
                            if r15 = true then
                              gridhallkeep3_ConvexRing.l4 k x22 (wrap64 (x23 + 1)) xo0_0 xo0_1 xo0_2 xo1_0 xo1_1 xo1_2 xo2_0 xo2_1 xo2_2 xo3
                            else some false
                          else gridhallkeep3_ConvexRing.l4 k x22 (wrap64 (x23 + 1)) xo0_0 xo0_1 xo0_2 xo1_0 xo1_1 xo1_2 xo2_0 xo2_1 xo2_2 xo3
                        else if (rd (.fn [34, 30]) xo3 x23) = 1 then
                          (convexpl_Convolve.f k (xo0_0, xo0_1, xo0_2) r8.1).bind fun r10 =>
                          (gridhallkeep3_fine.f k [r2.2, r8.2, r9.2, r10.2]).bind fun r11 =>
                          if r11 = true then
                            (gridhallkeep3_sameConvex.f k r9.1 r10.1).bind fun r12 =>
                            if r12 = true then
                              gridhallkeep3_ConvexRing.l4 k x22 (wrap64 (x23 + 1)) xo0_0 xo0_1 xo0_2 xo1_0 xo1_1 xo1_2 xo2_0 xo2_1 xo2_2 xo3
                            else some false
                          else gridhallkeep3_ConvexRing.l4 k x22 (wrap64 (x23 + 1)) xo0_0 xo0_1 xo0_2 xo1_0 xo1_1 xo1_2 xo2_0 xo2_1 xo2_2 xo3
                        else none
                      else none
                    else none
                  else some false
                else if (rd (.fn [34, 30]) xo3 x23) = 0 then
                  (convexpl_Add.f k (xo1_0, xo1_1, xo1_2) (xo2_0, xo2_1, xo2_2)).bind fun r53 =>
                  if (rd (.fn [34, 30]) xo3 x23) = 0 then
                    (convexpl_Add.f k r2.1 (xo2_0, xo2_1, xo2_2)).bind fun r61 =>
                    if (rd (.fn [34, 30]) xo3 x23) = 0 then
                      (convexpl_Add.f k (xo0_0, xo0_1, xo0_2) r53.1).bind fun r65 =>
                      (gridhallkeep3_fine.f k [r2.2, r53.2, r61.2, r65.2]).bind fun r66 =>
                      if r66 = true then
                        (gridhallkeep3_sameConvex.f k r61.1 r65.1).bind fun r67 =>
                        if r67 = true then
                          gridhallkeep3_ConvexRing.l4 k x22 (wrap64 (x23 + 1)) xo0_0 xo0_1 xo0_2 xo1_0 xo1_1 xo1_2 xo2_0 xo2_1 xo2_2 xo3
                        else some false
                      else gridhallkeep3_ConvexRing.l4 k x22 (wrap64 (x23 + 1)) xo0_0 xo0_1 xo0_2 xo1_0 xo1_1 xo1_2 xo2_0 xo2_1 xo2_2 xo3
                    else if (rd (.fn [34, 30]) xo3 x23) = 1 then
                      (convexpl_Convolve.f k (xo0_0, xo0_1, xo0_2) r53.1).bind fun r62 =>
                      (gridhallkeep3_fine.f k [r2.2, r53.2, r61.2, r62.2]).bind fun r63 =>
                      if r63 = true then
                        (gridhallkeep3_sameConvex.f k r61.1 r62.1).bind fun r64 =>
                        if r64 = true then
                          gridhallkeep3_ConvexRing.l4 k x22 (wrap64 (x23 + 1)) xo0_0 xo0_1 xo0_2 xo1_0 xo1_1 xo1_2 xo2_0 xo2_1 xo2_2 xo3
                        else some false
                      else gridhallkeep3_ConvexRing.l4 k x22 (wrap64 (x23 + 1)) xo0_0 xo0_1 xo0_2 xo1_0 xo1_1 xo1_2 xo2_0 xo2_1 xo2_2 xo3
                    else none
                  else if (rd (.fn [34, 30]) xo3 x23) = 1 then
                    (convexpl_Convolve.f k r2.1 (xo2_0, xo2_1, xo2_2)).bind fun r54 =>
                    if (rd (.fn [34, 30]) xo3 x23) = 0 then
                      (convexpl_Add.f k (xo0_0, xo0_1, xo0_2) r53.1).bind fun r58 =>
                      (gridhallkeep3_fine.f k [r2.2, r53.2, r54.2, r58.2]).bind fun r59 =>
                      if r59 = true then
                        (gridhallkeep3_sameConvex.f k r54.1 r58.1).bind fun r60 =>
                        if r60 = true then
                          gridhallkeep3_ConvexRing.l4 k x22 (wrap64 (x23 + 1)) xo0_0 xo0_1 xo0_2 xo1_0 xo1_1 xo1_2 xo2_0 xo2_1 xo2_2 xo3
                        else some false
                      else gridhallkeep3_ConvexRing.l4 k x22 (wrap64 (x23 + 1)) xo0_0 xo0_1 xo0_2 xo1_0 xo1_1 xo1_2 xo2_0 xo2_1 xo2_2 xo3
                    else if (rd (.fn [34, 30]) xo3 x23) = 1 then
                      (convexpl_Convolve.f k (xo0_0, xo0_1, xo0_2) r53.1).bind fun r55 =>
                      (gridhallkeep3_fine.f k [r2.2, r53.2, r54.2, r55.2]).bind fun r56 =>
                      if r56 = true then
                        (gridhallkeep3_sameConvex.f k r54.1 r55.1).bind fun r57 =>
                        if r57 = true then
                          gridhallkeep3_ConvexRing.l4 k x22 (wrap64 (x23 + 1)) xo0_0 xo0_1 xo0_2 xo1_0 xo1_1 xo1_2 xo2_0 xo2_1 xo2_2 xo3
                        else some false
                      else gridhallkeep3_ConvexRing.l4 k x22 (wrap64 (x23 + 1)) xo0_0 xo0_1 xo0_2 xo1_0 xo1_1 xo1_2 xo2_0 xo2_1 xo2_2 xo3
                    else none
                  else none
                else if (rd (.fn [34, 30]) xo3 x23) = 1 then
                  (convexpl_Convolve.f k (xo1_0, xo1_1, xo1_2) (xo2_0, xo2_1, xo2_2)).bind fun r38 =>
                  if (rd (.fn [34, 30]) xo3 x23) = 0 then
                    (convexpl_Add.f k r2.1 (xo2_0, xo2_1, xo2_2)).bind fun r46 =>
                    if (rd (.fn [34, 30]) xo3 x23) = 0 then
                      (convexpl_Add.f k (xo0_0, xo0_1, xo0_2) r38.1).bind fun r50 =>
                      (gridhallkeep3_fine.f k [r2.2, r38.2, r46.2, r50.2]).bind fun r51 =>
                      if r51 = true then
                        (gridhallkeep3_sameConvex.f k r46.1 r50.1).bind fun r52 =>
                        if r52 = true then
                          gridhallkeep3_ConvexRing.l4 k x22 (wrap64 (x23 + 1)) xo0_0 xo0_1 xo0_2 xo1_0 xo1_1 xo1_2 xo2_0 xo2_1 xo2_2 xo3
                        else some false
                      else gridhallkeep3_ConvexRing.l4 k x22 (wrap64 (x23 + 1)) xo0_0 xo0_1 xo0_2 xo1_0 xo1_1 xo1_2 xo2_0 xo2_1 xo2_2 xo3
                    else if (rd (.fn [34, 30]) xo3 x23) = 1 then
                      (convexpl_Convolve.f k (xo0_0, xo0_1, xo0_2) r38.1).bind fun r47 =>
                      (gridhallkeep3_fine.f k [r2.2, r38.2, r46.2, r47.2]).bind fun r48 =>
                      if r48 = true then
                        (gridhallkeep3_sameConvex.f k r46.1 r47.1).bind fun r49 =>
                        if r49 = true then
                          gridhallkeep3_ConvexRing.l4 k x22 (wrap64 (x23 + 1)) xo0_0 xo0_1 xo0_2 xo1_0 xo1_1 xo1_2 xo2_0 xo2_1 xo2_2 xo3
                        else some false
                      else gridhallkeep3_ConvexRing.l4 k x22 (wrap64 (x23 + 1)) xo0_0 xo0_1 xo0_2 xo1_0 xo1_1 xo1_2 xo2_0 xo2_1 xo2_2 xo3
                    else none
                  else if (rd (.fn [34, 30]) xo3 x23) = 1 then
                    (convexpl_Convolve.f k r2.1 (xo2_0, xo2_1, xo2_2)).bind fun r39 =>
                    if (rd (.fn [34, 30]) xo3 x23) = 0 then
                      (convexpl_Add.f k (xo0_0, xo0_1, xo0_2) r38.1).bind fun r43 =>
                      (gridhallkeep3_fine.f k [r2.2, r38.2, r39.2, r43.2]).bind fun r44 =>
                      if r44 = true then
                        (gridhallkeep3_sameConvex.f k r39.1 r43.1).bind fun r45 =>
                        if r45 = true then
                          gridhallkeep3_ConvexRing.l4 k x22 (wrap64 (x23 + 1)) xo0_0 xo0_1 xo0_2 xo1_0 xo1_1 xo1_2 xo2_0 xo2_1 xo2_2 xo3
                        else some false
                      else gridhallkeep3_ConvexRing.l4 k x22 (wrap64 (x23 + 1)) xo0_0 xo0_1 xo0_2 xo1_0 xo1_1 xo1_2 xo2_0 xo2_1 xo2_2 xo3
                    else if (rd (.fn [34, 30]) xo3 x23) = 1 then
                      (convexpl_Convolve.f k (xo0_0, xo0_1, xo0_2) r38.1).bind fun r40 =>
                      (gridhallkeep3_fine.f k [r2.2, r38.2, r39.2, r40.2]).bind fun r41 =>
                      if r41 = true then
                        (gridhallkeep3_sameConvex.f k r39.1 r40.1).bind fun r42 =>
                        if r42 = true then
                          gridhallkeep3_ConvexRing.l4 k x22 (wrap64 (x23 + 1)) xo0_0 xo0_1 xo0_2 xo1_0 xo1_1 xo1_2 xo2_0 xo2_1 xo2_2 xo3
                        else some false
                      else gridhallkeep3_ConvexRing.l4 k x22 (wrap64 (x23 + 1)) xo0_0 xo0_1 xo0_2 xo1_0 xo1_1 xo1_2 xo2_0 xo2_1 xo2_2 xo3
                    else none
                  else none
                else none
              else some false
            else none
          else none
        else none
      else none
    else some true := rfl
def gridhallkeep3_ConvexRing.f (k : Nat) (a0 : Int × Int × List (Int × Int)) (a1 : Int × Int × List (Int × Int)) (a2 : Int × Int × List (Int × Int)) : Option Bool :=
  (gridhallkeep3_slopes.f k).bind fun r1 =>
  if r1 = true then
    gridhallkeep3_ConvexRing.l4 k ((List.range 2).length : Int) 0 a0.1 a0.2.1 a0.2.2 a1.1 a1.2.1 a1.2.2 a2.1 a2.2.1 a2.2.2 (List.range 2)
  else some false
end Go.Proofs.Ytcmbckancficcaa.VE
