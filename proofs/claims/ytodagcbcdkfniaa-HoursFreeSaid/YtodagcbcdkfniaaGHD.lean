/- Functions as plain Lean (definitions printed by a program; no statement is proved here). -/
import Derived.Test.YtodagcbcdkfniaaVpEv
namespace Go.Proofs.Ytodagcbcdkfniaa.VE
set_option linter.unusedVariables false
open Go Go.RowKit
abbrev Y0 : Ty := .pair (.int .i64) (.int .i64)
abbrev Y1 : Ty := .pair .str (.list 72 Y0)
abbrev Y2 : Ty := .pair (.int .i64) Y0
abbrev Y3 : Ty := .pair (.list 3 (.int .i64)) (.int .i64)
abbrev rI64 (xs : List Int) (i : Int) : Int := rd (.int .i64) xs i
theorem rI64_mem {xs : List Int} {i : Int} (h0 : 0 ≤ i) (h1 : i < (xs.length : Int)) : rI64 xs i ∈ xs := rd_mem (t := (.int .i64)) h0 h1
theorem rI64_get (xs : List Int) (j : Nat) (x : Int) (h : xs[j]? = some x) : rI64 xs (j : Int) = x := rd_get (t := (.int .i64)) xs j x h
theorem rI64_drop {xs : List Int} {i : Int} (h0 : 0 ≤ i) (h1 : i < (xs.length : Int)) : xs.drop i.toNat = rI64 xs i :: xs.drop (i + 1).toNat := drop_rd (t := (.int .i64)) h0 h1
theorem rI64_some {xs : List Int} {i : Int} (h0 : 0 ≤ i) (h1 : i < (xs.length : Int)) : xs[i.toNat]? = some (rI64 xs i) := rd_some (t := (.int .i64)) h0 h1
theorem rI64_set {xs : List Int} {i : Int} (v : Int) (h0 : 0 ≤ i) (h1 : i < (xs.length : Int)) {j : Int} (hj : 0 ≤ j) : rI64 (xs.set i.toNat v) j = if j = i then v else rI64 xs j := rd_set (t := (.int .i64)) v h0 h1 hj
abbrev rY0 (xs : List (Int × Int)) (i : Int) : Int × Int := rd Y0 xs i
theorem rY0_mem {xs : List (Int × Int)} {i : Int} (h0 : 0 ≤ i) (h1 : i < (xs.length : Int)) : rY0 xs i ∈ xs := rd_mem (t := Y0) h0 h1
theorem rY0_get (xs : List (Int × Int)) (j : Nat) (x : Int × Int) (h : xs[j]? = some x) : rY0 xs (j : Int) = x := rd_get (t := Y0) xs j x h
theorem rY0_drop {xs : List (Int × Int)} {i : Int} (h0 : 0 ≤ i) (h1 : i < (xs.length : Int)) : xs.drop i.toNat = rY0 xs i :: xs.drop (i + 1).toNat := drop_rd (t := Y0) h0 h1
theorem rY0_some {xs : List (Int × Int)} {i : Int} (h0 : 0 ≤ i) (h1 : i < (xs.length : Int)) : xs[i.toNat]? = some (rY0 xs i) := rd_some (t := Y0) h0 h1
theorem rY0_set {xs : List (Int × Int)} {i : Int} (v : Int × Int) (h0 : 0 ≤ i) (h1 : i < (xs.length : Int)) {j : Int} (hj : 0 ≤ j) : rY0 (xs.set i.toNat v) j = if j = i then v else rY0 xs j := rd_set (t := Y0) v h0 h1 hj
abbrev rY1 (xs : List (ByteArray × List (Int × Int))) (i : Int) : ByteArray × List (Int × Int) := rd Y1 xs i
theorem rY1_mem {xs : List (ByteArray × List (Int × Int))} {i : Int} (h0 : 0 ≤ i) (h1 : i < (xs.length : Int)) : rY1 xs i ∈ xs := rd_mem (t := Y1) h0 h1
theorem rY1_get (xs : List (ByteArray × List (Int × Int))) (j : Nat) (x : ByteArray × List (Int × Int)) (h : xs[j]? = some x) : rY1 xs (j : Int) = x := rd_get (t := Y1) xs j x h
theorem rY1_drop {xs : List (ByteArray × List (Int × Int))} {i : Int} (h0 : 0 ≤ i) (h1 : i < (xs.length : Int)) : xs.drop i.toNat = rY1 xs i :: xs.drop (i + 1).toNat := drop_rd (t := Y1) h0 h1
theorem rY1_some {xs : List (ByteArray × List (Int × Int))} {i : Int} (h0 : 0 ≤ i) (h1 : i < (xs.length : Int)) : xs[i.toNat]? = some (rY1 xs i) := rd_some (t := Y1) h0 h1
theorem rY1_set {xs : List (ByteArray × List (Int × Int))} {i : Int} (v : ByteArray × List (Int × Int)) (h0 : 0 ≤ i) (h1 : i < (xs.length : Int)) {j : Int} (hj : 0 ≤ j) : rY1 (xs.set i.toNat v) j = if j = i then v else rY1 xs j := rd_set (t := Y1) v h0 h1 hj
abbrev rY2 (xs : List (Int × Int × Int)) (i : Int) : Int × Int × Int := rd Y2 xs i
theorem rY2_mem {xs : List (Int × Int × Int)} {i : Int} (h0 : 0 ≤ i) (h1 : i < (xs.length : Int)) : rY2 xs i ∈ xs := rd_mem (t := Y2) h0 h1
theorem rY2_get (xs : List (Int × Int × Int)) (j : Nat) (x : Int × Int × Int) (h : xs[j]? = some x) : rY2 xs (j : Int) = x := rd_get (t := Y2) xs j x h
theorem rY2_drop {xs : List (Int × Int × Int)} {i : Int} (h0 : 0 ≤ i) (h1 : i < (xs.length : Int)) : xs.drop i.toNat = rY2 xs i :: xs.drop (i + 1).toNat := drop_rd (t := Y2) h0 h1
theorem rY2_some {xs : List (Int × Int × Int)} {i : Int} (h0 : 0 ≤ i) (h1 : i < (xs.length : Int)) : xs[i.toNat]? = some (rY2 xs i) := rd_some (t := Y2) h0 h1
theorem rY2_set {xs : List (Int × Int × Int)} {i : Int} (v : Int × Int × Int) (h0 : 0 ≤ i) (h1 : i < (xs.length : Int)) {j : Int} (hj : 0 ≤ j) : rY2 (xs.set i.toNat v) j = if j = i then v else rY2 xs j := rd_set (t := Y2) v h0 h1 hj
def BY (e : Nat) : Nat := (look [(3, 8), (28, 40), (72, 16)] e).getD 0
def gridhallkeep3_two.f (k : Nat) (a0 : ByteArray) : Option (ByteArray × List (Int × Int)) :=
  some (a0, [(10, 5), (10, 8)])
def offer_named.l4 : Nat → ByteArray → Int → Int → Option Bool
  | 0, _, _, _ => none
  | k + 1, x0, x22, x23 => if x23 < x22 then
      if 0 ≤ x23 then
        if x23 < (x0.size : Int) then
          if (bt x0 x23) < 65 then
            if 0 ≤ x23 then
              if x23 < (x0.size : Int) then
                if (bt x0 x23) < 48 then
                  some false
                else if 0 ≤ x23 then
                  if x23 < (x0.size : Int) then
                    if 57 < (bt x0 x23) then
                      some false
                    else offer_named.l4 k x0 x22 (wrap64 (x23 + 1))
                  else none
                else none
              else none
            else none
          else if 0 ≤ x23 then
            if x23 < (x0.size : Int) then
              if 90 < (bt x0 x23) then
                if 0 ≤ x23 then
                  if x23 < (x0.size : Int) then
                    if (bt x0 x23) < 48 then
                      some false
                    else if 0 ≤ x23 then
                      if x23 < (x0.size : Int) then
                        if 57 < (bt x0 x23) then
                          some false
                        else offer_named.l4 k x0 x22 (wrap64 (x23 + 1))
                      else none
                    else none
                  else none
                else none
              else offer_named.l4 k x0 x22 (wrap64 (x23 + 1))
            else none
          else none
        else none
      else none
    else some true
theorem offer_named.l4_eq (k : Nat) (x0 : ByteArray) (x22 : Int) (x23 : Int) : offer_named.l4 (k + 1) x0 x22 x23 = if x23 < x22 then
      if 0 ≤ x23 then
        if x23 < (x0.size : Int) then
          if (bt x0 x23) < 65 then
            if 0 ≤ x23 then
              if x23 < (x0.size : Int) then
                if (bt x0 x23) < 48 then
                  some false
                else if 0 ≤ x23 then
                  if x23 < (x0.size : Int) then
                    if 57 < (bt x0 x23) then
                      some false
                    else offer_named.l4 k x0 x22 (wrap64 (x23 + 1))
                  else none
                else none
              else none
            else none
          else if 0 ≤ x23 then
            if x23 < (x0.size : Int) then
              if 90 < (bt x0 x23) then
                if 0 ≤ x23 then
                  if x23 < (x0.size : Int) then
                    if (bt x0 x23) < 48 then
                      some false
                    else if 0 ≤ x23 then
                      if x23 < (x0.size : Int) then
                        if 57 < (bt x0 x23) then
                          some false
                        else offer_named.l4 k x0 x22 (wrap64 (x23 + 1))
                      else none
                    else none
                  else none
                else none
              else offer_named.l4 k x0 x22 (wrap64 (x23 + 1))
            else none
          else none
        else none
      else none
    else some true := rfl
def offer_named.f (k : Nat) (a0 : ByteArray) : Option Bool :=
  if a0 = ByteArray.empty then
    some false
  else if 8 < (a0.size : Int) then
    some false
  else if (0 : Int) ≤ 0 then
    if 0 < (a0.size : Int) then
      if 48 ≤ (bt a0 0) then
        if (0 : Int) ≤ 0 then
          if 0 < (a0.size : Int) then
            if (bt a0 0) ≤ 57 then
              some false
            else offer_named.l4 k a0 (a0.size : Int) 0
          else none
        else none
      else offer_named.l4 k a0 (a0.size : Int) 0
    else none
  else none
def offer_Check.l7 : Nat → Int → (List (Int × Int)) → Int → Int → ByteArray → (List (Int × Int)) → Option Int
  | 0, _, _, _, _, _, _ => none
  | k + 1, x3, x15, x16, x17, xo0_0, xo0_1 => if x17 < x16 then
      if 0 ≤ x17 then
        if x17 < (x15.length : Int) then
          if (rY0 x15 x17).1 < 1 then
            some 4
          else if 100000 < (rY0 x15 x17).1 then
            some 4
          else if (rY0 x15 x17).2 < (-1000000) then
            some 4
          else if 1000000 < (rY0 x15 x17).2 then
            some 4
          else if 0 < x17 then
            if 0 ≤ (wrap64 (x17 - 1)) then
              if (wrap64 (x17 - 1)) < (xo0_1.length : Int) then
                if (rY0 x15 x17).2 < (rY0 xo0_1 (wrap64 (x17 - 1))).2 then
                  some 3
                else if 100000 < (wrap64 (x3 + (rY0 x15 x17).1)) then
                  some 2
                else offer_Check.l7 k (wrap64 (x3 + (rY0 x15 x17).1)) x15 x16 (wrap64 (x17 + 1)) xo0_0 xo0_1
              else none
            else none
          else if 100000 < (wrap64 (x3 + (rY0 x15 x17).1)) then
            some 2
          else offer_Check.l7 k (wrap64 (x3 + (rY0 x15 x17).1)) x15 x16 (wrap64 (x17 + 1)) xo0_0 xo0_1
        else none
      else none
    else some 0
theorem offer_Check.l7_eq (k : Nat) (x3 : Int) (x15 : List (Int × Int)) (x16 : Int) (x17 : Int) (xo0_0 : ByteArray) (xo0_1 : List (Int × Int)) : offer_Check.l7 (k + 1) x3 x15 x16 x17 xo0_0 xo0_1 = if x17 < x16 then
      if 0 ≤ x17 then
        if x17 < (x15.length : Int) then
          if (rY0 x15 x17).1 < 1 then
            some 4
          else if 100000 < (rY0 x15 x17).1 then
            some 4
          else if (rY0 x15 x17).2 < (-1000000) then
            some 4
          else if 1000000 < (rY0 x15 x17).2 then
            some 4
          else if 0 < x17 then
            if 0 ≤ (wrap64 (x17 - 1)) then
              if (wrap64 (x17 - 1)) < (xo0_1.length : Int) then
                if (rY0 x15 x17).2 < (rY0 xo0_1 (wrap64 (x17 - 1))).2 then
                  some 3
                else if 100000 < (wrap64 (x3 + (rY0 x15 x17).1)) then
                  some 2
                else offer_Check.l7 k (wrap64 (x3 + (rY0 x15 x17).1)) x15 x16 (wrap64 (x17 + 1)) xo0_0 xo0_1
              else none
            else none
          else if 100000 < (wrap64 (x3 + (rY0 x15 x17).1)) then
            some 2
          else offer_Check.l7 k (wrap64 (x3 + (rY0 x15 x17).1)) x15 x16 (wrap64 (x17 + 1)) xo0_0 xo0_1
        else none
      else none
    else some 0 := rfl
def offer_Check.f (k : Nat) (a0 : ByteArray × List (Int × Int)) : Option Int :=
  (offer_named.f k a0.1).bind fun r1 =>
  if r1 = true then
    if 12 < (a0.2.length : Int) then
      some 2
    else offer_Check.l7 k 0 a0.2 (a0.2.length : Int) 0 a0.1 a0.2
  else some 6
mutual
def offer_CheckAll.l4 : Nat → (List (ByteArray × List (Int × Int))) → (List (ByteArray × List (Int × Int))) → Int → Int → Option Int
  | 0, _, _, _, _ => none
  | k + 1, x0, x11, x12, x13 => if x13 < x12 then
      if 0 ≤ x13 then
        if x13 < (x11.length : Int) then
          (offer_Check.f k (rY1 x11 x13)).bind fun r1 =>
          if r1 = 0 then
            if x13 ≤ (x0.length : Int) then
              if 0 ≤ x13 then
                offer_CheckAll.l10 k x0 x11 x12 x13 (x0.take x13.toNat) ((x0.take x13.toNat).length : Int) 0 (rY1 x11 x13).1 (rY1 x11 x13).2
              else none
            else none
          else some r1
        else none
      else none
    else some 0
def offer_CheckAll.l10 : Nat → (List (ByteArray × List (Int × Int))) → (List (ByteArray × List (Int × Int))) → Int → Int → (List (ByteArray × List (Int × Int))) → Int → Int → ByteArray → (List (Int × Int)) → Option Int
  | 0, _, _, _, _, _, _, _, _, _ => none
  | k + 1, x0, x11, x12, x13, x25, x26, x27, xo0_0, xo0_1 => if x27 < x26 then
      if 0 ≤ x27 then
        if x27 < (x25.length : Int) then
          if (rY1 x25 x27).1 = xo0_0 then
            some 7
          else offer_CheckAll.l10 k x0 x11 x12 x13 x25 x26 (wrap64 (x27 + 1)) xo0_0 xo0_1
        else none
      else none
    else offer_CheckAll.l4 k x0 x11 x12 (wrap64 (x13 + 1))
end
theorem offer_CheckAll.l4_eq (k : Nat) (x0 : List (ByteArray × List (Int × Int))) (x11 : List (ByteArray × List (Int × Int))) (x12 : Int) (x13 : Int) : offer_CheckAll.l4 (k + 1) x0 x11 x12 x13 = if x13 < x12 then
      if 0 ≤ x13 then
        if x13 < (x11.length : Int) then
          (offer_Check.f k (rY1 x11 x13)).bind fun r1 =>
          if r1 = 0 then
            if x13 ≤ (x0.length : Int) then
              if 0 ≤ x13 then
                offer_CheckAll.l10 k x0 x11 x12 x13 (x0.take x13.toNat) ((x0.take x13.toNat).length : Int) 0 (rY1 x11 x13).1 (rY1 x11 x13).2
              else none
            else none
          else some r1
        else none
      else none
    else some 0 := rfl
theorem offer_CheckAll.l10_eq (k : Nat) (x0 : List (ByteArray × List (Int × Int))) (x11 : List (ByteArray × List (Int × Int))) (x12 : Int) (x13 : Int) (x25 : List (ByteArray × List (Int × Int))) (x26 : Int) (x27 : Int) (xo0_0 : ByteArray) (xo0_1 : List (Int × Int)) : offer_CheckAll.l10 (k + 1) x0 x11 x12 x13 x25 x26 x27 xo0_0 xo0_1 = if x27 < x26 then
      if 0 ≤ x27 then
        if x27 < (x25.length : Int) then
          if (rY1 x25 x27).1 = xo0_0 then
            some 7
          else offer_CheckAll.l10 k x0 x11 x12 x13 x25 x26 (wrap64 (x27 + 1)) xo0_0 xo0_1
        else none
      else none
    else offer_CheckAll.l4 k x0 x11 x12 (wrap64 (x13 + 1)) := rfl
def offer_CheckAll.f (k : Nat) (a0 : List (ByteArray × List (Int × Int))) : Option Int :=
  if 10 < (a0.length : Int) then
    some 2
  else offer_CheckAll.l4 k a0 a0 (a0.length : Int) 0
def offer_Most.l3 : Nat → Int → (List (Int × Int)) → Int → Int → Option Int
  | 0, _, _, _, _ => none
  | k + 1, x3, x7, x8, x9 => if x9 < x8 then
      if 0 ≤ x9 then
        if x9 < (x7.length : Int) then
          offer_Most.l3 k (wrap64 (x3 + (rY0 x7 x9).1)) x7 x8 (wrap64 (x9 + 1))
        else none
      else none
    else some x3
theorem offer_Most.l3_eq (k : Nat) (x3 : Int) (x7 : List (Int × Int)) (x8 : Int) (x9 : Int) : offer_Most.l3 (k + 1) x3 x7 x8 x9 = if x9 < x8 then
      if 0 ≤ x9 then
        if x9 < (x7.length : Int) then
          offer_Most.l3 k (wrap64 (x3 + (rY0 x7 x9).1)) x7 x8 (wrap64 (x9 + 1))
        else none
      else none
    else some x3 := rfl
def offer_Most.f (k : Nat) (a0 : ByteArray × List (Int × Int)) : Option Int :=
  offer_Most.l3 k 0 a0.2 (a0.2.length : Int) 0
def cmp_isNaN_int.f (k : Nat) (a0 : Int) : Option Bool :=
  some (!decide (a0 = a0))
def cmp_Compare_int.f (k : Nat) (a0 : Int) (a1 : Int) : Option Int :=
  (cmp_isNaN_int.f k a0).bind fun r1 =>
  (cmp_isNaN_int.f k a1).bind fun r2 =>
  if r1 = true then
    if r2 = true then
      some 0
    else some (-1)
  else if r2 = true then
    some 1
  else if a0 < a1 then
    some (-1)
  else if a1 < a0 then
    some 1
  else some 0
def hours_Change_1.f (k : Nat) (a0 : Int × Int × Int) (a1 : Int × Int × Int) : Option Int :=
  (cmp_Compare_int.f k a0.2.2 a1.2.2).bind fun r1 =>
  some r1
mutual
def slices_insertionSortCmpFunc_hours_step.l1 : Nat → Int → Int → Int → (List (Int × Int × Int)) → Option (List (Int × Int × Int))
  | 0, _, _, _, _ => none
  | k + 1, x1, x2, x8, xo0 => if x8 < x2 then
      slices_insertionSortCmpFunc_hours_step.l4 k x1 x2 x8 x8 xo0
    else some xo0
def slices_insertionSortCmpFunc_hours_step.l4 : Nat → Int → Int → Int → Int → (List (Int × Int × Int)) → Option (List (Int × Int × Int))
  | 0, _, _, _, _, _ => none
  | k + 1, x1, x2, x8, x9, xo0 => if x1 < x9 then
      if 0 ≤ x9 then
        if x9 < (xo0.length : Int) then
          if 0 ≤ (wrap64 (x9 - 1)) then
            if (wrap64 (x9 - 1)) < (xo0.length : Int) then
              (hours_Change_1.f k (rY2 xo0 x9) (rY2 xo0 (wrap64 (x9 - 1)))).bind fun r1 =>
              if r1 < 0 then
                if 0 ≤ (wrap64 (x9 - 1)) then
                  if (wrap64 (x9 - 1)) < (xo0.length : Int) then
                    if 0 ≤ x9 then
                      if x9 < (xo0.length : Int) then
                        if 0 ≤ x9 then
                          if x9 < (xo0.length : Int) then
                            if 0 ≤ (wrap64 (x9 - 1)) then
                              if (wrap64 (x9 - 1)) < ((xo0.set x9.toNat (rY2 xo0 (wrap64 (x9 - 1)))).length : Int) then
                                slices_insertionSortCmpFunc_hours_step.l4 k x1 x2 x8 (wrap64 (x9 - 1)) ((xo0.set x9.toNat (rY2 xo0 (wrap64 (x9 - 1)))).set (wrap64 (x9 - 1)).toNat (rY2 xo0 x9))
                              else none
                            else none
                          else none
                        else none
                      else none
                    else none
                  else none
                else none
              else slices_insertionSortCmpFunc_hours_step.l1 k x1 x2 (wrap64 (x8 + 1)) xo0
            else none
          else none
        else none
      else none
    else slices_insertionSortCmpFunc_hours_step.l1 k x1 x2 (wrap64 (x8 + 1)) xo0
end
theorem slices_insertionSortCmpFunc_hours_step.l1_eq (k : Nat) (x1 : Int) (x2 : Int) (x8 : Int) (xo0 : List (Int × Int × Int)) : slices_insertionSortCmpFunc_hours_step.l1 (k + 1) x1 x2 x8 xo0 = if x8 < x2 then
      slices_insertionSortCmpFunc_hours_step.l4 k x1 x2 x8 x8 xo0
    else some xo0 := rfl
theorem slices_insertionSortCmpFunc_hours_step.l4_eq (k : Nat) (x1 : Int) (x2 : Int) (x8 : Int) (x9 : Int) (xo0 : List (Int × Int × Int)) : slices_insertionSortCmpFunc_hours_step.l4 (k + 1) x1 x2 x8 x9 xo0 = if x1 < x9 then
      if 0 ≤ x9 then
        if x9 < (xo0.length : Int) then
          if 0 ≤ (wrap64 (x9 - 1)) then
            if (wrap64 (x9 - 1)) < (xo0.length : Int) then
              (hours_Change_1.f k (rY2 xo0 x9) (rY2 xo0 (wrap64 (x9 - 1)))).bind fun r1 =>
              if r1 < 0 then
                if 0 ≤ (wrap64 (x9 - 1)) then
                  if (wrap64 (x9 - 1)) < (xo0.length : Int) then
                    if 0 ≤ x9 then
                      if x9 < (xo0.length : Int) then
                        if 0 ≤ x9 then
                          if x9 < (xo0.length : Int) then
                            if 0 ≤ (wrap64 (x9 - 1)) then
                              if (wrap64 (x9 - 1)) < ((xo0.set x9.toNat (rY2 xo0 (wrap64 (x9 - 1)))).length : Int) then
                                slices_insertionSortCmpFunc_hours_step.l4 k x1 x2 x8 (wrap64 (x9 - 1)) ((xo0.set x9.toNat (rY2 xo0 (wrap64 (x9 - 1)))).set (wrap64 (x9 - 1)).toNat (rY2 xo0 x9))
                              else none
                            else none
                          else none
                        else none
                      else none
                    else none
                  else none
                else none
              else slices_insertionSortCmpFunc_hours_step.l1 k x1 x2 (wrap64 (x8 + 1)) xo0
            else none
          else none
        else none
      else none
    else slices_insertionSortCmpFunc_hours_step.l1 k x1 x2 (wrap64 (x8 + 1)) xo0 := rfl
def slices_insertionSortCmpFunc_hours_step.f (k : Nat) (a1 : Int) (a2 : Int) (ao0 : List (Int × Int × Int)) : Option (List (Int × Int × Int)) :=
  slices_insertionSortCmpFunc_hours_step.l1 k a1 a2 (wrap64 (a1 + 1)) ao0
def slices_swapRangeCmpFunc_hours_step.l1 : Nat → Int → Int → Int → Int → (List (Int × Int × Int)) → Option (List (Int × Int × Int))
  | 0, _, _, _, _, _ => none
  | k + 1, x1, x2, x3, x10, xo0 => if x10 < x3 then
      if 0 ≤ (wrap64 (x2 + x10)) then
        if (wrap64 (x2 + x10)) < (xo0.length : Int) then
          if 0 ≤ (wrap64 (x1 + x10)) then
            if (wrap64 (x1 + x10)) < (xo0.length : Int) then
              if 0 ≤ (wrap64 (x1 + x10)) then
                if (wrap64 (x1 + x10)) < (xo0.length : Int) then
                  if 0 ≤ (wrap64 (x2 + x10)) then
                    if (wrap64 (x2 + x10)) < ((xo0.set (wrap64 (x1 + x10)).toNat (rY2 xo0 (wrap64 (x2 + x10)))).length : Int) then
                      slices_swapRangeCmpFunc_hours_step.l1 k x1 x2 x3 (wrap64 (x10 + 1)) ((xo0.set (wrap64 (x1 + x10)).toNat (rY2 xo0 (wrap64 (x2 + x10)))).set (wrap64 (x2 + x10)).toNat (rY2 xo0 (wrap64 (x1 + x10))))
                    else none
                  else none
                else none
              else none
            else none
          else none
        else none
      else none
    else some xo0
theorem slices_swapRangeCmpFunc_hours_step.l1_eq (k : Nat) (x1 : Int) (x2 : Int) (x3 : Int) (x10 : Int) (xo0 : List (Int × Int × Int)) : slices_swapRangeCmpFunc_hours_step.l1 (k + 1) x1 x2 x3 x10 xo0 = if x10 < x3 then
      if 0 ≤ (wrap64 (x2 + x10)) then
        if (wrap64 (x2 + x10)) < (xo0.length : Int) then
          if 0 ≤ (wrap64 (x1 + x10)) then
            if (wrap64 (x1 + x10)) < (xo0.length : Int) then
              if 0 ≤ (wrap64 (x1 + x10)) then
                if (wrap64 (x1 + x10)) < (xo0.length : Int) then
                  if 0 ≤ (wrap64 (x2 + x10)) then
                    if (wrap64 (x2 + x10)) < ((xo0.set (wrap64 (x1 + x10)).toNat (rY2 xo0 (wrap64 (x2 + x10)))).length : Int) then
                      slices_swapRangeCmpFunc_hours_step.l1 k x1 x2 x3 (wrap64 (x10 + 1)) ((xo0.set (wrap64 (x1 + x10)).toNat (rY2 xo0 (wrap64 (x2 + x10)))).set (wrap64 (x2 + x10)).toNat (rY2 xo0 (wrap64 (x1 + x10))))
                    else none
                  else none
                else none
              else none
            else none
          else none
        else none
      else none
    else some xo0 := rfl
def slices_swapRangeCmpFunc_hours_step.f (k : Nat) (a1 : Int) (a2 : Int) (a3 : Int) (ao0 : List (Int × Int × Int)) : Option (List (Int × Int × Int)) :=
  slices_swapRangeCmpFunc_hours_step.l1 k a1 a2 a3 0 ao0
def slices_rotateCmpFunc_hours_step.l2 : Nat → Int → Int → Int → (List (Int × Int × Int)) → Option (List (Int × Int × Int))
  | 0, _, _, _, _ => none
  | k + 1, x2, x10, x11, xo0 => if x10 = x11 then
      (slices_swapRangeCmpFunc_hours_step.f k (wrap64 (x2 - x10)) x2 x10 xo0).bind fun r1 =>
      some r1
    else if x11 < x10 then
      (slices_swapRangeCmpFunc_hours_step.f k (wrap64 (x2 - x10)) x2 x11 xo0).bind fun r2 =>
      slices_rotateCmpFunc_hours_step.l2 k x2 (wrap64 (x10 - x11)) x11 r2
    else (slices_swapRangeCmpFunc_hours_step.f k (wrap64 (x2 - x10)) (wrap64 ((wrap64 (x2 + x11)) - x10)) x10 xo0).bind fun r3 =>
    slices_rotateCmpFunc_hours_step.l2 k x2 x10 (wrap64 (x11 - x10)) r3
theorem slices_rotateCmpFunc_hours_step.l2_eq (k : Nat) (x2 : Int) (x10 : Int) (x11 : Int) (xo0 : List (Int × Int × Int)) : slices_rotateCmpFunc_hours_step.l2 (k + 1) x2 x10 x11 xo0 = if x10 = x11 then
      (slices_swapRangeCmpFunc_hours_step.f k (wrap64 (x2 - x10)) x2 x10 xo0).bind fun r1 =>
      some r1
    else if x11 < x10 then
      (slices_swapRangeCmpFunc_hours_step.f k (wrap64 (x2 - x10)) x2 x11 xo0).bind fun r2 =>
      slices_rotateCmpFunc_hours_step.l2 k x2 (wrap64 (x10 - x11)) x11 r2
    else (slices_swapRangeCmpFunc_hours_step.f k (wrap64 (x2 - x10)) (wrap64 ((wrap64 (x2 + x11)) - x10)) x10 xo0).bind fun r3 =>
    slices_rotateCmpFunc_hours_step.l2 k x2 x10 (wrap64 (x11 - x10)) r3 := rfl
def slices_rotateCmpFunc_hours_step.f (k : Nat) (a1 : Int) (a2 : Int) (a3 : Int) (ao0 : List (Int × Int × Int)) : Option (List (Int × Int × Int)) :=
  slices_rotateCmpFunc_hours_step.l2 k a2 (wrap64 (a2 - a1)) (wrap64 (a3 - a2)) ao0
def slices_symMergeCmpFunc_hours_step.l9 : Nat → Int → Int → (List (Int × Int × Int)) → Option (List (Int × Int × Int))
  | 0, _, _, _ => none
  | k + 1, x10, x13, xo0 => if x13 < (wrap64 (x10 - 1)) then
      if 0 ≤ (wrap64 (x13 + 1)) then
        if (wrap64 (x13 + 1)) < (xo0.length : Int) then
          if 0 ≤ x13 then
            if x13 < (xo0.length : Int) then
              if 0 ≤ x13 then
                if x13 < (xo0.length : Int) then
                  if 0 ≤ (wrap64 (x13 + 1)) then
                    if (wrap64 (x13 + 1)) < ((xo0.set x13.toNat (rY2 xo0 (wrap64 (x13 + 1)))).length : Int) then
                      slices_symMergeCmpFunc_hours_step.l9 k x10 (wrap64 (x13 + 1)) ((xo0.set x13.toNat (rY2 xo0 (wrap64 (x13 + 1)))).set (wrap64 (x13 + 1)).toNat (rY2 xo0 x13))
                    else none
                  else none
                else none
              else none
            else none
          else none
        else none
      else none
    else some xo0
theorem slices_symMergeCmpFunc_hours_step.l9_eq (k : Nat) (x10 : Int) (x13 : Int) (xo0 : List (Int × Int × Int)) : slices_symMergeCmpFunc_hours_step.l9 (k + 1) x10 x13 xo0 = if x13 < (wrap64 (x10 - 1)) then
      if 0 ≤ (wrap64 (x13 + 1)) then
        if (wrap64 (x13 + 1)) < (xo0.length : Int) then
          if 0 ≤ x13 then
            if x13 < (xo0.length : Int) then
              if 0 ≤ x13 then
                if x13 < (xo0.length : Int) then
                  if 0 ≤ (wrap64 (x13 + 1)) then
                    if (wrap64 (x13 + 1)) < ((xo0.set x13.toNat (rY2 xo0 (wrap64 (x13 + 1)))).length : Int) then
                      slices_symMergeCmpFunc_hours_step.l9 k x10 (wrap64 (x13 + 1)) ((xo0.set x13.toNat (rY2 xo0 (wrap64 (x13 + 1)))).set (wrap64 (x13 + 1)).toNat (rY2 xo0 x13))
                    else none
                  else none
                else none
              else none
            else none
          else none
        else none
      else none
    else some xo0 := rfl
def slices_symMergeCmpFunc_hours_step.l3 : Nat → Int → Int → Int → (List (Int × Int × Int)) → Option (List (Int × Int × Int))
  | 0, _, _, _, _ => none
  | k + 1, x1, x10, x11, xo0 => if x10 < x11 then
      if (0 : Int) ≤ 1 then
        if 0 ≤ (wrap64 (shrI .u64 (IntKind.wrap .u64 (wrap64 (x10 + x11))) 1)) then
          if (wrap64 (shrI .u64 (IntKind.wrap .u64 (wrap64 (x10 + x11))) 1)) < (xo0.length : Int) then
            if 0 ≤ x1 then
              if x1 < (xo0.length : Int) then
                (hours_Change_1.f k (rY2 xo0 (wrap64 (shrI .u64 (IntKind.wrap .u64 (wrap64 (x10 + x11))) 1))) (rY2 xo0 x1)).bind fun r1 =>
                if r1 < 0 then
                  slices_symMergeCmpFunc_hours_step.l3 k x1 (wrap64 ((wrap64 (shrI .u64 (IntKind.wrap .u64 (wrap64 (x10 + x11))) 1)) + 1)) x11 xo0
                else slices_symMergeCmpFunc_hours_step.l3 k x1 x10 (wrap64 (shrI .u64 (IntKind.wrap .u64 (wrap64 (x10 + x11))) 1)) xo0
              else none
            else none
          else none
        else none
      else none
    else slices_symMergeCmpFunc_hours_step.l9 k x10 x1 xo0
theorem slices_symMergeCmpFunc_hours_step.l3_eq (k : Nat) (x1 : Int) (x10 : Int) (x11 : Int) (xo0 : List (Int × Int × Int)) : slices_symMergeCmpFunc_hours_step.l3 (k + 1) x1 x10 x11 xo0 = if x10 < x11 then
      if (0 : Int) ≤ 1 then
        if 0 ≤ (wrap64 (shrI .u64 (IntKind.wrap .u64 (wrap64 (x10 + x11))) 1)) then
          if (wrap64 (shrI .u64 (IntKind.wrap .u64 (wrap64 (x10 + x11))) 1)) < (xo0.length : Int) then
            if 0 ≤ x1 then
              if x1 < (xo0.length : Int) then
                (hours_Change_1.f k (rY2 xo0 (wrap64 (shrI .u64 (IntKind.wrap .u64 (wrap64 (x10 + x11))) 1))) (rY2 xo0 x1)).bind fun r1 =>
                if r1 < 0 then
                  slices_symMergeCmpFunc_hours_step.l3 k x1 (wrap64 ((wrap64 (shrI .u64 (IntKind.wrap .u64 (wrap64 (x10 + x11))) 1)) + 1)) x11 xo0
                else slices_symMergeCmpFunc_hours_step.l3 k x1 x10 (wrap64 (shrI .u64 (IntKind.wrap .u64 (wrap64 (x10 + x11))) 1)) xo0
              else none
            else none
          else none
        else none
      else none
    else slices_symMergeCmpFunc_hours_step.l9 k x10 x1 xo0 := rfl
def slices_symMergeCmpFunc_hours_step.l21 : Nat → Int → Int → (List (Int × Int × Int)) → Option (List (Int × Int × Int))
  | 0, _, _, _ => none
  | k + 1, x14, x17, xo0 => if x14 < x17 then
      if 0 ≤ (wrap64 (x17 - 1)) then
        if (wrap64 (x17 - 1)) < (xo0.length : Int) then
          if 0 ≤ x17 then
            if x17 < (xo0.length : Int) then
              if 0 ≤ x17 then
                if x17 < (xo0.length : Int) then
                  if 0 ≤ (wrap64 (x17 - 1)) then
                    if (wrap64 (x17 - 1)) < ((xo0.set x17.toNat (rY2 xo0 (wrap64 (x17 - 1)))).length : Int) then
                      slices_symMergeCmpFunc_hours_step.l21 k x14 (wrap64 (x17 - 1)) ((xo0.set x17.toNat (rY2 xo0 (wrap64 (x17 - 1)))).set (wrap64 (x17 - 1)).toNat (rY2 xo0 x17))
                    else none
                  else none
                else none
              else none
            else none
          else none
        else none
      else none
    else some xo0
theorem slices_symMergeCmpFunc_hours_step.l21_eq (k : Nat) (x14 : Int) (x17 : Int) (xo0 : List (Int × Int × Int)) : slices_symMergeCmpFunc_hours_step.l21 (k + 1) x14 x17 xo0 = if x14 < x17 then
      if 0 ≤ (wrap64 (x17 - 1)) then
        if (wrap64 (x17 - 1)) < (xo0.length : Int) then
          if 0 ≤ x17 then
            if x17 < (xo0.length : Int) then
              if 0 ≤ x17 then
                if x17 < (xo0.length : Int) then
                  if 0 ≤ (wrap64 (x17 - 1)) then
                    if (wrap64 (x17 - 1)) < ((xo0.set x17.toNat (rY2 xo0 (wrap64 (x17 - 1)))).length : Int) then
                      slices_symMergeCmpFunc_hours_step.l21 k x14 (wrap64 (x17 - 1)) ((xo0.set x17.toNat (rY2 xo0 (wrap64 (x17 - 1)))).set (wrap64 (x17 - 1)).toNat (rY2 xo0 x17))
                    else none
                  else none
                else none
              else none
            else none
          else none
        else none
      else none
    else some xo0 := rfl
def slices_symMergeCmpFunc_hours_step.l15 : Nat → Int → Int → Int → (List (Int × Int × Int)) → Option (List (Int × Int × Int))
  | 0, _, _, _, _ => none
  | k + 1, x2, x14, x15, xo0 => if x14 < x15 then
      if (0 : Int) ≤ 1 then
        if 0 ≤ x2 then
          if x2 < (xo0.length : Int) then
            if 0 ≤ (wrap64 (shrI .u64 (IntKind.wrap .u64 (wrap64 (x14 + x15))) 1)) then
              if (wrap64 (shrI .u64 (IntKind.wrap .u64 (wrap64 (x14 + x15))) 1)) < (xo0.length : Int) then
                (hours_Change_1.f k (rY2 xo0 x2) (rY2 xo0 (wrap64 (shrI .u64 (IntKind.wrap .u64 (wrap64 (x14 + x15))) 1)))).bind fun r2 =>
                if r2 < 0 then
                  slices_symMergeCmpFunc_hours_step.l15 k x2 x14 (wrap64 (shrI .u64 (IntKind.wrap .u64 (wrap64 (x14 + x15))) 1)) xo0
                else slices_symMergeCmpFunc_hours_step.l15 k x2 (wrap64 ((wrap64 (shrI .u64 (IntKind.wrap .u64 (wrap64 (x14 + x15))) 1)) + 1)) x15 xo0
              else none
            else none
          else none
        else none
      else none
    else slices_symMergeCmpFunc_hours_step.l21 k x14 x2 xo0
theorem slices_symMergeCmpFunc_hours_step.l15_eq (k : Nat) (x2 : Int) (x14 : Int) (x15 : Int) (xo0 : List (Int × Int × Int)) : slices_symMergeCmpFunc_hours_step.l15 (k + 1) x2 x14 x15 xo0 = if x14 < x15 then
      if (0 : Int) ≤ 1 then
        if 0 ≤ x2 then
          if x2 < (xo0.length : Int) then
            if 0 ≤ (wrap64 (shrI .u64 (IntKind.wrap .u64 (wrap64 (x14 + x15))) 1)) then
              if (wrap64 (shrI .u64 (IntKind.wrap .u64 (wrap64 (x14 + x15))) 1)) < (xo0.length : Int) then
                (hours_Change_1.f k (rY2 xo0 x2) (rY2 xo0 (wrap64 (shrI .u64 (IntKind.wrap .u64 (wrap64 (x14 + x15))) 1)))).bind fun r2 =>
                if r2 < 0 then
                  slices_symMergeCmpFunc_hours_step.l15 k x2 x14 (wrap64 (shrI .u64 (IntKind.wrap .u64 (wrap64 (x14 + x15))) 1)) xo0
                else slices_symMergeCmpFunc_hours_step.l15 k x2 (wrap64 ((wrap64 (shrI .u64 (IntKind.wrap .u64 (wrap64 (x14 + x15))) 1)) + 1)) x15 xo0
              else none
            else none
          else none
        else none
      else none
    else slices_symMergeCmpFunc_hours_step.l21 k x14 x2 xo0 := rfl
mutual
def slices_symMergeCmpFunc_hours_step.f : Nat → Int → Int → Int → (List (Int × Int × Int)) → Option (List (Int × Int × Int))
  | 0, _, _, _, _ => none
  | k + 1, a1, a2, a3, ao0 => if (wrap64 (a2 - a1)) = 1 then
      slices_symMergeCmpFunc_hours_step.l3 k a1 a2 a3 ao0
    else if (wrap64 (a3 - a2)) = 1 then
      slices_symMergeCmpFunc_hours_step.l15 k a2 a1 a2 ao0
    else if (0 : Int) ≤ 1 then
      if (wrap64 (shrI .u64 (IntKind.wrap .u64 (wrap64 (a1 + a3))) 1)) < a2 then
        slices_symMergeCmpFunc_hours_step.l32 k a1 a2 a3 (wrap64 (shrI .u64 (IntKind.wrap .u64 (wrap64 (a1 + a3))) 1)) (wrap64 ((wrap64 (shrI .u64 (IntKind.wrap .u64 (wrap64 (a1 + a3))) 1)) + a2)) (wrap64 ((wrap64 ((wrap64 (shrI .u64 (IntKind.wrap .u64 (wrap64 (a1 + a3))) 1)) + a2)) - a3)) (wrap64 (shrI .u64 (IntKind.wrap .u64 (wrap64 (a1 + a3))) 1)) ao0
      else slices_symMergeCmpFunc_hours_step.l32 k a1 a2 a3 (wrap64 (shrI .u64 (IntKind.wrap .u64 (wrap64 (a1 + a3))) 1)) (wrap64 ((wrap64 (shrI .u64 (IntKind.wrap .u64 (wrap64 (a1 + a3))) 1)) + a2)) a1 a2 ao0
    else none
def slices_symMergeCmpFunc_hours_step.l32 : Nat → Int → Int → Int → Int → Int → Int → Int → (List (Int × Int × Int)) → Option (List (Int × Int × Int))
  | 0, _, _, _, _, _, _, _, _ => none
  | k + 1, x1, x2, x3, x18, x19, x20, x21, xo0 => slices_symMergeCmpFunc_hours_step.l33 k x1 x2 x3 x18 x19 x20 x21 (wrap64 (x19 - 1)) xo0
def slices_symMergeCmpFunc_hours_step.l33 : Nat → Int → Int → Int → Int → Int → Int → Int → Int → (List (Int × Int × Int)) → Option (List (Int × Int × Int))
  | 0, _, _, _, _, _, _, _, _, _ => none
  | k + 1, x1, x2, x3, x18, x19, x20, x21, x22, xo0 => if x20 < x21 then
      if (0 : Int) ≤ 1 then
        if 0 ≤ (wrap64 (x22 - (wrap64 (shrI .u64 (IntKind.wrap .u64 (wrap64 (x20 + x21))) 1)))) then
          if (wrap64 (x22 - (wrap64 (shrI .u64 (IntKind.wrap .u64 (wrap64 (x20 + x21))) 1)))) < (xo0.length : Int) then
            if 0 ≤ (wrap64 (shrI .u64 (IntKind.wrap .u64 (wrap64 (x20 + x21))) 1)) then
              if (wrap64 (shrI .u64 (IntKind.wrap .u64 (wrap64 (x20 + x21))) 1)) < (xo0.length : Int) then
                (hours_Change_1.f k (rY2 xo0 (wrap64 (x22 - (wrap64 (shrI .u64 (IntKind.wrap .u64 (wrap64 (x20 + x21))) 1))))) (rY2 xo0 (wrap64 (shrI .u64 (IntKind.wrap .u64 (wrap64 (x20 + x21))) 1)))).bind fun r3 =>
                if r3 < 0 then
                  slices_symMergeCmpFunc_hours_step.l33 k x1 x2 x3 x18 x19 x20 (wrap64 (shrI .u64 (IntKind.wrap .u64 (wrap64 (x20 + x21))) 1)) x22 xo0
                else slices_symMergeCmpFunc_hours_step.l33 k x1 x2 x3 x18 x19 (wrap64 ((wrap64 (shrI .u64 (IntKind.wrap .u64 (wrap64 (x20 + x21))) 1)) + 1)) x21 x22 xo0
              else none
            else none
          else none
        else none
      else none
    else if x20 < x2 then
      if x2 < (wrap64 (x19 - x20)) then
        (slices_rotateCmpFunc_hours_step.f k x20 x2 (wrap64 (x19 - x20)) xo0).bind fun r4 =>
        slices_symMergeCmpFunc_hours_step.l41 k x1 x3 x18 x20 (wrap64 (x19 - x20)) r4
      else slices_symMergeCmpFunc_hours_step.l41 k x1 x3 x18 x20 (wrap64 (x19 - x20)) xo0
    else slices_symMergeCmpFunc_hours_step.l41 k x1 x3 x18 x20 (wrap64 (x19 - x20)) xo0
def slices_symMergeCmpFunc_hours_step.l41 : Nat → Int → Int → Int → Int → Int → (List (Int × Int × Int)) → Option (List (Int × Int × Int))
  | 0, _, _, _, _, _, _ => none
  | k + 1, x1, x3, x18, x20, x24, xo0 => if x1 < x20 then
      if x20 < x18 then
        (slices_symMergeCmpFunc_hours_step.f k x1 x20 x18 xo0).bind fun r5 =>
        if x18 < x24 then
          if x24 < x3 then
            (slices_symMergeCmpFunc_hours_step.f k x18 x24 x3 r5).bind fun r6 =>
            some r6
          else some r5
        else some r5
      else if x18 < x24 then
        if x24 < x3 then
          (slices_symMergeCmpFunc_hours_step.f k x18 x24 x3 xo0).bind fun r7 =>
          some r7
        else some xo0
      else some xo0
    else if x18 < x24 then
      if x24 < x3 then
        (slices_symMergeCmpFunc_hours_step.f k x18 x24 x3 xo0).bind fun r8 =>
        some r8
      else some xo0
    else some xo0
end
theorem slices_symMergeCmpFunc_hours_step.f_eq (k : Nat) (a1 : Int) (a2 : Int) (a3 : Int) (ao0 : List (Int × Int × Int)) : slices_symMergeCmpFunc_hours_step.f (k + 1) a1 a2 a3 ao0 = if (wrap64 (a2 - a1)) = 1 then
      slices_symMergeCmpFunc_hours_step.l3 k a1 a2 a3 ao0
    else if (wrap64 (a3 - a2)) = 1 then
      slices_symMergeCmpFunc_hours_step.l15 k a2 a1 a2 ao0
    else if (0 : Int) ≤ 1 then
      if (wrap64 (shrI .u64 (IntKind.wrap .u64 (wrap64 (a1 + a3))) 1)) < a2 then
        slices_symMergeCmpFunc_hours_step.l32 k a1 a2 a3 (wrap64 (shrI .u64 (IntKind.wrap .u64 (wrap64 (a1 + a3))) 1)) (wrap64 ((wrap64 (shrI .u64 (IntKind.wrap .u64 (wrap64 (a1 + a3))) 1)) + a2)) (wrap64 ((wrap64 ((wrap64 (shrI .u64 (IntKind.wrap .u64 (wrap64 (a1 + a3))) 1)) + a2)) - a3)) (wrap64 (shrI .u64 (IntKind.wrap .u64 (wrap64 (a1 + a3))) 1)) ao0
      else slices_symMergeCmpFunc_hours_step.l32 k a1 a2 a3 (wrap64 (shrI .u64 (IntKind.wrap .u64 (wrap64 (a1 + a3))) 1)) (wrap64 ((wrap64 (shrI .u64 (IntKind.wrap .u64 (wrap64 (a1 + a3))) 1)) + a2)) a1 a2 ao0
    else none := rfl
theorem slices_symMergeCmpFunc_hours_step.l32_eq (k : Nat) (x1 : Int) (x2 : Int) (x3 : Int) (x18 : Int) (x19 : Int) (x20 : Int) (x21 : Int) (xo0 : List (Int × Int × Int)) : slices_symMergeCmpFunc_hours_step.l32 (k + 1) x1 x2 x3 x18 x19 x20 x21 xo0 = slices_symMergeCmpFunc_hours_step.l33 k x1 x2 x3 x18 x19 x20 x21 (wrap64 (x19 - 1)) xo0 := rfl
theorem slices_symMergeCmpFunc_hours_step.l33_eq (k : Nat) (x1 : Int) (x2 : Int) (x3 : Int) (x18 : Int) (x19 : Int) (x20 : Int) (x21 : Int) (x22 : Int) (xo0 : List (Int × Int × Int)) : slices_symMergeCmpFunc_hours_step.l33 (k + 1) x1 x2 x3 x18 x19 x20 x21 x22 xo0 = if x20 < x21 then
      if (0 : Int) ≤ 1 then
        if 0 ≤ (wrap64 (x22 - (wrap64 (shrI .u64 (IntKind.wrap .u64 (wrap64 (x20 + x21))) 1)))) then
          if (wrap64 (x22 - (wrap64 (shrI .u64 (IntKind.wrap .u64 (wrap64 (x20 + x21))) 1)))) < (xo0.length : Int) then
            if 0 ≤ (wrap64 (shrI .u64 (IntKind.wrap .u64 (wrap64 (x20 + x21))) 1)) then
              if (wrap64 (shrI .u64 (IntKind.wrap .u64 (wrap64 (x20 + x21))) 1)) < (xo0.length : Int) then
                (hours_Change_1.f k (rY2 xo0 (wrap64 (x22 - (wrap64 (shrI .u64 (IntKind.wrap .u64 (wrap64 (x20 + x21))) 1))))) (rY2 xo0 (wrap64 (shrI .u64 (IntKind.wrap .u64 (wrap64 (x20 + x21))) 1)))).bind fun r3 =>
                if r3 < 0 then
                  slices_symMergeCmpFunc_hours_step.l33 k x1 x2 x3 x18 x19 x20 (wrap64 (shrI .u64 (IntKind.wrap .u64 (wrap64 (x20 + x21))) 1)) x22 xo0
                else slices_symMergeCmpFunc_hours_step.l33 k x1 x2 x3 x18 x19 (wrap64 ((wrap64 (shrI .u64 (IntKind.wrap .u64 (wrap64 (x20 + x21))) 1)) + 1)) x21 x22 xo0
              else none
            else none
          else none
        else none
      else none
    else if x20 < x2 then
      if x2 < (wrap64 (x19 - x20)) then
        (slices_rotateCmpFunc_hours_step.f k x20 x2 (wrap64 (x19 - x20)) xo0).bind fun r4 =>
        slices_symMergeCmpFunc_hours_step.l41 k x1 x3 x18 x20 (wrap64 (x19 - x20)) r4
      else slices_symMergeCmpFunc_hours_step.l41 k x1 x3 x18 x20 (wrap64 (x19 - x20)) xo0
    else slices_symMergeCmpFunc_hours_step.l41 k x1 x3 x18 x20 (wrap64 (x19 - x20)) xo0 := rfl
theorem slices_symMergeCmpFunc_hours_step.l41_eq (k : Nat) (x1 : Int) (x3 : Int) (x18 : Int) (x20 : Int) (x24 : Int) (xo0 : List (Int × Int × Int)) : slices_symMergeCmpFunc_hours_step.l41 (k + 1) x1 x3 x18 x20 x24 xo0 = if x1 < x20 then
      if x20 < x18 then
        (slices_symMergeCmpFunc_hours_step.f k x1 x20 x18 xo0).bind fun r5 =>
        if x18 < x24 then
          if x24 < x3 then
            (slices_symMergeCmpFunc_hours_step.f k x18 x24 x3 r5).bind fun r6 =>
            some r6
          else some r5
        else some r5
      else if x18 < x24 then
        if x24 < x3 then
          (slices_symMergeCmpFunc_hours_step.f k x18 x24 x3 xo0).bind fun r7 =>
          some r7
        else some xo0
      else some xo0
    else if x18 < x24 then
      if x24 < x3 then
        (slices_symMergeCmpFunc_hours_step.f k x18 x24 x3 xo0).bind fun r8 =>
        some r8
      else some xo0
    else some xo0 := rfl
mutual
def slices_stableCmpFunc_hours_step.l7 : Nat → Int → Int → (List (Int × Int × Int)) → Option (List (Int × Int × Int))
  | 0, _, _, _ => none
  | k + 1, x1, x6, xo0 => if x6 < x1 then
      slices_stableCmpFunc_hours_step.l9 k x1 x6 0 (wrap64 (2 * x6)) xo0
    else some xo0
def slices_stableCmpFunc_hours_step.l9 : Nat → Int → Int → Int → Int → (List (Int × Int × Int)) → Option (List (Int × Int × Int))
  | 0, _, _, _, _, _ => none
  | k + 1, x1, x6, x7, x8, xo0 => if x8 ≤ x1 then
      (slices_symMergeCmpFunc_hours_step.f k x7 (wrap64 (x7 + x6)) x8 xo0).bind fun r3 =>
      slices_stableCmpFunc_hours_step.l9 k x1 x6 x8 (wrap64 (x8 + (wrap64 (2 * x6)))) r3
    else if (wrap64 (x7 + x6)) < x1 then
      (slices_symMergeCmpFunc_hours_step.f k x7 (wrap64 (x7 + x6)) x1 xo0).bind fun r4 =>
      slices_stableCmpFunc_hours_step.l7 k x1 (wrap64 (x6 * 2)) r4
    else slices_stableCmpFunc_hours_step.l7 k x1 (wrap64 (x6 * 2)) xo0
end
theorem slices_stableCmpFunc_hours_step.l7_eq (k : Nat) (x1 : Int) (x6 : Int) (xo0 : List (Int × Int × Int)) : slices_stableCmpFunc_hours_step.l7 (k + 1) x1 x6 xo0 = if x6 < x1 then
      slices_stableCmpFunc_hours_step.l9 k x1 x6 0 (wrap64 (2 * x6)) xo0
    else some xo0 := rfl
theorem slices_stableCmpFunc_hours_step.l9_eq (k : Nat) (x1 : Int) (x6 : Int) (x7 : Int) (x8 : Int) (xo0 : List (Int × Int × Int)) : slices_stableCmpFunc_hours_step.l9 (k + 1) x1 x6 x7 x8 xo0 = if x8 ≤ x1 then
      (slices_symMergeCmpFunc_hours_step.f k x7 (wrap64 (x7 + x6)) x8 xo0).bind fun r3 =>
      slices_stableCmpFunc_hours_step.l9 k x1 x6 x8 (wrap64 (x8 + (wrap64 (2 * x6)))) r3
    else if (wrap64 (x7 + x6)) < x1 then
      (slices_symMergeCmpFunc_hours_step.f k x7 (wrap64 (x7 + x6)) x1 xo0).bind fun r4 =>
      slices_stableCmpFunc_hours_step.l7 k x1 (wrap64 (x6 * 2)) r4
    else slices_stableCmpFunc_hours_step.l7 k x1 (wrap64 (x6 * 2)) xo0 := rfl
def slices_stableCmpFunc_hours_step.l2 : Nat → Int → Int → Int → Int → (List (Int × Int × Int)) → Option (List (Int × Int × Int))
  | 0, _, _, _, _, _ => none
  | k + 1, x1, x6, x7, x8, xo0 => if x8 ≤ x1 then
      (slices_insertionSortCmpFunc_hours_step.f k x7 x8 xo0).bind fun r1 =>
      slices_stableCmpFunc_hours_step.l2 k x1 x6 x8 (wrap64 (x8 + x6)) r1
    else (slices_insertionSortCmpFunc_hours_step.f k x7 x1 xo0).bind fun r2 =>
    slices_stableCmpFunc_hours_step.l7 k x1 x6 r2
theorem slices_stableCmpFunc_hours_step.l2_eq (k : Nat) (x1 : Int) (x6 : Int) (x7 : Int) (x8 : Int) (xo0 : List (Int × Int × Int)) : slices_stableCmpFunc_hours_step.l2 (k + 1) x1 x6 x7 x8 xo0 = if x8 ≤ x1 then
      (slices_insertionSortCmpFunc_hours_step.f k x7 x8 xo0).bind fun r1 =>
      slices_stableCmpFunc_hours_step.l2 k x1 x6 x8 (wrap64 (x8 + x6)) r1
    else (slices_insertionSortCmpFunc_hours_step.f k x7 x1 xo0).bind fun r2 =>
    slices_stableCmpFunc_hours_step.l7 k x1 x6 r2 := rfl
def slices_stableCmpFunc_hours_step.f (k : Nat) (a1 : Int) (ao0 : List (Int × Int × Int)) : Option (List (Int × Int × Int)) :=
  slices_stableCmpFunc_hours_step.l2 k a1 20 0 20 ao0
def slices_SortStableFunc_hours_step.f (k : Nat) (ao0 : List (Int × Int × Int)) : Option (List (Int × Int × Int)) :=
  (slices_stableCmpFunc_hours_step.f k (ao0.length : Int) ao0).bind fun r1 =>
  some r1
def offer_Cost.l8 : Nat → Int → Int → (List (Int × Int)) → Int → Int → Option (Int × Int)
  | 0, _, _, _, _, _ => none
  | k + 1, x1, x7, x25, x26, x27 => if x27 < x26 then
      if 0 ≤ x27 then
        if x27 < (x25.length : Int) then
          offer_Cost.l8 k (wrap64 (x1 - (mn x1 (rY0 x25 x27).1))) (wrap64 (x7 + (wrap64 ((mn x1 (rY0 x25 x27).1) * (rY0 x25 x27).2)))) x25 x26 (wrap64 (x27 + 1))
        else none
      else none
    else some (x7, 0)
theorem offer_Cost.l8_eq (k : Nat) (x1 : Int) (x7 : Int) (x25 : List (Int × Int)) (x26 : Int) (x27 : Int) : offer_Cost.l8 (k + 1) x1 x7 x25 x26 x27 = if x27 < x26 then
      if 0 ≤ x27 then
        if x27 < (x25.length : Int) then
          offer_Cost.l8 k (wrap64 (x1 - (mn x1 (rY0 x25 x27).1))) (wrap64 (x7 + (wrap64 ((mn x1 (rY0 x25 x27).1) * (rY0 x25 x27).2)))) x25 x26 (wrap64 (x27 + 1))
        else none
      else none
    else some (x7, 0) := rfl
def offer_Cost.f (k : Nat) (a0 : ByteArray × List (Int × Int)) (a1 : Int) : Option (Int × Int) :=
  (offer_Check.f k a0).bind fun r1 =>
  if r1 = 0 then
    if a1 < 0 then
      some (0, 4)
    else (offer_Most.f k a0).bind fun r2 =>
    if r2 < a1 then
      some (0, 4)
    else offer_Cost.l8 k a1 0 a0.2 (a0.2.length : Int) 0
  else some (0, r1)
def hours_Change.l45 : Nat → List Int → (List (ByteArray × List (Int × Int))) → Int → Int → Int → List Int → Int → List Int → Option ((List Int × Int) × Int)
  | 0, _, _, _, _, _, _, _, _ => none
  | k + 1, x1, x191, x192, x193, xo0, xo1, xo2, xo3 => if x193 < x192 then
      if 0 ≤ x193 then
        if x193 < (x191.length : Int) then
          if 0 ≤ x193 then
            if x193 < (x1.length : Int) then
              (offer_Cost.f k (rY1 x191 x193) (rI64 x1 x193)).bind fun r5 =>
              if 0 ≤ x193 then
                if x193 < (xo1.length : Int) then
                  (offer_Cost.f k (rY1 x191 x193) (rI64 xo1 x193)).bind fun r6 =>
                  if 0 ≤ x193 then
                    if x193 < (xo1.length : Int) then
                      if 0 ≤ x193 then
                        if x193 < (x1.length : Int) then
                          if 0 ≤ x193 then
                            if x193 < (xo3.length : Int) then
                              hours_Change.l45 k x1 x191 x192 (wrap64 (x193 + 1)) xo0 xo1 (wrap64 ((wrap64 (xo2 + r6.1)) - r5.1)) (xo3.set x193.toNat (wrap64 ((rI64 xo1 x193) - (rI64 x1 x193))))
                            else none
                          else none
                        else none
                      else none
                    else none
                  else none
                else none
              else none
            else none
          else none
        else none
      else none
    else some ((xo3, xo2), 0)
theorem hours_Change.l45_eq (k : Nat) (x1 : List Int) (x191 : List (ByteArray × List (Int × Int))) (x192 : Int) (x193 : Int) (xo0 : Int) (xo1 : List Int) (xo2 : Int) (xo3 : List Int) : hours_Change.l45 (k + 1) x1 x191 x192 x193 xo0 xo1 xo2 xo3 = if x193 < x192 then
      if 0 ≤ x193 then
        if x193 < (x191.length : Int) then
          if 0 ≤ x193 then
            if x193 < (x1.length : Int) then
              (offer_Cost.f k (rY1 x191 x193) (rI64 x1 x193)).bind fun r5 =>
              if 0 ≤ x193 then
                if x193 < (xo1.length : Int) then
                  (offer_Cost.f k (rY1 x191 x193) (rI64 xo1 x193)).bind fun r6 =>
                  if 0 ≤ x193 then
                    if x193 < (xo1.length : Int) then
                      if 0 ≤ x193 then
                        if x193 < (x1.length : Int) then
                          if 0 ≤ x193 then
                            if x193 < (xo3.length : Int) then
                              hours_Change.l45 k x1 x191 x192 (wrap64 (x193 + 1)) xo0 xo1 (wrap64 ((wrap64 (xo2 + r6.1)) - r5.1)) (xo3.set x193.toNat (wrap64 ((rI64 xo1 x193) - (rI64 x1 x193))))
                            else none
                          else none
                        else none
                      else none
                    else none
                  else none
                else none
              else none
            else none
          else none
        else none
      else none
    else some ((xo3, xo2), 0) := rfl
def hours_Change.l36 : Nat → (List (ByteArray × List (Int × Int))) → List Int → Int → Int → Int → Int → List Int → (List (Int × Int × Int)) → Option ((List Int × Int) × Int)
  | 0, _, _, _, _, _, _, _, _ => none
  | k + 1, x0, x1, x15, x160, x161, xo0, xo1, xo2 => if x161 < x160 then
      if 0 ≤ x161 then
        if x161 < (xo2.length : Int) then
          if 0 ≤ (rY2 xo2 x161).1 then
            if (rY2 xo2 x161).1 < (xo1.length : Int) then
              if 0 ≤ (rY2 xo2 x161).1 then
                if (rY2 xo2 x161).1 < (xo1.length : Int) then
                  hours_Change.l36 k x0 x1 (wrap64 (x15 - (mn (rY2 xo2 x161).2.1 x15))) x160 (wrap64 (x161 + 1)) xo0 (xo1.set (rY2 xo2 x161).1.toNat (wrap64 ((rI64 xo1 (rY2 xo2 x161).1) + (mn (rY2 xo2 x161).2.1 x15)))) xo2
                else none
              else none
            else none
          else none
        else none
      else none
    else if 0 < x15 then
      some (([], 0), 8)
    else if 0 ≤ (x0.length : Int) then
      if (x0.length : Int) * 8 ≤ 140737488355328 then
        if (x0.length : Int) ≤ 140737488355328 then
          hours_Change.l45 k x1 x0 (x0.length : Int) 0 xo0 xo1 0 (List.replicate (x0.length : Int).toNat 0)
        else none
      else none
    else none
theorem hours_Change.l36_eq (k : Nat) (x0 : List (ByteArray × List (Int × Int))) (x1 : List Int) (x15 : Int) (x160 : Int) (x161 : Int) (xo0 : Int) (xo1 : List Int) (xo2 : List (Int × Int × Int)) : hours_Change.l36 (k + 1) x0 x1 x15 x160 x161 xo0 xo1 xo2 = if x161 < x160 then
      if 0 ≤ x161 then
        if x161 < (xo2.length : Int) then
          if 0 ≤ (rY2 xo2 x161).1 then
            if (rY2 xo2 x161).1 < (xo1.length : Int) then
              if 0 ≤ (rY2 xo2 x161).1 then
                if (rY2 xo2 x161).1 < (xo1.length : Int) then
                  hours_Change.l36 k x0 x1 (wrap64 (x15 - (mn (rY2 xo2 x161).2.1 x15))) x160 (wrap64 (x161 + 1)) xo0 (xo1.set (rY2 xo2 x161).1.toNat (wrap64 ((rI64 xo1 (rY2 xo2 x161).1) + (mn (rY2 xo2 x161).2.1 x15)))) xo2
                else none
              else none
            else none
          else none
        else none
      else none
    else if 0 < x15 then
      some (([], 0), 8)
    else if 0 ≤ (x0.length : Int) then
      if (x0.length : Int) * 8 ≤ 140737488355328 then
        if (x0.length : Int) ≤ 140737488355328 then
          hours_Change.l45 k x1 x0 (x0.length : Int) 0 xo0 xo1 0 (List.replicate (x0.length : Int).toNat 0)
        else none
      else none
    else none := rfl
mutual
def hours_Change.l17 : Nat → (List (ByteArray × List (Int × Int))) → List Int → Int → Int → (List (ByteArray × List (Int × Int))) → Int → Int → Int → (List (Int × Int × Int)) → List Int → Option ((List Int × Int) × Int)
  | 0, _, _, _, _, _, _, _, _, _, _ => none
  | k + 1, x0, x1, x3, x15, x89, x90, x91, xo0, xo1, xo2 => if x91 < x90 then
      if 0 ≤ x91 then
        if x91 < (x89.length : Int) then
          if 0 ≤ x91 then
            if x91 < (x1.length : Int) then
              (offer_Most.f k (rY1 x89 x91)).bind fun r3 =>
              if 0 ≤ x91 then
                if x91 < (x1.length : Int) then
                  if 0 ≤ x91 then
                    if x91 < (xo2.length : Int) then
                      hours_Change.l24 k x0 x1 x3 (wrap64 (x15 - (mx 0 (wrap64 ((rI64 x1 x91) - x3))))) x91 (mx 0 (wrap64 ((rI64 x1 x91) - x3))) (mn r3 (wrap64 ((rI64 x1 x91) + x3))) 0 x89 x90 x91 (rY1 x89 x91).2 ((rY1 x89 x91).2.length : Int) 0 xo0 xo1 (xo2.set x91.toNat (mx 0 (wrap64 ((rI64 x1 x91) - x3))))
                    else none
                  else none
                else none
              else none
            else none
          else none
        else none
      else none
    else if x15 < 0 then
      some (([], 0), 8)
    else (slices_SortStableFunc_hours_step.f k xo1).bind fun r4 =>
    hours_Change.l36 k x0 x1 x15 (r4.length : Int) 0 xo0 xo2 r4
def hours_Change.l24 : Nat → (List (ByteArray × List (Int × Int))) → List Int → Int → Int → Int → Int → Int → Int → (List (ByteArray × List (Int × Int))) → Int → Int → (List (Int × Int)) → Int → Int → Int → (List (Int × Int × Int)) → List Int → Option ((List Int × Int) × Int)
  | 0, _, _, _, _, _, _, _, _, _, _, _, _, _, _, _, _, _ => none
  | k + 1, x0, x1, x3, x15, x16, x18, x19, x20, x89, x90, x91, x120, x121, x122, xo0, xo1, xo2 => if x122 < x121 then
      if 0 ≤ x122 then
        if x122 < (x120.length : Int) then
          if (mx x20 x18) < (mn (wrap64 (x20 + (rY0 x120 x122).1)) x19) then
            if (xo1.length + [(x16, wrap64 ((mn (wrap64 (x20 + (rY0 x120 x122).1)) x19) - (mx x20 x18)), (rY0 x120 x122).2)].length) * 24 ≤ 140737488355328 then
              hours_Change.l24 k x0 x1 x3 x15 x16 x18 x19 (wrap64 (x20 + (rY0 x120 x122).1)) x89 x90 x91 x120 x121 (wrap64 (x122 + 1)) xo0 (xo1 ++ [(x16, wrap64 ((mn (wrap64 (x20 + (rY0 x120 x122).1)) x19) - (mx x20 x18)), (rY0 x120 x122).2)]) xo2
            else none
          else hours_Change.l24 k x0 x1 x3 x15 x16 x18 x19 (wrap64 (x20 + (rY0 x120 x122).1)) x89 x90 x91 x120 x121 (wrap64 (x122 + 1)) xo0 xo1 xo2
        else none
      else none
    else hours_Change.l17 k x0 x1 x3 x15 x89 x90 (wrap64 (x91 + 1)) xo0 xo1 xo2
end
theorem hours_Change.l17_eq (k : Nat) (x0 : List (ByteArray × List (Int × Int))) (x1 : List Int) (x3 : Int) (x15 : Int) (x89 : List (ByteArray × List (Int × Int))) (x90 : Int) (x91 : Int) (xo0 : Int) (xo1 : List (Int × Int × Int)) (xo2 : List Int) : hours_Change.l17 (k + 1) x0 x1 x3 x15 x89 x90 x91 xo0 xo1 xo2 = if x91 < x90 then
      if 0 ≤ x91 then
        if x91 < (x89.length : Int) then
          if 0 ≤ x91 then
            if x91 < (x1.length : Int) then
              (offer_Most.f k (rY1 x89 x91)).bind fun r3 =>
              if 0 ≤ x91 then
                if x91 < (x1.length : Int) then
                  if 0 ≤ x91 then
                    if x91 < (xo2.length : Int) then
                      hours_Change.l24 k x0 x1 x3 (wrap64 (x15 - (mx 0 (wrap64 ((rI64 x1 x91) - x3))))) x91 (mx 0 (wrap64 ((rI64 x1 x91) - x3))) (mn r3 (wrap64 ((rI64 x1 x91) + x3))) 0 x89 x90 x91 (rY1 x89 x91).2 ((rY1 x89 x91).2.length : Int) 0 xo0 xo1 (xo2.set x91.toNat (mx 0 (wrap64 ((rI64 x1 x91) - x3))))
                    else none
                  else none
                else none
              else none
            else none
          else none
        else none
      else none
    else if x15 < 0 then
      some (([], 0), 8)
    else (slices_SortStableFunc_hours_step.f k xo1).bind fun r4 =>
    hours_Change.l36 k x0 x1 x15 (r4.length : Int) 0 xo0 xo2 r4 := rfl
theorem hours_Change.l24_eq (k : Nat) (x0 : List (ByteArray × List (Int × Int))) (x1 : List Int) (x3 : Int) (x15 : Int) (x16 : Int) (x18 : Int) (x19 : Int) (x20 : Int) (x89 : List (ByteArray × List (Int × Int))) (x90 : Int) (x91 : Int) (x120 : List (Int × Int)) (x121 : Int) (x122 : Int) (xo0 : Int) (xo1 : List (Int × Int × Int)) (xo2 : List Int) : hours_Change.l24 (k + 1) x0 x1 x3 x15 x16 x18 x19 x20 x89 x90 x91 x120 x121 x122 xo0 xo1 xo2 = if x122 < x121 then
      if 0 ≤ x122 then
        if x122 < (x120.length : Int) then
          if (mx x20 x18) < (mn (wrap64 (x20 + (rY0 x120 x122).1)) x19) then
            if (xo1.length + [(x16, wrap64 ((mn (wrap64 (x20 + (rY0 x120 x122).1)) x19) - (mx x20 x18)), (rY0 x120 x122).2)].length) * 24 ≤ 140737488355328 then
              hours_Change.l24 k x0 x1 x3 x15 x16 x18 x19 (wrap64 (x20 + (rY0 x120 x122).1)) x89 x90 x91 x120 x121 (wrap64 (x122 + 1)) xo0 (xo1 ++ [(x16, wrap64 ((mn (wrap64 (x20 + (rY0 x120 x122).1)) x19) - (mx x20 x18)), (rY0 x120 x122).2)]) xo2
            else none
          else hours_Change.l24 k x0 x1 x3 x15 x16 x18 x19 (wrap64 (x20 + (rY0 x120 x122).1)) x89 x90 x91 x120 x121 (wrap64 (x122 + 1)) xo0 xo1 xo2
        else none
      else none
    else hours_Change.l17 k x0 x1 x3 x15 x89 x90 (wrap64 (x91 + 1)) xo0 xo1 xo2 := rfl
def hours_Change.l7 : Nat → (List (ByteArray × List (Int × Int))) → List Int → Int → Int → (List (ByteArray × List (Int × Int))) → Int → Int → Int → Option ((List Int × Int) × Int)
  | 0, _, _, _, _, _, _, _, _ => none
  | k + 1, x0, x1, x2, x3, x47, x48, x49, xo0 => if x49 < x48 then
      if 0 ≤ x49 then
        if x49 < (x47.length : Int) then
          if 0 ≤ x49 then
            if x49 < (x1.length : Int) then
              if (rI64 x1 x49) < 0 then
                some (([], 0), 4)
              else if 0 ≤ x49 then
                if x49 < (x1.length : Int) then
                  (offer_Most.f k (rY1 x47 x49)).bind fun r2 =>
                  if r2 < (rI64 x1 x49) then
                    some (([], 0), 4)
                  else hours_Change.l7 k x0 x1 x2 x3 x47 x48 (wrap64 (x49 + 1)) xo0
                else none
              else none
            else none
          else none
        else none
      else none
    else if x2 < 0 then
      some (([], 0), 1)
    else if 1000000 < x2 then
      some (([], 0), 1)
    else if x3 < 0 then
      some (([], 0), 1)
    else if 100000 < x3 then
      some (([], 0), 1)
    else if 0 ≤ (x0.length : Int) then
      if (x0.length : Int) * 8 ≤ 140737488355328 then
        if (x0.length : Int) ≤ 140737488355328 then
          hours_Change.l17 k x0 x1 x3 x2 x0 (x0.length : Int) 0 xo0 [] (List.replicate (x0.length : Int).toNat 0)
        else none
      else none
    else none
theorem hours_Change.l7_eq (k : Nat) (x0 : List (ByteArray × List (Int × Int))) (x1 : List Int) (x2 : Int) (x3 : Int) (x47 : List (ByteArray × List (Int × Int))) (x48 : Int) (x49 : Int) (xo0 : Int) : hours_Change.l7 (k + 1) x0 x1 x2 x3 x47 x48 x49 xo0 = if x49 < x48 then
      if 0 ≤ x49 then
        if x49 < (x47.length : Int) then
          if 0 ≤ x49 then
            if x49 < (x1.length : Int) then
              if (rI64 x1 x49) < 0 then
                some (([], 0), 4)
              else if 0 ≤ x49 then
                if x49 < (x1.length : Int) then
                  (offer_Most.f k (rY1 x47 x49)).bind fun r2 =>
                  if r2 < (rI64 x1 x49) then
                    some (([], 0), 4)
                  else hours_Change.l7 k x0 x1 x2 x3 x47 x48 (wrap64 (x49 + 1)) xo0
                else none
              else none
            else none
          else none
        else none
      else none
    else if x2 < 0 then
      some (([], 0), 1)
    else if 1000000 < x2 then
      some (([], 0), 1)
    else if x3 < 0 then
      some (([], 0), 1)
    else if 100000 < x3 then
      some (([], 0), 1)
    else if 0 ≤ (x0.length : Int) then
      if (x0.length : Int) * 8 ≤ 140737488355328 then
        if (x0.length : Int) ≤ 140737488355328 then
          hours_Change.l17 k x0 x1 x3 x2 x0 (x0.length : Int) 0 xo0 [] (List.replicate (x0.length : Int).toNat 0)
        else none
      else none
    else none := rfl
def hours_Change.f (k : Nat) (a0 : List (ByteArray × List (Int × Int))) (a1 : List Int) (a2 : Int) (a3 : Int) : Option ((List Int × Int) × Int) :=
  (offer_CheckAll.f k a0).bind fun r1 =>
  if r1 = 0 then
    if (a1.length : Int) = (a0.length : Int) then
      hours_Change.l7 k a0 a1 a2 a3 a0 (a0.length : Int) 0 0
    else some (([], 0), 3)
  else some (([], 0), r1)
def dispatch_sum.l3 : Nat → Int → (List (ByteArray × List (Int × Int))) → Int → Int → Option Int
  | 0, _, _, _, _ => none
  | k + 1, x3, x6, x7, x8 => if x8 < x7 then
      if 0 ≤ x8 then
        if x8 < (x6.length : Int) then
          (offer_Most.f k (rY1 x6 x8)).bind fun r1 =>
          dispatch_sum.l3 k (wrap64 (x3 + r1)) x6 x7 (wrap64 (x8 + 1))
        else none
      else none
    else some x3
theorem dispatch_sum.l3_eq (k : Nat) (x3 : Int) (x6 : List (ByteArray × List (Int × Int))) (x7 : Int) (x8 : Int) : dispatch_sum.l3 (k + 1) x3 x6 x7 x8 = if x8 < x7 then
      if 0 ≤ x8 then
        if x8 < (x6.length : Int) then
          (offer_Most.f k (rY1 x6 x8)).bind fun r1 =>
          dispatch_sum.l3 k (wrap64 (x3 + r1)) x6 x7 (wrap64 (x8 + 1))
        else none
      else none
    else some x3 := rfl
def dispatch_sum.f (k : Nat) (a0 : List (ByteArray × List (Int × Int))) : Option Int :=
  dispatch_sum.l3 k 0 a0 (a0.length : Int) 0
def dispatch_check.f (k : Nat) (a0 : List (ByteArray × List (Int × Int))) (a1 : Int) : Option Int :=
  (offer_CheckAll.f k a0).bind fun r1 =>
  if r1 = 0 then
    if a1 < 0 then
      some 4
    else if 1000000 < a1 then
      some 4
    else (dispatch_sum.f k a0).bind fun r2 =>
    if r2 < a1 then
      some 8
    else some 0
  else some r1
mutual
def dispatch_offered.l3 : Nat → Int → Bool → Int → (List (ByteArray × List (Int × Int))) → Int → Int → Option Int
  | 0, _, _, _, _, _, _ => none
  | k + 1, x1, x2, x7, x12, x13, x14 => if x14 < x13 then
      if 0 ≤ x14 then
        if x14 < (x12.length : Int) then
          dispatch_offered.l6 k x1 x2 x7 x12 x13 x14 (rY1 x12 x14).2 ((rY1 x12 x14).2.length : Int) 0
        else none
      else none
    else some x7
def dispatch_offered.l6 : Nat → Int → Bool → Int → (List (ByteArray × List (Int × Int))) → Int → Int → (List (Int × Int)) → Int → Int → Option Int
  | 0, _, _, _, _, _, _, _, _, _ => none
  | k + 1, x1, x2, x7, x12, x13, x14, x19, x20, x21 => if x21 < x20 then
      if 0 ≤ x21 then
        if x21 < (x19.length : Int) then
          if (rY0 x19 x21).2 < x1 then
            dispatch_offered.l6 k x1 x2 (wrap64 (x7 + (rY0 x19 x21).1)) x12 x13 x14 x19 x20 (wrap64 (x21 + 1))
          else if x2 = true then
            if (rY0 x19 x21).2 = x1 then
              dispatch_offered.l6 k x1 x2 (wrap64 (x7 + (rY0 x19 x21).1)) x12 x13 x14 x19 x20 (wrap64 (x21 + 1))
            else dispatch_offered.l6 k x1 x2 x7 x12 x13 x14 x19 x20 (wrap64 (x21 + 1))
          else dispatch_offered.l6 k x1 x2 x7 x12 x13 x14 x19 x20 (wrap64 (x21 + 1))
        else none
      else none
    else dispatch_offered.l3 k x1 x2 x7 x12 x13 (wrap64 (x14 + 1))
end
theorem dispatch_offered.l3_eq (k : Nat) (x1 : Int) (x2 : Bool) (x7 : Int) (x12 : List (ByteArray × List (Int × Int))) (x13 : Int) (x14 : Int) : dispatch_offered.l3 (k + 1) x1 x2 x7 x12 x13 x14 = if x14 < x13 then
      if 0 ≤ x14 then
        if x14 < (x12.length : Int) then
          dispatch_offered.l6 k x1 x2 x7 x12 x13 x14 (rY1 x12 x14).2 ((rY1 x12 x14).2.length : Int) 0
        else none
      else none
    else some x7 := rfl
theorem dispatch_offered.l6_eq (k : Nat) (x1 : Int) (x2 : Bool) (x7 : Int) (x12 : List (ByteArray × List (Int × Int))) (x13 : Int) (x14 : Int) (x19 : List (Int × Int)) (x20 : Int) (x21 : Int) : dispatch_offered.l6 (k + 1) x1 x2 x7 x12 x13 x14 x19 x20 x21 = if x21 < x20 then
      if 0 ≤ x21 then
        if x21 < (x19.length : Int) then
          if (rY0 x19 x21).2 < x1 then
            dispatch_offered.l6 k x1 x2 (wrap64 (x7 + (rY0 x19 x21).1)) x12 x13 x14 x19 x20 (wrap64 (x21 + 1))
          else if x2 = true then
            if (rY0 x19 x21).2 = x1 then
              dispatch_offered.l6 k x1 x2 (wrap64 (x7 + (rY0 x19 x21).1)) x12 x13 x14 x19 x20 (wrap64 (x21 + 1))
            else dispatch_offered.l6 k x1 x2 x7 x12 x13 x14 x19 x20 (wrap64 (x21 + 1))
          else dispatch_offered.l6 k x1 x2 x7 x12 x13 x14 x19 x20 (wrap64 (x21 + 1))
        else none
      else none
    else dispatch_offered.l3 k x1 x2 x7 x12 x13 (wrap64 (x14 + 1)) := rfl
def dispatch_offered.f (k : Nat) (a0 : List (ByteArray × List (Int × Int))) (a1 : Int) (a2 : Bool) : Option Int :=
  dispatch_offered.l3 k a1 a2 0 a0 (a0.length : Int) 0
mutual
def dispatch_marginal.l3 : Nat → (List (ByteArray × List (Int × Int))) → Int → Int → (List (ByteArray × List (Int × Int))) → Int → Int → Option Int
  | 0, _, _, _, _, _, _ => none
  | k + 1, x0, x1, x5, x10, x11, x12 => if x12 < x11 then
      if 0 ≤ x12 then
        if x12 < (x10.length : Int) then
          dispatch_marginal.l6 k x0 x1 x5 x10 x11 x12 (rY1 x10 x12).2 ((rY1 x10 x12).2.length : Int) 0
        else none
      else none
    else some x5
def dispatch_marginal.l6 : Nat → (List (ByteArray × List (Int × Int))) → Int → Int → (List (ByteArray × List (Int × Int))) → Int → Int → (List (Int × Int)) → Int → Int → Option Int
  | 0, _, _, _, _, _, _, _, _, _ => none
  | k + 1, x0, x1, x5, x10, x11, x12, x17, x18, x19 => if x19 < x18 then
      if 0 ≤ x19 then
        if x19 < (x17.length : Int) then
          if (rY0 x17 x19).2 < x5 then
            (dispatch_offered.f k x0 (rY0 x17 x19).2 true).bind fun r1 =>
            if x1 ≤ r1 then
              dispatch_marginal.l6 k x0 x1 (rY0 x17 x19).2 x10 x11 x12 x17 x18 (wrap64 (x19 + 1))
            else dispatch_marginal.l6 k x0 x1 x5 x10 x11 x12 x17 x18 (wrap64 (x19 + 1))
          else dispatch_marginal.l6 k x0 x1 x5 x10 x11 x12 x17 x18 (wrap64 (x19 + 1))
        else none
      else none
    else dispatch_marginal.l3 k x0 x1 x5 x10 x11 (wrap64 (x12 + 1))
end
theorem dispatch_marginal.l3_eq (k : Nat) (x0 : List (ByteArray × List (Int × Int))) (x1 : Int) (x5 : Int) (x10 : List (ByteArray × List (Int × Int))) (x11 : Int) (x12 : Int) : dispatch_marginal.l3 (k + 1) x0 x1 x5 x10 x11 x12 = if x12 < x11 then
      if 0 ≤ x12 then
        if x12 < (x10.length : Int) then
          dispatch_marginal.l6 k x0 x1 x5 x10 x11 x12 (rY1 x10 x12).2 ((rY1 x10 x12).2.length : Int) 0
        else none
      else none
    else some x5 := rfl
theorem dispatch_marginal.l6_eq (k : Nat) (x0 : List (ByteArray × List (Int × Int))) (x1 : Int) (x5 : Int) (x10 : List (ByteArray × List (Int × Int))) (x11 : Int) (x12 : Int) (x17 : List (Int × Int)) (x18 : Int) (x19 : Int) : dispatch_marginal.l6 (k + 1) x0 x1 x5 x10 x11 x12 x17 x18 x19 = if x19 < x18 then
      if 0 ≤ x19 then
        if x19 < (x17.length : Int) then
          if (rY0 x17 x19).2 < x5 then
            (dispatch_offered.f k x0 (rY0 x17 x19).2 true).bind fun r1 =>
            if x1 ≤ r1 then
              dispatch_marginal.l6 k x0 x1 (rY0 x17 x19).2 x10 x11 x12 x17 x18 (wrap64 (x19 + 1))
            else dispatch_marginal.l6 k x0 x1 x5 x10 x11 x12 x17 x18 (wrap64 (x19 + 1))
          else dispatch_marginal.l6 k x0 x1 x5 x10 x11 x12 x17 x18 (wrap64 (x19 + 1))
        else none
      else none
    else dispatch_marginal.l3 k x0 x1 x5 x10 x11 (wrap64 (x12 + 1)) := rfl
def dispatch_marginal.f (k : Nat) (a0 : List (ByteArray × List (Int × Int))) (a1 : Int) : Option Int :=
  dispatch_marginal.l3 k a0 a1 2000000 a0 (a0.length : Int) 0
mutual
def offer_Supply.l8 : Nat → Int → Int → Int → (List (Int × Int)) → Int → Int → Option (Int × Int × Int)
  | 0, _, _, _, _, _, _ => none
  | k + 1, x1, x8, x9, x24, x25, x26 => if x26 < x25 then
      if 0 ≤ x26 then
        if x26 < (x24.length : Int) then
          if (rY0 x24 x26).2 < x1 then
            offer_Supply.l12 k x1 (wrap64 (x8 + (rY0 x24 x26).1)) x9 x24 x25 x26 (rY0 x24 x26).1 (rY0 x24 x26).2
          else offer_Supply.l12 k x1 x8 x9 x24 x25 x26 (rY0 x24 x26).1 (rY0 x24 x26).2
        else none
      else none
    else some (x8, x9, 0)
def offer_Supply.l12 : Nat → Int → Int → Int → (List (Int × Int)) → Int → Int → Int → Int → Option (Int × Int × Int)
  | 0, _, _, _, _, _, _, _, _ => none
  | k + 1, x1, x8, x9, x24, x25, x26, xo0_0, xo0_1 => if xo0_1 ≤ x1 then
      offer_Supply.l8 k x1 x8 (wrap64 (x9 + xo0_0)) x24 x25 (wrap64 (x26 + 1))
    else offer_Supply.l8 k x1 x8 x9 x24 x25 (wrap64 (x26 + 1))
end
theorem offer_Supply.l8_eq (k : Nat) (x1 : Int) (x8 : Int) (x9 : Int) (x24 : List (Int × Int)) (x25 : Int) (x26 : Int) : offer_Supply.l8 (k + 1) x1 x8 x9 x24 x25 x26 = if x26 < x25 then
      if 0 ≤ x26 then
        if x26 < (x24.length : Int) then
          if (rY0 x24 x26).2 < x1 then
            offer_Supply.l12 k x1 (wrap64 (x8 + (rY0 x24 x26).1)) x9 x24 x25 x26 (rY0 x24 x26).1 (rY0 x24 x26).2
          else offer_Supply.l12 k x1 x8 x9 x24 x25 x26 (rY0 x24 x26).1 (rY0 x24 x26).2
        else none
      else none
    else some (x8, x9, 0) := rfl
theorem offer_Supply.l12_eq (k : Nat) (x1 : Int) (x8 : Int) (x9 : Int) (x24 : List (Int × Int)) (x25 : Int) (x26 : Int) (xo0_0 : Int) (xo0_1 : Int) : offer_Supply.l12 (k + 1) x1 x8 x9 x24 x25 x26 xo0_0 xo0_1 = if xo0_1 ≤ x1 then
      offer_Supply.l8 k x1 x8 (wrap64 (x9 + xo0_0)) x24 x25 (wrap64 (x26 + 1))
    else offer_Supply.l8 k x1 x8 x9 x24 x25 (wrap64 (x26 + 1)) := rfl
def offer_Supply.f (k : Nat) (a0 : ByteArray × List (Int × Int)) (a1 : Int) : Option (Int × Int × Int) :=
  (offer_Check.f k a0).bind fun r1 =>
  if r1 = 0 then
    if a1 < (-2000000) then
      some (0, 0, 4)
    else if 2000000 < a1 then
      some (0, 0, 4)
    else offer_Supply.l8 k a1 0 0 a0.2 (a0.2.length : Int) 0
  else some (0, 0, r1)
def dispatch_costs.l3 : Nat → List Int → Int → (List (ByteArray × List (Int × Int))) → Int → Int → Option (List Int × Int × Int)
  | 0, _, _, _, _, _ => none
  | k + 1, x1, x7, x12, x13, x14 => if x14 < x13 then
      if 0 ≤ x14 then
        if x14 < (x12.length : Int) then
          if 0 ≤ x14 then
            if x14 < (x1.length : Int) then
              (offer_Cost.f k (rY1 x12 x14) (rI64 x1 x14)).bind fun r1 =>
              dispatch_costs.l3 k x1 (wrap64 (x7 + r1.1)) x12 x13 (wrap64 (x14 + 1))
            else none
          else none
        else none
      else none
    else some (x1, x7, 0)
theorem dispatch_costs.l3_eq (k : Nat) (x1 : List Int) (x7 : Int) (x12 : List (ByteArray × List (Int × Int))) (x13 : Int) (x14 : Int) : dispatch_costs.l3 (k + 1) x1 x7 x12 x13 x14 = if x14 < x13 then
      if 0 ≤ x14 then
        if x14 < (x12.length : Int) then
          if 0 ≤ x14 then
            if x14 < (x1.length : Int) then
              (offer_Cost.f k (rY1 x12 x14) (rI64 x1 x14)).bind fun r1 =>
              dispatch_costs.l3 k x1 (wrap64 (x7 + r1.1)) x12 x13 (wrap64 (x14 + 1))
            else none
          else none
        else none
      else none
    else some (x1, x7, 0) := rfl
def dispatch_costs.f (k : Nat) (a0 : List (ByteArray × List (Int × Int))) (a1 : List Int) : Option (List Int × Int × Int) :=
  dispatch_costs.l3 k a1 0 a0 (a0.length : Int) 0
def dispatch_Best.l10 : Nat → (List (ByteArray × List (Int × Int))) → Int → Int → (List (ByteArray × List (Int × Int))) → Int → Int → List Int → Option (List Int × Int × Int)
  | 0, _, _, _, _, _, _, _ => none
  | k + 1, x0, x9, x10, x37, x38, x39, xo0 => if x39 < x38 then
      if 0 ≤ x39 then
        if x39 < (x37.length : Int) then
          (offer_Supply.f k (rY1 x37 x39) x9).bind fun r4 =>
          if 0 ≤ x39 then
            if x39 < (xo0.length : Int) then
              dispatch_Best.l10 k x0 x9 (wrap64 (x10 - (mn x10 (wrap64 (r4.2.1 - r4.1))))) x37 x38 (wrap64 (x39 + 1)) (xo0.set x39.toNat (wrap64 (r4.1 + (mn x10 (wrap64 (r4.2.1 - r4.1))))))
            else none
          else none
        else none
      else none
    else (dispatch_costs.f k x0 xo0).bind fun r5 =>
    some r5
theorem dispatch_Best.l10_eq (k : Nat) (x0 : List (ByteArray × List (Int × Int))) (x9 : Int) (x10 : Int) (x37 : List (ByteArray × List (Int × Int))) (x38 : Int) (x39 : Int) (xo0 : List Int) : dispatch_Best.l10 (k + 1) x0 x9 x10 x37 x38 x39 xo0 = if x39 < x38 then
      if 0 ≤ x39 then
        if x39 < (x37.length : Int) then
          (offer_Supply.f k (rY1 x37 x39) x9).bind fun r4 =>
          if 0 ≤ x39 then
            if x39 < (xo0.length : Int) then
              dispatch_Best.l10 k x0 x9 (wrap64 (x10 - (mn x10 (wrap64 (r4.2.1 - r4.1))))) x37 x38 (wrap64 (x39 + 1)) (xo0.set x39.toNat (wrap64 (r4.1 + (mn x10 (wrap64 (r4.2.1 - r4.1))))))
            else none
          else none
        else none
      else none
    else (dispatch_costs.f k x0 xo0).bind fun r5 =>
    some r5 := rfl
def dispatch_Best.f (k : Nat) (a0 : List (ByteArray × List (Int × Int))) (a1 : Int) : Option (List Int × Int × Int) :=
  (dispatch_check.f k a0 a1).bind fun r1 =>
  if r1 = 0 then
    if 0 ≤ (a0.length : Int) then
      if (a0.length : Int) * 8 ≤ 140737488355328 then
        if (a0.length : Int) ≤ 140737488355328 then
          if a1 = 0 then
            some (List.replicate (a0.length : Int).toNat 0, 0, 0)
          else (dispatch_marginal.f k a0 a1).bind fun r2 =>
          (dispatch_offered.f k a0 r2 false).bind fun r3 =>
          dispatch_Best.l10 k a0 r2 (wrap64 (a1 - r3)) a0 (a0.length : Int) 0 (List.replicate (a0.length : Int).toNat 0)
        else none
      else none
    else none
  else some ([], 0, r1)
def dispatch_Cost.l8 : Nat → List Int → Int → Int → (List (ByteArray × List (Int × Int))) → Int → Int → Option (Int × Int × Int)
  | 0, _, _, _, _, _, _ => none
  | k + 1, x1, x8, x9, x24, x25, x26 => if x26 < x25 then
      if 0 ≤ x26 then
        if x26 < (x24.length : Int) then
          if 0 ≤ x26 then
            if x26 < (x1.length : Int) then
              (offer_Cost.f k (rY1 x24 x26) (rI64 x1 x26)).bind fun r2 =>
              if r2.2 = 0 then
                if 0 ≤ x26 then
                  if x26 < (x1.length : Int) then
                    dispatch_Cost.l8 k x1 (wrap64 (x8 + r2.1)) (wrap64 (x9 + (rI64 x1 x26))) x24 x25 (wrap64 (x26 + 1))
                  else none
                else none
              else some (0, 0, r2.2)
            else none
          else none
        else none
      else none
    else some (x8, x9, 0)
theorem dispatch_Cost.l8_eq (k : Nat) (x1 : List Int) (x8 : Int) (x9 : Int) (x24 : List (ByteArray × List (Int × Int))) (x25 : Int) (x26 : Int) : dispatch_Cost.l8 (k + 1) x1 x8 x9 x24 x25 x26 = if x26 < x25 then
      if 0 ≤ x26 then
        if x26 < (x24.length : Int) then
          if 0 ≤ x26 then
            if x26 < (x1.length : Int) then
              (offer_Cost.f k (rY1 x24 x26) (rI64 x1 x26)).bind fun r2 =>
              if r2.2 = 0 then
                if 0 ≤ x26 then
                  if x26 < (x1.length : Int) then
                    dispatch_Cost.l8 k x1 (wrap64 (x8 + r2.1)) (wrap64 (x9 + (rI64 x1 x26))) x24 x25 (wrap64 (x26 + 1))
                  else none
                else none
              else some (0, 0, r2.2)
            else none
          else none
        else none
      else none
    else some (x8, x9, 0) := rfl
def dispatch_Cost.f (k : Nat) (a0 : List (ByteArray × List (Int × Int))) (a1 : List Int) : Option (Int × Int × Int) :=
  (offer_CheckAll.f k a0).bind fun r1 =>
  if r1 = 0 then
    if (a1.length : Int) = (a0.length : Int) then
      dispatch_Cost.l8 k a1 0 0 a0 (a0.length : Int) 0
    else some (0, 0, 3)
  else some (0, 0, r1)
def gridhallkeep3_fine_1.f (k : Nat) (a0 : Int) : Option Bool :=
  some (!decide (a0 = 0))
def slices_IndexFunc_api_Errno.l2 : Nat → List Int → Int → Int → Option Int
  | 0, _, _, _ => none
  | k + 1, x0, x7, x8 => if x8 < x7 then
      if 0 ≤ x8 then
        if x8 < (x0.length : Int) then
          (gridhallkeep3_fine_1.f k (rI64 x0 x8)).bind fun r1 =>
          if r1 = true then
            some x8
          else slices_IndexFunc_api_Errno.l2 k x0 x7 (wrap64 (x8 + 1))
        else none
      else none
    else some (-1)
theorem slices_IndexFunc_api_Errno.l2_eq (k : Nat) (x0 : List Int) (x7 : Int) (x8 : Int) : slices_IndexFunc_api_Errno.l2 (k + 1) x0 x7 x8 = if x8 < x7 then
      if 0 ≤ x8 then
        if x8 < (x0.length : Int) then
          (gridhallkeep3_fine_1.f k (rI64 x0 x8)).bind fun r1 =>
          if r1 = true then
            some x8
          else slices_IndexFunc_api_Errno.l2 k x0 x7 (wrap64 (x8 + 1))
        else none
      else none
    else some (-1) := rfl
def slices_IndexFunc_api_Errno.f (k : Nat) (a0 : List Int) : Option Int :=
  slices_IndexFunc_api_Errno.l2 k a0 (a0.length : Int) 0
def slices_ContainsFunc_api_Errno.f (k : Nat) (a0 : List Int) : Option Bool :=
  (slices_IndexFunc_api_Errno.f k a0).bind fun r1 =>
  some (decide (0 ≤ r1))
def gridhallkeep3_fine.f (k : Nat) (a0 : List Int) : Option Bool :=
  (slices_ContainsFunc_api_Errno.f k a0).bind fun r1 =>
  some (!decide (r1 = true))
def gridhallkeep3_HoursFree.f (k : Nat) (a0 : List (ByteArray × List (Int × Int))) (a1 : List Int) (a2 : Int) : Option Bool :=
  (gridhallkeep3_two.f k (ByteArray.mk #[65])).bind fun r1 =>
  (gridhallkeep3_two.f k (ByteArray.mk #[66])).bind fun r2 =>
  (hours_Change.f k [r1, r2] [10, 10] 22 2).bind fun r3 =>
  if r3.2 = 0 then
    if r3.1.2 = 16 then
      (gridhallkeep3_two.f k (ByteArray.mk #[65])).bind fun r4 =>
      (dispatch_Best.f k [r4] 12).bind fun r5 =>
      if r5.2.2 = 0 then
        if r5.2.1 = 66 then
          (hours_Change.f k a0 a1 a2 100000).bind fun r6 =>
          (dispatch_Cost.f k a0 a1).bind fun r7 =>
          (dispatch_Best.f k a0 a2).bind fun r8 =>
          if r6.2 = 0 then
            (gridhallkeep3_fine.f k [r7.2.2, r8.2.2]).bind fun r9 =>
            if r9 = true then
              some (decide ((wrap64 (r7.1 + r6.1.2)) = r8.2.1))
            else some false
          else if (r6.1.1.length : Int) = 0 then
            if r7.2.2 = 0 then
              some (!decide (r8.2.2 = 0))
            else some true
          else some false
        else some false
      else some false
    else some false
  else some false
end Go.Proofs.Ytodagcbcdkfniaa.VE
