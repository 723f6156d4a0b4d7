/- Functions as plain Lean (definitions printed by a program; no statement is proved here). -/
import Derived.Test.YtodagcbcdkfniaaVeDef
namespace Go.Proofs.Ytodagcbcdkfniaa.VE
set_option linter.unusedVariables false
open Go Go.RowKit
abbrev Y0 : Ty := .pair (.int .i64) (.int .i64)
abbrev Y1 : Ty := .pair .bool Y0
abbrev Y2 : Ty := .pair .str Y1
abbrev Y3 : Ty := .pair .str (.list 72 Y0)
abbrev Y4 : Ty := .pair (.int .i64) (.list 3 (.int .i64))
abbrev Y5 : Ty := .pair (.int .i64) Y4
def BY (e : Nat) : Nat := (look [(3, 8), (49, 40)] e).getD 0
def offer_named.l4 : Nat → ByteArray → Int → Int → Option Bool
  | 0, _, _, _ => none
  | k + 1, x0, x22, x23 => if x23 < x22 then
      if 0 ≤ x23 then
        if x23 < (x0.size : Int) then
          if (bt x0 x23) < 65 then
            if 0 ≤ x23 then
              if x23 < (x0.size : Int) then
                if (bt x0 x23) < 48 then
                  some false
                else if 0 ≤ x23 then
                  if x23 < (x0.size : Int) then
                    if 57 < (bt x0 x23) then
                      some false
                    else offer_named.l4 k x0 x22 (wrap64 (x23 + 1))
                  else none
                else none
              else none
            else none
          else if 0 ≤ x23 then
            if x23 < (x0.size : Int) then
              if 90 < (bt x0 x23) then
                if 0 ≤ x23 then
                  if x23 < (x0.size : Int) then
                    if (bt x0 x23) < 48 then
                      some false
                    else if 0 ≤ x23 then
                      if x23 < (x0.size : Int) then
                        if 57 < (bt x0 x23) then
                          some false
                        else offer_named.l4 k x0 x22 (wrap64 (x23 + 1))
                      else none
                    else none
                  else none
                else none
              else offer_named.l4 k x0 x22 (wrap64 (x23 + 1))
            else none
          else none
        else none
      else none
    else some true
theorem offer_named.l4_eq (k : Nat) (x0 : ByteArray) (x22 : Int) (x23 : Int) : offer_named.l4 (k + 1) x0 x22 x23 = if x23 < x22 then
      if 0 ≤ x23 then
        if x23 < (x0.size : Int) then
          if (bt x0 x23) < 65 then
            if 0 ≤ x23 then
              if x23 < (x0.size : Int) then
                if (bt x0 x23) < 48 then
                  some false
                else if 0 ≤ x23 then
                  if x23 < (x0.size : Int) then
                    if 57 < (bt x0 x23) then
                      some false
                    else offer_named.l4 k x0 x22 (wrap64 (x23 + 1))
                  else none
                else none
              else none
            else none
          else if 0 ≤ x23 then
            if x23 < (x0.size : Int) then
              if 90 < (bt x0 x23) then
                if 0 ≤ x23 then
                  if x23 < (x0.size : Int) then
                    if (bt x0 x23) < 48 then
                      some false
                    else if 0 ≤ x23 then
                      if x23 < (x0.size : Int) then
                        if 57 < (bt x0 x23) then
                          some false
                        else offer_named.l4 k x0 x22 (wrap64 (x23 + 1))
                      else none
                    else none
                  else none
                else none
              else offer_named.l4 k x0 x22 (wrap64 (x23 + 1))
            else none
          else none
        else none
      else none
    else some true := rfl
def offer_named.f (k : Nat) (a0 : ByteArray) : Option Bool :=
  if a0 = ByteArray.empty then
    some false
  else if 8 < (a0.size : Int) then
    some false
  else if (0 : Int) ≤ 0 then
    if 0 < (a0.size : Int) then
      if 48 ≤ (bt a0 0) then
        if (0 : Int) ≤ 0 then
          if 0 < (a0.size : Int) then
            if (bt a0 0) ≤ 57 then
              some false
            else offer_named.l4 k a0 (a0.size : Int) 0
          else none
        else none
      else offer_named.l4 k a0 (a0.size : Int) 0
    else none
  else none
def offer_Check.l7 : Nat → Int → (List (Int × Int)) → Int → Int → ByteArray → (List (Int × Int)) → Option Int
  | 0, _, _, _, _, _, _ => none
  | k + 1, x3, x15, x16, x17, xo0_0, xo0_1 => if x17 < x16 then
      if 0 ≤ x17 then
        if x17 < (x15.length : Int) then
          if (rd Y0 x15 x17).1 < 1 then
            some 4
          else if 100000 < (rd Y0 x15 x17).1 then
            some 4
          else if (rd Y0 x15 x17).2 < (-1000000) then
            some 4
          else if 1000000 < (rd Y0 x15 x17).2 then
            some 4
          else if 0 < x17 then
            if 0 ≤ (wrap64 (x17 - 1)) then
              if (wrap64 (x17 - 1)) < (xo0_1.length : Int) then
                if (rd Y0 x15 x17).2 < (rd Y0 xo0_1 (wrap64 (x17 - 1))).2 then
                  some 3
                else if 100000 < (wrap64 (x3 + (rd Y0 x15 x17).1)) then
                  some 2
                else offer_Check.l7 k (wrap64 (x3 + (rd Y0 x15 x17).1)) x15 x16 (wrap64 (x17 + 1)) xo0_0 xo0_1
              else none
            else none
          else if 100000 < (wrap64 (x3 + (rd Y0 x15 x17).1)) then
            some 2
          else offer_Check.l7 k (wrap64 (x3 + (rd Y0 x15 x17).1)) x15 x16 (wrap64 (x17 + 1)) xo0_0 xo0_1
        else none
      else none
    else some 0
theorem offer_Check.l7_eq (k : Nat) (x3 : Int) (x15 : List (Int × Int)) (x16 : Int) (x17 : Int) (xo0_0 : ByteArray) (xo0_1 : List (Int × Int)) : offer_Check.l7 (k + 1) x3 x15 x16 x17 xo0_0 xo0_1 = if x17 < x16 then
      if 0 ≤ x17 then
        if x17 < (x15.length : Int) then
          if (rd Y0 x15 x17).1 < 1 then
            some 4
          else if 100000 < (rd Y0 x15 x17).1 then
            some 4
          else if (rd Y0 x15 x17).2 < (-1000000) then
            some 4
          else if 1000000 < (rd Y0 x15 x17).2 then
            some 4
          else if 0 < x17 then
            if 0 ≤ (wrap64 (x17 - 1)) then
              if (wrap64 (x17 - 1)) < (xo0_1.length : Int) then
                if (rd Y0 x15 x17).2 < (rd Y0 xo0_1 (wrap64 (x17 - 1))).2 then
                  some 3
                else if 100000 < (wrap64 (x3 + (rd Y0 x15 x17).1)) then
                  some 2
                else offer_Check.l7 k (wrap64 (x3 + (rd Y0 x15 x17).1)) x15 x16 (wrap64 (x17 + 1)) xo0_0 xo0_1
              else none
            else none
          else if 100000 < (wrap64 (x3 + (rd Y0 x15 x17).1)) then
            some 2
          else offer_Check.l7 k (wrap64 (x3 + (rd Y0 x15 x17).1)) x15 x16 (wrap64 (x17 + 1)) xo0_0 xo0_1
        else none
      else none
    else some 0 := rfl
def offer_Check.f (k : Nat) (a0 : ByteArray × List (Int × Int)) : Option Int :=
  (offer_named.f k a0.1).bind fun r1 =>
  if r1 = true then
    if 12 < (a0.2.length : Int) then
      some 2
    else offer_Check.l7 k 0 a0.2 (a0.2.length : Int) 0 a0.1 a0.2
  else some 6
def auction_Check_1.f (k : Nat) (a0 : ByteArray × Bool × Int × Int) (ao0_0 : ByteArray) (ao0_1 : Bool) (ao0_2 : Int) (ao0_3 : Int) : Option (Bool × ByteArray × Bool × Int × Int) :=
  some (decide (a0.1 = ao0_0), ao0_0, ao0_1, ao0_2, ao0_3)
def slices_IndexFunc_api_AuctionOrder.l2 : Nat → (List (ByteArray × Bool × Int × Int)) → Int → Int → ByteArray → Bool → Int → Int → Option (Int × ByteArray × Bool × Int × Int)
  | 0, _, _, _, _, _, _, _ => none
  | k + 1, x0, x7, x8, xo0_0, xo0_1, xo0_2, xo0_3 => if x8 < x7 then
      if 0 ≤ x8 then
        if x8 < (x0.length : Int) then
          (auction_Check_1.f k (rd Y2 x0 x8) xo0_0 xo0_1 xo0_2 xo0_3).bind fun r1 =>
          if r1.1 = true then
            some (x8, r1.2)
          else slices_IndexFunc_api_AuctionOrder.l2 k x0 x7 (wrap64 (x8 + 1)) r1.2.1 r1.2.2.1 r1.2.2.2.1 r1.2.2.2.2
        else none
      else none
    else some ((-1), xo0_0, xo0_1, xo0_2, xo0_3)
theorem slices_IndexFunc_api_AuctionOrder.l2_eq (k : Nat) (x0 : List (ByteArray × Bool × Int × Int)) (x7 : Int) (x8 : Int) (xo0_0 : ByteArray) (xo0_1 : Bool) (xo0_2 : Int) (xo0_3 : Int) : slices_IndexFunc_api_AuctionOrder.l2 (k + 1) x0 x7 x8 xo0_0 xo0_1 xo0_2 xo0_3 = if x8 < x7 then
      if 0 ≤ x8 then
        if x8 < (x0.length : Int) then
          (auction_Check_1.f k (rd Y2 x0 x8) xo0_0 xo0_1 xo0_2 xo0_3).bind fun r1 =>
          if r1.1 = true then
            some (x8, r1.2)
          else slices_IndexFunc_api_AuctionOrder.l2 k x0 x7 (wrap64 (x8 + 1)) r1.2.1 r1.2.2.1 r1.2.2.2.1 r1.2.2.2.2
        else none
      else none
    else some ((-1), xo0_0, xo0_1, xo0_2, xo0_3) := rfl
def slices_IndexFunc_api_AuctionOrder.f (k : Nat) (a0 : List (ByteArray × Bool × Int × Int)) (ao1_0 : ByteArray) (ao1_1 : Bool) (ao1_2 : Int) (ao1_3 : Int) : Option (Int × ByteArray × Bool × Int × Int) :=
  slices_IndexFunc_api_AuctionOrder.l2 k a0 (a0.length : Int) 0 ao1_0 ao1_1 ao1_2 ao1_3
def slices_ContainsFunc_api_AuctionOrder.f (k : Nat) (a0 : List (ByteArray × Bool × Int × Int)) (ao1_0 : ByteArray) (ao1_1 : Bool) (ao1_2 : Int) (ao1_3 : Int) : Option (Bool × ByteArray × Bool × Int × Int) :=
  (slices_IndexFunc_api_AuctionOrder.f k a0 ao1_0 ao1_1 ao1_2 ao1_3).bind fun r1 =>
  some (decide (0 ≤ r1.1), r1.2)
def auction_Check.l4 : Nat → (List (ByteArray × Bool × Int × Int)) → (List (ByteArray × Bool × Int × Int)) → Int → Int → Option Int
  | 0, _, _, _, _ => none
  | k + 1, x0, x9, x10, x11 => if x11 < x10 then
      if 0 ≤ x11 then
        if x11 < (x9.length : Int) then
          (offer_Check.f k ((rd Y2 x9 x11).1, [(rd Y2 x9 x11).2.2])).bind fun r1 =>
          if r1 = 0 then
            if x11 ≤ (x0.length : Int) then
              if 0 ≤ x11 then
                (slices_ContainsFunc_api_AuctionOrder.f k (x0.take x11.toNat) (rd Y2 x9 x11).1 (rd Y2 x9 x11).2.1 (rd Y2 x9 x11).2.2.1 (rd Y2 x9 x11).2.2.2).bind fun r2 =>
                if r2.1 = true then
                  some 7
                else auction_Check.l4 k x0 x9 x10 (wrap64 (x11 + 1))
              else none
            else none
          else some r1
        else none
      else none
    else some 0
theorem auction_Check.l4_eq (k : Nat) (x0 : List (ByteArray × Bool × Int × Int)) (x9 : List (ByteArray × Bool × Int × Int)) (x10 : Int) (x11 : Int) : auction_Check.l4 (k + 1) x0 x9 x10 x11 = if x11 < x10 then
      if 0 ≤ x11 then
        if x11 < (x9.length : Int) then
          (offer_Check.f k ((rd Y2 x9 x11).1, [(rd Y2 x9 x11).2.2])).bind fun r1 =>
          if r1 = 0 then
            if x11 ≤ (x0.length : Int) then
              if 0 ≤ x11 then
                (slices_ContainsFunc_api_AuctionOrder.f k (x0.take x11.toNat) (rd Y2 x9 x11).1 (rd Y2 x9 x11).2.1 (rd Y2 x9 x11).2.2.1 (rd Y2 x9 x11).2.2.2).bind fun r2 =>
                if r2.1 = true then
                  some 7
                else auction_Check.l4 k x0 x9 x10 (wrap64 (x11 + 1))
              else none
            else none
          else some r1
        else none
      else none
    else some 0 := rfl
def auction_Check.f (k : Nat) (a0 : List (ByteArray × Bool × Int × Int)) : Option Int :=
  if 32 < (a0.length : Int) then
    some 2
  else auction_Check.l4 k a0 a0 (a0.length : Int) 0
def cmp_isNaN_int.f (k : Nat) (a0 : Int) : Option Bool :=
  some (!decide (a0 = a0))
def cmp_Compare_int.f (k : Nat) (a0 : Int) (a1 : Int) : Option Int :=
  (cmp_isNaN_int.f k a0).bind fun r1 =>
  (cmp_isNaN_int.f k a1).bind fun r2 =>
  if r1 = true then
    if r2 = true then
      some 0
    else some (-1)
  else if r2 = true then
    some 1
  else if a0 < a1 then
    some (-1)
  else if a1 < a0 then
    some 1
  else some 0
def auction_side_1.f (k : Nat) (a0 : Int) (a1 : Int) (ao0 : Bool) (ao1 : List (ByteArray × Bool × Int × Int)) : Option (Int × Bool × List (ByteArray × Bool × Int × Int)) :=
  if ao0 = true then
    if 0 ≤ a1 then
      if a1 < (ao1.length : Int) then
        if 0 ≤ a0 then
          if a0 < (ao1.length : Int) then
            (cmp_Compare_int.f k (rd Y2 ao1 a1).2.2.2 (rd Y2 ao1 a0).2.2.2).bind fun r1 =>
            some (r1, ao0, ao1)
          else none
        else none
      else none
    else none
  else if 0 ≤ a0 then
    if a0 < (ao1.length : Int) then
      if 0 ≤ a1 then
        if a1 < (ao1.length : Int) then
          (cmp_Compare_int.f k (rd Y2 ao1 a0).2.2.2 (rd Y2 ao1 a1).2.2.2).bind fun r2 =>
          some (r2, ao0, ao1)
        else none
      else none
    else none
  else none
mutual
def slices_insertionSortCmpFunc_int.l1 : Nat → Int → Int → Int → List Int → Bool → (List (ByteArray × Bool × Int × Int)) → Option (List Int × Bool × List (ByteArray × Bool × Int × Int))
  | 0, _, _, _, _, _, _ => none
  | k + 1, x1, x2, x8, xo0, xo1, xo2 => if x8 < x2 then
      slices_insertionSortCmpFunc_int.l4 k x1 x2 x8 x8 xo0 xo1 xo2
    else some (xo0, xo1, xo2)
def slices_insertionSortCmpFunc_int.l4 : Nat → Int → Int → Int → Int → List Int → Bool → (List (ByteArray × Bool × Int × Int)) → Option (List Int × Bool × List (ByteArray × Bool × Int × Int))
  | 0, _, _, _, _, _, _, _ => none
  | k + 1, x1, x2, x8, x9, xo0, xo1, xo2 => if x1 < x9 then
      if 0 ≤ x9 then
        if x9 < (xo0.length : Int) then
          if 0 ≤ (wrap64 (x9 - 1)) then
            if (wrap64 (x9 - 1)) < (xo0.length : Int) then
              (auction_side_1.f k (rd (.int .i64) xo0 x9) (rd (.int .i64) xo0 (wrap64 (x9 - 1))) xo1 xo2).bind fun r1 =>
              if r1.1 < 0 then
                if 0 ≤ (wrap64 (x9 - 1)) then
                  if (wrap64 (x9 - 1)) < (xo0.length : Int) then
                    if 0 ≤ x9 then
                      if x9 < (xo0.length : Int) then
                        if 0 ≤ x9 then
                          if x9 < (xo0.length : Int) then
                            if 0 ≤ (wrap64 (x9 - 1)) then
                              if (wrap64 (x9 - 1)) < ((xo0.set x9.toNat (rd (.int .i64) xo0 (wrap64 (x9 - 1)))).length : Int) then
                                slices_insertionSortCmpFunc_int.l4 k x1 x2 x8 (wrap64 (x9 - 1)) ((xo0.set x9.toNat (rd (.int .i64) xo0 (wrap64 (x9 - 1)))).set (wrap64 (x9 - 1)).toNat (rd (.int .i64) xo0 x9)) r1.2.1 r1.2.2
                              else none
                            else none
                          else none
                        else none
                      else none
                    else none
                  else none
                else none
              else slices_insertionSortCmpFunc_int.l1 k x1 x2 (wrap64 (x8 + 1)) xo0 r1.2.1 r1.2.2
            else none
          else none
        else none
      else none
    else slices_insertionSortCmpFunc_int.l1 k x1 x2 (wrap64 (x8 + 1)) xo0 xo1 xo2
end
theorem slices_insertionSortCmpFunc_int.l1_eq (k : Nat) (x1 : Int) (x2 : Int) (x8 : Int) (xo0 : List Int) (xo1 : Bool) (xo2 : List (ByteArray × Bool × Int × Int)) : slices_insertionSortCmpFunc_int.l1 (k + 1) x1 x2 x8 xo0 xo1 xo2 = if x8 < x2 then
      slices_insertionSortCmpFunc_int.l4 k x1 x2 x8 x8 xo0 xo1 xo2
    else some (xo0, xo1, xo2) := rfl
theorem slices_insertionSortCmpFunc_int.l4_eq (k : Nat) (x1 : Int) (x2 : Int) (x8 : Int) (x9 : Int) (xo0 : List Int) (xo1 : Bool) (xo2 : List (ByteArray × Bool × Int × Int)) : slices_insertionSortCmpFunc_int.l4 (k + 1) x1 x2 x8 x9 xo0 xo1 xo2 = if x1 < x9 then
      if 0 ≤ x9 then
        if x9 < (xo0.length : Int) then
          if 0 ≤ (wrap64 (x9 - 1)) then
            if (wrap64 (x9 - 1)) < (xo0.length : Int) then
              (auction_side_1.f k (rd (.int .i64) xo0 x9) (rd (.int .i64) xo0 (wrap64 (x9 - 1))) xo1 xo2).bind fun r1 =>
              if r1.1 < 0 then
                if 0 ≤ (wrap64 (x9 - 1)) then
                  if (wrap64 (x9 - 1)) < (xo0.length : Int) then
                    if 0 ≤ x9 then
                      if x9 < (xo0.length : Int) then
                        if 0 ≤ x9 then
                          if x9 < (xo0.length : Int) then
                            if 0 ≤ (wrap64 (x9 - 1)) then
                              if (wrap64 (x9 - 1)) < ((xo0.set x9.toNat (rd (.int .i64) xo0 (wrap64 (x9 - 1)))).length : Int) then
                                slices_insertionSortCmpFunc_int.l4 k x1 x2 x8 (wrap64 (x9 - 1)) ((xo0.set x9.toNat (rd (.int .i64) xo0 (wrap64 (x9 - 1)))).set (wrap64 (x9 - 1)).toNat (rd (.int .i64) xo0 x9)) r1.2.1 r1.2.2
                              else none
                            else none
                          else none
                        else none
                      else none
                    else none
                  else none
                else none
              else slices_insertionSortCmpFunc_int.l1 k x1 x2 (wrap64 (x8 + 1)) xo0 r1.2.1 r1.2.2
            else none
          else none
        else none
      else none
    else slices_insertionSortCmpFunc_int.l1 k x1 x2 (wrap64 (x8 + 1)) xo0 xo1 xo2 := rfl
def slices_insertionSortCmpFunc_int.f (k : Nat) (a1 : Int) (a2 : Int) (ao0 : List Int) (ao2 : Bool) (ao3 : List (ByteArray × Bool × Int × Int)) : Option (List Int × Bool × List (ByteArray × Bool × Int × Int)) :=
  slices_insertionSortCmpFunc_int.l1 k a1 a2 (wrap64 (a1 + 1)) ao0 ao2 ao3
def slices_swapRangeCmpFunc_int.l1 : Nat → Int → Int → Int → Int → List Int → Bool → (List (ByteArray × Bool × Int × Int)) → Option (List Int × Bool × List (ByteArray × Bool × Int × Int))
  | 0, _, _, _, _, _, _, _ => none
  | k + 1, x1, x2, x3, x10, xo0, xo1, xo2 => if x10 < x3 then
      if 0 ≤ (wrap64 (x2 + x10)) then
        if (wrap64 (x2 + x10)) < (xo0.length : Int) then
          if 0 ≤ (wrap64 (x1 + x10)) then
            if (wrap64 (x1 + x10)) < (xo0.length : Int) then
              if 0 ≤ (wrap64 (x1 + x10)) then
                if (wrap64 (x1 + x10)) < (xo0.length : Int) then
                  if 0 ≤ (wrap64 (x2 + x10)) then
                    if (wrap64 (x2 + x10)) < ((xo0.set (wrap64 (x1 + x10)).toNat (rd (.int .i64) xo0 (wrap64 (x2 + x10)))).length : Int) then
                      slices_swapRangeCmpFunc_int.l1 k x1 x2 x3 (wrap64 (x10 + 1)) ((xo0.set (wrap64 (x1 + x10)).toNat (rd (.int .i64) xo0 (wrap64 (x2 + x10)))).set (wrap64 (x2 + x10)).toNat (rd (.int .i64) xo0 (wrap64 (x1 + x10)))) xo1 xo2
                    else none
                  else none
                else none
              else none
            else none
          else none
        else none
      else none
    else some (xo0, xo1, xo2)
theorem slices_swapRangeCmpFunc_int.l1_eq (k : Nat) (x1 : Int) (x2 : Int) (x3 : Int) (x10 : Int) (xo0 : List Int) (xo1 : Bool) (xo2 : List (ByteArray × Bool × Int × Int)) : slices_swapRangeCmpFunc_int.l1 (k + 1) x1 x2 x3 x10 xo0 xo1 xo2 = if x10 < x3 then
      if 0 ≤ (wrap64 (x2 + x10)) then
        if (wrap64 (x2 + x10)) < (xo0.length : Int) then
          if 0 ≤ (wrap64 (x1 + x10)) then
            if (wrap64 (x1 + x10)) < (xo0.length : Int) then
              if 0 ≤ (wrap64 (x1 + x10)) then
                if (wrap64 (x1 + x10)) < (xo0.length : Int) then
                  if 0 ≤ (wrap64 (x2 + x10)) then
                    if (wrap64 (x2 + x10)) < ((xo0.set (wrap64 (x1 + x10)).toNat (rd (.int .i64) xo0 (wrap64 (x2 + x10)))).length : Int) then
                      slices_swapRangeCmpFunc_int.l1 k x1 x2 x3 (wrap64 (x10 + 1)) ((xo0.set (wrap64 (x1 + x10)).toNat (rd (.int .i64) xo0 (wrap64 (x2 + x10)))).set (wrap64 (x2 + x10)).toNat (rd (.int .i64) xo0 (wrap64 (x1 + x10)))) xo1 xo2
                    else none
                  else none
                else none
              else none
            else none
          else none
        else none
      else none
    else some (xo0, xo1, xo2) := rfl
def slices_swapRangeCmpFunc_int.f (k : Nat) (a1 : Int) (a2 : Int) (a3 : Int) (ao0 : List Int) (ao2 : Bool) (ao3 : List (ByteArray × Bool × Int × Int)) : Option (List Int × Bool × List (ByteArray × Bool × Int × Int)) :=
  slices_swapRangeCmpFunc_int.l1 k a1 a2 a3 0 ao0 ao2 ao3
def slices_rotateCmpFunc_int.l2 : Nat → Int → Int → Int → List Int → Bool → (List (ByteArray × Bool × Int × Int)) → Option (List Int × Bool × List (ByteArray × Bool × Int × Int))
  | 0, _, _, _, _, _, _ => none
  | k + 1, x2, x10, x11, xo0, xo1, xo2 => if x10 = x11 then
      (slices_swapRangeCmpFunc_int.f k (wrap64 (x2 - x10)) x2 x10 xo0 xo1 xo2).bind fun r1 =>
      some r1
    else if x11 < x10 then
      (slices_swapRangeCmpFunc_int.f k (wrap64 (x2 - x10)) x2 x11 xo0 xo1 xo2).bind fun r2 =>
      slices_rotateCmpFunc_int.l2 k x2 (wrap64 (x10 - x11)) x11 r2.1 r2.2.1 r2.2.2
    else (slices_swapRangeCmpFunc_int.f k (wrap64 (x2 - x10)) (wrap64 ((wrap64 (x2 + x11)) - x10)) x10 xo0 xo1 xo2).bind fun r3 =>
    slices_rotateCmpFunc_int.l2 k x2 x10 (wrap64 (x11 - x10)) r3.1 r3.2.1 r3.2.2
theorem slices_rotateCmpFunc_int.l2_eq (k : Nat) (x2 : Int) (x10 : Int) (x11 : Int) (xo0 : List Int) (xo1 : Bool) (xo2 : List (ByteArray × Bool × Int × Int)) : slices_rotateCmpFunc_int.l2 (k + 1) x2 x10 x11 xo0 xo1 xo2 = if x10 = x11 then
      (slices_swapRangeCmpFunc_int.f k (wrap64 (x2 - x10)) x2 x10 xo0 xo1 xo2).bind fun r1 =>
      some r1
    else if x11 < x10 then
      (slices_swapRangeCmpFunc_int.f k (wrap64 (x2 - x10)) x2 x11 xo0 xo1 xo2).bind fun r2 =>
      slices_rotateCmpFunc_int.l2 k x2 (wrap64 (x10 - x11)) x11 r2.1 r2.2.1 r2.2.2
    else (slices_swapRangeCmpFunc_int.f k (wrap64 (x2 - x10)) (wrap64 ((wrap64 (x2 + x11)) - x10)) x10 xo0 xo1 xo2).bind fun r3 =>
    slices_rotateCmpFunc_int.l2 k x2 x10 (wrap64 (x11 - x10)) r3.1 r3.2.1 r3.2.2 := rfl
def slices_rotateCmpFunc_int.f (k : Nat) (a1 : Int) (a2 : Int) (a3 : Int) (ao0 : List Int) (ao2 : Bool) (ao3 : List (ByteArray × Bool × Int × Int)) : Option (List Int × Bool × List (ByteArray × Bool × Int × Int)) :=
  slices_rotateCmpFunc_int.l2 k a2 (wrap64 (a2 - a1)) (wrap64 (a3 - a2)) ao0 ao2 ao3
def slices_symMergeCmpFunc_int.l9 : Nat → Int → Int → List Int → Bool → (List (ByteArray × Bool × Int × Int)) → Option (List Int × Bool × List (ByteArray × Bool × Int × Int))
  | 0, _, _, _, _, _ => none
  | k + 1, x10, x13, xo0, xo1, xo2 => if x13 < (wrap64 (x10 - 1)) then
      if 0 ≤ (wrap64 (x13 + 1)) then
        if (wrap64 (x13 + 1)) < (xo0.length : Int) then
          if 0 ≤ x13 then
            if x13 < (xo0.length : Int) then
              if 0 ≤ x13 then
                if x13 < (xo0.length : Int) then
                  if 0 ≤ (wrap64 (x13 + 1)) then
                    if (wrap64 (x13 + 1)) < ((xo0.set x13.toNat (rd (.int .i64) xo0 (wrap64 (x13 + 1)))).length : Int) then
                      slices_symMergeCmpFunc_int.l9 k x10 (wrap64 (x13 + 1)) ((xo0.set x13.toNat (rd (.int .i64) xo0 (wrap64 (x13 + 1)))).set (wrap64 (x13 + 1)).toNat (rd (.int .i64) xo0 x13)) xo1 xo2
                    else none
                  else none
                else none
              else none
            else none
          else none
        else none
      else none
    else some (xo0, xo1, xo2)
theorem slices_symMergeCmpFunc_int.l9_eq (k : Nat) (x10 : Int) (x13 : Int) (xo0 : List Int) (xo1 : Bool) (xo2 : List (ByteArray × Bool × Int × Int)) : slices_symMergeCmpFunc_int.l9 (k + 1) x10 x13 xo0 xo1 xo2 = if x13 < (wrap64 (x10 - 1)) then
      if 0 ≤ (wrap64 (x13 + 1)) then
        if (wrap64 (x13 + 1)) < (xo0.length : Int) then
          if 0 ≤ x13 then
            if x13 < (xo0.length : Int) then
              if 0 ≤ x13 then
                if x13 < (xo0.length : Int) then
                  if 0 ≤ (wrap64 (x13 + 1)) then
                    if (wrap64 (x13 + 1)) < ((xo0.set x13.toNat (rd (.int .i64) xo0 (wrap64 (x13 + 1)))).length : Int) then
                      slices_symMergeCmpFunc_int.l9 k x10 (wrap64 (x13 + 1)) ((xo0.set x13.toNat (rd (.int .i64) xo0 (wrap64 (x13 + 1)))).set (wrap64 (x13 + 1)).toNat (rd (.int .i64) xo0 x13)) xo1 xo2
                    else none
                  else none
                else none
              else none
            else none
          else none
        else none
      else none
    else some (xo0, xo1, xo2) := rfl
def slices_symMergeCmpFunc_int.l3 : Nat → Int → Int → Int → List Int → Bool → (List (ByteArray × Bool × Int × Int)) → Option (List Int × Bool × List (ByteArray × Bool × Int × Int))
  | 0, _, _, _, _, _, _ => none
  | k + 1, x1, x10, x11, xo0, xo1, xo2 => if x10 < x11 then
      if (0 : Int) ≤ 1 then
        if 0 ≤ (wrap64 (shrI .u64 (IntKind.wrap .u64 (wrap64 (x10 + x11))) 1)) then
          if (wrap64 (shrI .u64 (IntKind.wrap .u64 (wrap64 (x10 + x11))) 1)) < (xo0.length : Int) then
            if 0 ≤ x1 then
              if x1 < (xo0.length : Int) then
                (auction_side_1.f k (rd (.int .i64) xo0 (wrap64 (shrI .u64 (IntKind.wrap .u64 (wrap64 (x10 + x11))) 1))) (rd (.int .i64) xo0 x1) xo1 xo2).bind fun r1 =>
                if r1.1 < 0 then
                  slices_symMergeCmpFunc_int.l3 k x1 (wrap64 ((wrap64 (shrI .u64 (IntKind.wrap .u64 (wrap64 (x10 + x11))) 1)) + 1)) x11 xo0 r1.2.1 r1.2.2
                else slices_symMergeCmpFunc_int.l3 k x1 x10 (wrap64 (shrI .u64 (IntKind.wrap .u64 (wrap64 (x10 + x11))) 1)) xo0 r1.2.1 r1.2.2
              else none
            else none
          else none
        else none
      else none
    else slices_symMergeCmpFunc_int.l9 k x10 x1 xo0 xo1 xo2
theorem slices_symMergeCmpFunc_int.l3_eq (k : Nat) (x1 : Int) (x10 : Int) (x11 : Int) (xo0 : List Int) (xo1 : Bool) (xo2 : List (ByteArray × Bool × Int × Int)) : slices_symMergeCmpFunc_int.l3 (k + 1) x1 x10 x11 xo0 xo1 xo2 = if x10 < x11 then
      if (0 : Int) ≤ 1 then
        if 0 ≤ (wrap64 (shrI .u64 (IntKind.wrap .u64 (wrap64 (x10 + x11))) 1)) then
          if (wrap64 (shrI .u64 (IntKind.wrap .u64 (wrap64 (x10 + x11))) 1)) < (xo0.length : Int) then
            if 0 ≤ x1 then
              if x1 < (xo0.length : Int) then
                (auction_side_1.f k (rd (.int .i64) xo0 (wrap64 (shrI .u64 (IntKind.wrap .u64 (wrap64 (x10 + x11))) 1))) (rd (.int .i64) xo0 x1) xo1 xo2).bind fun r1 =>
                if r1.1 < 0 then
                  slices_symMergeCmpFunc_int.l3 k x1 (wrap64 ((wrap64 (shrI .u64 (IntKind.wrap .u64 (wrap64 (x10 + x11))) 1)) + 1)) x11 xo0 r1.2.1 r1.2.2
                else slices_symMergeCmpFunc_int.l3 k x1 x10 (wrap64 (shrI .u64 (IntKind.wrap .u64 (wrap64 (x10 + x11))) 1)) xo0 r1.2.1 r1.2.2
              else none
            else none
          else none
        else none
      else none
    else slices_symMergeCmpFunc_int.l9 k x10 x1 xo0 xo1 xo2 := rfl
def slices_symMergeCmpFunc_int.l21 : Nat → Int → Int → List Int → Bool → (List (ByteArray × Bool × Int × Int)) → Option (List Int × Bool × List (ByteArray × Bool × Int × Int))
  | 0, _, _, _, _, _ => none
  | k + 1, x14, x17, xo0, xo1, xo2 => if x14 < x17 then
      if 0 ≤ (wrap64 (x17 - 1)) then
        if (wrap64 (x17 - 1)) < (xo0.length : Int) then
          if 0 ≤ x17 then
            if x17 < (xo0.length : Int) then
              if 0 ≤ x17 then
                if x17 < (xo0.length : Int) then
                  if 0 ≤ (wrap64 (x17 - 1)) then
                    if (wrap64 (x17 - 1)) < ((xo0.set x17.toNat (rd (.int .i64) xo0 (wrap64 (x17 - 1)))).length : Int) then
                      slices_symMergeCmpFunc_int.l21 k x14 (wrap64 (x17 - 1)) ((xo0.set x17.toNat (rd (.int .i64) xo0 (wrap64 (x17 - 1)))).set (wrap64 (x17 - 1)).toNat (rd (.int .i64) xo0 x17)) xo1 xo2
                    else none
                  else none
                else none
              else none
            else none
          else none
        else none
      else none
    else some (xo0, xo1, xo2)
theorem slices_symMergeCmpFunc_int.l21_eq (k : Nat) (x14 : Int) (x17 : Int) (xo0 : List Int) (xo1 : Bool) (xo2 : List (ByteArray × Bool × Int × Int)) : slices_symMergeCmpFunc_int.l21 (k + 1) x14 x17 xo0 xo1 xo2 = if x14 < x17 then
      if 0 ≤ (wrap64 (x17 - 1)) then
        if (wrap64 (x17 - 1)) < (xo0.length : Int) then
          if 0 ≤ x17 then
            if x17 < (xo0.length : Int) then
              if 0 ≤ x17 then
                if x17 < (xo0.length : Int) then
                  if 0 ≤ (wrap64 (x17 - 1)) then
                    if (wrap64 (x17 - 1)) < ((xo0.set x17.toNat (rd (.int .i64) xo0 (wrap64 (x17 - 1)))).length : Int) then
                      slices_symMergeCmpFunc_int.l21 k x14 (wrap64 (x17 - 1)) ((xo0.set x17.toNat (rd (.int .i64) xo0 (wrap64 (x17 - 1)))).set (wrap64 (x17 - 1)).toNat (rd (.int .i64) xo0 x17)) xo1 xo2
                    else none
                  else none
                else none
              else none
            else none
          else none
        else none
      else none
    else some (xo0, xo1, xo2) := rfl
def slices_symMergeCmpFunc_int.l15 : Nat → Int → Int → Int → List Int → Bool → (List (ByteArray × Bool × Int × Int)) → Option (List Int × Bool × List (ByteArray × Bool × Int × Int))
  | 0, _, _, _, _, _, _ => none
  | k + 1, x2, x14, x15, xo0, xo1, xo2 => if x14 < x15 then
      if (0 : Int) ≤ 1 then
        if 0 ≤ x2 then
          if x2 < (xo0.length : Int) then
            if 0 ≤ (wrap64 (shrI .u64 (IntKind.wrap .u64 (wrap64 (x14 + x15))) 1)) then
              if (wrap64 (shrI .u64 (IntKind.wrap .u64 (wrap64 (x14 + x15))) 1)) < (xo0.length : Int) then
                (auction_side_1.f k (rd (.int .i64) xo0 x2) (rd (.int .i64) xo0 (wrap64 (shrI .u64 (IntKind.wrap .u64 (wrap64 (x14 + x15))) 1))) xo1 xo2).bind fun r2 =>
                if r2.1 < 0 then
                  slices_symMergeCmpFunc_int.l15 k x2 x14 (wrap64 (shrI .u64 (IntKind.wrap .u64 (wrap64 (x14 + x15))) 1)) xo0 r2.2.1 r2.2.2
                else slices_symMergeCmpFunc_int.l15 k x2 (wrap64 ((wrap64 (shrI .u64 (IntKind.wrap .u64 (wrap64 (x14 + x15))) 1)) + 1)) x15 xo0 r2.2.1 r2.2.2
              else none
            else none
          else none
        else none
      else none
    else slices_symMergeCmpFunc_int.l21 k x14 x2 xo0 xo1 xo2
theorem slices_symMergeCmpFunc_int.l15_eq (k : Nat) (x2 : Int) (x14 : Int) (x15 : Int) (xo0 : List Int) (xo1 : Bool) (xo2 : List (ByteArray × Bool × Int × Int)) : slices_symMergeCmpFunc_int.l15 (k + 1) x2 x14 x15 xo0 xo1 xo2 = if x14 < x15 then
      if (0 : Int) ≤ 1 then
        if 0 ≤ x2 then
          if x2 < (xo0.length : Int) then
            if 0 ≤ (wrap64 (shrI .u64 (IntKind.wrap .u64 (wrap64 (x14 + x15))) 1)) then
              if (wrap64 (shrI .u64 (IntKind.wrap .u64 (wrap64 (x14 + x15))) 1)) < (xo0.length : Int) then
                (auction_side_1.f k (rd (.int .i64) xo0 x2) (rd (.int .i64) xo0 (wrap64 (shrI .u64 (IntKind.wrap .u64 (wrap64 (x14 + x15))) 1))) xo1 xo2).bind fun r2 =>
                if r2.1 < 0 then
                  slices_symMergeCmpFunc_int.l15 k x2 x14 (wrap64 (shrI .u64 (IntKind.wrap .u64 (wrap64 (x14 + x15))) 1)) xo0 r2.2.1 r2.2.2
                else slices_symMergeCmpFunc_int.l15 k x2 (wrap64 ((wrap64 (shrI .u64 (IntKind.wrap .u64 (wrap64 (x14 + x15))) 1)) + 1)) x15 xo0 r2.2.1 r2.2.2
              else none
            else none
          else none
        else none
      else none
    else slices_symMergeCmpFunc_int.l21 k x14 x2 xo0 xo1 xo2 := rfl
mutual
def slices_symMergeCmpFunc_int.f : Nat → Int → Int → Int → List Int → Bool → (List (ByteArray × Bool × Int × Int)) → Option (List Int × Bool × List (ByteArray × Bool × Int × Int))
  | 0, _, _, _, _, _, _ => none
  | k + 1, a1, a2, a3, ao0, ao2, ao3 => if (wrap64 (a2 - a1)) = 1 then
      slices_symMergeCmpFunc_int.l3 k a1 a2 a3 ao0 ao2 ao3
    else if (wrap64 (a3 - a2)) = 1 then
      slices_symMergeCmpFunc_int.l15 k a2 a1 a2 ao0 ao2 ao3
    else if (0 : Int) ≤ 1 then
      if (wrap64 (shrI .u64 (IntKind.wrap .u64 (wrap64 (a1 + a3))) 1)) < a2 then
        slices_symMergeCmpFunc_int.l32 k a1 a2 a3 (wrap64 (shrI .u64 (IntKind.wrap .u64 (wrap64 (a1 + a3))) 1)) (wrap64 ((wrap64 (shrI .u64 (IntKind.wrap .u64 (wrap64 (a1 + a3))) 1)) + a2)) (wrap64 ((wrap64 ((wrap64 (shrI .u64 (IntKind.wrap .u64 (wrap64 (a1 + a3))) 1)) + a2)) - a3)) (wrap64 (shrI .u64 (IntKind.wrap .u64 (wrap64 (a1 + a3))) 1)) ao0 ao2 ao3
      else slices_symMergeCmpFunc_int.l32 k a1 a2 a3 (wrap64 (shrI .u64 (IntKind.wrap .u64 (wrap64 (a1 + a3))) 1)) (wrap64 ((wrap64 (shrI .u64 (IntKind.wrap .u64 (wrap64 (a1 + a3))) 1)) + a2)) a1 a2 ao0 ao2 ao3
    else none
def slices_symMergeCmpFunc_int.l32 : Nat → Int → Int → Int → Int → Int → Int → Int → List Int → Bool → (List (ByteArray × Bool × Int × Int)) → Option (List Int × Bool × List (ByteArray × Bool × Int × Int))
  | 0, _, _, _, _, _, _, _, _, _, _ => none
  | k + 1, x1, x2, x3, x18, x19, x20, x21, xo0, xo1, xo2 => slices_symMergeCmpFunc_int.l33 k x1 x2 x3 x18 x19 x20 x21 (wrap64 (x19 - 1)) xo0 xo1 xo2
def slices_symMergeCmpFunc_int.l33 : Nat → Int → Int → Int → Int → Int → Int → Int → Int → List Int → Bool → (List (ByteArray × Bool × Int × Int)) → Option (List Int × Bool × List (ByteArray × Bool × Int × Int))
  | 0, _, _, _, _, _, _, _, _, _, _, _ => none
  | k + 1, x1, x2, x3, x18, x19, x20, x21, x22, xo0, xo1, xo2 => if x20 < x21 then
      if (0 : Int) ≤ 1 then
        if 0 ≤ (wrap64 (x22 - (wrap64 (shrI .u64 (IntKind.wrap .u64 (wrap64 (x20 + x21))) 1)))) then
          if (wrap64 (x22 - (wrap64 (shrI .u64 (IntKind.wrap .u64 (wrap64 (x20 + x21))) 1)))) < (xo0.length : Int) then
            if 0 ≤ (wrap64 (shrI .u64 (IntKind.wrap .u64 (wrap64 (x20 + x21))) 1)) then
              if (wrap64 (shrI .u64 (IntKind.wrap .u64 (wrap64 (x20 + x21))) 1)) < (xo0.length : Int) then
                (auction_side_1.f k (rd (.int .i64) xo0 (wrap64 (x22 - (wrap64 (shrI .u64 (IntKind.wrap .u64 (wrap64 (x20 + x21))) 1))))) (rd (.int .i64) xo0 (wrap64 (shrI .u64 (IntKind.wrap .u64 (wrap64 (x20 + x21))) 1))) xo1 xo2).bind fun r3 =>
                if r3.1 < 0 then
                  slices_symMergeCmpFunc_int.l33 k x1 x2 x3 x18 x19 x20 (wrap64 (shrI .u64 (IntKind.wrap .u64 (wrap64 (x20 + x21))) 1)) x22 xo0 r3.2.1 r3.2.2
                else slices_symMergeCmpFunc_int.l33 k x1 x2 x3 x18 x19 (wrap64 ((wrap64 (shrI .u64 (IntKind.wrap .u64 (wrap64 (x20 + x21))) 1)) + 1)) x21 x22 xo0 r3.2.1 r3.2.2
              else none
            else none
          else none
        else none
      else none
    else if x20 < x2 then
      if x2 < (wrap64 (x19 - x20)) then
        (slices_rotateCmpFunc_int.f k x20 x2 (wrap64 (x19 - x20)) xo0 xo1 xo2).bind fun r4 =>
        slices_symMergeCmpFunc_int.l41 k x1 x3 x18 x20 (wrap64 (x19 - x20)) r4.1 r4.2.1 r4.2.2
      else slices_symMergeCmpFunc_int.l41 k x1 x3 x18 x20 (wrap64 (x19 - x20)) xo0 xo1 xo2
    else slices_symMergeCmpFunc_int.l41 k x1 x3 x18 x20 (wrap64 (x19 - x20)) xo0 xo1 xo2
def slices_symMergeCmpFunc_int.l41 : Nat → Int → Int → Int → Int → Int → List Int → Bool → (List (ByteArray × Bool × Int × Int)) → Option (List Int × Bool × List (ByteArray × Bool × Int × Int))
  | 0, _, _, _, _, _, _, _, _ => none
  | k + 1, x1, x3, x18, x20, x24, xo0, xo1, xo2 => if x1 < x20 then
      if x20 < x18 then
        (slices_symMergeCmpFunc_int.f k x1 x20 x18 xo0 xo1 xo2).bind fun r5 =>
        if x18 < x24 then
          if x24 < x3 then
            (slices_symMergeCmpFunc_int.f k x18 x24 x3 r5.1 r5.2.1 r5.2.2).bind fun r6 =>
            some r6
          else some r5
        else some r5
      else if x18 < x24 then
        if x24 < x3 then
          (slices_symMergeCmpFunc_int.f k x18 x24 x3 xo0 xo1 xo2).bind fun r7 =>
          some r7
        else some (xo0, xo1, xo2)
      else some (xo0, xo1, xo2)
    else if x18 < x24 then
      if x24 < x3 then
        (slices_symMergeCmpFunc_int.f k x18 x24 x3 xo0 xo1 xo2).bind fun r8 =>
        some r8
      else some (xo0, xo1, xo2)
    else some (xo0, xo1, xo2)
end
theorem slices_symMergeCmpFunc_int.f_eq (k : Nat) (a1 : Int) (a2 : Int) (a3 : Int) (ao0 : List Int) (ao2 : Bool) (ao3 : List (ByteArray × Bool × Int × Int)) : slices_symMergeCmpFunc_int.f (k + 1) a1 a2 a3 ao0 ao2 ao3 = if (wrap64 (a2 - a1)) = 1 then
      slices_symMergeCmpFunc_int.l3 k a1 a2 a3 ao0 ao2 ao3
    else if (wrap64 (a3 - a2)) = 1 then
      slices_symMergeCmpFunc_int.l15 k a2 a1 a2 ao0 ao2 ao3
    else if (0 : Int) ≤ 1 then
      if (wrap64 (shrI .u64 (IntKind.wrap .u64 (wrap64 (a1 + a3))) 1)) < a2 then
        slices_symMergeCmpFunc_int.l32 k a1 a2 a3 (wrap64 (shrI .u64 (IntKind.wrap .u64 (wrap64 (a1 + a3))) 1)) (wrap64 ((wrap64 (shrI .u64 (IntKind.wrap .u64 (wrap64 (a1 + a3))) 1)) + a2)) (wrap64 ((wrap64 ((wrap64 (shrI .u64 (IntKind.wrap .u64 (wrap64 (a1 + a3))) 1)) + a2)) - a3)) (wrap64 (shrI .u64 (IntKind.wrap .u64 (wrap64 (a1 + a3))) 1)) ao0 ao2 ao3
      else slices_symMergeCmpFunc_int.l32 k a1 a2 a3 (wrap64 (shrI .u64 (IntKind.wrap .u64 (wrap64 (a1 + a3))) 1)) (wrap64 ((wrap64 (shrI .u64 (IntKind.wrap .u64 (wrap64 (a1 + a3))) 1)) + a2)) a1 a2 ao0 ao2 ao3
    else none := rfl
theorem slices_symMergeCmpFunc_int.l32_eq (k : Nat) (x1 : Int) (x2 : Int) (x3 : Int) (x18 : Int) (x19 : Int) (x20 : Int) (x21 : Int) (xo0 : List Int) (xo1 : Bool) (xo2 : List (ByteArray × Bool × Int × Int)) : slices_symMergeCmpFunc_int.l32 (k + 1) x1 x2 x3 x18 x19 x20 x21 xo0 xo1 xo2 = slices_symMergeCmpFunc_int.l33 k x1 x2 x3 x18 x19 x20 x21 (wrap64 (x19 - 1)) xo0 xo1 xo2 := rfl
theorem slices_symMergeCmpFunc_int.l33_eq (k : Nat) (x1 : Int) (x2 : Int) (x3 : Int) (x18 : Int) (x19 : Int) (x20 : Int) (x21 : Int) (x22 : Int) (xo0 : List Int) (xo1 : Bool) (xo2 : List (ByteArray × Bool × Int × Int)) : slices_symMergeCmpFunc_int.l33 (k + 1) x1 x2 x3 x18 x19 x20 x21 x22 xo0 xo1 xo2 = if x20 < x21 then
      if (0 : Int) ≤ 1 then
        if 0 ≤ (wrap64 (x22 - (wrap64 (shrI .u64 (IntKind.wrap .u64 (wrap64 (x20 + x21))) 1)))) then
          if (wrap64 (x22 - (wrap64 (shrI .u64 (IntKind.wrap .u64 (wrap64 (x20 + x21))) 1)))) < (xo0.length : Int) then
            if 0 ≤ (wrap64 (shrI .u64 (IntKind.wrap .u64 (wrap64 (x20 + x21))) 1)) then
              if (wrap64 (shrI .u64 (IntKind.wrap .u64 (wrap64 (x20 + x21))) 1)) < (xo0.length : Int) then
                (auction_side_1.f k (rd (.int .i64) xo0 (wrap64 (x22 - (wrap64 (shrI .u64 (IntKind.wrap .u64 (wrap64 (x20 + x21))) 1))))) (rd (.int .i64) xo0 (wrap64 (shrI .u64 (IntKind.wrap .u64 (wrap64 (x20 + x21))) 1))) xo1 xo2).bind fun r3 =>
                if r3.1 < 0 then
                  slices_symMergeCmpFunc_int.l33 k x1 x2 x3 x18 x19 x20 (wrap64 (shrI .u64 (IntKind.wrap .u64 (wrap64 (x20 + x21))) 1)) x22 xo0 r3.2.1 r3.2.2
                else slices_symMergeCmpFunc_int.l33 k x1 x2 x3 x18 x19 (wrap64 ((wrap64 (shrI .u64 (IntKind.wrap .u64 (wrap64 (x20 + x21))) 1)) + 1)) x21 x22 xo0 r3.2.1 r3.2.2
              else none
            else none
          else none
        else none
      else none
    else if x20 < x2 then
      if x2 < (wrap64 (x19 - x20)) then
        (slices_rotateCmpFunc_int.f k x20 x2 (wrap64 (x19 - x20)) xo0 xo1 xo2).bind fun r4 =>
        slices_symMergeCmpFunc_int.l41 k x1 x3 x18 x20 (wrap64 (x19 - x20)) r4.1 r4.2.1 r4.2.2
      else slices_symMergeCmpFunc_int.l41 k x1 x3 x18 x20 (wrap64 (x19 - x20)) xo0 xo1 xo2
    else slices_symMergeCmpFunc_int.l41 k x1 x3 x18 x20 (wrap64 (x19 - x20)) xo0 xo1 xo2 := rfl
theorem slices_symMergeCmpFunc_int.l41_eq (k : Nat) (x1 : Int) (x3 : Int) (x18 : Int) (x20 : Int) (x24 : Int) (xo0 : List Int) (xo1 : Bool) (xo2 : List (ByteArray × Bool × Int × Int)) : slices_symMergeCmpFunc_int.l41 (k + 1) x1 x3 x18 x20 x24 xo0 xo1 xo2 = if x1 < x20 then
      if x20 < x18 then
        (slices_symMergeCmpFunc_int.f k x1 x20 x18 xo0 xo1 xo2).bind fun r5 =>
        if x18 < x24 then
          if x24 < x3 then
            (slices_symMergeCmpFunc_int.f k x18 x24 x3 r5.1 r5.2.1 r5.2.2).bind fun r6 =>
            some r6
          else some r5
        else some r5
      else if x18 < x24 then
        if x24 < x3 then
          (slices_symMergeCmpFunc_int.f k x18 x24 x3 xo0 xo1 xo2).bind fun r7 =>
          some r7
        else some (xo0, xo1, xo2)
      else some (xo0, xo1, xo2)
    else if x18 < x24 then
      if x24 < x3 then
        (slices_symMergeCmpFunc_int.f k x18 x24 x3 xo0 xo1 xo2).bind fun r8 =>
        some r8
      else some (xo0, xo1, xo2)
    else some (xo0, xo1, xo2) := rfl
mutual
def slices_stableCmpFunc_int.l7 : Nat → Int → Int → List Int → Bool → (List (ByteArray × Bool × Int × Int)) → Option (List Int × Bool × List (ByteArray × Bool × Int × Int))
  | 0, _, _, _, _, _ => none
  | k + 1, x1, x6, xo0, xo1, xo2 => if x6 < x1 then
      slices_stableCmpFunc_int.l9 k x1 x6 0 (wrap64 (2 * x6)) xo0 xo1 xo2
    else some (xo0, xo1, xo2)
def slices_stableCmpFunc_int.l9 : Nat → Int → Int → Int → Int → List Int → Bool → (List (ByteArray × Bool × Int × Int)) → Option (List Int × Bool × List (ByteArray × Bool × Int × Int))
  | 0, _, _, _, _, _, _, _ => none
  | k + 1, x1, x6, x7, x8, xo0, xo1, xo2 => if x8 ≤ x1 then
      (slices_symMergeCmpFunc_int.f k x7 (wrap64 (x7 + x6)) x8 xo0 xo1 xo2).bind fun r3 =>
      slices_stableCmpFunc_int.l9 k x1 x6 x8 (wrap64 (x8 + (wrap64 (2 * x6)))) r3.1 r3.2.1 r3.2.2
    else if (wrap64 (x7 + x6)) < x1 then
      (slices_symMergeCmpFunc_int.f k x7 (wrap64 (x7 + x6)) x1 xo0 xo1 xo2).bind fun r4 =>
      slices_stableCmpFunc_int.l7 k x1 (wrap64 (x6 * 2)) r4.1 r4.2.1 r4.2.2
    else slices_stableCmpFunc_int.l7 k x1 (wrap64 (x6 * 2)) xo0 xo1 xo2
end
theorem slices_stableCmpFunc_int.l7_eq (k : Nat) (x1 : Int) (x6 : Int) (xo0 : List Int) (xo1 : Bool) (xo2 : List (ByteArray × Bool × Int × Int)) : slices_stableCmpFunc_int.l7 (k + 1) x1 x6 xo0 xo1 xo2 = if x6 < x1 then
      slices_stableCmpFunc_int.l9 k x1 x6 0 (wrap64 (2 * x6)) xo0 xo1 xo2
    else some (xo0, xo1, xo2) := rfl
theorem slices_stableCmpFunc_int.l9_eq (k : Nat) (x1 : Int) (x6 : Int) (x7 : Int) (x8 : Int) (xo0 : List Int) (xo1 : Bool) (xo2 : List (ByteArray × Bool × Int × Int)) : slices_stableCmpFunc_int.l9 (k + 1) x1 x6 x7 x8 xo0 xo1 xo2 = if x8 ≤ x1 then
      (slices_symMergeCmpFunc_int.f k x7 (wrap64 (x7 + x6)) x8 xo0 xo1 xo2).bind fun r3 =>
      slices_stableCmpFunc_int.l9 k x1 x6 x8 (wrap64 (x8 + (wrap64 (2 * x6)))) r3.1 r3.2.1 r3.2.2
    else if (wrap64 (x7 + x6)) < x1 then
      (slices_symMergeCmpFunc_int.f k x7 (wrap64 (x7 + x6)) x1 xo0 xo1 xo2).bind fun r4 =>
      slices_stableCmpFunc_int.l7 k x1 (wrap64 (x6 * 2)) r4.1 r4.2.1 r4.2.2
    else slices_stableCmpFunc_int.l7 k x1 (wrap64 (x6 * 2)) xo0 xo1 xo2 := rfl
def slices_stableCmpFunc_int.l2 : Nat → Int → Int → Int → Int → List Int → Bool → (List (ByteArray × Bool × Int × Int)) → Option (List Int × Bool × List (ByteArray × Bool × Int × Int))
  | 0, _, _, _, _, _, _, _ => none
  | k + 1, x1, x6, x7, x8, xo0, xo1, xo2 => if x8 ≤ x1 then
      (slices_insertionSortCmpFunc_int.f k x7 x8 xo0 xo1 xo2).bind fun r1 =>
      slices_stableCmpFunc_int.l2 k x1 x6 x8 (wrap64 (x8 + x6)) r1.1 r1.2.1 r1.2.2
    else (slices_insertionSortCmpFunc_int.f k x7 x1 xo0 xo1 xo2).bind fun r2 =>
    slices_stableCmpFunc_int.l7 k x1 x6 r2.1 r2.2.1 r2.2.2
theorem slices_stableCmpFunc_int.l2_eq (k : Nat) (x1 : Int) (x6 : Int) (x7 : Int) (x8 : Int) (xo0 : List Int) (xo1 : Bool) (xo2 : List (ByteArray × Bool × Int × Int)) : slices_stableCmpFunc_int.l2 (k + 1) x1 x6 x7 x8 xo0 xo1 xo2 = if x8 ≤ x1 then
      (slices_insertionSortCmpFunc_int.f k x7 x8 xo0 xo1 xo2).bind fun r1 =>
      slices_stableCmpFunc_int.l2 k x1 x6 x8 (wrap64 (x8 + x6)) r1.1 r1.2.1 r1.2.2
    else (slices_insertionSortCmpFunc_int.f k x7 x1 xo0 xo1 xo2).bind fun r2 =>
    slices_stableCmpFunc_int.l7 k x1 x6 r2.1 r2.2.1 r2.2.2 := rfl
def slices_stableCmpFunc_int.f (k : Nat) (a1 : Int) (ao0 : List Int) (ao2 : Bool) (ao3 : List (ByteArray × Bool × Int × Int)) : Option (List Int × Bool × List (ByteArray × Bool × Int × Int)) :=
  slices_stableCmpFunc_int.l2 k a1 20 0 20 ao0 ao2 ao3
def slices_SortStableFunc_int.f (k : Nat) (ao0 : List Int) (ao2 : Bool) (ao3 : List (ByteArray × Bool × Int × Int)) : Option (List Int × Bool × List (ByteArray × Bool × Int × Int)) :=
  (slices_stableCmpFunc_int.f k (ao0.length : Int) ao0 ao2 ao3).bind fun r1 =>
  some r1
def auction_side.l3 : Nat → (List (ByteArray × Bool × Int × Int)) → Int → Int → (List (ByteArray × Bool × Int × Int)) → Bool → List Int → Option (List Int)
  | 0, _, _, _, _, _, _ => none
  | k + 1, x8, x9, x10, xo0, xo1, xo2 => if x10 < x9 then
      if 0 ≤ x10 then
        if x10 < (x8.length : Int) then
          if (rd Y2 x8 x10).2.1 = xo1 then
            if (xo2.length + [x10].length) * 8 ≤ 140737488355328 then
              auction_side.l3 k x8 x9 (wrap64 (x10 + 1)) xo0 xo1 (xo2 ++ [x10])
            else none
          else auction_side.l3 k x8 x9 (wrap64 (x10 + 1)) xo0 xo1 xo2
        else none
      else none
    else (slices_SortStableFunc_int.f k xo2 xo1 xo0).bind fun r1 =>
    some r1.1
theorem auction_side.l3_eq (k : Nat) (x8 : List (ByteArray × Bool × Int × Int)) (x9 : Int) (x10 : Int) (xo0 : List (ByteArray × Bool × Int × Int)) (xo1 : Bool) (xo2 : List Int) : auction_side.l3 (k + 1) x8 x9 x10 xo0 xo1 xo2 = if x10 < x9 then
      if 0 ≤ x10 then
        if x10 < (x8.length : Int) then
          if (rd Y2 x8 x10).2.1 = xo1 then
            if (xo2.length + [x10].length) * 8 ≤ 140737488355328 then
              auction_side.l3 k x8 x9 (wrap64 (x10 + 1)) xo0 xo1 (xo2 ++ [x10])
            else none
          else auction_side.l3 k x8 x9 (wrap64 (x10 + 1)) xo0 xo1 xo2
        else none
      else none
    else (slices_SortStableFunc_int.f k xo2 xo1 xo0).bind fun r1 =>
    some r1.1 := rfl
def auction_side.f (k : Nat) (a0 : List (ByteArray × Bool × Int × Int)) (a1 : Bool) : Option (List Int) :=
  auction_side.l3 k a0 (a0.length : Int) 0 a0 a1 []
mutual
def auction_bounds.l3 : Nat → Int → Int → (List (ByteArray × Bool × Int × Int)) → Int → Int → Int → Int → List Int → Option (Int × Int)
  | 0, _, _, _, _, _, _, _, _ => none
  | k + 1, x6, x7, x10, x11, x12, xo0_0, xo0_1, xo0_2 => if x12 < x11 then
      if 0 ≤ x12 then
        if x12 < (x10.length : Int) then
          if (rd Y2 x10 x12).2.1 = true then
            if 0 ≤ x12 then
              if x12 < (xo0_2.length : Int) then
                if (rd (.int .i64) xo0_2 x12) < (rd Y2 x10 x12).2.2.1 then
                  auction_bounds.l7 k (mx x6 (rd Y2 x10 x12).2.2.2) x7 x12 x10 x11 x12 xo0_0 xo0_1 xo0_2 (rd Y2 x10 x12).1 (rd Y2 x10 x12).2.1 (rd Y2 x10 x12).2.2.1 (rd Y2 x10 x12).2.2.2
                else if (rd Y2 x10 x12).2.1 = true then
                  auction_bounds.l7 k x6 x7 x12 x10 x11 x12 xo0_0 xo0_1 xo0_2 (rd Y2 x10 x12).1 (rd Y2 x10 x12).2.1 (rd Y2 x10 x12).2.2.1 (rd Y2 x10 x12).2.2.2
                else if 0 ≤ x12 then
                  if x12 < (xo0_2.length : Int) then
                    if 0 < (rd (.int .i64) xo0_2 x12) then
                      auction_bounds.l7 k (mx x6 (rd Y2 x10 x12).2.2.2) x7 x12 x10 x11 x12 xo0_0 xo0_1 xo0_2 (rd Y2 x10 x12).1 (rd Y2 x10 x12).2.1 (rd Y2 x10 x12).2.2.1 (rd Y2 x10 x12).2.2.2
                    else auction_bounds.l7 k x6 x7 x12 x10 x11 x12 xo0_0 xo0_1 xo0_2 (rd Y2 x10 x12).1 (rd Y2 x10 x12).2.1 (rd Y2 x10 x12).2.2.1 (rd Y2 x10 x12).2.2.2
                  else none
                else none
              else none
            else none
          else if (rd Y2 x10 x12).2.1 = true then
            auction_bounds.l7 k x6 x7 x12 x10 x11 x12 xo0_0 xo0_1 xo0_2 (rd Y2 x10 x12).1 (rd Y2 x10 x12).2.1 (rd Y2 x10 x12).2.2.1 (rd Y2 x10 x12).2.2.2
          else if 0 ≤ x12 then
            if x12 < (xo0_2.length : Int) then
              if 0 < (rd (.int .i64) xo0_2 x12) then
                auction_bounds.l7 k (mx x6 (rd Y2 x10 x12).2.2.2) x7 x12 x10 x11 x12 xo0_0 xo0_1 xo0_2 (rd Y2 x10 x12).1 (rd Y2 x10 x12).2.1 (rd Y2 x10 x12).2.2.1 (rd Y2 x10 x12).2.2.2
              else auction_bounds.l7 k x6 x7 x12 x10 x11 x12 xo0_0 xo0_1 xo0_2 (rd Y2 x10 x12).1 (rd Y2 x10 x12).2.1 (rd Y2 x10 x12).2.2.1 (rd Y2 x10 x12).2.2.2
            else none
          else none
        else none
      else none
    else some (x6, x7)
def auction_bounds.l7 : Nat → Int → Int → Int → (List (ByteArray × Bool × Int × Int)) → Int → Int → Int → Int → List Int → ByteArray → Bool → Int → Int → Option (Int × Int)
  | 0, _, _, _, _, _, _, _, _, _, _, _, _, _ => none
  | k + 1, x6, x7, x8, x10, x11, x12, xo0_0, xo0_1, xo0_2, xo1_0, xo1_1, xo1_2, xo1_3 => if xo1_1 = true then
      if 0 ≤ x8 then
        if x8 < (xo0_2.length : Int) then
          if 0 < (rd (.int .i64) xo0_2 x8) then
            auction_bounds.l3 k x6 (mn x7 xo1_3) x10 x11 (wrap64 (x12 + 1)) xo0_0 xo0_1 xo0_2
          else if xo1_1 = true then
            auction_bounds.l3 k x6 x7 x10 x11 (wrap64 (x12 + 1)) xo0_0 xo0_1 xo0_2
          else if 0 ≤ x8 then
            if x8 < (xo0_2.length : Int) then
              if (rd (.int .i64) xo0_2 x8) < xo1_2 then
                auction_bounds.l3 k x6 (mn x7 xo1_3) x10 x11 (wrap64 (x12 + 1)) xo0_0 xo0_1 xo0_2
              else auction_bounds.l3 k x6 x7 x10 x11 (wrap64 (x12 + 1)) xo0_0 xo0_1 xo0_2
            else none
          else none
        else none
      else none
    else if xo1_1 = true then
      auction_bounds.l3 k x6 x7 x10 x11 (wrap64 (x12 + 1)) xo0_0 xo0_1 xo0_2
    else if 0 ≤ x8 then
      if x8 < (xo0_2.length : Int) then
        if (rd (.int .i64) xo0_2 x8) < xo1_2 then
          auction_bounds.l3 k x6 (mn x7 xo1_3) x10 x11 (wrap64 (x12 + 1)) xo0_0 xo0_1 xo0_2
        else auction_bounds.l3 k x6 x7 x10 x11 (wrap64 (x12 + 1)) xo0_0 xo0_1 xo0_2
      else none
    else none
end
theorem auction_bounds.l3_eq (k : Nat) (x6 : Int) (x7 : Int) (x10 : List (ByteArray × Bool × Int × Int)) (x11 : Int) (x12 : Int) (xo0_0 : Int) (xo0_1 : Int) (xo0_2 : List Int) : auction_bounds.l3 (k + 1) x6 x7 x10 x11 x12 xo0_0 xo0_1 xo0_2 = if x12 < x11 then
      if 0 ≤ x12 then
        if x12 < (x10.length : Int) then
          if (rd Y2 x10 x12).2.1 = true then
            if 0 ≤ x12 then
              if x12 < (xo0_2.length : Int) then
                if (rd (.int .i64) xo0_2 x12) < (rd Y2 x10 x12).2.2.1 then
                  auction_bounds.l7 k (mx x6 (rd Y2 x10 x12).2.2.2) x7 x12 x10 x11 x12 xo0_0 xo0_1 xo0_2 (rd Y2 x10 x12).1 (rd Y2 x10 x12).2.1 (rd Y2 x10 x12).2.2.1 (rd Y2 x10 x12).2.2.2
                else if (rd Y2 x10 x12).2.1 = true then
                  auction_bounds.l7 k x6 x7 x12 x10 x11 x12 xo0_0 xo0_1 xo0_2 (rd Y2 x10 x12).1 (rd Y2 x10 x12).2.1 (rd Y2 x10 x12).2.2.1 (rd Y2 x10 x12).2.2.2
                else if 0 ≤ x12 then
                  if x12 < (xo0_2.length : Int) then
                    if 0 < (rd (.int .i64) xo0_2 x12) then
                      auction_bounds.l7 k (mx x6 (rd Y2 x10 x12).2.2.2) x7 x12 x10 x11 x12 xo0_0 xo0_1 xo0_2 (rd Y2 x10 x12).1 (rd Y2 x10 x12).2.1 (rd Y2 x10 x12).2.2.1 (rd Y2 x10 x12).2.2.2
                    else auction_bounds.l7 k x6 x7 x12 x10 x11 x12 xo0_0 xo0_1 xo0_2 (rd Y2 x10 x12).1 (rd Y2 x10 x12).2.1 (rd Y2 x10 x12).2.2.1 (rd Y2 x10 x12).2.2.2
                  else none
                else none
              else none
            else none
          else if (rd Y2 x10 x12).2.1 = true then
            auction_bounds.l7 k x6 x7 x12 x10 x11 x12 xo0_0 xo0_1 xo0_2 (rd Y2 x10 x12).1 (rd Y2 x10 x12).2.1 (rd Y2 x10 x12).2.2.1 (rd Y2 x10 x12).2.2.2
          else if 0 ≤ x12 then
            if x12 < (xo0_2.length : Int) then
              if 0 < (rd (.int .i64) xo0_2 x12) then
                auction_bounds.l7 k (mx x6 (rd Y2 x10 x12).2.2.2) x7 x12 x10 x11 x12 xo0_0 xo0_1 xo0_2 (rd Y2 x10 x12).1 (rd Y2 x10 x12).2.1 (rd Y2 x10 x12).2.2.1 (rd Y2 x10 x12).2.2.2
              else auction_bounds.l7 k x6 x7 x12 x10 x11 x12 xo0_0 xo0_1 xo0_2 (rd Y2 x10 x12).1 (rd Y2 x10 x12).2.1 (rd Y2 x10 x12).2.2.1 (rd Y2 x10 x12).2.2.2
            else none
          else none
        else none
      else none
    else some (x6, x7) := rfl
theorem auction_bounds.l7_eq (k : Nat) (x6 : Int) (x7 : Int) (x8 : Int) (x10 : List (ByteArray × Bool × Int × Int)) (x11 : Int) (x12 : Int) (xo0_0 : Int) (xo0_1 : Int) (xo0_2 : List Int) (xo1_0 : ByteArray) (xo1_1 : Bool) (xo1_2 : Int) (xo1_3 : Int) : auction_bounds.l7 (k + 1) x6 x7 x8 x10 x11 x12 xo0_0 xo0_1 xo0_2 xo1_0 xo1_1 xo1_2 xo1_3 = if xo1_1 = true then
      if 0 ≤ x8 then
        if x8 < (xo0_2.length : Int) then
          if 0 < (rd (.int .i64) xo0_2 x8) then
            auction_bounds.l3 k x6 (mn x7 xo1_3) x10 x11 (wrap64 (x12 + 1)) xo0_0 xo0_1 xo0_2
          else if xo1_1 = true then
            auction_bounds.l3 k x6 x7 x10 x11 (wrap64 (x12 + 1)) xo0_0 xo0_1 xo0_2
          else if 0 ≤ x8 then
            if x8 < (xo0_2.length : Int) then
              if (rd (.int .i64) xo0_2 x8) < xo1_2 then
                auction_bounds.l3 k x6 (mn x7 xo1_3) x10 x11 (wrap64 (x12 + 1)) xo0_0 xo0_1 xo0_2
              else auction_bounds.l3 k x6 x7 x10 x11 (wrap64 (x12 + 1)) xo0_0 xo0_1 xo0_2
            else none
          else none
        else none
      else none
    else if xo1_1 = true then
      auction_bounds.l3 k x6 x7 x10 x11 (wrap64 (x12 + 1)) xo0_0 xo0_1 xo0_2
    else if 0 ≤ x8 then
      if x8 < (xo0_2.length : Int) then
        if (rd (.int .i64) xo0_2 x8) < xo1_2 then
          auction_bounds.l3 k x6 (mn x7 xo1_3) x10 x11 (wrap64 (x12 + 1)) xo0_0 xo0_1 xo0_2
        else auction_bounds.l3 k x6 x7 x10 x11 (wrap64 (x12 + 1)) xo0_0 xo0_1 xo0_2
      else none
    else none := rfl
def auction_bounds.f (k : Nat) (a0 : List (ByteArray × Bool × Int × Int)) (a1 : Int × Int × List Int) : Option (Int × Int) :=
  auction_bounds.l3 k (-2000000) 2000000 a0 (a0.length : Int) 0 a1.1 a1.2.1 a1.2.2
mutual
def auction_Clear.l7 : Nat → (List (ByteArray × Bool × Int × Int)) → List Int → List Int → Int → Int → Int → Int → Int → Int → List Int → Option ((Int × Int × List Int) × Int)
  | 0, _, _, _, _, _, _, _, _, _, _ => none
  | k + 1, x0, x6, x7, x8, x9, xo0_0, xo0_1, xo1_0, xo1_1, xo2 => if x8 < (x6.length : Int) then
      if x9 < (x7.length : Int) then
        if 0 ≤ x8 then
          if x8 < (x6.length : Int) then
            if 0 ≤ (rd (.int .i64) x6 x8) then
              if (rd (.int .i64) x6 x8) < (x0.length : Int) then
                if 0 ≤ x9 then
                  if x9 < (x7.length : Int) then
                    if 0 ≤ (rd (.int .i64) x7 x9) then
                      if (rd (.int .i64) x7 x9) < (x0.length : Int) then
                        if (rd Y2 x0 (rd (.int .i64) x7 x9)).2.2.2 ≤ (rd Y2 x0 (rd (.int .i64) x6 x8)).2.2.2 then
                          if 0 ≤ x8 then
                            if x8 < (x6.length : Int) then
                              if 0 ≤ x9 then
                                if x9 < (x7.length : Int) then
                                  if 0 ≤ (rd (.int .i64) x6 x8) then
                                    if (rd (.int .i64) x6 x8) < (x0.length : Int) then
                                      if 0 ≤ (rd (.int .i64) x6 x8) then
                                        if (rd (.int .i64) x6 x8) < (xo2.length : Int) then
                                          if 0 ≤ (rd (.int .i64) x7 x9) then
                                            if (rd (.int .i64) x7 x9) < (x0.length : Int) then
                                              if 0 ≤ (rd (.int .i64) x7 x9) then
                                                if (rd (.int .i64) x7 x9) < (xo2.length : Int) then
                                                  if 0 ≤ (rd (.int .i64) x6 x8) then
                                                    if (rd (.int .i64) x6 x8) < (xo2.length : Int) then
                                                      if 0 ≤ (rd (.int .i64) x7 x9) then
                                                        if (rd (.int .i64) x7 x9) < (xo2.length : Int) then
                                                          if 0 ≤ (rd (.int .i64) x6 x8) then
                                                            if (rd (.int .i64) x6 x8) < (xo2.length : Int) then
                                                              if 0 ≤ (rd (.int .i64) x7 x9) then
                                                                if (rd (.int .i64) x7 x9) < ((xo2.set (rd (.int .i64) x6 x8).toNat (wrap64 ((rd (.int .i64) xo2 (rd (.int .i64) x6 x8)) + (mn (wrap64 ((rd Y2 x0 (rd (.int .i64) x6 x8)).2.2.1 - (rd (.int .i64) xo2 (rd (.int .i64) x6 x8)))) (wrap64 ((rd Y2 x0 (rd (.int .i64) x7 x9)).2.2.1 - (rd (.int .i64) xo2 (rd (.int .i64) x7 x9)))))))).length : Int) then
                                                                  if 0 ≤ (rd (.int .i64) x6 x8) then
                                                                    if (rd (.int .i64) x6 x8) < (((xo2.set (rd (.int .i64) x6 x8).toNat (wrap64 ((rd (.int .i64) xo2 (rd (.int .i64) x6 x8)) + (mn (wrap64 ((rd Y2 x0 (rd (.int .i64) x6 x8)).2.2.1 - (rd (.int .i64) xo2 (rd (.int .i64) x6 x8)))) (wrap64 ((rd Y2 x0 (rd (.int .i64) x7 x9)).2.2.1 - (rd (.int .i64) xo2 (rd (.int .i64) x7 x9)))))))).set (rd (.int .i64) x7 x9).toNat (wrap64 ((rd (.int .i64) xo2 (rd (.int .i64) x7 x9)) + (mn (wrap64 ((rd Y2 x0 (rd (.int .i64) x6 x8)).2.2.1 - (rd (.int .i64) xo2 (rd (.int .i64) x6 x8)))) (wrap64 ((rd Y2 x0 (rd (.int .i64) x7 x9)).2.2.1 - (rd (.int .i64) xo2 (rd (.int .i64) x7 x9)))))))).length : Int) then
                                                                      if 0 ≤ (rd (.int .i64) x6 x8) then
                                                                        if (rd (.int .i64) x6 x8) < (x0.length : Int) then
                                                                          if (rd (.int .i64) ((xo2.set (rd (.int .i64) x6 x8).toNat (wrap64 ((rd (.int .i64) xo2 (rd (.int .i64) x6 x8)) + (mn (wrap64 ((rd Y2 x0 (rd (.int .i64) x6 x8)).2.2.1 - (rd (.int .i64) xo2 (rd (.int .i64) x6 x8)))) (wrap64 ((rd Y2 x0 (rd (.int .i64) x7 x9)).2.2.1 - (rd (.int .i64) xo2 (rd (.int .i64) x7 x9)))))))).set (rd (.int .i64) x7 x9).toNat (wrap64 ((rd (.int .i64) xo2 (rd (.int .i64) x7 x9)) + (mn (wrap64 ((rd Y2 x0 (rd (.int .i64) x6 x8)).2.2.1 - (rd (.int .i64) xo2 (rd (.int .i64) x6 x8)))) (wrap64 ((rd Y2 x0 (rd (.int .i64) x7 x9)).2.2.1 - (rd (.int .i64) xo2 (rd (.int .i64) x7 x9)))))))) (rd (.int .i64) x6 x8)) = (rd Y2 x0 (rd (.int .i64) x6 x8)).2.2.1 then
                                                                            auction_Clear.l13 k x0 x6 x7 (wrap64 (x8 + 1)) x9 (rd (.int .i64) x7 x9) xo0_0 xo0_1 xo1_0 (wrap64 (xo1_1 + (mn (wrap64 ((rd Y2 x0 (rd (.int .i64) x6 x8)).2.2.1 - (rd (.int .i64) xo2 (rd (.int .i64) x6 x8)))) (wrap64 ((rd Y2 x0 (rd (.int .i64) x7 x9)).2.2.1 - (rd (.int .i64) xo2 (rd (.int .i64) x7 x9))))))) ((xo2.set (rd (.int .i64) x6 x8).toNat (wrap64 ((rd (.int .i64) xo2 (rd (.int .i64) x6 x8)) + (mn (wrap64 ((rd Y2 x0 (rd (.int .i64) x6 x8)).2.2.1 - (rd (.int .i64) xo2 (rd (.int .i64) x6 x8)))) (wrap64 ((rd Y2 x0 (rd (.int .i64) x7 x9)).2.2.1 - (rd (.int .i64) xo2 (rd (.int .i64) x7 x9)))))))).set (rd (.int .i64) x7 x9).toNat (wrap64 ((rd (.int .i64) xo2 (rd (.int .i64) x7 x9)) + (mn (wrap64 ((rd Y2 x0 (rd (.int .i64) x6 x8)).2.2.1 - (rd (.int .i64) xo2 (rd (.int .i64) x6 x8)))) (wrap64 ((rd Y2 x0 (rd (.int .i64) x7 x9)).2.2.1 - (rd (.int .i64) xo2 (rd (.int .i64) x7 x9))))))))
                                                                          else auction_Clear.l13 k x0 x6 x7 x8 x9 (rd (.int .i64) x7 x9) xo0_0 xo0_1 xo1_0 (wrap64 (xo1_1 + (mn (wrap64 ((rd Y2 x0 (rd (.int .i64) x6 x8)).2.2.1 - (rd (.int .i64) xo2 (rd (.int .i64) x6 x8)))) (wrap64 ((rd Y2 x0 (rd (.int .i64) x7 x9)).2.2.1 - (rd (.int .i64) xo2 (rd (.int .i64) x7 x9))))))) ((xo2.set (rd (.int .i64) x6 x8).toNat (wrap64 ((rd (.int .i64) xo2 (rd (.int .i64) x6 x8)) + (mn (wrap64 ((rd Y2 x0 (rd (.int .i64) x6 x8)).2.2.1 - (rd (.int .i64) xo2 (rd (.int .i64) x6 x8)))) (wrap64 ((rd Y2 x0 (rd (.int .i64) x7 x9)).2.2.1 - (rd (.int .i64) xo2 (rd (.int .i64) x7 x9)))))))).set (rd (.int .i64) x7 x9).toNat (wrap64 ((rd (.int .i64) xo2 (rd (.int .i64) x7 x9)) + (mn (wrap64 ((rd Y2 x0 (rd (.int .i64) x6 x8)).2.2.1 - (rd (.int .i64) xo2 (rd (.int .i64) x6 x8)))) (wrap64 ((rd Y2 x0 (rd (.int .i64) x7 x9)).2.2.1 - (rd (.int .i64) xo2 (rd (.int .i64) x7 x9))))))))
                                                                        else none
                                                                      else none
                                                                    else none
                                                                  else none
                                                                else none
                                                              else none
                                                            else none
                                                          else none
                                                        else none
                                                      else none
                                                    else none
                                                  else none
                                                else none
                                              else none
                                            else none
                                          else none
                                        else none
                                      else none
                                    else none
                                  else none
                                else none
                              else none
                            else none
                          else none
                        else if 0 < xo1_1 then
                          (auction_bounds.f k x0 (xo1_0, xo1_1, xo2)).bind fun r4 =>
                          if (2 : Int) ≠ 0 then
                            some ((wrap64 (r4.1 + (wrap64 (Int.tdiv (wrap64 (r4.2 - r4.1)) 2))), xo1_1, xo2), 0)
                          else none
                        else some ((xo1_0, xo1_1, xo2), 0)
                      else none
                    else none
                  else none
                else none
              else none
            else none
          else none
        else none
      else if 0 < xo1_1 then
        (auction_bounds.f k x0 (xo1_0, xo1_1, xo2)).bind fun r5 =>
        if (2 : Int) ≠ 0 then
          some ((wrap64 (r5.1 + (wrap64 (Int.tdiv (wrap64 (r5.2 - r5.1)) 2))), xo1_1, xo2), 0)
        else none
      else some ((xo1_0, xo1_1, xo2), 0)
    else if 0 < xo1_1 then
      (auction_bounds.f k x0 (xo1_0, xo1_1, xo2)).bind fun r6 =>
      if (2 : Int) ≠ 0 then
        some ((wrap64 (r6.1 + (wrap64 (Int.tdiv (wrap64 (r6.2 - r6.1)) 2))), xo1_1, xo2), 0)
      else none
    else some ((xo1_0, xo1_1, xo2), 0)
def auction_Clear.l13 : Nat → (List (ByteArray × Bool × Int × Int)) → List Int → List Int → Int → Int → Int → Int → Int → Int → Int → List Int → Option ((Int × Int × List Int) × Int)
  | 0, _, _, _, _, _, _, _, _, _, _, _ => none
  | k + 1, x0, x6, x7, x8, x9, x11, xo0_0, xo0_1, xo1_0, xo1_1, xo2 => if 0 ≤ x11 then
      if x11 < (xo2.length : Int) then
        if 0 ≤ x11 then
          if x11 < (x0.length : Int) then
            if (rd (.int .i64) xo2 x11) = (rd Y2 x0 x11).2.2.1 then
              auction_Clear.l7 k x0 x6 x7 x8 (wrap64 (x9 + 1)) xo0_0 xo0_1 xo1_0 xo1_1 xo2
            else auction_Clear.l7 k x0 x6 x7 x8 x9 xo0_0 xo0_1 xo1_0 xo1_1 xo2
          else none
        else none
      else none
    else none
end
theorem auction_Clear.l7_eq (k : Nat) (x0 : List (ByteArray × Bool × Int × Int)) (x6 : List Int) (x7 : List Int) (x8 : Int) (x9 : Int) (xo0_0 : Int) (xo0_1 : Int) (xo1_0 : Int) (xo1_1 : Int) (xo2 : List Int) : auction_Clear.l7 (k + 1) x0 x6 x7 x8 x9 xo0_0 xo0_1 xo1_0 xo1_1 xo2 = if x8 < (x6.length : Int) then
      if x9 < (x7.length : Int) then
        if 0 ≤ x8 then
          if x8 < (x6.length : Int) then
            if 0 ≤ (rd (.int .i64) x6 x8) then
              if (rd (.int .i64) x6 x8) < (x0.length : Int) then
                if 0 ≤ x9 then
                  if x9 < (x7.length : Int) then
                    if 0 ≤ (rd (.int .i64) x7 x9) then
                      if (rd (.int .i64) x7 x9) < (x0.length : Int) then
                        if (rd Y2 x0 (rd (.int .i64) x7 x9)).2.2.2 ≤ (rd Y2 x0 (rd (.int .i64) x6 x8)).2.2.2 then
                          if 0 ≤ x8 then
                            if x8 < (x6.length : Int) then
                              if 0 ≤ x9 then
                                if x9 < (x7.length : Int) then
                                  if 0 ≤ (rd (.int .i64) x6 x8) then
                                    if (rd (.int .i64) x6 x8) < (x0.length : Int) then
                                      if 0 ≤ (rd (.int .i64) x6 x8) then
                                        if (rd (.int .i64) x6 x8) < (xo2.length : Int) then
                                          if 0 ≤ (rd (.int .i64) x7 x9) then
                                            if (rd (.int .i64) x7 x9) < (x0.length : Int) then
                                              if 0 ≤ (rd (.int .i64) x7 x9) then
                                                if (rd (.int .i64) x7 x9) < (xo2.length : Int) then
                                                  if 0 ≤ (rd (.int .i64) x6 x8) then
                                                    if (rd (.int .i64) x6 x8) < (xo2.length : Int) then
                                                      if 0 ≤ (rd (.int .i64) x7 x9) then
                                                        if (rd (.int .i64) x7 x9) < (xo2.length : Int) then
                                                          if 0 ≤ (rd (.int .i64) x6 x8) then
                                                            if (rd (.int .i64) x6 x8) < (xo2.length : Int) then
                                                              if 0 ≤ (rd (.int .i64) x7 x9) then
                                                                if (rd (.int .i64) x7 x9) < ((xo2.set (rd (.int .i64) x6 x8).toNat (wrap64 ((rd (.int .i64) xo2 (rd (.int .i64) x6 x8)) + (mn (wrap64 ((rd Y2 x0 (rd (.int .i64) x6 x8)).2.2.1 - (rd (.int .i64) xo2 (rd (.int .i64) x6 x8)))) (wrap64 ((rd Y2 x0 (rd (.int .i64) x7 x9)).2.2.1 - (rd (.int .i64) xo2 (rd (.int .i64) x7 x9)))))))).length : Int) then
                                                                  if 0 ≤ (rd (.int .i64) x6 x8) then
                                                                    if (rd (.int .i64) x6 x8) < (((xo2.set (rd (.int .i64) x6 x8).toNat (wrap64 ((rd (.int .i64) xo2 (rd (.int .i64) x6 x8)) + (mn (wrap64 ((rd Y2 x0 (rd (.int .i64) x6 x8)).2.2.1 - (rd (.int .i64) xo2 (rd (.int .i64) x6 x8)))) (wrap64 ((rd Y2 x0 (rd (.int .i64) x7 x9)).2.2.1 - (rd (.int .i64) xo2 (rd (.int .i64) x7 x9)))))))).set (rd (.int .i64) x7 x9).toNat (wrap64 ((rd (.int .i64) xo2 (rd (.int .i64) x7 x9)) + (mn (wrap64 ((rd Y2 x0 (rd (.int .i64) x6 x8)).2.2.1 - (rd (.int .i64) xo2 (rd (.int .i64) x6 x8)))) (wrap64 ((rd Y2 x0 (rd (.int .i64) x7 x9)).2.2.1 - (rd (.int .i64) xo2 (rd (.int .i64) x7 x9)))))))).length : Int) then
                                                                      if 0 ≤ (rd (.int .i64) x6 x8) then
                                                                        if (rd (.int .i64) x6 x8) < (x0.length : Int) then
                                                                          if (rd (.int .i64) ((xo2.set (rd (.int .i64) x6 x8).toNat (wrap64 ((rd (.int .i64) xo2 (rd (.int .i64) x6 x8)) + (mn (wrap64 ((rd Y2 x0 (rd (.int .i64) x6 x8)).2.2.1 - (rd (.int .i64) xo2 (rd (.int .i64) x6 x8)))) (wrap64 ((rd Y2 x0 (rd (.int .i64) x7 x9)).2.2.1 - (rd (.int .i64) xo2 (rd (.int .i64) x7 x9)))))))).set (rd (.int .i64) x7 x9).toNat (wrap64 ((rd (.int .i64) xo2 (rd (.int .i64) x7 x9)) + (mn (wrap64 ((rd Y2 x0 (rd (.int .i64) x6 x8)).2.2.1 - (rd (.int .i64) xo2 (rd (.int .i64) x6 x8)))) (wrap64 ((rd Y2 x0 (rd (.int .i64) x7 x9)).2.2.1 - (rd (.int .i64) xo2 (rd (.int .i64) x7 x9)))))))) (rd (.int .i64) x6 x8)) = (rd Y2 x0 (rd (.int .i64) x6 x8)).2.2.1 then
                                                                            auction_Clear.l13 k x0 x6 x7 (wrap64 (x8 + 1)) x9 (rd (.int .i64) x7 x9) xo0_0 xo0_1 xo1_0 (wrap64 (xo1_1 + (mn (wrap64 ((rd Y2 x0 (rd (.int .i64) x6 x8)).2.2.1 - (rd (.int .i64) xo2 (rd (.int .i64) x6 x8)))) (wrap64 ((rd Y2 x0 (rd (.int .i64) x7 x9)).2.2.1 - (rd (.int .i64) xo2 (rd (.int .i64) x7 x9))))))) ((xo2.set (rd (.int .i64) x6 x8).toNat (wrap64 ((rd (.int .i64) xo2 (rd (.int .i64) x6 x8)) + (mn (wrap64 ((rd Y2 x0 (rd (.int .i64) x6 x8)).2.2.1 - (rd (.int .i64) xo2 (rd (.int .i64) x6 x8)))) (wrap64 ((rd Y2 x0 (rd (.int .i64) x7 x9)).2.2.1 - (rd (.int .i64) xo2 (rd (.int .i64) x7 x9)))))))).set (rd (.int .i64) x7 x9).toNat (wrap64 ((rd (.int .i64) xo2 (rd (.int .i64) x7 x9)) + (mn (wrap64 ((rd Y2 x0 (rd (.int .i64) x6 x8)).2.2.1 - (rd (.int .i64) xo2 (rd (.int .i64) x6 x8)))) (wrap64 ((rd Y2 x0 (rd (.int .i64) x7 x9)).2.2.1 - (rd (.int .i64) xo2 (rd (.int .i64) x7 x9))))))))
                                                                          else auction_Clear.l13 k x0 x6 x7 x8 x9 (rd (.int .i64) x7 x9) xo0_0 xo0_1 xo1_0 (wrap64 (xo1_1 + (mn (wrap64 ((rd Y2 x0 (rd (.int .i64) x6 x8)).2.2.1 - (rd (.int .i64) xo2 (rd (.int .i64) x6 x8)))) (wrap64 ((rd Y2 x0 (rd (.int .i64) x7 x9)).2.2.1 - (rd (.int .i64) xo2 (rd (.int .i64) x7 x9))))))) ((xo2.set (rd (.int .i64) x6 x8).toNat (wrap64 ((rd (.int .i64) xo2 (rd (.int .i64) x6 x8)) + (mn (wrap64 ((rd Y2 x0 (rd (.int .i64) x6 x8)).2.2.1 - (rd (.int .i64) xo2 (rd (.int .i64) x6 x8)))) (wrap64 ((rd Y2 x0 (rd (.int .i64) x7 x9)).2.2.1 - (rd (.int .i64) xo2 (rd (.int .i64) x7 x9)))))))).set (rd (.int .i64) x7 x9).toNat (wrap64 ((rd (.int .i64) xo2 (rd (.int .i64) x7 x9)) + (mn (wrap64 ((rd Y2 x0 (rd (.int .i64) x6 x8)).2.2.1 - (rd (.int .i64) xo2 (rd (.int .i64) x6 x8)))) (wrap64 ((rd Y2 x0 (rd (.int .i64) x7 x9)).2.2.1 - (rd (.int .i64) xo2 (rd (.int .i64) x7 x9))))))))
                                                                        else none
                                                                      else none
                                                                    else none
                                                                  else none
                                                                else none
                                                              else none
                                                            else none
                                                          else none
                                                        else none
                                                      else none
                                                    else none
                                                  else none
                                                else none
                                              else none
                                            else none
                                          else none
                                        else none
                                      else none
                                    else none
                                  else none
                                else none
                              else none
                            else none
                          else none
                        else if 0 < xo1_1 then
                          (auction_bounds.f k x0 (xo1_0, xo1_1, xo2)).bind fun r4 =>
                          if (2 : Int) ≠ 0 then
                            some ((wrap64 (r4.1 + (wrap64 (Int.tdiv (wrap64 (r4.2 - r4.1)) 2))), xo1_1, xo2), 0)
                          else none
                        else some ((xo1_0, xo1_1, xo2), 0)
                      else none
                    else none
                  else none
                else none
              else none
            else none
          else none
        else none
      else if 0 < xo1_1 then
        (auction_bounds.f k x0 (xo1_0, xo1_1, xo2)).bind fun r5 =>
        if (2 : Int) ≠ 0 then
          some ((wrap64 (r5.1 + (wrap64 (Int.tdiv (wrap64 (r5.2 - r5.1)) 2))), xo1_1, xo2), 0)
        else none
      else some ((xo1_0, xo1_1, xo2), 0)
    else if 0 < xo1_1 then
      (auction_bounds.f k x0 (xo1_0, xo1_1, xo2)).bind fun r6 =>
      if (2 : Int) ≠ 0 then
        some ((wrap64 (r6.1 + (wrap64 (Int.tdiv (wrap64 (r6.2 - r6.1)) 2))), xo1_1, xo2), 0)
      else none
    else some ((xo1_0, xo1_1, xo2), 0) := rfl
theorem auction_Clear.l13_eq (k : Nat) (x0 : List (ByteArray × Bool × Int × Int)) (x6 : List Int) (x7 : List Int) (x8 : Int) (x9 : Int) (x11 : Int) (xo0_0 : Int) (xo0_1 : Int) (xo1_0 : Int) (xo1_1 : Int) (xo2 : List Int) : auction_Clear.l13 (k + 1) x0 x6 x7 x8 x9 x11 xo0_0 xo0_1 xo1_0 xo1_1 xo2 = if 0 ≤ x11 then
      if x11 < (xo2.length : Int) then
        if 0 ≤ x11 then
          if x11 < (x0.length : Int) then
            if (rd (.int .i64) xo2 x11) = (rd Y2 x0 x11).2.2.1 then
              auction_Clear.l7 k x0 x6 x7 x8 (wrap64 (x9 + 1)) xo0_0 xo0_1 xo1_0 xo1_1 xo2
            else auction_Clear.l7 k x0 x6 x7 x8 x9 xo0_0 xo0_1 xo1_0 xo1_1 xo2
          else none
        else none
      else none
    else none := rfl
def auction_Clear.f (k : Nat) (a0 : List (ByteArray × Bool × Int × Int)) : Option ((Int × Int × List Int) × Int) :=
  (auction_Check.f k a0).bind fun r1 =>
  if r1 = 0 then
    if 0 ≤ (a0.length : Int) then
      if (a0.length : Int) * 8 ≤ 140737488355328 then
        if (a0.length : Int) ≤ 140737488355328 then
          (auction_side.f k a0 true).bind fun r2 =>
          (auction_side.f k a0 false).bind fun r3 =>
          auction_Clear.l7 k a0 r2 r3 0 0 0 0 0 0 (List.replicate (a0.length : Int).toNat 0)
        else none
      else none
    else none
  else some ((0, 0, []), r1)
def gridhallkeep3_sold.f (k : Nat) : Option Bool :=
  (auction_Clear.f k [(ByteArray.mk #[65], true, 10, 8), (ByteArray.mk #[66], false, 10, 5)]).bind fun r1 =>
  if r1.2 = 0 then
    if r1.1.2.1 = 10 then
      some (decide (r1.1.1 = 6))
    else some false
  else some false
noncomputable def slices_Clone_api_AuctionOrder.f (k : Nat) (a0 : List (ByteArray × Bool × Int × Int)) : Option (List (ByteArray × Bool × Int × Int)) :=
  if a0.length = 0 then
    both (some []) (if (([] : List (ByteArray × Bool × Int × Int)).length + a0.length) * 40 ≤ 140737488355328 then
        some ([] ++ a0)
      else none)
  else if (([] : List (ByteArray × Bool × Int × Int)).length + a0.length) * 40 ≤ 140737488355328 then
    some ([] ++ a0)
  else none
def gridhallkeep3_fine_1.f (k : Nat) (a0 : Int) : Option Bool :=
  some (!decide (a0 = 0))
def slices_IndexFunc_api_Errno.l2 : Nat → List Int → Int → Int → Option Int
  | 0, _, _, _ => none
  | k + 1, x0, x7, x8 => if x8 < x7 then
      if 0 ≤ x8 then
        if x8 < (x0.length : Int) then
          (gridhallkeep3_fine_1.f k (rd (.int .i64) x0 x8)).bind fun r1 =>
          if r1 = true then
            some x8
          else slices_IndexFunc_api_Errno.l2 k x0 x7 (wrap64 (x8 + 1))
        else none
      else none
    else some (-1)
theorem slices_IndexFunc_api_Errno.l2_eq (k : Nat) (x0 : List Int) (x7 : Int) (x8 : Int) : slices_IndexFunc_api_Errno.l2 (k + 1) x0 x7 x8 = if x8 < x7 then
      if 0 ≤ x8 then
        if x8 < (x0.length : Int) then
          (gridhallkeep3_fine_1.f k (rd (.int .i64) x0 x8)).bind fun r1 =>
          if r1 = true then
            some x8
          else slices_IndexFunc_api_Errno.l2 k x0 x7 (wrap64 (x8 + 1))
        else none
      else none
    else some (-1) := rfl
def slices_IndexFunc_api_Errno.f (k : Nat) (a0 : List Int) : Option Int :=
  slices_IndexFunc_api_Errno.l2 k a0 (a0.length : Int) 0
def slices_ContainsFunc_api_Errno.f (k : Nat) (a0 : List Int) : Option Bool :=
  (slices_IndexFunc_api_Errno.f k a0).bind fun r1 =>
  some (decide (0 ≤ r1))
def gridhallkeep3_fine.f (k : Nat) (a0 : List Int) : Option Bool :=
  (slices_ContainsFunc_api_Errno.f k a0).bind fun r1 =>
  some (!decide (r1 = true))
noncomputable def gridhallkeep3_AuctionMore.f (k : Nat) (a0 : List (ByteArray × Bool × Int × Int)) (a1 : ByteArray × Bool × Int × Int) : Option Bool :=
  (gridhallkeep3_sold.f k).bind fun r1 =>
  if r1 = true then
    (auction_Clear.f k a0).bind fun r2 =>
    (slices_Clone_api_AuctionOrder.f k a0).bind fun r3 =>
    if (r3.length + [(a1.1, false, a1.2.2)].length) * 40 ≤ 140737488355328 then
      (auction_Clear.f k (r3 ++ [(a1.1, false, a1.2.2)])).bind fun r4 =>
      (gridhallkeep3_fine.f k [r2.2, r4.2]).bind fun r5 =>
      if r5 = true then
        if r2.1.2.1 ≤ r4.1.2.1 then
          if r2.1.2.1 = 0 then
            some true
          else some (decide (r4.1.1 ≤ r2.1.1))
        else some false
      else some true
    else none
  else some false
def auction_valid.l7 : Nat → (List (ByteArray × Bool × Int × Int)) → Int → Int → Int → Int → List Int → Option Int
  | 0, _, _, _, _, _, _ => none
  | k + 1, x19, x20, x21, xo0_0, xo0_1, xo0_2 => if x21 < x20 then
      if 0 ≤ x21 then
        if x21 < (x19.length : Int) then
          if 0 ≤ x21 then
            if x21 < (xo0_2.length : Int) then
              if (rd (.int .i64) xo0_2 x21) < 0 then
                some 4
              else if 0 ≤ x21 then
                if x21 < (xo0_2.length : Int) then
                  if (rd Y2 x19 x21).2.2.1 < (rd (.int .i64) xo0_2 x21) then
                    some 4
                  else auction_valid.l7 k x19 x20 (wrap64 (x21 + 1)) xo0_0 xo0_1 xo0_2
                else none
              else none
            else none
          else none
        else none
      else none
    else some 0
theorem auction_valid.l7_eq (k : Nat) (x19 : List (ByteArray × Bool × Int × Int)) (x20 : Int) (x21 : Int) (xo0_0 : Int) (xo0_1 : Int) (xo0_2 : List Int) : auction_valid.l7 (k + 1) x19 x20 x21 xo0_0 xo0_1 xo0_2 = if x21 < x20 then
      if 0 ≤ x21 then
        if x21 < (x19.length : Int) then
          if 0 ≤ x21 then
            if x21 < (xo0_2.length : Int) then
              if (rd (.int .i64) xo0_2 x21) < 0 then
                some 4
              else if 0 ≤ x21 then
                if x21 < (xo0_2.length : Int) then
                  if (rd Y2 x19 x21).2.2.1 < (rd (.int .i64) xo0_2 x21) then
                    some 4
                  else auction_valid.l7 k x19 x20 (wrap64 (x21 + 1)) xo0_0 xo0_1 xo0_2
                else none
              else none
            else none
          else none
        else none
      else none
    else some 0 := rfl
def auction_valid.f (k : Nat) (a0 : List (ByteArray × Bool × Int × Int)) (a1 : Int × Int × List Int) : Option Int :=
  (auction_Check.f k a0).bind fun r1 =>
  if r1 = 0 then
    if (a1.2.2.length : Int) = (a0.length : Int) then
      auction_valid.l7 k a0 (a0.length : Int) 0 a1.1 a1.2.1 a1.2.2
    else some 3
  else some r1
def auction_Surplus.l8 : Nat → Int → (List (ByteArray × Bool × Int × Int)) → Int → Int → Int → Int → List Int → Option (Int × Int)
  | 0, _, _, _, _, _, _, _ => none
  | k + 1, x7, x24, x25, x26, xo0_0, xo0_1, xo0_2 => if x26 < x25 then
      if 0 ≤ x26 then
        if x26 < (x24.length : Int) then
          if (rd Y2 x24 x26).2.1 = true then
            if 0 ≤ x26 then
              if x26 < (xo0_2.length : Int) then
                auction_Surplus.l8 k (wrap64 (x7 + (wrap64 ((rd (.int .i64) xo0_2 x26) * (wrap64 ((rd Y2 x24 x26).2.2.2 - xo0_0)))))) x24 x25 (wrap64 (x26 + 1)) xo0_0 xo0_1 xo0_2
              else none
            else none
          else if 0 ≤ x26 then
            if x26 < (xo0_2.length : Int) then
              auction_Surplus.l8 k (wrap64 (x7 + (wrap64 ((rd (.int .i64) xo0_2 x26) * (wrap64 (xo0_0 - (rd Y2 x24 x26).2.2.2)))))) x24 x25 (wrap64 (x26 + 1)) xo0_0 xo0_1 xo0_2
            else none
          else none
        else none
      else none
    else some (x7, 0)
theorem auction_Surplus.l8_eq (k : Nat) (x7 : Int) (x24 : List (ByteArray × Bool × Int × Int)) (x25 : Int) (x26 : Int) (xo0_0 : Int) (xo0_1 : Int) (xo0_2 : List Int) : auction_Surplus.l8 (k + 1) x7 x24 x25 x26 xo0_0 xo0_1 xo0_2 = if x26 < x25 then
      if 0 ≤ x26 then
        if x26 < (x24.length : Int) then
          if (rd Y2 x24 x26).2.1 = true then
            if 0 ≤ x26 then
              if x26 < (xo0_2.length : Int) then
                auction_Surplus.l8 k (wrap64 (x7 + (wrap64 ((rd (.int .i64) xo0_2 x26) * (wrap64 ((rd Y2 x24 x26).2.2.2 - xo0_0)))))) x24 x25 (wrap64 (x26 + 1)) xo0_0 xo0_1 xo0_2
              else none
            else none
          else if 0 ≤ x26 then
            if x26 < (xo0_2.length : Int) then
              auction_Surplus.l8 k (wrap64 (x7 + (wrap64 ((rd (.int .i64) xo0_2 x26) * (wrap64 (xo0_0 - (rd Y2 x24 x26).2.2.2)))))) x24 x25 (wrap64 (x26 + 1)) xo0_0 xo0_1 xo0_2
            else none
          else none
        else none
      else none
    else some (x7, 0) := rfl
def auction_Surplus.f (k : Nat) (a0 : List (ByteArray × Bool × Int × Int)) (a1 : Int × Int × List Int) : Option (Int × Int) :=
  (auction_valid.f k a0 a1).bind fun r1 =>
  if r1 = 0 then
    if a1.1 < (-2000000) then
      some (0, 4)
    else if 2000000 < a1.1 then
      some (0, 4)
    else auction_Surplus.l8 k 0 a0 (a0.length : Int) 0 a1.1 a1.2.1 a1.2.2
  else some (0, r1)
def gridhallkeep3_within.f (k : Nat) (a0 : Int) (a1 : Int) (a2 : Int) : Option Int :=
  if (wrap64 ((wrap64 (a2 - a1)) + 1)) ≠ 0 then
    if (wrap64 ((wrap64 (a2 - a1)) + 1)) ≠ 0 then
      some (wrap64 (a1 + (Int.tmod (wrap64 ((Int.tmod a0 (wrap64 ((wrap64 (a2 - a1)) + 1))) + (wrap64 ((wrap64 (a2 - a1)) + 1)))) (wrap64 ((wrap64 (a2 - a1)) + 1)))))
    else none
  else none
def gridhallkeep3_AuctionBest.l18 : Nat → (List (ByteArray × Bool × Int × Int)) → List Int → Int → Int → Int → (List (ByteArray × Bool × Int × Int)) → Int → Int → Int → Int → List Int → Option Bool
  | 0, _, _, _, _, _, _, _, _, _, _, _ => none
  | k + 1, x0, x1, x11, x16, x17, x92, x93, x94, xo0_0, xo0_1, xo1 => if x94 < x93 then
      if 0 ≤ x94 then
        if x94 < (x92.length : Int) then
          if 0 ≤ x94 then
            if x94 < (x1.length : Int) then
              (gridhallkeep3_within.f k (rd (.int .i64) x1 x94) 0 (rd Y2 x92 x94).2.2.1).bind fun r8 =>
              if (xo1.length + [r8].length) * 8 ≤ 140737488355328 then
                if (rd Y2 x92 x94).2.1 = true then
                  gridhallkeep3_AuctionBest.l18 k x0 x1 x11 (wrap64 (x16 + r8)) x17 x92 x93 (wrap64 (x94 + 1)) xo0_0 xo0_1 (xo1 ++ [r8])
                else gridhallkeep3_AuctionBest.l18 k x0 x1 x11 x16 (wrap64 (x17 + r8)) x92 x93 (wrap64 (x94 + 1)) xo0_0 xo0_1 (xo1 ++ [r8])
              else none
            else none
          else none
        else none
      else none
    else (auction_Surplus.f k x0 (xo0_0, xo0_1, xo1)).bind fun r9 =>
    if r9.2 = 0 then
      if x16 = x17 then
        some (decide (r9.1 ≤ x11))
      else some true
    else some false
theorem gridhallkeep3_AuctionBest.l18_eq (k : Nat) (x0 : List (ByteArray × Bool × Int × Int)) (x1 : List Int) (x11 : Int) (x16 : Int) (x17 : Int) (x92 : List (ByteArray × Bool × Int × Int)) (x93 : Int) (x94 : Int) (xo0_0 : Int) (xo0_1 : Int) (xo1 : List Int) : gridhallkeep3_AuctionBest.l18 (k + 1) x0 x1 x11 x16 x17 x92 x93 x94 xo0_0 xo0_1 xo1 = if x94 < x93 then
      if 0 ≤ x94 then
        if x94 < (x92.length : Int) then
          if 0 ≤ x94 then
            if x94 < (x1.length : Int) then
              (gridhallkeep3_within.f k (rd (.int .i64) x1 x94) 0 (rd Y2 x92 x94).2.2.1).bind fun r8 =>
              if (xo1.length + [r8].length) * 8 ≤ 140737488355328 then
                if (rd Y2 x92 x94).2.1 = true then
                  gridhallkeep3_AuctionBest.l18 k x0 x1 x11 (wrap64 (x16 + r8)) x17 x92 x93 (wrap64 (x94 + 1)) xo0_0 xo0_1 (xo1 ++ [r8])
                else gridhallkeep3_AuctionBest.l18 k x0 x1 x11 x16 (wrap64 (x17 + r8)) x92 x93 (wrap64 (x94 + 1)) xo0_0 xo0_1 (xo1 ++ [r8])
              else none
            else none
          else none
        else none
      else none
    else (auction_Surplus.f k x0 (xo0_0, xo0_1, xo1)).bind fun r9 =>
    if r9.2 = 0 then
      if x16 = x17 then
        some (decide (r9.1 ≤ x11))
      else some true
    else some false := rfl
def gridhallkeep3_AuctionBest.f (k : Nat) (a0 : List (ByteArray × Bool × Int × Int)) (a1 : List Int) (a2 : Int) : Option Bool :=
  (auction_Surplus.f k [(ByteArray.mk #[65], true, 10, 8), (ByteArray.mk #[66], false, 10, 5)] (6, 10, [10, 10])).bind fun r1 =>
  if r1.2 = 0 then
    if r1.1 = 30 then
      (gridhallkeep3_sold.f k).bind fun r2 =>
      if r2 = true then
        (auction_Clear.f k a0).bind fun r3 =>
        if r3.2 = 0 then
          (auction_Surplus.f k a0 r3.1).bind fun r4 =>
          (gridhallkeep3_within.f k a2 (-1000000) 1000000).bind fun r5 =>
          (auction_Surplus.f k a0 (r5, r3.1.2)).bind fun r6 =>
          (gridhallkeep3_fine.f k [r4.2, r6.2]).bind fun r7 =>
          if r7 = true then
            if r4.1 = r6.1 then
              if r4.1 < 0 then
                some false
              else if (a1.length : Int) = (a0.length : Int) then
                gridhallkeep3_AuctionBest.l18 k a0 a1 r4.1 0 0 a0 (a0.length : Int) 0 r3.1.1 0 []
              else some true
            else some false
          else some false
        else some (decide ((r3.1.2.2.length : Int) = 0))
      else some false
    else some false
  else some false
def auction_Verify.l6 : Nat → (List (ByteArray × Bool × Int × Int)) → Int → Int → (List (ByteArray × Bool × Int × Int)) → Int → Int → Int → Int → List Int → Option Int
  | 0, _, _, _, _, _, _, _, _, _ => none
  | k + 1, x0, x6, x7, x18, x19, x20, xo0_0, xo0_1, xo0_2 => if x20 < x19 then
      if 0 ≤ x20 then
        if x20 < (x18.length : Int) then
          if (rd Y2 x18 x20).2.1 = true then
            if 0 ≤ x20 then
              if x20 < (xo0_2.length : Int) then
                auction_Verify.l6 k x0 (wrap64 (x6 + (rd (.int .i64) xo0_2 x20))) x7 x18 x19 (wrap64 (x20 + 1)) xo0_0 xo0_1 xo0_2
              else none
            else none
          else if 0 ≤ x20 then
            if x20 < (xo0_2.length : Int) then
              auction_Verify.l6 k x0 x6 (wrap64 (x7 + (rd (.int .i64) xo0_2 x20))) x18 x19 (wrap64 (x20 + 1)) xo0_0 xo0_1 xo0_2
            else none
          else none
        else none
      else none
    else if x6 = x7 then
      if x6 = xo0_1 then
        (auction_bounds.f k x0 (xo0_0, xo0_1, xo0_2)).bind fun r2 =>
        if r2.2 < r2.1 then
          some 21
        else if 0 < xo0_1 then
          if xo0_0 < r2.1 then
            some 21
          else if r2.2 < xo0_0 then
            some 21
          else some 0
        else some 0
      else some 14
    else some 14
theorem auction_Verify.l6_eq (k : Nat) (x0 : List (ByteArray × Bool × Int × Int)) (x6 : Int) (x7 : Int) (x18 : List (ByteArray × Bool × Int × Int)) (x19 : Int) (x20 : Int) (xo0_0 : Int) (xo0_1 : Int) (xo0_2 : List Int) : auction_Verify.l6 (k + 1) x0 x6 x7 x18 x19 x20 xo0_0 xo0_1 xo0_2 = if x20 < x19 then
      if 0 ≤ x20 then
        if x20 < (x18.length : Int) then
          if (rd Y2 x18 x20).2.1 = true then
            if 0 ≤ x20 then
              if x20 < (xo0_2.length : Int) then
                auction_Verify.l6 k x0 (wrap64 (x6 + (rd (.int .i64) xo0_2 x20))) x7 x18 x19 (wrap64 (x20 + 1)) xo0_0 xo0_1 xo0_2
              else none
            else none
          else if 0 ≤ x20 then
            if x20 < (xo0_2.length : Int) then
              auction_Verify.l6 k x0 x6 (wrap64 (x7 + (rd (.int .i64) xo0_2 x20))) x18 x19 (wrap64 (x20 + 1)) xo0_0 xo0_1 xo0_2
            else none
          else none
        else none
      else none
    else if x6 = x7 then
      if x6 = xo0_1 then
        (auction_bounds.f k x0 (xo0_0, xo0_1, xo0_2)).bind fun r2 =>
        if r2.2 < r2.1 then
          some 21
        else if 0 < xo0_1 then
          if xo0_0 < r2.1 then
            some 21
          else if r2.2 < xo0_0 then
            some 21
          else some 0
        else some 0
      else some 14
    else some 14 := rfl
def auction_Verify.f (k : Nat) (a0 : List (ByteArray × Bool × Int × Int)) (a1 : Int × Int × List Int) : Option Int :=
  (auction_valid.f k a0 a1).bind fun r1 =>
  if r1 = 0 then
    auction_Verify.l6 k a0 0 0 a0 (a0.length : Int) 0 a1.1 a1.2.1 a1.2.2
  else some r1
noncomputable def slices_Clone_int.f (k : Nat) (a0 : List Int) : Option (List Int) :=
  if a0.length = 0 then
    both (some []) (if (([] : List Int).length + a0.length) * 8 ≤ 140737488355328 then
        some ([] ++ a0)
      else none)
  else if (([] : List Int).length + a0.length) * 8 ≤ 140737488355328 then
    some ([] ++ a0)
  else none
noncomputable def gridhallkeep3_AuctionVerified.f (k : Nat) (a0 : List (ByteArray × Bool × Int × Int)) (a1 : Int) (a2 : Int) : Option Bool :=
  (gridhallkeep3_sold.f k).bind fun r1 =>
  if r1 = true then
    (auction_Verify.f k [(ByteArray.mk #[65], false, 1, 0)] (0, 0, [1])).bind fun r2 =>
    if r2 = 14 then
      (auction_Clear.f k a0).bind fun r3 =>
      if r3.2 = 0 then
        (auction_Verify.f k a0 r3.1).bind fun r4 =>
        if r4 = 0 then
          if (a0.length : Int) = 0 then
            some true
          else (slices_Clone_int.f k r3.1.2.2).bind fun r5 =>
          (gridhallkeep3_within.f k a1 0 (wrap64 ((a0.length : Int) - 1))).bind fun r6 =>
          if 0 ≤ r6 then
            if r6 < (r5.length : Int) then
              (gridhallkeep3_within.f k a2 1 5).bind fun r7 =>
              if 0 ≤ r6 then
                if r6 < (r5.length : Int) then
                  (auction_Verify.f k a0 (r3.1.1, r3.1.2.1, r5.set r6.toNat (wrap64 ((rd (.int .i64) r5 r6) + r7)))).bind fun r8 =>
                  some (!decide (r8 = 0))
                else none
              else none
            else none
          else none
        else some false
      else some (decide ((r3.1.2.2.length : Int) = 0))
    else some false
  else some false
end Go.Proofs.Ytodagcbcdkfniaa.VE
