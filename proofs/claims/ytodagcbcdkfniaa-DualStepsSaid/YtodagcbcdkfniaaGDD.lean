/- Functions as plain Lean (definitions printed by a program; no statement is proved here). -/
import Derived.Test.YtodagcbcdkfniaaVpEv
namespace Go.Proofs.Ytodagcbcdkfniaa.VE
set_option linter.unusedVariables false
open Go Go.RowKit
abbrev Y0 : Ty := .pair (.int .i64) (.int .i64)
abbrev Y1 : Ty := .pair (.int .i64) Y0
abbrev Y2 : Ty := .pair (.int .i64) Y1
abbrev Y3 : Ty := .pair (.int .i64) Y2
abbrev Y4 : Ty := .pair (.int .i64) Y3
abbrev Y5 : Ty := .pair (.int .i64) Y4
abbrev Y6 : Ty := .pair .str Y5
abbrev Y7 : Ty := .pair .str (.list 72 Y0)
abbrev Y8 : Ty := .pair .bool Y0
abbrev Y9 : Ty := .pair Y7 Y8
abbrev Y10 : Ty := .pair Y6 Y9
abbrev Y11 : Ty := .pair Y8 Y0
abbrev rI64 (xs : List Int) (i : Int) : Int := rd (.int .i64) xs i
theorem rI64_mem {xs : List Int} {i : Int} (h0 : 0 ≤ i) (h1 : i < (xs.length : Int)) : rI64 xs i ∈ xs := rd_mem (t := (.int .i64)) h0 h1
theorem rI64_get (xs : List Int) (j : Nat) (x : Int) (h : xs[j]? = some x) : rI64 xs (j : Int) = x := rd_get (t := (.int .i64)) xs j x h
theorem rI64_drop {xs : List Int} {i : Int} (h0 : 0 ≤ i) (h1 : i < (xs.length : Int)) : xs.drop i.toNat = rI64 xs i :: xs.drop (i + 1).toNat := drop_rd (t := (.int .i64)) h0 h1
theorem rI64_some {xs : List Int} {i : Int} (h0 : 0 ≤ i) (h1 : i < (xs.length : Int)) : xs[i.toNat]? = some (rI64 xs i) := rd_some (t := (.int .i64)) h0 h1
theorem rI64_set {xs : List Int} {i : Int} (v : Int) (h0 : 0 ≤ i) (h1 : i < (xs.length : Int)) {j : Int} (hj : 0 ≤ j) : rI64 (xs.set i.toNat v) j = if j = i then v else rI64 xs j := rd_set (t := (.int .i64)) v h0 h1 hj
abbrev rY0 (xs : List (Int × Int)) (i : Int) : Int × Int := rd Y0 xs i
theorem rY0_mem {xs : List (Int × Int)} {i : Int} (h0 : 0 ≤ i) (h1 : i < (xs.length : Int)) : rY0 xs i ∈ xs := rd_mem (t := Y0) h0 h1
theorem rY0_get (xs : List (Int × Int)) (j : Nat) (x : Int × Int) (h : xs[j]? = some x) : rY0 xs (j : Int) = x := rd_get (t := Y0) xs j x h
theorem rY0_drop {xs : List (Int × Int)} {i : Int} (h0 : 0 ≤ i) (h1 : i < (xs.length : Int)) : xs.drop i.toNat = rY0 xs i :: xs.drop (i + 1).toNat := drop_rd (t := Y0) h0 h1
theorem rY0_some {xs : List (Int × Int)} {i : Int} (h0 : 0 ≤ i) (h1 : i < (xs.length : Int)) : xs[i.toNat]? = some (rY0 xs i) := rd_some (t := Y0) h0 h1
theorem rY0_set {xs : List (Int × Int)} {i : Int} (v : Int × Int) (h0 : 0 ≤ i) (h1 : i < (xs.length : Int)) {j : Int} (hj : 0 ≤ j) : rY0 (xs.set i.toNat v) j = if j = i then v else rY0 xs j := rd_set (t := Y0) v h0 h1 hj
abbrev rY10 (xs : List ((ByteArray × Int × Int × Int × Int × Int × Int × Int) × (ByteArray × List (Int × Int)) × Bool × Int × Int)) (i : Int) : (ByteArray × Int × Int × Int × Int × Int × Int × Int) × (ByteArray × List (Int × Int)) × Bool × Int × Int := rd Y10 xs i
theorem rY10_mem {xs : List ((ByteArray × Int × Int × Int × Int × Int × Int × Int) × (ByteArray × List (Int × Int)) × Bool × Int × Int)} {i : Int} (h0 : 0 ≤ i) (h1 : i < (xs.length : Int)) : rY10 xs i ∈ xs := rd_mem (t := Y10) h0 h1
theorem rY10_get (xs : List ((ByteArray × Int × Int × Int × Int × Int × Int × Int) × (ByteArray × List (Int × Int)) × Bool × Int × Int)) (j : Nat) (x : (ByteArray × Int × Int × Int × Int × Int × Int × Int) × (ByteArray × List (Int × Int)) × Bool × Int × Int) (h : xs[j]? = some x) : rY10 xs (j : Int) = x := rd_get (t := Y10) xs j x h
theorem rY10_drop {xs : List ((ByteArray × Int × Int × Int × Int × Int × Int × Int) × (ByteArray × List (Int × Int)) × Bool × Int × Int)} {i : Int} (h0 : 0 ≤ i) (h1 : i < (xs.length : Int)) : xs.drop i.toNat = rY10 xs i :: xs.drop (i + 1).toNat := drop_rd (t := Y10) h0 h1
theorem rY10_some {xs : List ((ByteArray × Int × Int × Int × Int × Int × Int × Int) × (ByteArray × List (Int × Int)) × Bool × Int × Int)} {i : Int} (h0 : 0 ≤ i) (h1 : i < (xs.length : Int)) : xs[i.toNat]? = some (rY10 xs i) := rd_some (t := Y10) h0 h1
theorem rY10_set {xs : List ((ByteArray × Int × Int × Int × Int × Int × Int × Int) × (ByteArray × List (Int × Int)) × Bool × Int × Int)} {i : Int} (v : (ByteArray × Int × Int × Int × Int × Int × Int × Int) × (ByteArray × List (Int × Int)) × Bool × Int × Int) (h0 : 0 ≤ i) (h1 : i < (xs.length : Int)) {j : Int} (hj : 0 ≤ j) : rY10 (xs.set i.toNat v) j = if j = i then v else rY10 xs j := rd_set (t := Y10) v h0 h1 hj
abbrev rY11 (xs : List ((Bool × Int × Int) × Int × Int)) (i : Int) : (Bool × Int × Int) × Int × Int := rd Y11 xs i
theorem rY11_mem {xs : List ((Bool × Int × Int) × Int × Int)} {i : Int} (h0 : 0 ≤ i) (h1 : i < (xs.length : Int)) : rY11 xs i ∈ xs := rd_mem (t := Y11) h0 h1
theorem rY11_get (xs : List ((Bool × Int × Int) × Int × Int)) (j : Nat) (x : (Bool × Int × Int) × Int × Int) (h : xs[j]? = some x) : rY11 xs (j : Int) = x := rd_get (t := Y11) xs j x h
theorem rY11_drop {xs : List ((Bool × Int × Int) × Int × Int)} {i : Int} (h0 : 0 ≤ i) (h1 : i < (xs.length : Int)) : xs.drop i.toNat = rY11 xs i :: xs.drop (i + 1).toNat := drop_rd (t := Y11) h0 h1
theorem rY11_some {xs : List ((Bool × Int × Int) × Int × Int)} {i : Int} (h0 : 0 ≤ i) (h1 : i < (xs.length : Int)) : xs[i.toNat]? = some (rY11 xs i) := rd_some (t := Y11) h0 h1
theorem rY11_set {xs : List ((Bool × Int × Int) × Int × Int)} {i : Int} (v : (Bool × Int × Int) × Int × Int) (h0 : 0 ≤ i) (h1 : i < (xs.length : Int)) {j : Int} (hj : 0 ≤ j) : rY11 (xs.set i.toNat v) j = if j = i then v else rY11 xs j := rd_set (t := Y11) v h0 h1 hj
def BY (e : Nat) : Nat := (look [(3, 8), (33, 136), (72, 16)] e).getD 0
def gridhallkeep3_two.f (k : Nat) (a0 : ByteArray) : Option (ByteArray × List (Int × Int)) :=
  some (a0, [(10, 5), (10, 8)])
def gridhallkeep3_alone.f (k : Nat) : Option ((ByteArray × Int × Int × Int × Int × Int × Int × Int) × (ByteArray × List (Int × Int)) × Bool × Int × Int) :=
  (gridhallkeep3_two.f k (ByteArray.mk #[65])).bind fun r1 =>
  some ((ByteArray.mk #[65], 0, 20, 20, 20, 1, 1, 9), r1, false, 5, 0)
def unit_named.l4 : Nat → ByteArray → Int → Int → Option Bool
  | 0, _, _, _ => none
  | k + 1, x0, x22, x23 => if x23 < x22 then
      if 0 ≤ x23 then
        if x23 < (x0.size : Int) then
          if (bt x0 x23) < 65 then
            if 0 ≤ x23 then
              if x23 < (x0.size : Int) then
                if (bt x0 x23) < 48 then
                  some false
                else if 0 ≤ x23 then
                  if x23 < (x0.size : Int) then
                    if 57 < (bt x0 x23) then
                      some false
                    else unit_named.l4 k x0 x22 (wrap64 (x23 + 1))
                  else none
                else none
              else none
            else none
          else if 0 ≤ x23 then
            if x23 < (x0.size : Int) then
              if 90 < (bt x0 x23) then
                if 0 ≤ x23 then
                  if x23 < (x0.size : Int) then
                    if (bt x0 x23) < 48 then
                      some false
                    else if 0 ≤ x23 then
                      if x23 < (x0.size : Int) then
                        if 57 < (bt x0 x23) then
                          some false
                        else unit_named.l4 k x0 x22 (wrap64 (x23 + 1))
                      else none
                    else none
                  else none
                else none
              else unit_named.l4 k x0 x22 (wrap64 (x23 + 1))
            else none
          else none
        else none
      else none
    else some true
theorem unit_named.l4_eq (k : Nat) (x0 : ByteArray) (x22 : Int) (x23 : Int) : unit_named.l4 (k + 1) x0 x22 x23 = if x23 < x22 then
      if 0 ≤ x23 then
        if x23 < (x0.size : Int) then
          if (bt x0 x23) < 65 then
            if 0 ≤ x23 then
              if x23 < (x0.size : Int) then
                if (bt x0 x23) < 48 then
                  some false
                else if 0 ≤ x23 then
                  if x23 < (x0.size : Int) then
                    if 57 < (bt x0 x23) then
                      some false
                    else unit_named.l4 k x0 x22 (wrap64 (x23 + 1))
                  else none
                else none
              else none
            else none
          else if 0 ≤ x23 then
            if x23 < (x0.size : Int) then
              if 90 < (bt x0 x23) then
                if 0 ≤ x23 then
                  if x23 < (x0.size : Int) then
                    if (bt x0 x23) < 48 then
                      some false
                    else if 0 ≤ x23 then
                      if x23 < (x0.size : Int) then
                        if 57 < (bt x0 x23) then
                          some false
                        else unit_named.l4 k x0 x22 (wrap64 (x23 + 1))
                      else none
                    else none
                  else none
                else none
              else unit_named.l4 k x0 x22 (wrap64 (x23 + 1))
            else none
          else none
        else none
      else none
    else some true := rfl
def unit_named.f (k : Nat) (a0 : ByteArray) : Option Bool :=
  if a0 = ByteArray.empty then
    some false
  else if 8 < (a0.size : Int) then
    some false
  else if (0 : Int) ≤ 0 then
    if 0 < (a0.size : Int) then
      if 48 ≤ (bt a0 0) then
        if (0 : Int) ≤ 0 then
          if 0 < (a0.size : Int) then
            if (bt a0 0) ≤ 57 then
              some false
            else unit_named.l4 k a0 (a0.size : Int) 0
          else none
        else none
      else unit_named.l4 k a0 (a0.size : Int) 0
    else none
  else none
def unit_Check.f (k : Nat) (a0 : ByteArray × Int × Int × Int × Int × Int × Int × Int) : Option Int :=
  (unit_named.f k a0.1).bind fun r1 =>
  if r1 = true then
    if a0.2.1 < 0 then
      some 4
    else if a0.2.2.1 < a0.2.1 then
      some 4
    else if 100000 < a0.2.2.1 then
      some 4
    else if a0.2.2.2.1 < 1 then
      some 4
    else if 100000 < a0.2.2.2.1 then
      some 4
    else if a0.2.2.2.2.1 < 1 then
      some 4
    else if 100000 < a0.2.2.2.2.1 then
      some 4
    else if a0.2.2.2.2.2.1 < 1 then
      some 4
    else if 24 < a0.2.2.2.2.2.1 then
      some 4
    else if a0.2.2.2.2.2.2.1 < 1 then
      some 4
    else if 24 < a0.2.2.2.2.2.2.1 then
      some 4
    else if a0.2.2.2.2.2.2.2 < 0 then
      some 4
    else if 1000000 < a0.2.2.2.2.2.2.2 then
      some 4
    else some 0
  else some 6
def unit_CheckState.f (k : Nat) (a0 : ByteArray × Int × Int × Int × Int × Int × Int × Int) (a1 : Bool × Int × Int) : Option Int :=
  (unit_Check.f k a0).bind fun r1 =>
  if r1 = 0 then
    if a1.2.1 < 1 then
      some 4
    else if 200000 < a1.2.1 then
      some 4
    else if a1.1 = true then
      if a1.2.2 < a0.2.1 then
        some 4
      else if a0.2.2.1 < a1.2.2 then
        some 4
      else if a1.1 = true then
        some 0
      else if a1.2.2 = 0 then
        some 0
      else some 3
    else if a1.1 = true then
      some 0
    else if a1.2.2 = 0 then
      some 0
    else some 3
  else some r1
def offer_named.l4 : Nat → ByteArray → Int → Int → Option Bool
  | 0, _, _, _ => none
  | k + 1, x0, x22, x23 => if x23 < x22 then
      if 0 ≤ x23 then
        if x23 < (x0.size : Int) then
          if (bt x0 x23) < 65 then
            if 0 ≤ x23 then
              if x23 < (x0.size : Int) then
                if (bt x0 x23) < 48 then
                  some false
                else if 0 ≤ x23 then
                  if x23 < (x0.size : Int) then
                    if 57 < (bt x0 x23) then
                      some false
                    else offer_named.l4 k x0 x22 (wrap64 (x23 + 1))
                  else none
                else none
              else none
            else none
          else if 0 ≤ x23 then
            if x23 < (x0.size : Int) then
              if 90 < (bt x0 x23) then
                if 0 ≤ x23 then
                  if x23 < (x0.size : Int) then
                    if (bt x0 x23) < 48 then
                      some false
                    else if 0 ≤ x23 then
                      if x23 < (x0.size : Int) then
                        if 57 < (bt x0 x23) then
                          some false
                        else offer_named.l4 k x0 x22 (wrap64 (x23 + 1))
                      else none
                    else none
                  else none
                else none
              else offer_named.l4 k x0 x22 (wrap64 (x23 + 1))
            else none
          else none
        else none
      else none
    else some true
theorem offer_named.l4_eq (k : Nat) (x0 : ByteArray) (x22 : Int) (x23 : Int) : offer_named.l4 (k + 1) x0 x22 x23 = if x23 < x22 then
      if 0 ≤ x23 then
        if x23 < (x0.size : Int) then
          if (bt x0 x23) < 65 then
            if 0 ≤ x23 then
              if x23 < (x0.size : Int) then
                if (bt x0 x23) < 48 then
                  some false
                else if 0 ≤ x23 then
                  if x23 < (x0.size : Int) then
                    if 57 < (bt x0 x23) then
                      some false
                    else offer_named.l4 k x0 x22 (wrap64 (x23 + 1))
                  else none
                else none
              else none
            else none
          else if 0 ≤ x23 then
            if x23 < (x0.size : Int) then
              if 90 < (bt x0 x23) then
                if 0 ≤ x23 then
                  if x23 < (x0.size : Int) then
                    if (bt x0 x23) < 48 then
                      some false
                    else if 0 ≤ x23 then
                      if x23 < (x0.size : Int) then
                        if 57 < (bt x0 x23) then
                          some false
                        else offer_named.l4 k x0 x22 (wrap64 (x23 + 1))
                      else none
                    else none
                  else none
                else none
              else offer_named.l4 k x0 x22 (wrap64 (x23 + 1))
            else none
          else none
        else none
      else none
    else some true := rfl
def offer_named.f (k : Nat) (a0 : ByteArray) : Option Bool :=
  if a0 = ByteArray.empty then
    some false
  else if 8 < (a0.size : Int) then
    some false
  else if (0 : Int) ≤ 0 then
    if 0 < (a0.size : Int) then
      if 48 ≤ (bt a0 0) then
        if (0 : Int) ≤ 0 then
          if 0 < (a0.size : Int) then
            if (bt a0 0) ≤ 57 then
              some false
            else offer_named.l4 k a0 (a0.size : Int) 0
          else none
        else none
      else offer_named.l4 k a0 (a0.size : Int) 0
    else none
  else none
def offer_Check.l7 : Nat → Int → (List (Int × Int)) → Int → Int → ByteArray → (List (Int × Int)) → Option Int
  | 0, _, _, _, _, _, _ => none
  | k + 1, x3, x15, x16, x17, xo0_0, xo0_1 => if x17 < x16 then
      if 0 ≤ x17 then
        if x17 < (x15.length : Int) then
          if (rY0 x15 x17).1 < 1 then
            some 4
          else if 100000 < (rY0 x15 x17).1 then
            some 4
          else if (rY0 x15 x17).2 < (-1000000) then
            some 4
          else if 1000000 < (rY0 x15 x17).2 then
            some 4
          else if 0 < x17 then
            if 0 ≤ (wrap64 (x17 - 1)) then
              if (wrap64 (x17 - 1)) < (xo0_1.length : Int) then
                if (rY0 x15 x17).2 < (rY0 xo0_1 (wrap64 (x17 - 1))).2 then
                  some 3
                else if 100000 < (wrap64 (x3 + (rY0 x15 x17).1)) then
                  some 2
                else offer_Check.l7 k (wrap64 (x3 + (rY0 x15 x17).1)) x15 x16 (wrap64 (x17 + 1)) xo0_0 xo0_1
              else none
            else none
          else if 100000 < (wrap64 (x3 + (rY0 x15 x17).1)) then
            some 2
          else offer_Check.l7 k (wrap64 (x3 + (rY0 x15 x17).1)) x15 x16 (wrap64 (x17 + 1)) xo0_0 xo0_1
        else none
      else none
    else some 0
theorem offer_Check.l7_eq (k : Nat) (x3 : Int) (x15 : List (Int × Int)) (x16 : Int) (x17 : Int) (xo0_0 : ByteArray) (xo0_1 : List (Int × Int)) : offer_Check.l7 (k + 1) x3 x15 x16 x17 xo0_0 xo0_1 = if x17 < x16 then
      if 0 ≤ x17 then
        if x17 < (x15.length : Int) then
          if (rY0 x15 x17).1 < 1 then
            some 4
          else if 100000 < (rY0 x15 x17).1 then
            some 4
          else if (rY0 x15 x17).2 < (-1000000) then
            some 4
          else if 1000000 < (rY0 x15 x17).2 then
            some 4
          else if 0 < x17 then
            if 0 ≤ (wrap64 (x17 - 1)) then
              if (wrap64 (x17 - 1)) < (xo0_1.length : Int) then
                if (rY0 x15 x17).2 < (rY0 xo0_1 (wrap64 (x17 - 1))).2 then
                  some 3
                else if 100000 < (wrap64 (x3 + (rY0 x15 x17).1)) then
                  some 2
                else offer_Check.l7 k (wrap64 (x3 + (rY0 x15 x17).1)) x15 x16 (wrap64 (x17 + 1)) xo0_0 xo0_1
              else none
            else none
          else if 100000 < (wrap64 (x3 + (rY0 x15 x17).1)) then
            some 2
          else offer_Check.l7 k (wrap64 (x3 + (rY0 x15 x17).1)) x15 x16 (wrap64 (x17 + 1)) xo0_0 xo0_1
        else none
      else none
    else some 0 := rfl
def offer_Check.f (k : Nat) (a0 : ByteArray × List (Int × Int)) : Option Int :=
  (offer_named.f k a0.1).bind fun r1 =>
  if r1 = true then
    if 12 < (a0.2.length : Int) then
      some 2
    else offer_Check.l7 k 0 a0.2 (a0.2.length : Int) 0 a0.1 a0.2
  else some 6
def offer_Most.l3 : Nat → Int → (List (Int × Int)) → Int → Int → Option Int
  | 0, _, _, _, _ => none
  | k + 1, x3, x7, x8, x9 => if x9 < x8 then
      if 0 ≤ x9 then
        if x9 < (x7.length : Int) then
          offer_Most.l3 k (wrap64 (x3 + (rY0 x7 x9).1)) x7 x8 (wrap64 (x9 + 1))
        else none
      else none
    else some x3
theorem offer_Most.l3_eq (k : Nat) (x3 : Int) (x7 : List (Int × Int)) (x8 : Int) (x9 : Int) : offer_Most.l3 (k + 1) x3 x7 x8 x9 = if x9 < x8 then
      if 0 ≤ x9 then
        if x9 < (x7.length : Int) then
          offer_Most.l3 k (wrap64 (x3 + (rY0 x7 x9).1)) x7 x8 (wrap64 (x9 + 1))
        else none
      else none
    else some x3 := rfl
def offer_Most.f (k : Nat) (a0 : ByteArray × List (Int × Int)) : Option Int :=
  offer_Most.l3 k 0 a0.2 (a0.2.length : Int) 0
def dual_Check.f (k : Nat) (a0 : (ByteArray × Int × Int × Int × Int × Int × Int × Int) × (ByteArray × List (Int × Int)) × Bool × Int × Int) : Option Int :=
  (unit_CheckState.f k a0.1 a0.2.2).bind fun r1 =>
  if r1 = 0 then
    (offer_Check.f k a0.2.1).bind fun r2 =>
    if r2 = 0 then
      (offer_Most.f k a0.2.1).bind fun r3 =>
      if r3 = a0.1.2.2.1 then
        if a0.2.1.1 = a0.1.1 then
          if a0.1.2.2.2.1 < a0.1.2.2.1 then
            some 1
          else if a0.1.2.2.2.2.1 < a0.1.2.2.1 then
            some 1
          else some 0
        else some 3
      else some 3
    else some r2
  else some r1
def dual_CheckAll.l17 : Nat → List Int → Int → Int → Option Int
  | 0, _, _, _ => none
  | k + 1, x49, x50, x51 => if x51 < x50 then
      if 0 ≤ x51 then
        if x51 < (x49.length : Int) then
          if (rI64 x49 x51) < 0 then
            some 4
          else if 1000000 < (rI64 x49 x51) then
            some 4
          else dual_CheckAll.l17 k x49 x50 (wrap64 (x51 + 1))
        else none
      else none
    else some 0
theorem dual_CheckAll.l17_eq (k : Nat) (x49 : List Int) (x50 : Int) (x51 : Int) : dual_CheckAll.l17 (k + 1) x49 x50 x51 = if x51 < x50 then
      if 0 ≤ x51 then
        if x51 < (x49.length : Int) then
          if (rI64 x49 x51) < 0 then
            some 4
          else if 1000000 < (rI64 x49 x51) then
            some 4
          else dual_CheckAll.l17 k x49 x50 (wrap64 (x51 + 1))
        else none
      else none
    else some 0 := rfl
mutual
def dual_CheckAll.l4 : Nat → (List ((ByteArray × Int × Int × Int × Int × Int × Int × Int) × (ByteArray × List (Int × Int)) × Bool × Int × Int)) → List Int → (List ((ByteArray × Int × Int × Int × Int × Int × Int × Int) × (ByteArray × List (Int × Int)) × Bool × Int × Int)) → Int → Int → Option Int
  | 0, _, _, _, _, _ => none
  | k + 1, x0, x1, x20, x21, x22 => if x22 < x21 then
      if 0 ≤ x22 then
        if x22 < (x20.length : Int) then
          (dual_Check.f k (rY10 x20 x22)).bind fun r1 =>
          if r1 = 0 then
            if x22 ≤ (x0.length : Int) then
              if 0 ≤ x22 then
                dual_CheckAll.l10 k x0 x1 x20 x21 x22 (x0.take x22.toNat) ((x0.take x22.toNat).length : Int) 0 (rY10 x20 x22).1.1 (rY10 x20 x22).1.2.1 (rY10 x20 x22).1.2.2.1 (rY10 x20 x22).1.2.2.2.1 (rY10 x20 x22).1.2.2.2.2.1 (rY10 x20 x22).1.2.2.2.2.2.1 (rY10 x20 x22).1.2.2.2.2.2.2.1 (rY10 x20 x22).1.2.2.2.2.2.2.2 (rY10 x20 x22).2.1.1 (rY10 x20 x22).2.1.2 (rY10 x20 x22).2.2.1 (rY10 x20 x22).2.2.2.1 (rY10 x20 x22).2.2.2.2
              else none
            else none
          else some r1
        else none
      else none
    else dual_CheckAll.l17 k x1 (x1.length : Int) 0
def dual_CheckAll.l10 : Nat → (List ((ByteArray × Int × Int × Int × Int × Int × Int × Int) × (ByteArray × List (Int × Int)) × Bool × Int × Int)) → List Int → (List ((ByteArray × Int × Int × Int × Int × Int × Int × Int) × (ByteArray × List (Int × Int)) × Bool × Int × Int)) → Int → Int → (List ((ByteArray × Int × Int × Int × Int × Int × Int × Int) × (ByteArray × List (Int × Int)) × Bool × Int × Int)) → Int → Int → ByteArray → Int → Int → Int → Int → Int → Int → Int → ByteArray → (List (Int × Int)) → Bool → Int → Int → Option Int
  | 0, _, _, _, _, _, _, _, _, _, _, _, _, _, _, _, _, _, _, _, _, _ => none
  | k + 1, x0, x1, x20, x21, x22, x34, x35, x36, xo0_0, xo0_1, xo0_2, xo0_3, xo0_4, xo0_5, xo0_6, xo0_7, xo0_8, xo0_9, xo0_10, xo0_11, xo0_12 => if x36 < x35 then
      if 0 ≤ x36 then
        if x36 < (x34.length : Int) then
          if (rY10 x34 x36).1.1 = xo0_0 then
            some 7
          else dual_CheckAll.l10 k x0 x1 x20 x21 x22 x34 x35 (wrap64 (x36 + 1)) xo0_0 xo0_1 xo0_2 xo0_3 xo0_4 xo0_5 xo0_6 xo0_7 xo0_8 xo0_9 xo0_10 xo0_11 xo0_12
        else none
      else none
    else dual_CheckAll.l4 k x0 x1 x20 x21 (wrap64 (x22 + 1))
end
theorem dual_CheckAll.l4_eq (k : Nat) (x0 : List ((ByteArray × Int × Int × Int × Int × Int × Int × Int) × (ByteArray × List (Int × Int)) × Bool × Int × Int)) (x1 : List Int) (x20 : List ((ByteArray × Int × Int × Int × Int × Int × Int × Int) × (ByteArray × List (Int × Int)) × Bool × Int × Int)) (x21 : Int) (x22 : Int) : dual_CheckAll.l4 (k + 1) x0 x1 x20 x21 x22 = if x22 < x21 then
      if 0 ≤ x22 then
        if x22 < (x20.length : Int) then
          (dual_Check.f k (rY10 x20 x22)).bind fun r1 =>
          if r1 = 0 then
            if x22 ≤ (x0.length : Int) then
              if 0 ≤ x22 then
                dual_CheckAll.l10 k x0 x1 x20 x21 x22 (x0.take x22.toNat) ((x0.take x22.toNat).length : Int) 0 (rY10 x20 x22).1.1 (rY10 x20 x22).1.2.1 (rY10 x20 x22).1.2.2.1 (rY10 x20 x22).1.2.2.2.1 (rY10 x20 x22).1.2.2.2.2.1 (rY10 x20 x22).1.2.2.2.2.2.1 (rY10 x20 x22).1.2.2.2.2.2.2.1 (rY10 x20 x22).1.2.2.2.2.2.2.2 (rY10 x20 x22).2.1.1 (rY10 x20 x22).2.1.2 (rY10 x20 x22).2.2.1 (rY10 x20 x22).2.2.2.1 (rY10 x20 x22).2.2.2.2
              else none
            else none
          else some r1
        else none
      else none
    else dual_CheckAll.l17 k x1 (x1.length : Int) 0 := rfl
theorem dual_CheckAll.l10_eq (k : Nat) (x0 : List ((ByteArray × Int × Int × Int × Int × Int × Int × Int) × (ByteArray × List (Int × Int)) × Bool × Int × Int)) (x1 : List Int) (x20 : List ((ByteArray × Int × Int × Int × Int × Int × Int × Int) × (ByteArray × List (Int × Int)) × Bool × Int × Int)) (x21 : Int) (x22 : Int) (x34 : List ((ByteArray × Int × Int × Int × Int × Int × Int × Int) × (ByteArray × List (Int × Int)) × Bool × Int × Int)) (x35 : Int) (x36 : Int) (xo0_0 : ByteArray) (xo0_1 : Int) (xo0_2 : Int) (xo0_3 : Int) (xo0_4 : Int) (xo0_5 : Int) (xo0_6 : Int) (xo0_7 : Int) (xo0_8 : ByteArray) (xo0_9 : List (Int × Int)) (xo0_10 : Bool) (xo0_11 : Int) (xo0_12 : Int) : dual_CheckAll.l10 (k + 1) x0 x1 x20 x21 x22 x34 x35 x36 xo0_0 xo0_1 xo0_2 xo0_3 xo0_4 xo0_5 xo0_6 xo0_7 xo0_8 xo0_9 xo0_10 xo0_11 xo0_12 = if x36 < x35 then
      if 0 ≤ x36 then
        if x36 < (x34.length : Int) then
          if (rY10 x34 x36).1.1 = xo0_0 then
            some 7
          else dual_CheckAll.l10 k x0 x1 x20 x21 x22 x34 x35 (wrap64 (x36 + 1)) xo0_0 xo0_1 xo0_2 xo0_3 xo0_4 xo0_5 xo0_6 xo0_7 xo0_8 xo0_9 xo0_10 xo0_11 xo0_12
        else none
      else none
    else dual_CheckAll.l4 k x0 x1 x20 x21 (wrap64 (x22 + 1)) := rfl
def dual_CheckAll.f (k : Nat) (a0 : List ((ByteArray × Int × Int × Int × Int × Int × Int × Int) × (ByteArray × List (Int × Int)) × Bool × Int × Int)) (a1 : List Int) : Option Int :=
  if 3 < (a0.length : Int) then
    some 2
  else if 8 < (a1.length : Int) then
    some 2
  else dual_CheckAll.l4 k a0 a1 a0 (a0.length : Int) 0
def dual_cut.f (k : Nat) (a0 : (ByteArray × Int × Int × Int × Int × Int × Int × Int) × (ByteArray × List (Int × Int)) × Bool × Int × Int) (a1 : Bool × Int × Int) : Option (Bool × Int × Int) :=
  if a1.1 = true then
    some (a1.1, mn a1.2.1 a0.1.2.2.2.2.2.1, a1.2.2)
  else some (a1.1, mn a1.2.1 a0.1.2.2.2.2.2.2.1, a1.2.2)
mutual
def offer_Supply.l8 : Nat → Int → Int → Int → (List (Int × Int)) → Int → Int → Option (Int × Int × Int)
  | 0, _, _, _, _, _, _ => none
  | k + 1, x1, x8, x9, x24, x25, x26 => if x26 < x25 then
      if 0 ≤ x26 then
        if x26 < (x24.length : Int) then
          if (rY0 x24 x26).2 < x1 then
            offer_Supply.l12 k x1 (wrap64 (x8 + (rY0 x24 x26).1)) x9 x24 x25 x26 (rY0 x24 x26).1 (rY0 x24 x26).2
          else offer_Supply.l12 k x1 x8 x9 x24 x25 x26 (rY0 x24 x26).1 (rY0 x24 x26).2
        else none
      else none
    else some (x8, x9, 0)
def offer_Supply.l12 : Nat → Int → Int → Int → (List (Int × Int)) → Int → Int → Int → Int → Option (Int × Int × Int)
  | 0, _, _, _, _, _, _, _, _ => none
  | k + 1, x1, x8, x9, x24, x25, x26, xo0_0, xo0_1 => if xo0_1 ≤ x1 then
      offer_Supply.l8 k x1 x8 (wrap64 (x9 + xo0_0)) x24 x25 (wrap64 (x26 + 1))
    else offer_Supply.l8 k x1 x8 x9 x24 x25 (wrap64 (x26 + 1))
end
theorem offer_Supply.l8_eq (k : Nat) (x1 : Int) (x8 : Int) (x9 : Int) (x24 : List (Int × Int)) (x25 : Int) (x26 : Int) : offer_Supply.l8 (k + 1) x1 x8 x9 x24 x25 x26 = if x26 < x25 then
      if 0 ≤ x26 then
        if x26 < (x24.length : Int) then
          if (rY0 x24 x26).2 < x1 then
            offer_Supply.l12 k x1 (wrap64 (x8 + (rY0 x24 x26).1)) x9 x24 x25 x26 (rY0 x24 x26).1 (rY0 x24 x26).2
          else offer_Supply.l12 k x1 x8 x9 x24 x25 x26 (rY0 x24 x26).1 (rY0 x24 x26).2
        else none
      else none
    else some (x8, x9, 0) := rfl
theorem offer_Supply.l12_eq (k : Nat) (x1 : Int) (x8 : Int) (x9 : Int) (x24 : List (Int × Int)) (x25 : Int) (x26 : Int) (xo0_0 : Int) (xo0_1 : Int) : offer_Supply.l12 (k + 1) x1 x8 x9 x24 x25 x26 xo0_0 xo0_1 = if xo0_1 ≤ x1 then
      offer_Supply.l8 k x1 x8 (wrap64 (x9 + xo0_0)) x24 x25 (wrap64 (x26 + 1))
    else offer_Supply.l8 k x1 x8 x9 x24 x25 (wrap64 (x26 + 1)) := rfl
def offer_Supply.f (k : Nat) (a0 : ByteArray × List (Int × Int)) (a1 : Int) : Option (Int × Int × Int) :=
  (offer_Check.f k a0).bind fun r1 =>
  if r1 = 0 then
    if a1 < (-2000000) then
      some (0, 0, 4)
    else if 2000000 < a1 then
      some (0, 0, 4)
    else offer_Supply.l8 k a1 0 0 a0.2 (a0.2.length : Int) 0
  else some (0, 0, r1)
def offer_Cost.l8 : Nat → Int → Int → (List (Int × Int)) → Int → Int → Option (Int × Int)
  | 0, _, _, _, _, _ => none
  | k + 1, x1, x7, x25, x26, x27 => if x27 < x26 then
      if 0 ≤ x27 then
        if x27 < (x25.length : Int) then
          offer_Cost.l8 k (wrap64 (x1 - (mn x1 (rY0 x25 x27).1))) (wrap64 (x7 + (wrap64 ((mn x1 (rY0 x25 x27).1) * (rY0 x25 x27).2)))) x25 x26 (wrap64 (x27 + 1))
        else none
      else none
    else some (x7, 0)
theorem offer_Cost.l8_eq (k : Nat) (x1 : Int) (x7 : Int) (x25 : List (Int × Int)) (x26 : Int) (x27 : Int) : offer_Cost.l8 (k + 1) x1 x7 x25 x26 x27 = if x27 < x26 then
      if 0 ≤ x27 then
        if x27 < (x25.length : Int) then
          offer_Cost.l8 k (wrap64 (x1 - (mn x1 (rY0 x25 x27).1))) (wrap64 (x7 + (wrap64 ((mn x1 (rY0 x25 x27).1) * (rY0 x25 x27).2)))) x25 x26 (wrap64 (x27 + 1))
        else none
      else none
    else some (x7, 0) := rfl
def offer_Cost.f (k : Nat) (a0 : ByteArray × List (Int × Int)) (a1 : Int) : Option (Int × Int) :=
  (offer_Check.f k a0).bind fun r1 =>
  if r1 = 0 then
    if a1 < 0 then
      some (0, 4)
    else (offer_Most.f k a0).bind fun r2 =>
    if r2 < a1 then
      some (0, 4)
    else offer_Cost.l8 k a1 0 a0.2 (a0.2.length : Int) 0
  else some (0, r1)
def dual_earn.f (k : Nat) (a0 : (ByteArray × Int × Int × Int × Int × Int × Int × Int) × (ByteArray × List (Int × Int)) × Bool × Int × Int) (a1 : Int) : Option (Int × Int) :=
  (offer_Supply.f k a0.2.1 a1).bind fun r1 =>
  (offer_Cost.f k a0.2.1 (mx r1.1 a0.1.2.1)).bind fun r2 =>
  some (mx r1.1 a0.1.2.1, wrap64 ((wrap64 (a1 * (mx r1.1 a0.1.2.1))) - r2.1))
def unit_Next.f (k : Nat) (a0 : ByteArray × Int × Int × Int × Int × Int × Int × Int) (a1 : Bool × Int × Int) (a2 : Int) : Option ((Bool × Int × Int) × Int × Int) :=
  (unit_CheckState.f k a0 a1).bind fun r1 =>
  if r1 = 0 then
    if a2 = (-1) then
      if a1.1 = true then
        if a2 = (-1) then
          if a1.2.1 < a0.2.2.2.2.2.1 then
            if a1.2.1 < a0.2.2.2.2.2.1 then
              some ((false, 0, 0), 0, 12)
            else if a1.1 = true then
              if a2 = (-1) then
                if a1.1 = (!decide (a2 = (-1))) then
                  some ((a1.1, mn (wrap64 (a1.2.1 + 1)) 200000, mx a2 0), 0, 0)
                else if a2 = (-1) then
                  some ((false, 1, 0), 0, 0)
                else some ((true, 1, a2), a0.2.2.2.2.2.2.2, 0)
              else if (wrap64 (a1.2.2 + a0.2.2.2.1)) < a2 then
                some ((false, 0, 0), 0, 17)
              else if a2 < (wrap64 (a1.2.2 - a0.2.2.2.2.1)) then
                some ((false, 0, 0), 0, 17)
              else if a1.1 = (!decide (a2 = (-1))) then
                some ((a1.1, mn (wrap64 (a1.2.1 + 1)) 200000, mx a2 0), 0, 0)
              else if a2 = (-1) then
                some ((false, 1, 0), 0, 0)
              else some ((true, 1, a2), a0.2.2.2.2.2.2.2, 0)
            else if a1.1 = (!decide (a2 = (-1))) then
              some ((a1.1, mn (wrap64 (a1.2.1 + 1)) 200000, mx a2 0), 0, 0)
            else if a2 = (-1) then
              some ((false, 1, 0), 0, 0)
            else some ((true, 1, a2), a0.2.2.2.2.2.2.2, 0)
          else if a1.1 = true then
            if a1.1 = true then
              if a2 = (-1) then
                if a1.1 = (!decide (a2 = (-1))) then
                  some ((a1.1, mn (wrap64 (a1.2.1 + 1)) 200000, mx a2 0), 0, 0)
                else if a2 = (-1) then
                  some ((false, 1, 0), 0, 0)
                else some ((true, 1, a2), a0.2.2.2.2.2.2.2, 0)
              else if (wrap64 (a1.2.2 + a0.2.2.2.1)) < a2 then
                some ((false, 0, 0), 0, 17)
              else if a2 < (wrap64 (a1.2.2 - a0.2.2.2.2.1)) then
                some ((false, 0, 0), 0, 17)
              else if a1.1 = (!decide (a2 = (-1))) then
                some ((a1.1, mn (wrap64 (a1.2.1 + 1)) 200000, mx a2 0), 0, 0)
              else if a2 = (-1) then
                some ((false, 1, 0), 0, 0)
              else some ((true, 1, a2), a0.2.2.2.2.2.2.2, 0)
            else if a1.1 = (!decide (a2 = (-1))) then
              some ((a1.1, mn (wrap64 (a1.2.1 + 1)) 200000, mx a2 0), 0, 0)
            else if a2 = (-1) then
              some ((false, 1, 0), 0, 0)
            else some ((true, 1, a2), a0.2.2.2.2.2.2.2, 0)
          else if a2 = (-1) then
            if a1.1 = true then
              if a2 = (-1) then
                if a1.1 = (!decide (a2 = (-1))) then
                  some ((a1.1, mn (wrap64 (a1.2.1 + 1)) 200000, mx a2 0), 0, 0)
                else if a2 = (-1) then
                  some ((false, 1, 0), 0, 0)
                else some ((true, 1, a2), a0.2.2.2.2.2.2.2, 0)
              else if (wrap64 (a1.2.2 + a0.2.2.2.1)) < a2 then
                some ((false, 0, 0), 0, 17)
              else if a2 < (wrap64 (a1.2.2 - a0.2.2.2.2.1)) then
                some ((false, 0, 0), 0, 17)
              else if a1.1 = (!decide (a2 = (-1))) then
                some ((a1.1, mn (wrap64 (a1.2.1 + 1)) 200000, mx a2 0), 0, 0)
              else if a2 = (-1) then
                some ((false, 1, 0), 0, 0)
              else some ((true, 1, a2), a0.2.2.2.2.2.2.2, 0)
            else if a1.1 = (!decide (a2 = (-1))) then
              some ((a1.1, mn (wrap64 (a1.2.1 + 1)) 200000, mx a2 0), 0, 0)
            else if a2 = (-1) then
              some ((false, 1, 0), 0, 0)
            else some ((true, 1, a2), a0.2.2.2.2.2.2.2, 0)
          else if a1.2.1 < a0.2.2.2.2.2.2.1 then
            some ((false, 0, 0), 0, 12)
          else if a1.1 = true then
            if a2 = (-1) then
              if a1.1 = (!decide (a2 = (-1))) then
                some ((a1.1, mn (wrap64 (a1.2.1 + 1)) 200000, mx a2 0), 0, 0)
              else if a2 = (-1) then
                some ((false, 1, 0), 0, 0)
              else some ((true, 1, a2), a0.2.2.2.2.2.2.2, 0)
            else if (wrap64 (a1.2.2 + a0.2.2.2.1)) < a2 then
              some ((false, 0, 0), 0, 17)
            else if a2 < (wrap64 (a1.2.2 - a0.2.2.2.2.1)) then
              some ((false, 0, 0), 0, 17)
            else if a1.1 = (!decide (a2 = (-1))) then
              some ((a1.1, mn (wrap64 (a1.2.1 + 1)) 200000, mx a2 0), 0, 0)
            else if a2 = (-1) then
              some ((false, 1, 0), 0, 0)
            else some ((true, 1, a2), a0.2.2.2.2.2.2.2, 0)
          else if a1.1 = (!decide (a2 = (-1))) then
            some ((a1.1, mn (wrap64 (a1.2.1 + 1)) 200000, mx a2 0), 0, 0)
          else if a2 = (-1) then
            some ((false, 1, 0), 0, 0)
          else some ((true, 1, a2), a0.2.2.2.2.2.2.2, 0)
        else if a1.1 = true then
          if a1.1 = true then
            if a2 = (-1) then
              if a1.1 = (!decide (a2 = (-1))) then
                some ((a1.1, mn (wrap64 (a1.2.1 + 1)) 200000, mx a2 0), 0, 0)
              else if a2 = (-1) then
                some ((false, 1, 0), 0, 0)
              else some ((true, 1, a2), a0.2.2.2.2.2.2.2, 0)
            else if (wrap64 (a1.2.2 + a0.2.2.2.1)) < a2 then
              some ((false, 0, 0), 0, 17)
            else if a2 < (wrap64 (a1.2.2 - a0.2.2.2.2.1)) then
              some ((false, 0, 0), 0, 17)
            else if a1.1 = (!decide (a2 = (-1))) then
              some ((a1.1, mn (wrap64 (a1.2.1 + 1)) 200000, mx a2 0), 0, 0)
            else if a2 = (-1) then
              some ((false, 1, 0), 0, 0)
            else some ((true, 1, a2), a0.2.2.2.2.2.2.2, 0)
          else if a1.1 = (!decide (a2 = (-1))) then
            some ((a1.1, mn (wrap64 (a1.2.1 + 1)) 200000, mx a2 0), 0, 0)
          else if a2 = (-1) then
            some ((false, 1, 0), 0, 0)
          else some ((true, 1, a2), a0.2.2.2.2.2.2.2, 0)
        else if a2 = (-1) then
          if a1.1 = true then
            if a2 = (-1) then
              if a1.1 = (!decide (a2 = (-1))) then
                some ((a1.1, mn (wrap64 (a1.2.1 + 1)) 200000, mx a2 0), 0, 0)
              else if a2 = (-1) then
                some ((false, 1, 0), 0, 0)
              else some ((true, 1, a2), a0.2.2.2.2.2.2.2, 0)
            else if (wrap64 (a1.2.2 + a0.2.2.2.1)) < a2 then
              some ((false, 0, 0), 0, 17)
            else if a2 < (wrap64 (a1.2.2 - a0.2.2.2.2.1)) then
              some ((false, 0, 0), 0, 17)
            else if a1.1 = (!decide (a2 = (-1))) then
              some ((a1.1, mn (wrap64 (a1.2.1 + 1)) 200000, mx a2 0), 0, 0)
            else if a2 = (-1) then
              some ((false, 1, 0), 0, 0)
            else some ((true, 1, a2), a0.2.2.2.2.2.2.2, 0)
          else if a1.1 = (!decide (a2 = (-1))) then
            some ((a1.1, mn (wrap64 (a1.2.1 + 1)) 200000, mx a2 0), 0, 0)
          else if a2 = (-1) then
            some ((false, 1, 0), 0, 0)
          else some ((true, 1, a2), a0.2.2.2.2.2.2.2, 0)
        else if a1.2.1 < a0.2.2.2.2.2.2.1 then
          some ((false, 0, 0), 0, 12)
        else if a1.1 = true then
          if a2 = (-1) then
            if a1.1 = (!decide (a2 = (-1))) then
              some ((a1.1, mn (wrap64 (a1.2.1 + 1)) 200000, mx a2 0), 0, 0)
            else if a2 = (-1) then
              some ((false, 1, 0), 0, 0)
            else some ((true, 1, a2), a0.2.2.2.2.2.2.2, 0)
          else if (wrap64 (a1.2.2 + a0.2.2.2.1)) < a2 then
            some ((false, 0, 0), 0, 17)
          else if a2 < (wrap64 (a1.2.2 - a0.2.2.2.2.1)) then
            some ((false, 0, 0), 0, 17)
          else if a1.1 = (!decide (a2 = (-1))) then
            some ((a1.1, mn (wrap64 (a1.2.1 + 1)) 200000, mx a2 0), 0, 0)
          else if a2 = (-1) then
            some ((false, 1, 0), 0, 0)
          else some ((true, 1, a2), a0.2.2.2.2.2.2.2, 0)
        else if a1.1 = (!decide (a2 = (-1))) then
          some ((a1.1, mn (wrap64 (a1.2.1 + 1)) 200000, mx a2 0), 0, 0)
        else if a2 = (-1) then
          some ((false, 1, 0), 0, 0)
        else some ((true, 1, a2), a0.2.2.2.2.2.2.2, 0)
      else if a1.1 = true then
        if a1.1 = true then
          if a2 = (-1) then
            if a1.1 = (!decide (a2 = (-1))) then
              some ((a1.1, mn (wrap64 (a1.2.1 + 1)) 200000, mx a2 0), 0, 0)
            else if a2 = (-1) then
              some ((false, 1, 0), 0, 0)
            else some ((true, 1, a2), a0.2.2.2.2.2.2.2, 0)
          else if (wrap64 (a1.2.2 + a0.2.2.2.1)) < a2 then
            some ((false, 0, 0), 0, 17)
          else if a2 < (wrap64 (a1.2.2 - a0.2.2.2.2.1)) then
            some ((false, 0, 0), 0, 17)
          else if a1.1 = (!decide (a2 = (-1))) then
            some ((a1.1, mn (wrap64 (a1.2.1 + 1)) 200000, mx a2 0), 0, 0)
          else if a2 = (-1) then
            some ((false, 1, 0), 0, 0)
          else some ((true, 1, a2), a0.2.2.2.2.2.2.2, 0)
        else if a1.1 = (!decide (a2 = (-1))) then
          some ((a1.1, mn (wrap64 (a1.2.1 + 1)) 200000, mx a2 0), 0, 0)
        else if a2 = (-1) then
          some ((false, 1, 0), 0, 0)
        else some ((true, 1, a2), a0.2.2.2.2.2.2.2, 0)
      else if a2 = (-1) then
        if a1.1 = true then
          if a2 = (-1) then
            if a1.1 = (!decide (a2 = (-1))) then
              some ((a1.1, mn (wrap64 (a1.2.1 + 1)) 200000, mx a2 0), 0, 0)
            else if a2 = (-1) then
              some ((false, 1, 0), 0, 0)
            else some ((true, 1, a2), a0.2.2.2.2.2.2.2, 0)
          else if (wrap64 (a1.2.2 + a0.2.2.2.1)) < a2 then
            some ((false, 0, 0), 0, 17)
          else if a2 < (wrap64 (a1.2.2 - a0.2.2.2.2.1)) then
            some ((false, 0, 0), 0, 17)
          else if a1.1 = (!decide (a2 = (-1))) then
            some ((a1.1, mn (wrap64 (a1.2.1 + 1)) 200000, mx a2 0), 0, 0)
          else if a2 = (-1) then
            some ((false, 1, 0), 0, 0)
          else some ((true, 1, a2), a0.2.2.2.2.2.2.2, 0)
        else if a1.1 = (!decide (a2 = (-1))) then
          some ((a1.1, mn (wrap64 (a1.2.1 + 1)) 200000, mx a2 0), 0, 0)
        else if a2 = (-1) then
          some ((false, 1, 0), 0, 0)
        else some ((true, 1, a2), a0.2.2.2.2.2.2.2, 0)
      else if a1.2.1 < a0.2.2.2.2.2.2.1 then
        some ((false, 0, 0), 0, 12)
      else if a1.1 = true then
        if a2 = (-1) then
          if a1.1 = (!decide (a2 = (-1))) then
            some ((a1.1, mn (wrap64 (a1.2.1 + 1)) 200000, mx a2 0), 0, 0)
          else if a2 = (-1) then
            some ((false, 1, 0), 0, 0)
          else some ((true, 1, a2), a0.2.2.2.2.2.2.2, 0)
        else if (wrap64 (a1.2.2 + a0.2.2.2.1)) < a2 then
          some ((false, 0, 0), 0, 17)
        else if a2 < (wrap64 (a1.2.2 - a0.2.2.2.2.1)) then
          some ((false, 0, 0), 0, 17)
        else if a1.1 = (!decide (a2 = (-1))) then
          some ((a1.1, mn (wrap64 (a1.2.1 + 1)) 200000, mx a2 0), 0, 0)
        else if a2 = (-1) then
          some ((false, 1, 0), 0, 0)
        else some ((true, 1, a2), a0.2.2.2.2.2.2.2, 0)
      else if a1.1 = (!decide (a2 = (-1))) then
        some ((a1.1, mn (wrap64 (a1.2.1 + 1)) 200000, mx a2 0), 0, 0)
      else if a2 = (-1) then
        some ((false, 1, 0), 0, 0)
      else some ((true, 1, a2), a0.2.2.2.2.2.2.2, 0)
    else if a2 < a0.2.1 then
      some ((false, 0, 0), 0, 4)
    else if a0.2.2.1 < a2 then
      some ((false, 0, 0), 0, 4)
    else if a1.1 = true then
      if a2 = (-1) then
        if a1.2.1 < a0.2.2.2.2.2.1 then
          if a1.2.1 < a0.2.2.2.2.2.1 then
            some ((false, 0, 0), 0, 12)
          else if a1.1 = true then
            if a2 = (-1) then
              if a1.1 = (!decide (a2 = (-1))) then
                some ((a1.1, mn (wrap64 (a1.2.1 + 1)) 200000, mx a2 0), 0, 0)
              else if a2 = (-1) then
                some ((false, 1, 0), 0, 0)
              else some ((true, 1, a2), a0.2.2.2.2.2.2.2, 0)
            else if (wrap64 (a1.2.2 + a0.2.2.2.1)) < a2 then
              some ((false, 0, 0), 0, 17)
            else if a2 < (wrap64 (a1.2.2 - a0.2.2.2.2.1)) then
              some ((false, 0, 0), 0, 17)
            else if a1.1 = (!decide (a2 = (-1))) then
              some ((a1.1, mn (wrap64 (a1.2.1 + 1)) 200000, mx a2 0), 0, 0)
            else if a2 = (-1) then
              some ((false, 1, 0), 0, 0)
            else some ((true, 1, a2), a0.2.2.2.2.2.2.2, 0)
          else if a1.1 = (!decide (a2 = (-1))) then
            some ((a1.1, mn (wrap64 (a1.2.1 + 1)) 200000, mx a2 0), 0, 0)
          else if a2 = (-1) then
            some ((false, 1, 0), 0, 0)
          else some ((true, 1, a2), a0.2.2.2.2.2.2.2, 0)
        else if a1.1 = true then
          if a1.1 = true then
            if a2 = (-1) then
              if a1.1 = (!decide (a2 = (-1))) then
                some ((a1.1, mn (wrap64 (a1.2.1 + 1)) 200000, mx a2 0), 0, 0)
              else if a2 = (-1) then
                some ((false, 1, 0), 0, 0)
              else some ((true, 1, a2), a0.2.2.2.2.2.2.2, 0)
            else if (wrap64 (a1.2.2 + a0.2.2.2.1)) < a2 then
              some ((false, 0, 0), 0, 17)
            else if a2 < (wrap64 (a1.2.2 - a0.2.2.2.2.1)) then
              some ((false, 0, 0), 0, 17)
            else if a1.1 = (!decide (a2 = (-1))) then
              some ((a1.1, mn (wrap64 (a1.2.1 + 1)) 200000, mx a2 0), 0, 0)
            else if a2 = (-1) then
              some ((false, 1, 0), 0, 0)
            else some ((true, 1, a2), a0.2.2.2.2.2.2.2, 0)
          else if a1.1 = (!decide (a2 = (-1))) then
            some ((a1.1, mn (wrap64 (a1.2.1 + 1)) 200000, mx a2 0), 0, 0)
          else if a2 = (-1) then
            some ((false, 1, 0), 0, 0)
          else some ((true, 1, a2), a0.2.2.2.2.2.2.2, 0)
        else if a2 = (-1) then
          if a1.1 = true then
            if a2 = (-1) then
              if a1.1 = (!decide (a2 = (-1))) then
                some ((a1.1, mn (wrap64 (a1.2.1 + 1)) 200000, mx a2 0), 0, 0)
              else if a2 = (-1) then
                some ((false, 1, 0), 0, 0)
              else some ((true, 1, a2), a0.2.2.2.2.2.2.2, 0)
            else if (wrap64 (a1.2.2 + a0.2.2.2.1)) < a2 then
              some ((false, 0, 0), 0, 17)
            else if a2 < (wrap64 (a1.2.2 - a0.2.2.2.2.1)) then
              some ((false, 0, 0), 0, 17)
            else if a1.1 = (!decide (a2 = (-1))) then
              some ((a1.1, mn (wrap64 (a1.2.1 + 1)) 200000, mx a2 0), 0, 0)
            else if a2 = (-1) then
              some ((false, 1, 0), 0, 0)
            else some ((true, 1, a2), a0.2.2.2.2.2.2.2, 0)
          else if a1.1 = (!decide (a2 = (-1))) then
            some ((a1.1, mn (wrap64 (a1.2.1 + 1)) 200000, mx a2 0), 0, 0)
          else if a2 = (-1) then
            some ((false, 1, 0), 0, 0)
          else some ((true, 1, a2), a0.2.2.2.2.2.2.2, 0)
        else if a1.2.1 < a0.2.2.2.2.2.2.1 then
          some ((false, 0, 0), 0, 12)
        else if a1.1 = true then
          if a2 = (-1) then
            if a1.1 = (!decide (a2 = (-1))) then
              some ((a1.1, mn (wrap64 (a1.2.1 + 1)) 200000, mx a2 0), 0, 0)
            else if a2 = (-1) then
              some ((false, 1, 0), 0, 0)
            else some ((true, 1, a2), a0.2.2.2.2.2.2.2, 0)
          else if (wrap64 (a1.2.2 + a0.2.2.2.1)) < a2 then
            some ((false, 0, 0), 0, 17)
          else if a2 < (wrap64 (a1.2.2 - a0.2.2.2.2.1)) then
            some ((false, 0, 0), 0, 17)
          else if a1.1 = (!decide (a2 = (-1))) then
            some ((a1.1, mn (wrap64 (a1.2.1 + 1)) 200000, mx a2 0), 0, 0)
          else if a2 = (-1) then
            some ((false, 1, 0), 0, 0)
          else some ((true, 1, a2), a0.2.2.2.2.2.2.2, 0)
        else if a1.1 = (!decide (a2 = (-1))) then
          some ((a1.1, mn (wrap64 (a1.2.1 + 1)) 200000, mx a2 0), 0, 0)
        else if a2 = (-1) then
          some ((false, 1, 0), 0, 0)
        else some ((true, 1, a2), a0.2.2.2.2.2.2.2, 0)
      else if a1.1 = true then
        if a1.1 = true then
          if a2 = (-1) then
            if a1.1 = (!decide (a2 = (-1))) then
              some ((a1.1, mn (wrap64 (a1.2.1 + 1)) 200000, mx a2 0), 0, 0)
            else if a2 = (-1) then
              some ((false, 1, 0), 0, 0)
            else some ((true, 1, a2), a0.2.2.2.2.2.2.2, 0)
          else if (wrap64 (a1.2.2 + a0.2.2.2.1)) < a2 then
            some ((false, 0, 0), 0, 17)
          else if a2 < (wrap64 (a1.2.2 - a0.2.2.2.2.1)) then
            some ((false, 0, 0), 0, 17)
          else if a1.1 = (!decide (a2 = (-1))) then
            some ((a1.1, mn (wrap64 (a1.2.1 + 1)) 200000, mx a2 0), 0, 0)
          else if a2 = (-1) then
            some ((false, 1, 0), 0, 0)
          else some ((true, 1, a2), a0.2.2.2.2.2.2.2, 0)
        else if a1.1 = (!decide (a2 = (-1))) then
          some ((a1.1, mn (wrap64 (a1.2.1 + 1)) 200000, mx a2 0), 0, 0)
        else if a2 = (-1) then
          some ((false, 1, 0), 0, 0)
        else some ((true, 1, a2), a0.2.2.2.2.2.2.2, 0)
      else if a2 = (-1) then
        if a1.1 = true then
          if a2 = (-1) then
            if a1.1 = (!decide (a2 = (-1))) then
              some ((a1.1, mn (wrap64 (a1.2.1 + 1)) 200000, mx a2 0), 0, 0)
            else if a2 = (-1) then
              some ((false, 1, 0), 0, 0)
            else some ((true, 1, a2), a0.2.2.2.2.2.2.2, 0)
          else if (wrap64 (a1.2.2 + a0.2.2.2.1)) < a2 then
            some ((false, 0, 0), 0, 17)
          else if a2 < (wrap64 (a1.2.2 - a0.2.2.2.2.1)) then
            some ((false, 0, 0), 0, 17)
          else if a1.1 = (!decide (a2 = (-1))) then
            some ((a1.1, mn (wrap64 (a1.2.1 + 1)) 200000, mx a2 0), 0, 0)
          else if a2 = (-1) then
            some ((false, 1, 0), 0, 0)
          else some ((true, 1, a2), a0.2.2.2.2.2.2.2, 0)
        else if a1.1 = (!decide (a2 = (-1))) then
          some ((a1.1, mn (wrap64 (a1.2.1 + 1)) 200000, mx a2 0), 0, 0)
        else if a2 = (-1) then
          some ((false, 1, 0), 0, 0)
        else some ((true, 1, a2), a0.2.2.2.2.2.2.2, 0)
      else if a1.2.1 < a0.2.2.2.2.2.2.1 then
        some ((false, 0, 0), 0, 12)
      else if a1.1 = true then
        if a2 = (-1) then
          if a1.1 = (!decide (a2 = (-1))) then
            some ((a1.1, mn (wrap64 (a1.2.1 + 1)) 200000, mx a2 0), 0, 0)
          else if a2 = (-1) then
            some ((false, 1, 0), 0, 0)
          else some ((true, 1, a2), a0.2.2.2.2.2.2.2, 0)
        else if (wrap64 (a1.2.2 + a0.2.2.2.1)) < a2 then
          some ((false, 0, 0), 0, 17)
        else if a2 < (wrap64 (a1.2.2 - a0.2.2.2.2.1)) then
          some ((false, 0, 0), 0, 17)
        else if a1.1 = (!decide (a2 = (-1))) then
          some ((a1.1, mn (wrap64 (a1.2.1 + 1)) 200000, mx a2 0), 0, 0)
        else if a2 = (-1) then
          some ((false, 1, 0), 0, 0)
        else some ((true, 1, a2), a0.2.2.2.2.2.2.2, 0)
      else if a1.1 = (!decide (a2 = (-1))) then
        some ((a1.1, mn (wrap64 (a1.2.1 + 1)) 200000, mx a2 0), 0, 0)
      else if a2 = (-1) then
        some ((false, 1, 0), 0, 0)
      else some ((true, 1, a2), a0.2.2.2.2.2.2.2, 0)
    else if a1.1 = true then
      if a1.1 = true then
        if a2 = (-1) then
          if a1.1 = (!decide (a2 = (-1))) then
            some ((a1.1, mn (wrap64 (a1.2.1 + 1)) 200000, mx a2 0), 0, 0)
          else if a2 = (-1) then
            some ((false, 1, 0), 0, 0)
          else some ((true, 1, a2), a0.2.2.2.2.2.2.2, 0)
        else if (wrap64 (a1.2.2 + a0.2.2.2.1)) < a2 then
          some ((false, 0, 0), 0, 17)
        else if a2 < (wrap64 (a1.2.2 - a0.2.2.2.2.1)) then
          some ((false, 0, 0), 0, 17)
        else if a1.1 = (!decide (a2 = (-1))) then
          some ((a1.1, mn (wrap64 (a1.2.1 + 1)) 200000, mx a2 0), 0, 0)
        else if a2 = (-1) then
          some ((false, 1, 0), 0, 0)
        else some ((true, 1, a2), a0.2.2.2.2.2.2.2, 0)
      else if a1.1 = (!decide (a2 = (-1))) then
        some ((a1.1, mn (wrap64 (a1.2.1 + 1)) 200000, mx a2 0), 0, 0)
      else if a2 = (-1) then
        some ((false, 1, 0), 0, 0)
      else some ((true, 1, a2), a0.2.2.2.2.2.2.2, 0)
    else if a2 = (-1) then
      if a1.1 = true then
        if a2 = (-1) then
          if a1.1 = (!decide (a2 = (-1))) then
            some ((a1.1, mn (wrap64 (a1.2.1 + 1)) 200000, mx a2 0), 0, 0)
          else if a2 = (-1) then
            some ((false, 1, 0), 0, 0)
          else some ((true, 1, a2), a0.2.2.2.2.2.2.2, 0)
        else if (wrap64 (a1.2.2 + a0.2.2.2.1)) < a2 then
          some ((false, 0, 0), 0, 17)
        else if a2 < (wrap64 (a1.2.2 - a0.2.2.2.2.1)) then
          some ((false, 0, 0), 0, 17)
        else if a1.1 = (!decide (a2 = (-1))) then
          some ((a1.1, mn (wrap64 (a1.2.1 + 1)) 200000, mx a2 0), 0, 0)
        else if a2 = (-1) then
          some ((false, 1, 0), 0, 0)
        else some ((true, 1, a2), a0.2.2.2.2.2.2.2, 0)
      else if a1.1 = (!decide (a2 = (-1))) then
        some ((a1.1, mn (wrap64 (a1.2.1 + 1)) 200000, mx a2 0), 0, 0)
      else if a2 = (-1) then
        some ((false, 1, 0), 0, 0)
      else some ((true, 1, a2), a0.2.2.2.2.2.2.2, 0)
    else if a1.2.1 < a0.2.2.2.2.2.2.1 then
      some ((false, 0, 0), 0, 12)
    else if a1.1 = true then
      if a2 = (-1) then
        if a1.1 = (!decide (a2 = (-1))) then
          some ((a1.1, mn (wrap64 (a1.2.1 + 1)) 200000, mx a2 0), 0, 0)
        else if a2 = (-1) then
          some ((false, 1, 0), 0, 0)
        else some ((true, 1, a2), a0.2.2.2.2.2.2.2, 0)
      else if (wrap64 (a1.2.2 + a0.2.2.2.1)) < a2 then
        some ((false, 0, 0), 0, 17)
      else if a2 < (wrap64 (a1.2.2 - a0.2.2.2.2.1)) then
        some ((false, 0, 0), 0, 17)
      else if a1.1 = (!decide (a2 = (-1))) then
        some ((a1.1, mn (wrap64 (a1.2.1 + 1)) 200000, mx a2 0), 0, 0)
      else if a2 = (-1) then
        some ((false, 1, 0), 0, 0)
      else some ((true, 1, a2), a0.2.2.2.2.2.2.2, 0)
    else if a1.1 = (!decide (a2 = (-1))) then
      some ((a1.1, mn (wrap64 (a1.2.1 + 1)) 200000, mx a2 0), 0, 0)
    else if a2 = (-1) then
      some ((false, 1, 0), 0, 0)
    else some ((true, 1, a2), a0.2.2.2.2.2.2.2, 0)
  else some ((false, 0, 0), 0, r1)
def dual_put.l2 : Nat → Int → Int → (List ((Bool × Int × Int) × Int × Int)) → Bool → Int → Int → Int → Int → Option (List ((Bool × Int × Int) × Int × Int))
  | 0, _, _, _, _, _, _, _, _ => none
  | k + 1, x8, x9, xo0, xo1_0, xo1_1, xo1_2, xo1_3, xo1_4 => if x9 < x8 then
      if 0 ≤ x9 then
        if x9 < (xo0.length : Int) then
          if (rY11 xo0 x9).1.1 = xo1_0 then
            if (rY11 xo0 x9).1.2.1 = xo1_1 then
              if (rY11 xo0 x9).2.1 < xo1_3 then
                if 0 ≤ x9 then
                  if x9 < (xo0.length : Int) then
                    some (xo0.set x9.toNat ((xo1_0, xo1_1, xo1_2), xo1_3, xo1_4))
                  else none
                else none
              else some xo0
            else dual_put.l2 k x8 (wrap64 (x9 + 1)) xo0 xo1_0 xo1_1 xo1_2 xo1_3 xo1_4
          else dual_put.l2 k x8 (wrap64 (x9 + 1)) xo0 xo1_0 xo1_1 xo1_2 xo1_3 xo1_4
        else none
      else none
    else if (xo0.length + [((xo1_0, xo1_1, xo1_2), xo1_3, xo1_4)].length) * 40 ≤ 140737488355328 then
      some (xo0 ++ [((xo1_0, xo1_1, xo1_2), xo1_3, xo1_4)])
    else none
theorem dual_put.l2_eq (k : Nat) (x8 : Int) (x9 : Int) (xo0 : List ((Bool × Int × Int) × Int × Int)) (xo1_0 : Bool) (xo1_1 : Int) (xo1_2 : Int) (xo1_3 : Int) (xo1_4 : Int) : dual_put.l2 (k + 1) x8 x9 xo0 xo1_0 xo1_1 xo1_2 xo1_3 xo1_4 = if x9 < x8 then
      if 0 ≤ x9 then
        if x9 < (xo0.length : Int) then
          if (rY11 xo0 x9).1.1 = xo1_0 then
            if (rY11 xo0 x9).1.2.1 = xo1_1 then
              if (rY11 xo0 x9).2.1 < xo1_3 then
                if 0 ≤ x9 then
                  if x9 < (xo0.length : Int) then
                    some (xo0.set x9.toNat ((xo1_0, xo1_1, xo1_2), xo1_3, xo1_4))
                  else none
                else none
              else some xo0
            else dual_put.l2 k x8 (wrap64 (x9 + 1)) xo0 xo1_0 xo1_1 xo1_2 xo1_3 xo1_4
          else dual_put.l2 k x8 (wrap64 (x9 + 1)) xo0 xo1_0 xo1_1 xo1_2 xo1_3 xo1_4
        else none
      else none
    else if (xo0.length + [((xo1_0, xo1_1, xo1_2), xo1_3, xo1_4)].length) * 40 ≤ 140737488355328 then
      some (xo0 ++ [((xo1_0, xo1_1, xo1_2), xo1_3, xo1_4)])
    else none := rfl
def dual_put.f (k : Nat) (a1 : (Bool × Int × Int) × Int × Int) (ao0 : List ((Bool × Int × Int) × Int × Int)) : Option (List ((Bool × Int × Int) × Int × Int)) :=
  dual_put.l2 k (ao0.length : Int) 0 ao0 a1.1.1 a1.1.2.1 a1.1.2.2 a1.2.1 a1.2.2
def dual_Single.l41 : Nat → List Int → Int → Int → Int → ByteArray → Int → Int → Int → Int → Int → Int → Int → ByteArray → (List (Int × Int)) → Bool → Int → Int → (List (List ((Bool × Int × Int) × Int × Int))) → List Int → Option (List Int × Int × Int)
  | 0, _, _, _, _, _, _, _, _, _, _, _, _, _, _, _, _, _, _, _ => none
  | k + 1, x1, x25, x28, x30, xo0_0, xo0_1, xo0_2, xo0_3, xo0_4, xo0_5, xo0_6, xo0_7, xo0_8, xo0_9, xo0_10, xo0_11, xo0_12, xo1, xo2 => if 0 < x30 then
      if 0 ≤ x30 then
        if x30 < (xo1.length : Int) then
          if 0 ≤ x25 then
            if x25 < ((rd (.list 117 Y11) xo1 x30).length : Int) then
              if 0 ≤ (wrap64 (x30 - 1)) then
                if (wrap64 (x30 - 1)) < (xo2.length : Int) then
                  if (rY11 (rd (.list 117 Y11) xo1 x30) x25).1.1 = true then
                    if 0 ≤ (wrap64 (x30 - 1)) then
                      if (wrap64 (x30 - 1)) < (x1.length : Int) then
                        (dual_earn.f k ((xo0_0, xo0_1, xo0_2, xo0_3, xo0_4, xo0_5, xo0_6, xo0_7), (xo0_8, xo0_9), xo0_10, xo0_11, xo0_12) (rI64 x1 (wrap64 (x30 - 1)))).bind fun r10 =>
                        if 0 ≤ (wrap64 (x30 - 1)) then
                          if (wrap64 (x30 - 1)) < ((xo2.set (wrap64 (x30 - 1)).toNat (-1)).length : Int) then
                            dual_Single.l41 k x1 (rY11 (rd (.list 117 Y11) xo1 x30) x25).2.2 x28 (wrap64 (x30 - 1)) xo0_0 xo0_1 xo0_2 xo0_3 xo0_4 xo0_5 xo0_6 xo0_7 xo0_8 xo0_9 xo0_10 xo0_11 xo0_12 xo1 ((xo2.set (wrap64 (x30 - 1)).toNat (-1)).set (wrap64 (x30 - 1)).toNat r10.1)
                          else none
                        else none
                      else none
                    else none
                  else dual_Single.l41 k x1 (rY11 (rd (.list 117 Y11) xo1 x30) x25).2.2 x28 (wrap64 (x30 - 1)) xo0_0 xo0_1 xo0_2 xo0_3 xo0_4 xo0_5 xo0_6 xo0_7 xo0_8 xo0_9 xo0_10 xo0_11 xo0_12 xo1 (xo2.set (wrap64 (x30 - 1)).toNat (-1))
                else none
              else none
            else none
          else none
        else none
      else none
    else some (xo2, x28, 0)
theorem dual_Single.l41_eq (k : Nat) (x1 : List Int) (x25 : Int) (x28 : Int) (x30 : Int) (xo0_0 : ByteArray) (xo0_1 : Int) (xo0_2 : Int) (xo0_3 : Int) (xo0_4 : Int) (xo0_5 : Int) (xo0_6 : Int) (xo0_7 : Int) (xo0_8 : ByteArray) (xo0_9 : List (Int × Int)) (xo0_10 : Bool) (xo0_11 : Int) (xo0_12 : Int) (xo1 : List (List ((Bool × Int × Int) × Int × Int))) (xo2 : List Int) : dual_Single.l41 (k + 1) x1 x25 x28 x30 xo0_0 xo0_1 xo0_2 xo0_3 xo0_4 xo0_5 xo0_6 xo0_7 xo0_8 xo0_9 xo0_10 xo0_11 xo0_12 xo1 xo2 = if 0 < x30 then
      if 0 ≤ x30 then
        if x30 < (xo1.length : Int) then
          if 0 ≤ x25 then
            if x25 < ((rd (.list 117 Y11) xo1 x30).length : Int) then
              if 0 ≤ (wrap64 (x30 - 1)) then
                if (wrap64 (x30 - 1)) < (xo2.length : Int) then
                  if (rY11 (rd (.list 117 Y11) xo1 x30) x25).1.1 = true then
                    if 0 ≤ (wrap64 (x30 - 1)) then
                      if (wrap64 (x30 - 1)) < (x1.length : Int) then
                        (dual_earn.f k ((xo0_0, xo0_1, xo0_2, xo0_3, xo0_4, xo0_5, xo0_6, xo0_7), (xo0_8, xo0_9), xo0_10, xo0_11, xo0_12) (rI64 x1 (wrap64 (x30 - 1)))).bind fun r10 =>
                        if 0 ≤ (wrap64 (x30 - 1)) then
                          if (wrap64 (x30 - 1)) < ((xo2.set (wrap64 (x30 - 1)).toNat (-1)).length : Int) then
                            dual_Single.l41 k x1 (rY11 (rd (.list 117 Y11) xo1 x30) x25).2.2 x28 (wrap64 (x30 - 1)) xo0_0 xo0_1 xo0_2 xo0_3 xo0_4 xo0_5 xo0_6 xo0_7 xo0_8 xo0_9 xo0_10 xo0_11 xo0_12 xo1 ((xo2.set (wrap64 (x30 - 1)).toNat (-1)).set (wrap64 (x30 - 1)).toNat r10.1)
                          else none
                        else none
                      else none
                    else none
                  else dual_Single.l41 k x1 (rY11 (rd (.list 117 Y11) xo1 x30) x25).2.2 x28 (wrap64 (x30 - 1)) xo0_0 xo0_1 xo0_2 xo0_3 xo0_4 xo0_5 xo0_6 xo0_7 xo0_8 xo0_9 xo0_10 xo0_11 xo0_12 xo1 (xo2.set (wrap64 (x30 - 1)).toNat (-1))
                else none
              else none
            else none
          else none
        else none
      else none
    else some (xo2, x28, 0) := rfl
def dual_Single.l33 : Nat → List Int → (List ((Bool × Int × Int) × Int × Int)) → Int → (List ((Bool × Int × Int) × Int × Int)) → Int → Int → ByteArray → Int → Int → Int → Int → Int → Int → Int → ByteArray → (List (Int × Int)) → Bool → Int → Int → (List (List ((Bool × Int × Int) × Int × Int))) → Option (List Int × Int × Int)
  | 0, _, _, _, _, _, _, _, _, _, _, _, _, _, _, _, _, _, _, _, _ => none
  | k + 1, x1, x24, x25, x141, x142, x143, xo0_0, xo0_1, xo0_2, xo0_3, xo0_4, xo0_5, xo0_6, xo0_7, xo0_8, xo0_9, xo0_10, xo0_11, xo0_12, xo1 => if x143 < x142 then
      if 0 ≤ x143 then
        if x143 < (x141.length : Int) then
          if 0 ≤ x25 then
            if x25 < (x24.length : Int) then
              if (rY11 x24 x25).2.1 < (rY11 x141 x143).2.1 then
                dual_Single.l33 k x1 x24 x143 x141 x142 (wrap64 (x143 + 1)) xo0_0 xo0_1 xo0_2 xo0_3 xo0_4 xo0_5 xo0_6 xo0_7 xo0_8 xo0_9 xo0_10 xo0_11 xo0_12 xo1
              else dual_Single.l33 k x1 x24 x25 x141 x142 (wrap64 (x143 + 1)) xo0_0 xo0_1 xo0_2 xo0_3 xo0_4 xo0_5 xo0_6 xo0_7 xo0_8 xo0_9 xo0_10 xo0_11 xo0_12 xo1
            else none
          else none
        else none
      else none
    else if 0 ≤ x25 then
      if x25 < (x24.length : Int) then
        if 0 ≤ (x1.length : Int) then
          if (x1.length : Int) * 8 ≤ 140737488355328 then
            if (x1.length : Int) ≤ 140737488355328 then
              dual_Single.l41 k x1 x25 (rY11 x24 x25).2.1 (x1.length : Int) xo0_0 xo0_1 xo0_2 xo0_3 xo0_4 xo0_5 xo0_6 xo0_7 xo0_8 xo0_9 xo0_10 xo0_11 xo0_12 xo1 (List.replicate (x1.length : Int).toNat 0)
            else none
          else none
        else none
      else none
    else none
theorem dual_Single.l33_eq (k : Nat) (x1 : List Int) (x24 : List ((Bool × Int × Int) × Int × Int)) (x25 : Int) (x141 : List ((Bool × Int × Int) × Int × Int)) (x142 : Int) (x143 : Int) (xo0_0 : ByteArray) (xo0_1 : Int) (xo0_2 : Int) (xo0_3 : Int) (xo0_4 : Int) (xo0_5 : Int) (xo0_6 : Int) (xo0_7 : Int) (xo0_8 : ByteArray) (xo0_9 : List (Int × Int)) (xo0_10 : Bool) (xo0_11 : Int) (xo0_12 : Int) (xo1 : List (List ((Bool × Int × Int) × Int × Int))) : dual_Single.l33 (k + 1) x1 x24 x25 x141 x142 x143 xo0_0 xo0_1 xo0_2 xo0_3 xo0_4 xo0_5 xo0_6 xo0_7 xo0_8 xo0_9 xo0_10 xo0_11 xo0_12 xo1 = if x143 < x142 then
      if 0 ≤ x143 then
        if x143 < (x141.length : Int) then
          if 0 ≤ x25 then
            if x25 < (x24.length : Int) then
              if (rY11 x24 x25).2.1 < (rY11 x141 x143).2.1 then
                dual_Single.l33 k x1 x24 x143 x141 x142 (wrap64 (x143 + 1)) xo0_0 xo0_1 xo0_2 xo0_3 xo0_4 xo0_5 xo0_6 xo0_7 xo0_8 xo0_9 xo0_10 xo0_11 xo0_12 xo1
              else dual_Single.l33 k x1 x24 x25 x141 x142 (wrap64 (x143 + 1)) xo0_0 xo0_1 xo0_2 xo0_3 xo0_4 xo0_5 xo0_6 xo0_7 xo0_8 xo0_9 xo0_10 xo0_11 xo0_12 xo1
            else none
          else none
        else none
      else none
    else if 0 ≤ x25 then
      if x25 < (x24.length : Int) then
        if 0 ≤ (x1.length : Int) then
          if (x1.length : Int) * 8 ≤ 140737488355328 then
            if (x1.length : Int) ≤ 140737488355328 then
              dual_Single.l41 k x1 x25 (rY11 x24 x25).2.1 (x1.length : Int) xo0_0 xo0_1 xo0_2 xo0_3 xo0_4 xo0_5 xo0_6 xo0_7 xo0_8 xo0_9 xo0_10 xo0_11 xo0_12 xo1 (List.replicate (x1.length : Int).toNat 0)
            else none
          else none
        else none
      else none
    else none := rfl
mutual
def dual_Single.l14 : Nat → List Int → List Int → Int → Int → ByteArray → Int → Int → Int → Int → Int → Int → Int → ByteArray → (List (Int × Int)) → Bool → Int → Int → (List (List ((Bool × Int × Int) × Int × Int))) → Option (List Int × Int × Int)
  | 0, _, _, _, _, _, _, _, _, _, _, _, _, _, _, _, _, _, _ => none
  | k + 1, x1, x60, x61, x62, xo0_0, xo0_1, xo0_2, xo0_3, xo0_4, xo0_5, xo0_6, xo0_7, xo0_8, xo0_9, xo0_10, xo0_11, xo0_12, xo1 => if x62 < x61 then
      if 0 ≤ x62 then
        if x62 < (x60.length : Int) then
          (dual_earn.f k ((xo0_0, xo0_1, xo0_2, xo0_3, xo0_4, xo0_5, xo0_6, xo0_7), (xo0_8, xo0_9), xo0_10, xo0_11, xo0_12) (rI64 x60 x62)).bind fun r3 =>
          if 0 ≤ (wrap64 ((xo1.length : Int) - 1)) then
            if (wrap64 ((xo1.length : Int) - 1)) < (xo1.length : Int) then
              dual_Single.l19 k x1 r3.1 r3.2 x60 x61 x62 (rd (.list 117 Y11) xo1 (wrap64 ((xo1.length : Int) - 1))) ((rd (.list 117 Y11) xo1 (wrap64 ((xo1.length : Int) - 1))).length : Int) 0 xo0_0 xo0_1 xo0_2 xo0_3 xo0_4 xo0_5 xo0_6 xo0_7 xo0_8 xo0_9 xo0_10 xo0_11 xo0_12 xo1 []
            else none
          else none
        else none
      else none
    else if 0 ≤ (wrap64 ((xo1.length : Int) - 1)) then
      if (wrap64 ((xo1.length : Int) - 1)) < (xo1.length : Int) then
        dual_Single.l33 k x1 (rd (.list 117 Y11) xo1 (wrap64 ((xo1.length : Int) - 1))) 0 (rd (.list 117 Y11) xo1 (wrap64 ((xo1.length : Int) - 1))) ((rd (.list 117 Y11) xo1 (wrap64 ((xo1.length : Int) - 1))).length : Int) 0 xo0_0 xo0_1 xo0_2 xo0_3 xo0_4 xo0_5 xo0_6 xo0_7 xo0_8 xo0_9 xo0_10 xo0_11 xo0_12 xo1
      else none
    else none
def dual_Single.l19 : Nat → List Int → Int → Int → List Int → Int → Int → (List ((Bool × Int × Int) × Int × Int)) → Int → Int → ByteArray → Int → Int → Int → Int → Int → Int → Int → ByteArray → (List (Int × Int)) → Bool → Int → Int → (List (List ((Bool × Int × Int) × Int × Int))) → (List ((Bool × Int × Int) × Int × Int)) → Option (List Int × Int × Int)
  | 0, _, _, _, _, _, _, _, _, _, _, _, _, _, _, _, _, _, _, _, _, _, _, _, _ => none
  | k + 1, x1, x13, x14, x60, x61, x62, x77, x78, x79, xo0_0, xo0_1, xo0_2, xo0_3, xo0_4, xo0_5, xo0_6, xo0_7, xo0_8, xo0_9, xo0_10, xo0_11, xo0_12, xo1, xo2 => if x79 < x78 then
      if 0 ≤ x79 then
        if x79 < (x77.length : Int) then
          (unit_Next.f k (xo0_0, xo0_1, xo0_2, xo0_3, xo0_4, xo0_5, xo0_6, xo0_7) (rY11 x77 x79).1 (-1)).bind fun r4 =>
          if r4.2.2 = 0 then
            (dual_cut.f k ((xo0_0, xo0_1, xo0_2, xo0_3, xo0_4, xo0_5, xo0_6, xo0_7), (xo0_8, xo0_9), xo0_10, xo0_11, xo0_12) r4.1).bind fun r5 =>
            (dual_put.f k (r5, (rY11 x77 x79).2.1, x79) xo2).bind fun r6 =>
            dual_Single.l24 k x1 x13 x14 x79 x60 x61 x62 x77 x78 x79 xo0_0 xo0_1 xo0_2 xo0_3 xo0_4 xo0_5 xo0_6 xo0_7 xo0_8 xo0_9 xo0_10 xo0_11 xo0_12 xo1 r6 (rY11 x77 x79).1.1 (rY11 x77 x79).1.2.1 (rY11 x77 x79).1.2.2 (rY11 x77 x79).2.1 (rY11 x77 x79).2.2
          else dual_Single.l24 k x1 x13 x14 x79 x60 x61 x62 x77 x78 x79 xo0_0 xo0_1 xo0_2 xo0_3 xo0_4 xo0_5 xo0_6 xo0_7 xo0_8 xo0_9 xo0_10 xo0_11 xo0_12 xo1 xo2 (rY11 x77 x79).1.1 (rY11 x77 x79).1.2.1 (rY11 x77 x79).1.2.2 (rY11 x77 x79).2.1 (rY11 x77 x79).2.2
        else none
      else none
    else if (xo1.length + [xo2].length) * 24 ≤ 140737488355328 then
      dual_Single.l14 k x1 x60 x61 (wrap64 (x62 + 1)) xo0_0 xo0_1 xo0_2 xo0_3 xo0_4 xo0_5 xo0_6 xo0_7 xo0_8 xo0_9 xo0_10 xo0_11 xo0_12 (xo1 ++ [xo2])
    else none
def dual_Single.l24 : Nat → List Int → Int → Int → Int → List Int → Int → Int → (List ((Bool × Int × Int) × Int × Int)) → Int → Int → ByteArray → Int → Int → Int → Int → Int → Int → Int → ByteArray → (List (Int × Int)) → Bool → Int → Int → (List (List ((Bool × Int × Int) × Int × Int))) → (List ((Bool × Int × Int) × Int × Int)) → Bool → Int → Int → Int → Int → Option (List Int × Int × Int)
  | 0, _, _, _, _, _, _, _, _, _, _, _, _, _, _, _, _, _, _, _, _, _, _, _, _, _, _, _, _, _, _ => none
  | k + 1, x1, x13, x14, x16, x60, x61, x62, x77, x78, x79, xo0_0, xo0_1, xo0_2, xo0_3, xo0_4, xo0_5, xo0_6, xo0_7, xo0_8, xo0_9, xo0_10, xo0_11, xo0_12, xo1, xo2, xo3_0, xo3_1, xo3_2, xo3_3, xo3_4 => (unit_Next.f k (xo0_0, xo0_1, xo0_2, xo0_3, xo0_4, xo0_5, xo0_6, xo0_7) (xo3_0, xo3_1, xo3_2) x13).bind fun r7 =>
    if r7.2.2 = 0 then
      (dual_cut.f k ((xo0_0, xo0_1, xo0_2, xo0_3, xo0_4, xo0_5, xo0_6, xo0_7), (xo0_8, xo0_9), xo0_10, xo0_11, xo0_12) r7.1).bind fun r8 =>
      (dual_put.f k (r8, wrap64 ((wrap64 (xo3_3 + x14)) - r7.2.1), x16) xo2).bind fun r9 =>
      dual_Single.l19 k x1 x13 x14 x60 x61 x62 x77 x78 (wrap64 (x79 + 1)) xo0_0 xo0_1 xo0_2 xo0_3 xo0_4 xo0_5 xo0_6 xo0_7 xo0_8 xo0_9 xo0_10 xo0_11 xo0_12 xo1 r9
    else dual_Single.l19 k x1 x13 x14 x60 x61 x62 x77 x78 (wrap64 (x79 + 1)) xo0_0 xo0_1 xo0_2 xo0_3 xo0_4 xo0_5 xo0_6 xo0_7 xo0_8 xo0_9 xo0_10 xo0_11 xo0_12 xo1 xo2
end
theorem dual_Single.l14_eq (k : Nat) (x1 : List Int) (x60 : List Int) (x61 : Int) (x62 : Int) (xo0_0 : ByteArray) (xo0_1 : Int) (xo0_2 : Int) (xo0_3 : Int) (xo0_4 : Int) (xo0_5 : Int) (xo0_6 : Int) (xo0_7 : Int) (xo0_8 : ByteArray) (xo0_9 : List (Int × Int)) (xo0_10 : Bool) (xo0_11 : Int) (xo0_12 : Int) (xo1 : List (List ((Bool × Int × Int) × Int × Int))) : dual_Single.l14 (k + 1) x1 x60 x61 x62 xo0_0 xo0_1 xo0_2 xo0_3 xo0_4 xo0_5 xo0_6 xo0_7 xo0_8 xo0_9 xo0_10 xo0_11 xo0_12 xo1 = if x62 < x61 then
      if 0 ≤ x62 then
        if x62 < (x60.length : Int) then
          (dual_earn.f k ((xo0_0, xo0_1, xo0_2, xo0_3, xo0_4, xo0_5, xo0_6, xo0_7), (xo0_8, xo0_9), xo0_10, xo0_11, xo0_12) (rI64 x60 x62)).bind fun r3 =>
          if 0 ≤ (wrap64 ((xo1.length : Int) - 1)) then
            if (wrap64 ((xo1.length : Int) - 1)) < (xo1.length : Int) then
              dual_Single.l19 k x1 r3.1 r3.2 x60 x61 x62 (rd (.list 117 Y11) xo1 (wrap64 ((xo1.length : Int) - 1))) ((rd (.list 117 Y11) xo1 (wrap64 ((xo1.length : Int) - 1))).length : Int) 0 xo0_0 xo0_1 xo0_2 xo0_3 xo0_4 xo0_5 xo0_6 xo0_7 xo0_8 xo0_9 xo0_10 xo0_11 xo0_12 xo1 []
            else none
          else none
        else none
      else none
    else if 0 ≤ (wrap64 ((xo1.length : Int) - 1)) then
      if (wrap64 ((xo1.length : Int) - 1)) < (xo1.length : Int) then
        dual_Single.l33 k x1 (rd (.list 117 Y11) xo1 (wrap64 ((xo1.length : Int) - 1))) 0 (rd (.list 117 Y11) xo1 (wrap64 ((xo1.length : Int) - 1))) ((rd (.list 117 Y11) xo1 (wrap64 ((xo1.length : Int) - 1))).length : Int) 0 xo0_0 xo0_1 xo0_2 xo0_3 xo0_4 xo0_5 xo0_6 xo0_7 xo0_8 xo0_9 xo0_10 xo0_11 xo0_12 xo1
      else none
    else none := rfl
theorem dual_Single.l19_eq (k : Nat) (x1 : List Int) (x13 : Int) (x14 : Int) (x60 : List Int) (x61 : Int) (x62 : Int) (x77 : List ((Bool × Int × Int) × Int × Int)) (x78 : Int) (x79 : Int) (xo0_0 : ByteArray) (xo0_1 : Int) (xo0_2 : Int) (xo0_3 : Int) (xo0_4 : Int) (xo0_5 : Int) (xo0_6 : Int) (xo0_7 : Int) (xo0_8 : ByteArray) (xo0_9 : List (Int × Int)) (xo0_10 : Bool) (xo0_11 : Int) (xo0_12 : Int) (xo1 : List (List ((Bool × Int × Int) × Int × Int))) (xo2 : List ((Bool × Int × Int) × Int × Int)) : dual_Single.l19 (k + 1) x1 x13 x14 x60 x61 x62 x77 x78 x79 xo0_0 xo0_1 xo0_2 xo0_3 xo0_4 xo0_5 xo0_6 xo0_7 xo0_8 xo0_9 xo0_10 xo0_11 xo0_12 xo1 xo2 = if x79 < x78 then
      if 0 ≤ x79 then
        if x79 < (x77.length : Int) then
          (unit_Next.f k (xo0_0, xo0_1, xo0_2, xo0_3, xo0_4, xo0_5, xo0_6, xo0_7) (rY11 x77 x79).1 (-1)).bind fun r4 =>
          if r4.2.2 = 0 then
            (dual_cut.f k ((xo0_0, xo0_1, xo0_2, xo0_3, xo0_4, xo0_5, xo0_6, xo0_7), (xo0_8, xo0_9), xo0_10, xo0_11, xo0_12) r4.1).bind fun r5 =>
            (dual_put.f k (r5, (rY11 x77 x79).2.1, x79) xo2).bind fun r6 =>
            dual_Single.l24 k x1 x13 x14 x79 x60 x61 x62 x77 x78 x79 xo0_0 xo0_1 xo0_2 xo0_3 xo0_4 xo0_5 xo0_6 xo0_7 xo0_8 xo0_9 xo0_10 xo0_11 xo0_12 xo1 r6 (rY11 x77 x79).1.1 (rY11 x77 x79).1.2.1 (rY11 x77 x79).1.2.2 (rY11 x77 x79).2.1 (rY11 x77 x79).2.2
          else dual_Single.l24 k x1 x13 x14 x79 x60 x61 x62 x77 x78 x79 xo0_0 xo0_1 xo0_2 xo0_3 xo0_4 xo0_5 xo0_6 xo0_7 xo0_8 xo0_9 xo0_10 xo0_11 xo0_12 xo1 xo2 (rY11 x77 x79).1.1 (rY11 x77 x79).1.2.1 (rY11 x77 x79).1.2.2 (rY11 x77 x79).2.1 (rY11 x77 x79).2.2
        else none
      else none
    else if (xo1.length + [xo2].length) * 24 ≤ 140737488355328 then
      dual_Single.l14 k x1 x60 x61 (wrap64 (x62 + 1)) xo0_0 xo0_1 xo0_2 xo0_3 xo0_4 xo0_5 xo0_6 xo0_7 xo0_8 xo0_9 xo0_10 xo0_11 xo0_12 (xo1 ++ [xo2])
    else none := rfl
theorem dual_Single.l24_eq (k : Nat) (x1 : List Int) (x13 : Int) (x14 : Int) (x16 : Int) (x60 : List Int) (x61 : Int) (x62 : Int) (x77 : List ((Bool × Int × Int) × Int × Int)) (x78 : Int) (x79 : Int) (xo0_0 : ByteArray) (xo0_1 : Int) (xo0_2 : Int) (xo0_3 : Int) (xo0_4 : Int) (xo0_5 : Int) (xo0_6 : Int) (xo0_7 : Int) (xo0_8 : ByteArray) (xo0_9 : List (Int × Int)) (xo0_10 : Bool) (xo0_11 : Int) (xo0_12 : Int) (xo1 : List (List ((Bool × Int × Int) × Int × Int))) (xo2 : List ((Bool × Int × Int) × Int × Int)) (xo3_0 : Bool) (xo3_1 : Int) (xo3_2 : Int) (xo3_3 : Int) (xo3_4 : Int) : dual_Single.l24 (k + 1) x1 x13 x14 x16 x60 x61 x62 x77 x78 x79 xo0_0 xo0_1 xo0_2 xo0_3 xo0_4 xo0_5 xo0_6 xo0_7 xo0_8 xo0_9 xo0_10 xo0_11 xo0_12 xo1 xo2 xo3_0 xo3_1 xo3_2 xo3_3 xo3_4 = (unit_Next.f k (xo0_0, xo0_1, xo0_2, xo0_3, xo0_4, xo0_5, xo0_6, xo0_7) (xo3_0, xo3_1, xo3_2) x13).bind fun r7 =>
    if r7.2.2 = 0 then
      (dual_cut.f k ((xo0_0, xo0_1, xo0_2, xo0_3, xo0_4, xo0_5, xo0_6, xo0_7), (xo0_8, xo0_9), xo0_10, xo0_11, xo0_12) r7.1).bind fun r8 =>
      (dual_put.f k (r8, wrap64 ((wrap64 (xo3_3 + x14)) - r7.2.1), x16) xo2).bind fun r9 =>
      dual_Single.l19 k x1 x13 x14 x60 x61 x62 x77 x78 (wrap64 (x79 + 1)) xo0_0 xo0_1 xo0_2 xo0_3 xo0_4 xo0_5 xo0_6 xo0_7 xo0_8 xo0_9 xo0_10 xo0_11 xo0_12 xo1 r9
    else dual_Single.l19 k x1 x13 x14 x60 x61 x62 x77 x78 (wrap64 (x79 + 1)) xo0_0 xo0_1 xo0_2 xo0_3 xo0_4 xo0_5 xo0_6 xo0_7 xo0_8 xo0_9 xo0_10 xo0_11 xo0_12 xo1 xo2 := rfl
def dual_Single.l7 : Nat → List Int → List Int → Int → Int → ByteArray → Int → Int → Int → Int → Int → Int → Int → ByteArray → (List (Int × Int)) → Bool → Int → Int → Option (List Int × Int × Int)
  | 0, _, _, _, _, _, _, _, _, _, _, _, _, _, _, _, _, _ => none
  | k + 1, x1, x40, x41, x42, xo0_0, xo0_1, xo0_2, xo0_3, xo0_4, xo0_5, xo0_6, xo0_7, xo0_8, xo0_9, xo0_10, xo0_11, xo0_12 => if x42 < x41 then
      if 0 ≤ x42 then
        if x42 < (x40.length : Int) then
          if (rI64 x40 x42) < (-2000000) then
            some ([], 0, 4)
          else if 2000000 < (rI64 x40 x42) then
            some ([], 0, 4)
          else dual_Single.l7 k x1 x40 x41 (wrap64 (x42 + 1)) xo0_0 xo0_1 xo0_2 xo0_3 xo0_4 xo0_5 xo0_6 xo0_7 xo0_8 xo0_9 xo0_10 xo0_11 xo0_12
        else none
      else none
    else (dual_cut.f k ((xo0_0, xo0_1, xo0_2, xo0_3, xo0_4, xo0_5, xo0_6, xo0_7), (xo0_8, xo0_9), xo0_10, xo0_11, xo0_12) (xo0_10, xo0_11, xo0_12)).bind fun r2 =>
    dual_Single.l14 k x1 x1 (x1.length : Int) 0 xo0_0 xo0_1 xo0_2 xo0_3 xo0_4 xo0_5 xo0_6 xo0_7 xo0_8 xo0_9 xo0_10 xo0_11 xo0_12 [[(r2, 0, 0)]]
theorem dual_Single.l7_eq (k : Nat) (x1 : List Int) (x40 : List Int) (x41 : Int) (x42 : Int) (xo0_0 : ByteArray) (xo0_1 : Int) (xo0_2 : Int) (xo0_3 : Int) (xo0_4 : Int) (xo0_5 : Int) (xo0_6 : Int) (xo0_7 : Int) (xo0_8 : ByteArray) (xo0_9 : List (Int × Int)) (xo0_10 : Bool) (xo0_11 : Int) (xo0_12 : Int) : dual_Single.l7 (k + 1) x1 x40 x41 x42 xo0_0 xo0_1 xo0_2 xo0_3 xo0_4 xo0_5 xo0_6 xo0_7 xo0_8 xo0_9 xo0_10 xo0_11 xo0_12 = if x42 < x41 then
      if 0 ≤ x42 then
        if x42 < (x40.length : Int) then
          if (rI64 x40 x42) < (-2000000) then
            some ([], 0, 4)
          else if 2000000 < (rI64 x40 x42) then
            some ([], 0, 4)
          else dual_Single.l7 k x1 x40 x41 (wrap64 (x42 + 1)) xo0_0 xo0_1 xo0_2 xo0_3 xo0_4 xo0_5 xo0_6 xo0_7 xo0_8 xo0_9 xo0_10 xo0_11 xo0_12
        else none
      else none
    else (dual_cut.f k ((xo0_0, xo0_1, xo0_2, xo0_3, xo0_4, xo0_5, xo0_6, xo0_7), (xo0_8, xo0_9), xo0_10, xo0_11, xo0_12) (xo0_10, xo0_11, xo0_12)).bind fun r2 =>
    dual_Single.l14 k x1 x1 (x1.length : Int) 0 xo0_0 xo0_1 xo0_2 xo0_3 xo0_4 xo0_5 xo0_6 xo0_7 xo0_8 xo0_9 xo0_10 xo0_11 xo0_12 [[(r2, 0, 0)]] := rfl
def dual_Single.f (k : Nat) (a0 : (ByteArray × Int × Int × Int × Int × Int × Int × Int) × (ByteArray × List (Int × Int)) × Bool × Int × Int) (a1 : List Int) : Option (List Int × Int × Int) :=
  (dual_Check.f k a0).bind fun r1 =>
  if r1 = 0 then
    if 8 < (a1.length : Int) then
      some ([], 0, 2)
    else dual_Single.l7 k a1 a1 (a1.length : Int) 0 a0.1.1 a0.1.2.1 a0.1.2.2.1 a0.1.2.2.2.1 a0.1.2.2.2.2.1 a0.1.2.2.2.2.2.1 a0.1.2.2.2.2.2.2.1 a0.1.2.2.2.2.2.2.2 a0.2.1.1 a0.2.1.2 a0.2.2.1 a0.2.2.2.1 a0.2.2.2.2
  else some ([], 0, r1)
def dual_Bound.l15 : Nat → List Int → Int → (List ((ByteArray × Int × Int × Int × Int × Int × Int × Int) × (ByteArray × List (Int × Int)) × Bool × Int × Int)) → Int → Int → Option (Int × Int)
  | 0, _, _, _, _, _ => none
  | k + 1, x2, x9, x56, x57, x58 => if x58 < x57 then
      if 0 ≤ x58 then
        if x58 < (x56.length : Int) then
          (dual_Single.f k (rY10 x56 x58) x2).bind fun r2 =>
          if r2.2.2 = 0 then
            dual_Bound.l15 k x2 (wrap64 (x9 - r2.2.1)) x56 x57 (wrap64 (x58 + 1))
          else some (0, r2.2.2)
        else none
      else none
    else some (x9, 0)
theorem dual_Bound.l15_eq (k : Nat) (x2 : List Int) (x9 : Int) (x56 : List ((ByteArray × Int × Int × Int × Int × Int × Int × Int) × (ByteArray × List (Int × Int)) × Bool × Int × Int)) (x57 : Int) (x58 : Int) : dual_Bound.l15 (k + 1) x2 x9 x56 x57 x58 = if x58 < x57 then
      if 0 ≤ x58 then
        if x58 < (x56.length : Int) then
          (dual_Single.f k (rY10 x56 x58) x2).bind fun r2 =>
          if r2.2.2 = 0 then
            dual_Bound.l15 k x2 (wrap64 (x9 - r2.2.1)) x56 x57 (wrap64 (x58 + 1))
          else some (0, r2.2.2)
        else none
      else none
    else some (x9, 0) := rfl
def dual_Bound.l8 : Nat → (List ((ByteArray × Int × Int × Int × Int × Int × Int × Int) × (ByteArray × List (Int × Int)) × Bool × Int × Int)) → List Int → Int → List Int → Int → Int → Option (Int × Int)
  | 0, _, _, _, _, _, _ => none
  | k + 1, x0, x2, x9, x28, x29, x30 => if x30 < x29 then
      if 0 ≤ x30 then
        if x30 < (x28.length : Int) then
          if 0 ≤ x30 then
            if x30 < (x2.length : Int) then
              if (rI64 x2 x30) < (-2000000) then
                some (0, 4)
              else if 0 ≤ x30 then
                if x30 < (x2.length : Int) then
                  if 2000000 < (rI64 x2 x30) then
                    some (0, 4)
                  else if 0 ≤ x30 then
                    if x30 < (x2.length : Int) then
                      dual_Bound.l8 k x0 x2 (wrap64 (x9 + (wrap64 ((rI64 x2 x30) * (rI64 x28 x30))))) x28 x29 (wrap64 (x30 + 1))
                    else none
                  else none
                else none
              else none
            else none
          else none
        else none
      else none
    else dual_Bound.l15 k x2 x9 x0 (x0.length : Int) 0
theorem dual_Bound.l8_eq (k : Nat) (x0 : List ((ByteArray × Int × Int × Int × Int × Int × Int × Int) × (ByteArray × List (Int × Int)) × Bool × Int × Int)) (x2 : List Int) (x9 : Int) (x28 : List Int) (x29 : Int) (x30 : Int) : dual_Bound.l8 (k + 1) x0 x2 x9 x28 x29 x30 = if x30 < x29 then
      if 0 ≤ x30 then
        if x30 < (x28.length : Int) then
          if 0 ≤ x30 then
            if x30 < (x2.length : Int) then
              if (rI64 x2 x30) < (-2000000) then
                some (0, 4)
              else if 0 ≤ x30 then
                if x30 < (x2.length : Int) then
                  if 2000000 < (rI64 x2 x30) then
                    some (0, 4)
                  else if 0 ≤ x30 then
                    if x30 < (x2.length : Int) then
                      dual_Bound.l8 k x0 x2 (wrap64 (x9 + (wrap64 ((rI64 x2 x30) * (rI64 x28 x30))))) x28 x29 (wrap64 (x30 + 1))
                    else none
                  else none
                else none
              else none
            else none
          else none
        else none
      else none
    else dual_Bound.l15 k x2 x9 x0 (x0.length : Int) 0 := rfl
def dual_Bound.f (k : Nat) (a0 : List ((ByteArray × Int × Int × Int × Int × Int × Int × Int) × (ByteArray × List (Int × Int)) × Bool × Int × Int)) (a1 : List Int) (a2 : List Int) : Option (Int × Int) :=
  (dual_CheckAll.f k a0 a1).bind fun r1 =>
  if r1 = 0 then
    if (a2.length : Int) = (a1.length : Int) then
      dual_Bound.l8 k a0 a2 0 a1 (a1.length : Int) 0
    else some (0, 3)
  else some (0, r1)
def dual_Step.l19 : Nat → List Int → Int → List Int → Int → Int → List Int → List Int → Option (List Int × Int)
  | 0, _, _, _, _, _, _, _ => none
  | k + 1, x1, x3, x75, x76, x77, xo0, xo1 => if x77 < x76 then
      if 0 ≤ x77 then
        if x77 < (x75.length : Int) then
          if 0 ≤ x77 then
            if x77 < (xo0.length : Int) then
              if 0 ≤ x77 then
                if x77 < (x1.length : Int) then
                  if (rI64 xo0 x77) < (rI64 x1 x77) then
                    if 0 ≤ x77 then
                      if x77 < (xo1.length : Int) then
                        dual_Step.l19 k x1 x3 x75 x76 (wrap64 (x77 + 1)) xo0 (xo1.set x77.toNat (mx (-2000000) (mn (wrap64 ((rI64 x75 x77) + x3)) 2000000)))
                      else none
                    else none
                  else if 0 ≤ x77 then
                    if x77 < (xo0.length : Int) then
                      if 0 ≤ x77 then
                        if x77 < (x1.length : Int) then
                          if (rI64 x1 x77) < (rI64 xo0 x77) then
                            if 0 ≤ x77 then
                              if x77 < (xo1.length : Int) then
                                dual_Step.l19 k x1 x3 x75 x76 (wrap64 (x77 + 1)) xo0 (xo1.set x77.toNat (mx (-2000000) (mn (wrap64 ((rI64 x75 x77) - x3)) 2000000)))
                              else none
                            else none
                          else if 0 ≤ x77 then
                            if x77 < (xo1.length : Int) then
                              dual_Step.l19 k x1 x3 x75 x76 (wrap64 (x77 + 1)) xo0 (xo1.set x77.toNat (mx (-2000000) (mn (rI64 x75 x77) 2000000)))
                            else none
                          else none
                        else none
                      else none
                    else none
                  else none
                else none
              else none
            else none
          else none
        else none
      else none
    else some (xo1, 0)
theorem dual_Step.l19_eq (k : Nat) (x1 : List Int) (x3 : Int) (x75 : List Int) (x76 : Int) (x77 : Int) (xo0 : List Int) (xo1 : List Int) : dual_Step.l19 (k + 1) x1 x3 x75 x76 x77 xo0 xo1 = if x77 < x76 then
      if 0 ≤ x77 then
        if x77 < (x75.length : Int) then
          if 0 ≤ x77 then
            if x77 < (xo0.length : Int) then
              if 0 ≤ x77 then
                if x77 < (x1.length : Int) then
                  if (rI64 xo0 x77) < (rI64 x1 x77) then
                    if 0 ≤ x77 then
                      if x77 < (xo1.length : Int) then
                        dual_Step.l19 k x1 x3 x75 x76 (wrap64 (x77 + 1)) xo0 (xo1.set x77.toNat (mx (-2000000) (mn (wrap64 ((rI64 x75 x77) + x3)) 2000000)))
                      else none
                    else none
                  else if 0 ≤ x77 then
                    if x77 < (xo0.length : Int) then
                      if 0 ≤ x77 then
                        if x77 < (x1.length : Int) then
                          if (rI64 x1 x77) < (rI64 xo0 x77) then
                            if 0 ≤ x77 then
                              if x77 < (xo1.length : Int) then
                                dual_Step.l19 k x1 x3 x75 x76 (wrap64 (x77 + 1)) xo0 (xo1.set x77.toNat (mx (-2000000) (mn (wrap64 ((rI64 x75 x77) - x3)) 2000000)))
                              else none
                            else none
                          else if 0 ≤ x77 then
                            if x77 < (xo1.length : Int) then
                              dual_Step.l19 k x1 x3 x75 x76 (wrap64 (x77 + 1)) xo0 (xo1.set x77.toNat (mx (-2000000) (mn (rI64 x75 x77) 2000000)))
                            else none
                          else none
                        else none
                      else none
                    else none
                  else none
                else none
              else none
            else none
          else none
        else none
      else none
    else some (xo1, 0) := rfl
mutual
def dual_Step.l8 : Nat → List Int → List Int → Int → (List ((ByteArray × Int × Int × Int × Int × Int × Int × Int) × (ByteArray × List (Int × Int)) × Bool × Int × Int)) → Int → Int → List Int → Option (List Int × Int)
  | 0, _, _, _, _, _, _, _ => none
  | k + 1, x1, x2, x3, x42, x43, x44, xo0 => if x44 < x43 then
      if 0 ≤ x44 then
        if x44 < (x42.length : Int) then
          (dual_Single.f k (rY10 x42 x44) x2).bind fun r2 =>
          dual_Step.l12 k x1 x2 x3 x42 x43 x44 r2.1 (r2.1.length : Int) 0 xo0
        else none
      else none
    else if 0 ≤ (x2.length : Int) then
      if (x2.length : Int) * 8 ≤ 140737488355328 then
        if (x2.length : Int) ≤ 140737488355328 then
          dual_Step.l19 k x1 x3 x2 (x2.length : Int) 0 xo0 (List.replicate (x2.length : Int).toNat 0)
        else none
      else none
    else none
def dual_Step.l12 : Nat → List Int → List Int → Int → (List ((ByteArray × Int × Int × Int × Int × Int × Int × Int) × (ByteArray × List (Int × Int)) × Bool × Int × Int)) → Int → Int → List Int → Int → Int → List Int → Option (List Int × Int)
  | 0, _, _, _, _, _, _, _, _, _, _ => none
  | k + 1, x1, x2, x3, x42, x43, x44, x55, x56, x57, xo0 => if x57 < x56 then
      if 0 ≤ x57 then
        if x57 < (x55.length : Int) then
          if 0 ≤ x57 then
            if x57 < (xo0.length : Int) then
              if 0 ≤ x57 then
                if x57 < (xo0.length : Int) then
                  dual_Step.l12 k x1 x2 x3 x42 x43 x44 x55 x56 (wrap64 (x57 + 1)) (xo0.set x57.toNat (wrap64 ((rI64 xo0 x57) + (mx (rI64 x55 x57) 0))))
                else none
              else none
            else none
          else none
        else none
      else none
    else dual_Step.l8 k x1 x2 x3 x42 x43 (wrap64 (x44 + 1)) xo0
end
theorem dual_Step.l8_eq (k : Nat) (x1 : List Int) (x2 : List Int) (x3 : Int) (x42 : List ((ByteArray × Int × Int × Int × Int × Int × Int × Int) × (ByteArray × List (Int × Int)) × Bool × Int × Int)) (x43 : Int) (x44 : Int) (xo0 : List Int) : dual_Step.l8 (k + 1) x1 x2 x3 x42 x43 x44 xo0 = if x44 < x43 then
      if 0 ≤ x44 then
        if x44 < (x42.length : Int) then
          (dual_Single.f k (rY10 x42 x44) x2).bind fun r2 =>
          dual_Step.l12 k x1 x2 x3 x42 x43 x44 r2.1 (r2.1.length : Int) 0 xo0
        else none
      else none
    else if 0 ≤ (x2.length : Int) then
      if (x2.length : Int) * 8 ≤ 140737488355328 then
        if (x2.length : Int) ≤ 140737488355328 then
          dual_Step.l19 k x1 x3 x2 (x2.length : Int) 0 xo0 (List.replicate (x2.length : Int).toNat 0)
        else none
      else none
    else none := rfl
theorem dual_Step.l12_eq (k : Nat) (x1 : List Int) (x2 : List Int) (x3 : Int) (x42 : List ((ByteArray × Int × Int × Int × Int × Int × Int × Int) × (ByteArray × List (Int × Int)) × Bool × Int × Int)) (x43 : Int) (x44 : Int) (x55 : List Int) (x56 : Int) (x57 : Int) (xo0 : List Int) : dual_Step.l12 (k + 1) x1 x2 x3 x42 x43 x44 x55 x56 x57 xo0 = if x57 < x56 then
      if 0 ≤ x57 then
        if x57 < (x55.length : Int) then
          if 0 ≤ x57 then
            if x57 < (xo0.length : Int) then
              if 0 ≤ x57 then
                if x57 < (xo0.length : Int) then
                  dual_Step.l12 k x1 x2 x3 x42 x43 x44 x55 x56 (wrap64 (x57 + 1)) (xo0.set x57.toNat (wrap64 ((rI64 xo0 x57) + (mx (rI64 x55 x57) 0))))
                else none
              else none
            else none
          else none
        else none
      else none
    else dual_Step.l8 k x1 x2 x3 x42 x43 (wrap64 (x44 + 1)) xo0 := rfl
def dual_Step.f (k : Nat) (a0 : List ((ByteArray × Int × Int × Int × Int × Int × Int × Int) × (ByteArray × List (Int × Int)) × Bool × Int × Int)) (a1 : List Int) (a2 : List Int) (a3 : Int) : Option (List Int × Int) :=
  (dual_Bound.f k a0 a1 a2).bind fun r1 =>
  if r1.2 = 0 then
    if a3 < 1 then
      some ([], 1)
    else if 1000000 < a3 then
      some ([], 1)
    else if 0 ≤ (a1.length : Int) then
      if (a1.length : Int) * 8 ≤ 140737488355328 then
        if (a1.length : Int) ≤ 140737488355328 then
          dual_Step.l8 k a1 a2 a3 a0 (a0.length : Int) 0 (List.replicate (a1.length : Int).toNat 0)
        else none
      else none
    else none
  else some ([], r1.2)
def slices_Equal_int.l4 : Nat → List Int → List Int → Int → Int → Option Bool
  | 0, _, _, _, _ => none
  | k + 1, x0, x1, x12, x13 => if x13 < x12 then
      if 0 ≤ x13 then
        if x13 < (x0.length : Int) then
          if 0 ≤ x13 then
            if x13 < (x1.length : Int) then
              if (rI64 x0 x13) = (rI64 x1 x13) then
                slices_Equal_int.l4 k x0 x1 x12 (wrap64 (x13 + 1))
              else some false
            else none
          else none
        else none
      else none
    else some true
theorem slices_Equal_int.l4_eq (k : Nat) (x0 : List Int) (x1 : List Int) (x12 : Int) (x13 : Int) : slices_Equal_int.l4 (k + 1) x0 x1 x12 x13 = if x13 < x12 then
      if 0 ≤ x13 then
        if x13 < (x0.length : Int) then
          if 0 ≤ x13 then
            if x13 < (x1.length : Int) then
              if (rI64 x0 x13) = (rI64 x1 x13) then
                slices_Equal_int.l4 k x0 x1 x12 (wrap64 (x13 + 1))
              else some false
            else none
          else none
        else none
      else none
    else some true := rfl
def slices_Equal_int.f (k : Nat) (a0 : List Int) (a1 : List Int) : Option Bool :=
  if (a0.length : Int) = (a1.length : Int) then
    slices_Equal_int.l4 k a0 a1 (a0.length : Int) 0
  else some false
def gridhallkeep3_DualSteps.l23 : Nat → List Int → List Int → Int → List Int → Int → Int → List Int → Option Bool
  | 0, _, _, _, _, _, _, _ => none
  | k + 1, x1, x2, x3, x100, x101, x102, xo0 => if x102 < x101 then
      if 0 ≤ x102 then
        if x102 < (x100.length : Int) then
          if 0 ≤ x102 then
            if x102 < (x2.length : Int) then
              if x3 < (wrap64 ((rI64 x100 x102) - (rI64 x2 x102))) then
                some false
              else if (wrap64 ((rI64 x100 x102) - (rI64 x2 x102))) < (wrap64 (0 - x3)) then
                some false
              else if 0 ≤ x102 then
                if x102 < (xo0.length : Int) then
                  if 0 ≤ x102 then
                    if x102 < (x1.length : Int) then
                      if (decide ((rI64 xo0 x102) = (rI64 x1 x102))) = (decide ((wrap64 ((rI64 x100 x102) - (rI64 x2 x102))) = 0)) then
                        if 0 < (wrap64 ((rI64 x100 x102) - (rI64 x2 x102))) then
                          if 0 ≤ x102 then
                            if x102 < (xo0.length : Int) then
                              if 0 ≤ x102 then
                                if x102 < (x1.length : Int) then
                                  if (rI64 x1 x102) < (rI64 xo0 x102) then
                                    some false
                                  else gridhallkeep3_DualSteps.l23 k x1 x2 x3 x100 x101 (wrap64 (x102 + 1)) xo0
                                else none
                              else none
                            else none
                          else none
                        else gridhallkeep3_DualSteps.l23 k x1 x2 x3 x100 x101 (wrap64 (x102 + 1)) xo0
                      else if (rI64 x100 x102) = 2000000 then
                        if 0 < (wrap64 ((rI64 x100 x102) - (rI64 x2 x102))) then
                          if 0 ≤ x102 then
                            if x102 < (xo0.length : Int) then
                              if 0 ≤ x102 then
                                if x102 < (x1.length : Int) then
                                  if (rI64 x1 x102) < (rI64 xo0 x102) then
                                    some false
                                  else gridhallkeep3_DualSteps.l23 k x1 x2 x3 x100 x101 (wrap64 (x102 + 1)) xo0
                                else none
                              else none
                            else none
                          else none
                        else gridhallkeep3_DualSteps.l23 k x1 x2 x3 x100 x101 (wrap64 (x102 + 1)) xo0
                      else if (rI64 x100 x102) = (-2000000) then
                        if 0 < (wrap64 ((rI64 x100 x102) - (rI64 x2 x102))) then
                          if 0 ≤ x102 then
                            if x102 < (xo0.length : Int) then
                              if 0 ≤ x102 then
                                if x102 < (x1.length : Int) then
                                  if (rI64 x1 x102) < (rI64 xo0 x102) then
                                    some false
                                  else gridhallkeep3_DualSteps.l23 k x1 x2 x3 x100 x101 (wrap64 (x102 + 1)) xo0
                                else none
                              else none
                            else none
                          else none
                        else gridhallkeep3_DualSteps.l23 k x1 x2 x3 x100 x101 (wrap64 (x102 + 1)) xo0
                      else some false
                    else none
                  else none
                else none
              else none
            else none
          else none
        else none
      else none
    else some true
theorem gridhallkeep3_DualSteps.l23_eq (k : Nat) (x1 : List Int) (x2 : List Int) (x3 : Int) (x100 : List Int) (x101 : Int) (x102 : Int) (xo0 : List Int) : gridhallkeep3_DualSteps.l23 (k + 1) x1 x2 x3 x100 x101 x102 xo0 = if x102 < x101 then
      if 0 ≤ x102 then
        if x102 < (x100.length : Int) then
          if 0 ≤ x102 then
            if x102 < (x2.length : Int) then
              if x3 < (wrap64 ((rI64 x100 x102) - (rI64 x2 x102))) then
                some false
              else if (wrap64 ((rI64 x100 x102) - (rI64 x2 x102))) < (wrap64 (0 - x3)) then
                some false
              else if 0 ≤ x102 then
                if x102 < (xo0.length : Int) then
                  if 0 ≤ x102 then
                    if x102 < (x1.length : Int) then
                      if (decide ((rI64 xo0 x102) = (rI64 x1 x102))) = (decide ((wrap64 ((rI64 x100 x102) - (rI64 x2 x102))) = 0)) then
                        if 0 < (wrap64 ((rI64 x100 x102) - (rI64 x2 x102))) then
                          if 0 ≤ x102 then
                            if x102 < (xo0.length : Int) then
                              if 0 ≤ x102 then
                                if x102 < (x1.length : Int) then
                                  if (rI64 x1 x102) < (rI64 xo0 x102) then
                                    some false
                                  else gridhallkeep3_DualSteps.l23 k x1 x2 x3 x100 x101 (wrap64 (x102 + 1)) xo0
                                else none
                              else none
                            else none
                          else none
                        else gridhallkeep3_DualSteps.l23 k x1 x2 x3 x100 x101 (wrap64 (x102 + 1)) xo0
                      else if (rI64 x100 x102) = 2000000 then
                        if 0 < (wrap64 ((rI64 x100 x102) - (rI64 x2 x102))) then
                          if 0 ≤ x102 then
                            if x102 < (xo0.length : Int) then
                              if 0 ≤ x102 then
                                if x102 < (x1.length : Int) then
                                  if (rI64 x1 x102) < (rI64 xo0 x102) then
                                    some false
                                  else gridhallkeep3_DualSteps.l23 k x1 x2 x3 x100 x101 (wrap64 (x102 + 1)) xo0
                                else none
                              else none
                            else none
                          else none
                        else gridhallkeep3_DualSteps.l23 k x1 x2 x3 x100 x101 (wrap64 (x102 + 1)) xo0
                      else if (rI64 x100 x102) = (-2000000) then
                        if 0 < (wrap64 ((rI64 x100 x102) - (rI64 x2 x102))) then
                          if 0 ≤ x102 then
                            if x102 < (xo0.length : Int) then
                              if 0 ≤ x102 then
                                if x102 < (x1.length : Int) then
                                  if (rI64 x1 x102) < (rI64 xo0 x102) then
                                    some false
                                  else gridhallkeep3_DualSteps.l23 k x1 x2 x3 x100 x101 (wrap64 (x102 + 1)) xo0
                                else none
                              else none
                            else none
                          else none
                        else gridhallkeep3_DualSteps.l23 k x1 x2 x3 x100 x101 (wrap64 (x102 + 1)) xo0
                      else some false
                    else none
                  else none
                else none
              else none
            else none
          else none
        else none
      else none
    else some true := rfl
mutual
def gridhallkeep3_DualSteps.l11 : Nat → List Int → List Int → Int → List Int → (List ((ByteArray × Int × Int × Int × Int × Int × Int × Int) × (ByteArray × List (Int × Int)) × Bool × Int × Int)) → Int → Int → List Int → Option Bool
  | 0, _, _, _, _, _, _, _, _ => none
  | k + 1, x1, x2, x3, x11, x61, x62, x63, xo0 => if x63 < x62 then
      if 0 ≤ x63 then
        if x63 < (x61.length : Int) then
          (dual_Single.f k (rY10 x61 x63) x2).bind fun r5 =>
          if r5.2.2 = 0 then
            if (r5.1.length : Int) = (x2.length : Int) then
              gridhallkeep3_DualSteps.l17 k x1 x2 x3 x11 x61 x62 x63 r5.1 (r5.1.length : Int) 0 xo0
            else some false
          else some false
        else none
      else none
    else gridhallkeep3_DualSteps.l23 k x1 x2 x3 x11 (x11.length : Int) 0 xo0
def gridhallkeep3_DualSteps.l17 : Nat → List Int → List Int → Int → List Int → (List ((ByteArray × Int × Int × Int × Int × Int × Int × Int) × (ByteArray × List (Int × Int)) × Bool × Int × Int)) → Int → Int → List Int → Int → Int → List Int → Option Bool
  | 0, _, _, _, _, _, _, _, _, _, _, _ => none
  | k + 1, x1, x2, x3, x11, x61, x62, x63, x83, x84, x85, xo0 => if x85 < x84 then
      if 0 ≤ x85 then
        if x85 < (x83.length : Int) then
          if 0 ≤ x85 then
            if x85 < (xo0.length : Int) then
              if 0 ≤ x85 then
                if x85 < (xo0.length : Int) then
                  gridhallkeep3_DualSteps.l17 k x1 x2 x3 x11 x61 x62 x63 x83 x84 (wrap64 (x85 + 1)) (xo0.set x85.toNat (wrap64 ((rI64 xo0 x85) + (mx (rI64 x83 x85) 0))))
                else none
              else none
            else none
          else none
        else none
      else none
    else gridhallkeep3_DualSteps.l11 k x1 x2 x3 x11 x61 x62 (wrap64 (x63 + 1)) xo0
end
theorem gridhallkeep3_DualSteps.l11_eq (k : Nat) (x1 : List Int) (x2 : List Int) (x3 : Int) (x11 : List Int) (x61 : List ((ByteArray × Int × Int × Int × Int × Int × Int × Int) × (ByteArray × List (Int × Int)) × Bool × Int × Int)) (x62 : Int) (x63 : Int) (xo0 : List Int) : gridhallkeep3_DualSteps.l11 (k + 1) x1 x2 x3 x11 x61 x62 x63 xo0 = if x63 < x62 then
      if 0 ≤ x63 then
        if x63 < (x61.length : Int) then
          (dual_Single.f k (rY10 x61 x63) x2).bind fun r5 =>
          if r5.2.2 = 0 then
            if (r5.1.length : Int) = (x2.length : Int) then
              gridhallkeep3_DualSteps.l17 k x1 x2 x3 x11 x61 x62 x63 r5.1 (r5.1.length : Int) 0 xo0
            else some false
          else some false
        else none
      else none
    else gridhallkeep3_DualSteps.l23 k x1 x2 x3 x11 (x11.length : Int) 0 xo0 := rfl
theorem gridhallkeep3_DualSteps.l17_eq (k : Nat) (x1 : List Int) (x2 : List Int) (x3 : Int) (x11 : List Int) (x61 : List ((ByteArray × Int × Int × Int × Int × Int × Int × Int) × (ByteArray × List (Int × Int)) × Bool × Int × Int)) (x62 : Int) (x63 : Int) (x83 : List Int) (x84 : Int) (x85 : Int) (xo0 : List Int) : gridhallkeep3_DualSteps.l17 (k + 1) x1 x2 x3 x11 x61 x62 x63 x83 x84 x85 xo0 = if x85 < x84 then
      if 0 ≤ x85 then
        if x85 < (x83.length : Int) then
          if 0 ≤ x85 then
            if x85 < (xo0.length : Int) then
              if 0 ≤ x85 then
                if x85 < (xo0.length : Int) then
                  gridhallkeep3_DualSteps.l17 k x1 x2 x3 x11 x61 x62 x63 x83 x84 (wrap64 (x85 + 1)) (xo0.set x85.toNat (wrap64 ((rI64 xo0 x85) + (mx (rI64 x83 x85) 0))))
                else none
              else none
            else none
          else none
        else none
      else none
    else gridhallkeep3_DualSteps.l11 k x1 x2 x3 x11 x61 x62 (wrap64 (x63 + 1)) xo0 := rfl
def gridhallkeep3_DualSteps.f (k : Nat) (a0 : List ((ByteArray × Int × Int × Int × Int × Int × Int × Int) × (ByteArray × List (Int × Int)) × Bool × Int × Int)) (a1 : List Int) (a2 : List Int) (a3 : Int) : Option Bool :=
  (gridhallkeep3_alone.f k).bind fun r1 =>
  (dual_Step.f k [r1] [12] [0] 3).bind fun r2 =>
  if r2.2 = 0 then
    (slices_Equal_int.f k r2.1 [3]).bind fun r3 =>
    if r3 = true then
      (dual_Step.f k a0 a1 a2 a3).bind fun r4 =>
      if r4.2 = 0 then
        if (r4.1.length : Int) = (a2.length : Int) then
          if 0 ≤ (a2.length : Int) then
            if (a2.length : Int) * 8 ≤ 140737488355328 then
              if (a2.length : Int) ≤ 140737488355328 then
                gridhallkeep3_DualSteps.l11 k a1 a2 a3 r4.1 a0 (a0.length : Int) 0 (List.replicate (a2.length : Int).toNat 0)
              else none
            else none
          else none
        else some false
      else some (decide ((r4.1.length : Int) = 0))
    else some false
  else some false
end Go.Proofs.Ytodagcbcdkfniaa.VE
