/- Functions as plain Lean (definitions printed by a program; no statement is proved here). -/
import Derived.Test.YtodagcbcdkfniaaVpEv
namespace Go.Proofs.Ytodagcbcdkfniaa.VE
set_option linter.unusedVariables false
open Go Go.RowKit
abbrev Y0 : Ty := .pair (.int .i64) (.int .i64)
abbrev Y1 : Ty := .pair (.int .i64) Y0
abbrev Y2 : Ty := .pair (.int .i64) Y1
abbrev Y3 : Ty := .pair (.int .i64) Y2
abbrev Y4 : Ty := .pair (.int .i64) Y3
abbrev Y5 : Ty := .pair (.int .i64) Y4
abbrev Y6 : Ty := .pair .str Y5
abbrev Y7 : Ty := .pair .str (.list 72 Y0)
abbrev Y8 : Ty := .pair .bool Y0
abbrev Y9 : Ty := .pair Y7 Y8
abbrev Y10 : Ty := .pair Y6 Y9
abbrev Y11 : Ty := .pair Y8 Y0
abbrev Y12 : Ty := .pair (.list 31 Y8) Y1
abbrev rBool (xs : List Bool) (i : Int) : Bool := rd .bool xs i
theorem rBool_mem {xs : List Bool} {i : Int} (h0 : 0 ≤ i) (h1 : i < (xs.length : Int)) : rBool xs i ∈ xs := rd_mem (t := .bool) h0 h1
theorem rBool_get (xs : List Bool) (j : Nat) (x : Bool) (h : xs[j]? = some x) : rBool xs (j : Int) = x := rd_get (t := .bool) xs j x h
theorem rBool_drop {xs : List Bool} {i : Int} (h0 : 0 ≤ i) (h1 : i < (xs.length : Int)) : xs.drop i.toNat = rBool xs i :: xs.drop (i + 1).toNat := drop_rd (t := .bool) h0 h1
theorem rBool_some {xs : List Bool} {i : Int} (h0 : 0 ≤ i) (h1 : i < (xs.length : Int)) : xs[i.toNat]? = some (rBool xs i) := rd_some (t := .bool) h0 h1
theorem rBool_set {xs : List Bool} {i : Int} (v : Bool) (h0 : 0 ≤ i) (h1 : i < (xs.length : Int)) {j : Int} (hj : 0 ≤ j) : rBool (xs.set i.toNat v) j = if j = i then v else rBool xs j := rd_set (t := .bool) v h0 h1 hj
abbrev rI64 (xs : List Int) (i : Int) : Int := rd (.int .i64) xs i
theorem rI64_mem {xs : List Int} {i : Int} (h0 : 0 ≤ i) (h1 : i < (xs.length : Int)) : rI64 xs i ∈ xs := rd_mem (t := (.int .i64)) h0 h1
theorem rI64_get (xs : List Int) (j : Nat) (x : Int) (h : xs[j]? = some x) : rI64 xs (j : Int) = x := rd_get (t := (.int .i64)) xs j x h
theorem rI64_drop {xs : List Int} {i : Int} (h0 : 0 ≤ i) (h1 : i < (xs.length : Int)) : xs.drop i.toNat = rI64 xs i :: xs.drop (i + 1).toNat := drop_rd (t := (.int .i64)) h0 h1
theorem rI64_some {xs : List Int} {i : Int} (h0 : 0 ≤ i) (h1 : i < (xs.length : Int)) : xs[i.toNat]? = some (rI64 xs i) := rd_some (t := (.int .i64)) h0 h1
theorem rI64_set {xs : List Int} {i : Int} (v : Int) (h0 : 0 ≤ i) (h1 : i < (xs.length : Int)) {j : Int} (hj : 0 ≤ j) : rI64 (xs.set i.toNat v) j = if j = i then v else rI64 xs j := rd_set (t := (.int .i64)) v h0 h1 hj
abbrev rY0 (xs : List (Int × Int)) (i : Int) : Int × Int := rd Y0 xs i
theorem rY0_mem {xs : List (Int × Int)} {i : Int} (h0 : 0 ≤ i) (h1 : i < (xs.length : Int)) : rY0 xs i ∈ xs := rd_mem (t := Y0) h0 h1
theorem rY0_get (xs : List (Int × Int)) (j : Nat) (x : Int × Int) (h : xs[j]? = some x) : rY0 xs (j : Int) = x := rd_get (t := Y0) xs j x h
theorem rY0_drop {xs : List (Int × Int)} {i : Int} (h0 : 0 ≤ i) (h1 : i < (xs.length : Int)) : xs.drop i.toNat = rY0 xs i :: xs.drop (i + 1).toNat := drop_rd (t := Y0) h0 h1
theorem rY0_some {xs : List (Int × Int)} {i : Int} (h0 : 0 ≤ i) (h1 : i < (xs.length : Int)) : xs[i.toNat]? = some (rY0 xs i) := rd_some (t := Y0) h0 h1
theorem rY0_set {xs : List (Int × Int)} {i : Int} (v : Int × Int) (h0 : 0 ≤ i) (h1 : i < (xs.length : Int)) {j : Int} (hj : 0 ≤ j) : rY0 (xs.set i.toNat v) j = if j = i then v else rY0 xs j := rd_set (t := Y0) v h0 h1 hj
abbrev rY1 (xs : List (Int × Int × Int)) (i : Int) : Int × Int × Int := rd Y1 xs i
theorem rY1_mem {xs : List (Int × Int × Int)} {i : Int} (h0 : 0 ≤ i) (h1 : i < (xs.length : Int)) : rY1 xs i ∈ xs := rd_mem (t := Y1) h0 h1
theorem rY1_get (xs : List (Int × Int × Int)) (j : Nat) (x : Int × Int × Int) (h : xs[j]? = some x) : rY1 xs (j : Int) = x := rd_get (t := Y1) xs j x h
theorem rY1_drop {xs : List (Int × Int × Int)} {i : Int} (h0 : 0 ≤ i) (h1 : i < (xs.length : Int)) : xs.drop i.toNat = rY1 xs i :: xs.drop (i + 1).toNat := drop_rd (t := Y1) h0 h1
theorem rY1_some {xs : List (Int × Int × Int)} {i : Int} (h0 : 0 ≤ i) (h1 : i < (xs.length : Int)) : xs[i.toNat]? = some (rY1 xs i) := rd_some (t := Y1) h0 h1
theorem rY1_set {xs : List (Int × Int × Int)} {i : Int} (v : Int × Int × Int) (h0 : 0 ≤ i) (h1 : i < (xs.length : Int)) {j : Int} (hj : 0 ≤ j) : rY1 (xs.set i.toNat v) j = if j = i then v else rY1 xs j := rd_set (t := Y1) v h0 h1 hj
abbrev rY10 (xs : List ((ByteArray × Int × Int × Int × Int × Int × Int × Int) × (ByteArray × List (Int × Int)) × Bool × Int × Int)) (i : Int) : (ByteArray × Int × Int × Int × Int × Int × Int × Int) × (ByteArray × List (Int × Int)) × Bool × Int × Int := rd Y10 xs i
theorem rY10_mem {xs : List ((ByteArray × Int × Int × Int × Int × Int × Int × Int) × (ByteArray × List (Int × Int)) × Bool × Int × Int)} {i : Int} (h0 : 0 ≤ i) (h1 : i < (xs.length : Int)) : rY10 xs i ∈ xs := rd_mem (t := Y10) h0 h1
theorem rY10_get (xs : List ((ByteArray × Int × Int × Int × Int × Int × Int × Int) × (ByteArray × List (Int × Int)) × Bool × Int × Int)) (j : Nat) (x : (ByteArray × Int × Int × Int × Int × Int × Int × Int) × (ByteArray × List (Int × Int)) × Bool × Int × Int) (h : xs[j]? = some x) : rY10 xs (j : Int) = x := rd_get (t := Y10) xs j x h
theorem rY10_drop {xs : List ((ByteArray × Int × Int × Int × Int × Int × Int × Int) × (ByteArray × List (Int × Int)) × Bool × Int × Int)} {i : Int} (h0 : 0 ≤ i) (h1 : i < (xs.length : Int)) : xs.drop i.toNat = rY10 xs i :: xs.drop (i + 1).toNat := drop_rd (t := Y10) h0 h1
theorem rY10_some {xs : List ((ByteArray × Int × Int × Int × Int × Int × Int × Int) × (ByteArray × List (Int × Int)) × Bool × Int × Int)} {i : Int} (h0 : 0 ≤ i) (h1 : i < (xs.length : Int)) : xs[i.toNat]? = some (rY10 xs i) := rd_some (t := Y10) h0 h1
theorem rY10_set {xs : List ((ByteArray × Int × Int × Int × Int × Int × Int × Int) × (ByteArray × List (Int × Int)) × Bool × Int × Int)} {i : Int} (v : (ByteArray × Int × Int × Int × Int × Int × Int × Int) × (ByteArray × List (Int × Int)) × Bool × Int × Int) (h0 : 0 ≤ i) (h1 : i < (xs.length : Int)) {j : Int} (hj : 0 ≤ j) : rY10 (xs.set i.toNat v) j = if j = i then v else rY10 xs j := rd_set (t := Y10) v h0 h1 hj
abbrev rY11 (xs : List ((Bool × Int × Int) × Int × Int)) (i : Int) : (Bool × Int × Int) × Int × Int := rd Y11 xs i
theorem rY11_mem {xs : List ((Bool × Int × Int) × Int × Int)} {i : Int} (h0 : 0 ≤ i) (h1 : i < (xs.length : Int)) : rY11 xs i ∈ xs := rd_mem (t := Y11) h0 h1
theorem rY11_get (xs : List ((Bool × Int × Int) × Int × Int)) (j : Nat) (x : (Bool × Int × Int) × Int × Int) (h : xs[j]? = some x) : rY11 xs (j : Int) = x := rd_get (t := Y11) xs j x h
theorem rY11_drop {xs : List ((Bool × Int × Int) × Int × Int)} {i : Int} (h0 : 0 ≤ i) (h1 : i < (xs.length : Int)) : xs.drop i.toNat = rY11 xs i :: xs.drop (i + 1).toNat := drop_rd (t := Y11) h0 h1
theorem rY11_some {xs : List ((Bool × Int × Int) × Int × Int)} {i : Int} (h0 : 0 ≤ i) (h1 : i < (xs.length : Int)) : xs[i.toNat]? = some (rY11 xs i) := rd_some (t := Y11) h0 h1
theorem rY11_set {xs : List ((Bool × Int × Int) × Int × Int)} {i : Int} (v : (Bool × Int × Int) × Int × Int) (h0 : 0 ≤ i) (h1 : i < (xs.length : Int)) {j : Int} (hj : 0 ≤ j) : rY11 (xs.set i.toNat v) j = if j = i then v else rY11 xs j := rd_set (t := Y11) v h0 h1 hj
abbrev rY12 (xs : List ((List (Bool × Int × Int)) × Int × Int × Int)) (i : Int) : (List (Bool × Int × Int)) × Int × Int × Int := rd Y12 xs i
theorem rY12_mem {xs : List ((List (Bool × Int × Int)) × Int × Int × Int)} {i : Int} (h0 : 0 ≤ i) (h1 : i < (xs.length : Int)) : rY12 xs i ∈ xs := rd_mem (t := Y12) h0 h1
theorem rY12_get (xs : List ((List (Bool × Int × Int)) × Int × Int × Int)) (j : Nat) (x : (List (Bool × Int × Int)) × Int × Int × Int) (h : xs[j]? = some x) : rY12 xs (j : Int) = x := rd_get (t := Y12) xs j x h
theorem rY12_drop {xs : List ((List (Bool × Int × Int)) × Int × Int × Int)} {i : Int} (h0 : 0 ≤ i) (h1 : i < (xs.length : Int)) : xs.drop i.toNat = rY12 xs i :: xs.drop (i + 1).toNat := drop_rd (t := Y12) h0 h1
theorem rY12_some {xs : List ((List (Bool × Int × Int)) × Int × Int × Int)} {i : Int} (h0 : 0 ≤ i) (h1 : i < (xs.length : Int)) : xs[i.toNat]? = some (rY12 xs i) := rd_some (t := Y12) h0 h1
theorem rY12_set {xs : List ((List (Bool × Int × Int)) × Int × Int × Int)} {i : Int} (v : (List (Bool × Int × Int)) × Int × Int × Int) (h0 : 0 ≤ i) (h1 : i < (xs.length : Int)) {j : Int} (hj : 0 ≤ j) : rY12 (xs.set i.toNat v) j = if j = i then v else rY12 xs j := rd_set (t := Y12) v h0 h1 hj
abbrev rY8 (xs : List (Bool × Int × Int)) (i : Int) : Bool × Int × Int := rd Y8 xs i
theorem rY8_mem {xs : List (Bool × Int × Int)} {i : Int} (h0 : 0 ≤ i) (h1 : i < (xs.length : Int)) : rY8 xs i ∈ xs := rd_mem (t := Y8) h0 h1
theorem rY8_get (xs : List (Bool × Int × Int)) (j : Nat) (x : Bool × Int × Int) (h : xs[j]? = some x) : rY8 xs (j : Int) = x := rd_get (t := Y8) xs j x h
theorem rY8_drop {xs : List (Bool × Int × Int)} {i : Int} (h0 : 0 ≤ i) (h1 : i < (xs.length : Int)) : xs.drop i.toNat = rY8 xs i :: xs.drop (i + 1).toNat := drop_rd (t := Y8) h0 h1
theorem rY8_some {xs : List (Bool × Int × Int)} {i : Int} (h0 : 0 ≤ i) (h1 : i < (xs.length : Int)) : xs[i.toNat]? = some (rY8 xs i) := rd_some (t := Y8) h0 h1
theorem rY8_set {xs : List (Bool × Int × Int)} {i : Int} (v : Bool × Int × Int) (h0 : 0 ≤ i) (h1 : i < (xs.length : Int)) {j : Int} (hj : 0 ≤ j) : rY8 (xs.set i.toNat v) j = if j = i then v else rY8 xs j := rd_set (t := Y8) v h0 h1 hj
def BY (e : Nat) : Nat := (look [(3, 8), (23, 24), (33, 136), (72, 16)] e).getD 0
def gridhallkeep3_two.f (k : Nat) (a0 : ByteArray) : Option (ByteArray × List (Int × Int)) :=
  some (a0, [(10, 5), (10, 8)])
def gridhallkeep3_alone.f (k : Nat) : Option ((ByteArray × Int × Int × Int × Int × Int × Int × Int) × (ByteArray × List (Int × Int)) × Bool × Int × Int) :=
  (gridhallkeep3_two.f k (ByteArray.mk #[65])).bind fun r1 =>
  some ((ByteArray.mk #[65], 0, 20, 20, 20, 1, 1, 9), r1, false, 5, 0)
def unit_named.l4 : Nat → ByteArray → Int → Int → Option Bool
  | 0, _, _, _ => none
  | k + 1, x0, x22, x23 => if x23 < x22 then
      if 0 ≤ x23 then
        if x23 < (x0.size : Int) then
          if (bt x0 x23) < 65 then
            if 0 ≤ x23 then
              if x23 < (x0.size : Int) then
                if (bt x0 x23) < 48 then
                  some false
                else if 0 ≤ x23 then
                  if x23 < (x0.size : Int) then
                    if 57 < (bt x0 x23) then
                      some false
                    else unit_named.l4 k x0 x22 (wrap64 (x23 + 1))
                  else none
                else none
              else none
            else none
          else if 0 ≤ x23 then
            if x23 < (x0.size : Int) then
              if 90 < (bt x0 x23) then
                if 0 ≤ x23 then
                  if x23 < (x0.size : Int) then
                    if (bt x0 x23) < 48 then
                      some false
                    else if 0 ≤ x23 then
                      if x23 < (x0.size : Int) then
                        if 57 < (bt x0 x23) then
                          some false
                        else unit_named.l4 k x0 x22 (wrap64 (x23 + 1))
                      else none
                    else none
                  else none
                else none
              else unit_named.l4 k x0 x22 (wrap64 (x23 + 1))
            else none
          else none
        else none
      else none
    else some true
theorem unit_named.l4_eq (k : Nat) (x0 : ByteArray) (x22 : Int) (x23 : Int) : unit_named.l4 (k + 1) x0 x22 x23 = if x23 < x22 then
      if 0 ≤ x23 then
        if x23 < (x0.size : Int) then
          if (bt x0 x23) < 65 then
            if 0 ≤ x23 then
              if x23 < (x0.size : Int) then
                if (bt x0 x23) < 48 then
                  some false
                else if 0 ≤ x23 then
                  if x23 < (x0.size : Int) then
                    if 57 < (bt x0 x23) then
                      some false
                    else unit_named.l4 k x0 x22 (wrap64 (x23 + 1))
                  else none
                else none
              else none
            else none
          else if 0 ≤ x23 then
            if x23 < (x0.size : Int) then
              if 90 < (bt x0 x23) then
                if 0 ≤ x23 then
                  if x23 < (x0.size : Int) then
                    if (bt x0 x23) < 48 then
                      some false
                    else if 0 ≤ x23 then
                      if x23 < (x0.size : Int) then
                        if 57 < (bt x0 x23) then
                          some false
                        else unit_named.l4 k x0 x22 (wrap64 (x23 + 1))
                      else none
                    else none
                  else none
                else none
              else unit_named.l4 k x0 x22 (wrap64 (x23 + 1))
            else none
          else none
        else none
      else none
    else some true := rfl
def unit_named.f (k : Nat) (a0 : ByteArray) : Option Bool :=
  if a0 = ByteArray.empty then
    some false
  else if 8 < (a0.size : Int) then
    some false
  else if (0 : Int) ≤ 0 then
    if 0 < (a0.size : Int) then
      if 48 ≤ (bt a0 0) then
        if (0 : Int) ≤ 0 then
          if 0 < (a0.size : Int) then
            if (bt a0 0) ≤ 57 then
              some false
            else unit_named.l4 k a0 (a0.size : Int) 0
          else none
        else none
      else unit_named.l4 k a0 (a0.size : Int) 0
    else none
  else none
def unit_Check.f (k : Nat) (a0 : ByteArray × Int × Int × Int × Int × Int × Int × Int) : Option Int :=
  (unit_named.f k a0.1).bind fun r1 =>
  if r1 = true then
    if a0.2.1 < 0 then
      some 4
    else if a0.2.2.1 < a0.2.1 then
      some 4
    else if 100000 < a0.2.2.1 then
      some 4
    else if a0.2.2.2.1 < 1 then
      some 4
    else if 100000 < a0.2.2.2.1 then
      some 4
    else if a0.2.2.2.2.1 < 1 then
      some 4
    else if 100000 < a0.2.2.2.2.1 then
      some 4
    else if a0.2.2.2.2.2.1 < 1 then
      some 4
    else if 24 < a0.2.2.2.2.2.1 then
      some 4
    else if a0.2.2.2.2.2.2.1 < 1 then
      some 4
    else if 24 < a0.2.2.2.2.2.2.1 then
      some 4
    else if a0.2.2.2.2.2.2.2 < 0 then
      some 4
    else if 1000000 < a0.2.2.2.2.2.2.2 then
      some 4
    else some 0
  else some 6
def unit_CheckState.f (k : Nat) (a0 : ByteArray × Int × Int × Int × Int × Int × Int × Int) (a1 : Bool × Int × Int) : Option Int :=
  (unit_Check.f k a0).bind fun r1 =>
  if r1 = 0 then
    if a1.2.1 < 1 then
      some 4
    else if 200000 < a1.2.1 then
      some 4
    else if a1.1 = true then
      if a1.2.2 < a0.2.1 then
        some 4
      else if a0.2.2.1 < a1.2.2 then
        some 4
      else if a1.1 = true then
        some 0
      else if a1.2.2 = 0 then
        some 0
      else some 3
    else if a1.1 = true then
      some 0
    else if a1.2.2 = 0 then
      some 0
    else some 3
  else some r1
def offer_named.l4 : Nat → ByteArray → Int → Int → Option Bool
  | 0, _, _, _ => none
  | k + 1, x0, x22, x23 => if x23 < x22 then
      if 0 ≤ x23 then
        if x23 < (x0.size : Int) then
          if (bt x0 x23) < 65 then
            if 0 ≤ x23 then
              if x23 < (x0.size : Int) then
                if (bt x0 x23) < 48 then
                  some false
                else if 0 ≤ x23 then
                  if x23 < (x0.size : Int) then
                    if 57 < (bt x0 x23) then
                      some false
                    else offer_named.l4 k x0 x22 (wrap64 (x23 + 1))
                  else none
                else none
              else none
            else none
          else if 0 ≤ x23 then
            if x23 < (x0.size : Int) then
              if 90 < (bt x0 x23) then
                if 0 ≤ x23 then
                  if x23 < (x0.size : Int) then
                    if (bt x0 x23) < 48 then
                      some false
                    else if 0 ≤ x23 then
                      if x23 < (x0.size : Int) then
                        if 57 < (bt x0 x23) then
                          some false
                        else offer_named.l4 k x0 x22 (wrap64 (x23 + 1))
                      else none
                    else none
                  else none
                else none
              else offer_named.l4 k x0 x22 (wrap64 (x23 + 1))
            else none
          else none
        else none
      else none
    else some true
theorem offer_named.l4_eq (k : Nat) (x0 : ByteArray) (x22 : Int) (x23 : Int) : offer_named.l4 (k + 1) x0 x22 x23 = if x23 < x22 then
      if 0 ≤ x23 then
        if x23 < (x0.size : Int) then
          if (bt x0 x23) < 65 then
            if 0 ≤ x23 then
              if x23 < (x0.size : Int) then
                if (bt x0 x23) < 48 then
                  some false
                else if 0 ≤ x23 then
                  if x23 < (x0.size : Int) then
                    if 57 < (bt x0 x23) then
                      some false
                    else offer_named.l4 k x0 x22 (wrap64 (x23 + 1))
                  else none
                else none
              else none
            else none
          else if 0 ≤ x23 then
            if x23 < (x0.size : Int) then
              if 90 < (bt x0 x23) then
                if 0 ≤ x23 then
                  if x23 < (x0.size : Int) then
                    if (bt x0 x23) < 48 then
                      some false
                    else if 0 ≤ x23 then
                      if x23 < (x0.size : Int) then
                        if 57 < (bt x0 x23) then
                          some false
                        else offer_named.l4 k x0 x22 (wrap64 (x23 + 1))
                      else none
                    else none
                  else none
                else none
              else offer_named.l4 k x0 x22 (wrap64 (x23 + 1))
            else none
          else none
        else none
      else none
    else some true := rfl
def offer_named.f (k : Nat) (a0 : ByteArray) : Option Bool :=
  if a0 = ByteArray.empty then
    some false
  else if 8 < (a0.size : Int) then
    some false
  else if (0 : Int) ≤ 0 then
    if 0 < (a0.size : Int) then
      if 48 ≤ (bt a0 0) then
        if (0 : Int) ≤ 0 then
          if 0 < (a0.size : Int) then
            if (bt a0 0) ≤ 57 then
              some false
            else offer_named.l4 k a0 (a0.size : Int) 0
          else none
        else none
      else offer_named.l4 k a0 (a0.size : Int) 0
    else none
  else none
def offer_Check.l7 : Nat → Int → (List (Int × Int)) → Int → Int → ByteArray → (List (Int × Int)) → Option Int
  | 0, _, _, _, _, _, _ => none
  | k + 1, x3, x15, x16, x17, xo0_0, xo0_1 => if x17 < x16 then
      if 0 ≤ x17 then
        if x17 < (x15.length : Int) then
          if (rY0 x15 x17).1 < 1 then
            some 4
          else if 100000 < (rY0 x15 x17).1 then
            some 4
          else if (rY0 x15 x17).2 < (-1000000) then
            some 4
          else if 1000000 < (rY0 x15 x17).2 then
            some 4
          else if 0 < x17 then
            if 0 ≤ (wrap64 (x17 - 1)) then
              if (wrap64 (x17 - 1)) < (xo0_1.length : Int) then
                if (rY0 x15 x17).2 < (rY0 xo0_1 (wrap64 (x17 - 1))).2 then
                  some 3
                else if 100000 < (wrap64 (x3 + (rY0 x15 x17).1)) then
                  some 2
                else offer_Check.l7 k (wrap64 (x3 + (rY0 x15 x17).1)) x15 x16 (wrap64 (x17 + 1)) xo0_0 xo0_1
              else none
            else none
          else if 100000 < (wrap64 (x3 + (rY0 x15 x17).1)) then
            some 2
          else offer_Check.l7 k (wrap64 (x3 + (rY0 x15 x17).1)) x15 x16 (wrap64 (x17 + 1)) xo0_0 xo0_1
        else none
      else none
    else some 0
theorem offer_Check.l7_eq (k : Nat) (x3 : Int) (x15 : List (Int × Int)) (x16 : Int) (x17 : Int) (xo0_0 : ByteArray) (xo0_1 : List (Int × Int)) : offer_Check.l7 (k + 1) x3 x15 x16 x17 xo0_0 xo0_1 = if x17 < x16 then
      if 0 ≤ x17 then
        if x17 < (x15.length : Int) then
          if (rY0 x15 x17).1 < 1 then
            some 4
          else if 100000 < (rY0 x15 x17).1 then
            some 4
          else if (rY0 x15 x17).2 < (-1000000) then
            some 4
          else if 1000000 < (rY0 x15 x17).2 then
            some 4
          else if 0 < x17 then
            if 0 ≤ (wrap64 (x17 - 1)) then
              if (wrap64 (x17 - 1)) < (xo0_1.length : Int) then
                if (rY0 x15 x17).2 < (rY0 xo0_1 (wrap64 (x17 - 1))).2 then
                  some 3
                else if 100000 < (wrap64 (x3 + (rY0 x15 x17).1)) then
                  some 2
                else offer_Check.l7 k (wrap64 (x3 + (rY0 x15 x17).1)) x15 x16 (wrap64 (x17 + 1)) xo0_0 xo0_1
              else none
            else none
          else if 100000 < (wrap64 (x3 + (rY0 x15 x17).1)) then
            some 2
          else offer_Check.l7 k (wrap64 (x3 + (rY0 x15 x17).1)) x15 x16 (wrap64 (x17 + 1)) xo0_0 xo0_1
        else none
      else none
    else some 0 := rfl
def offer_Check.f (k : Nat) (a0 : ByteArray × List (Int × Int)) : Option Int :=
  (offer_named.f k a0.1).bind fun r1 =>
  if r1 = true then
    if 12 < (a0.2.length : Int) then
      some 2
    else offer_Check.l7 k 0 a0.2 (a0.2.length : Int) 0 a0.1 a0.2
  else some 6
def offer_Most.l3 : Nat → Int → (List (Int × Int)) → Int → Int → Option Int
  | 0, _, _, _, _ => none
  | k + 1, x3, x7, x8, x9 => if x9 < x8 then
      if 0 ≤ x9 then
        if x9 < (x7.length : Int) then
          offer_Most.l3 k (wrap64 (x3 + (rY0 x7 x9).1)) x7 x8 (wrap64 (x9 + 1))
        else none
      else none
    else some x3
theorem offer_Most.l3_eq (k : Nat) (x3 : Int) (x7 : List (Int × Int)) (x8 : Int) (x9 : Int) : offer_Most.l3 (k + 1) x3 x7 x8 x9 = if x9 < x8 then
      if 0 ≤ x9 then
        if x9 < (x7.length : Int) then
          offer_Most.l3 k (wrap64 (x3 + (rY0 x7 x9).1)) x7 x8 (wrap64 (x9 + 1))
        else none
      else none
    else some x3 := rfl
def offer_Most.f (k : Nat) (a0 : ByteArray × List (Int × Int)) : Option Int :=
  offer_Most.l3 k 0 a0.2 (a0.2.length : Int) 0
def dual_Check.f (k : Nat) (a0 : (ByteArray × Int × Int × Int × Int × Int × Int × Int) × (ByteArray × List (Int × Int)) × Bool × Int × Int) : Option Int :=
  (unit_CheckState.f k a0.1 a0.2.2).bind fun r1 =>
  if r1 = 0 then
    (offer_Check.f k a0.2.1).bind fun r2 =>
    if r2 = 0 then
      (offer_Most.f k a0.2.1).bind fun r3 =>
      if r3 = a0.1.2.2.1 then
        if a0.2.1.1 = a0.1.1 then
          if a0.1.2.2.2.1 < a0.1.2.2.1 then
            some 1
          else if a0.1.2.2.2.2.1 < a0.1.2.2.1 then
            some 1
          else some 0
        else some 3
      else some 3
    else some r2
  else some r1
def dual_CheckAll.l17 : Nat → List Int → Int → Int → Option Int
  | 0, _, _, _ => none
  | k + 1, x49, x50, x51 => if x51 < x50 then
      if 0 ≤ x51 then
        if x51 < (x49.length : Int) then
          if (rI64 x49 x51) < 0 then
            some 4
          else if 1000000 < (rI64 x49 x51) then
            some 4
          else dual_CheckAll.l17 k x49 x50 (wrap64 (x51 + 1))
        else none
      else none
    else some 0
theorem dual_CheckAll.l17_eq (k : Nat) (x49 : List Int) (x50 : Int) (x51 : Int) : dual_CheckAll.l17 (k + 1) x49 x50 x51 = if x51 < x50 then
      if 0 ≤ x51 then
        if x51 < (x49.length : Int) then
          if (rI64 x49 x51) < 0 then
            some 4
          else if 1000000 < (rI64 x49 x51) then
            some 4
          else dual_CheckAll.l17 k x49 x50 (wrap64 (x51 + 1))
        else none
      else none
    else some 0 := rfl
mutual
def dual_CheckAll.l4 : Nat → (List ((ByteArray × Int × Int × Int × Int × Int × Int × Int) × (ByteArray × List (Int × Int)) × Bool × Int × Int)) → List Int → (List ((ByteArray × Int × Int × Int × Int × Int × Int × Int) × (ByteArray × List (Int × Int)) × Bool × Int × Int)) → Int → Int → Option Int
  | 0, _, _, _, _, _ => none
  | k + 1, x0, x1, x20, x21, x22 => if x22 < x21 then
      if 0 ≤ x22 then
        if x22 < (x20.length : Int) then
          (dual_Check.f k (rY10 x20 x22)).bind fun r1 =>
          if r1 = 0 then
            if x22 ≤ (x0.length : Int) then
              if 0 ≤ x22 then
                dual_CheckAll.l10 k x0 x1 x20 x21 x22 (x0.take x22.toNat) ((x0.take x22.toNat).length : Int) 0 (rY10 x20 x22).1.1 (rY10 x20 x22).1.2.1 (rY10 x20 x22).1.2.2.1 (rY10 x20 x22).1.2.2.2.1 (rY10 x20 x22).1.2.2.2.2.1 (rY10 x20 x22).1.2.2.2.2.2.1 (rY10 x20 x22).1.2.2.2.2.2.2.1 (rY10 x20 x22).1.2.2.2.2.2.2.2 (rY10 x20 x22).2.1.1 (rY10 x20 x22).2.1.2 (rY10 x20 x22).2.2.1 (rY10 x20 x22).2.2.2.1 (rY10 x20 x22).2.2.2.2
              else none
            else none
          else some r1
        else none
      else none
    else dual_CheckAll.l17 k x1 (x1.length : Int) 0
def dual_CheckAll.l10 : Nat → (List ((ByteArray × Int × Int × Int × Int × Int × Int × Int) × (ByteArray × List (Int × Int)) × Bool × Int × Int)) → List Int → (List ((ByteArray × Int × Int × Int × Int × Int × Int × Int) × (ByteArray × List (Int × Int)) × Bool × Int × Int)) → Int → Int → (List ((ByteArray × Int × Int × Int × Int × Int × Int × Int) × (ByteArray × List (Int × Int)) × Bool × Int × Int)) → Int → Int → ByteArray → Int → Int → Int → Int → Int → Int → Int → ByteArray → (List (Int × Int)) → Bool → Int → Int → Option Int
  | 0, _, _, _, _, _, _, _, _, _, _, _, _, _, _, _, _, _, _, _, _, _ => none
  | k + 1, x0, x1, x20, x21, x22, x34, x35, x36, xo0_0, xo0_1, xo0_2, xo0_3, xo0_4, xo0_5, xo0_6, xo0_7, xo0_8, xo0_9, xo0_10, xo0_11, xo0_12 => if x36 < x35 then
      if 0 ≤ x36 then
        if x36 < (x34.length : Int) then
          if (rY10 x34 x36).1.1 = xo0_0 then
            some 7
          else dual_CheckAll.l10 k x0 x1 x20 x21 x22 x34 x35 (wrap64 (x36 + 1)) xo0_0 xo0_1 xo0_2 xo0_3 xo0_4 xo0_5 xo0_6 xo0_7 xo0_8 xo0_9 xo0_10 xo0_11 xo0_12
        else none
      else none
    else dual_CheckAll.l4 k x0 x1 x20 x21 (wrap64 (x22 + 1))
end
theorem dual_CheckAll.l4_eq (k : Nat) (x0 : List ((ByteArray × Int × Int × Int × Int × Int × Int × Int) × (ByteArray × List (Int × Int)) × Bool × Int × Int)) (x1 : List Int) (x20 : List ((ByteArray × Int × Int × Int × Int × Int × Int × Int) × (ByteArray × List (Int × Int)) × Bool × Int × Int)) (x21 : Int) (x22 : Int) : dual_CheckAll.l4 (k + 1) x0 x1 x20 x21 x22 = if x22 < x21 then
      if 0 ≤ x22 then
        if x22 < (x20.length : Int) then
          (dual_Check.f k (rY10 x20 x22)).bind fun r1 =>
          if r1 = 0 then
            if x22 ≤ (x0.length : Int) then
              if 0 ≤ x22 then
                dual_CheckAll.l10 k x0 x1 x20 x21 x22 (x0.take x22.toNat) ((x0.take x22.toNat).length : Int) 0 (rY10 x20 x22).1.1 (rY10 x20 x22).1.2.1 (rY10 x20 x22).1.2.2.1 (rY10 x20 x22).1.2.2.2.1 (rY10 x20 x22).1.2.2.2.2.1 (rY10 x20 x22).1.2.2.2.2.2.1 (rY10 x20 x22).1.2.2.2.2.2.2.1 (rY10 x20 x22).1.2.2.2.2.2.2.2 (rY10 x20 x22).2.1.1 (rY10 x20 x22).2.1.2 (rY10 x20 x22).2.2.1 (rY10 x20 x22).2.2.2.1 (rY10 x20 x22).2.2.2.2
              else none
            else none
          else some r1
        else none
      else none
    else dual_CheckAll.l17 k x1 (x1.length : Int) 0 := rfl
theorem dual_CheckAll.l10_eq (k : Nat) (x0 : List ((ByteArray × Int × Int × Int × Int × Int × Int × Int) × (ByteArray × List (Int × Int)) × Bool × Int × Int)) (x1 : List Int) (x20 : List ((ByteArray × Int × Int × Int × Int × Int × Int × Int) × (ByteArray × List (Int × Int)) × Bool × Int × Int)) (x21 : Int) (x22 : Int) (x34 : List ((ByteArray × Int × Int × Int × Int × Int × Int × Int) × (ByteArray × List (Int × Int)) × Bool × Int × Int)) (x35 : Int) (x36 : Int) (xo0_0 : ByteArray) (xo0_1 : Int) (xo0_2 : Int) (xo0_3 : Int) (xo0_4 : Int) (xo0_5 : Int) (xo0_6 : Int) (xo0_7 : Int) (xo0_8 : ByteArray) (xo0_9 : List (Int × Int)) (xo0_10 : Bool) (xo0_11 : Int) (xo0_12 : Int) : dual_CheckAll.l10 (k + 1) x0 x1 x20 x21 x22 x34 x35 x36 xo0_0 xo0_1 xo0_2 xo0_3 xo0_4 xo0_5 xo0_6 xo0_7 xo0_8 xo0_9 xo0_10 xo0_11 xo0_12 = if x36 < x35 then
      if 0 ≤ x36 then
        if x36 < (x34.length : Int) then
          if (rY10 x34 x36).1.1 = xo0_0 then
            some 7
          else dual_CheckAll.l10 k x0 x1 x20 x21 x22 x34 x35 (wrap64 (x36 + 1)) xo0_0 xo0_1 xo0_2 xo0_3 xo0_4 xo0_5 xo0_6 xo0_7 xo0_8 xo0_9 xo0_10 xo0_11 xo0_12
        else none
      else none
    else dual_CheckAll.l4 k x0 x1 x20 x21 (wrap64 (x22 + 1)) := rfl
def dual_CheckAll.f (k : Nat) (a0 : List ((ByteArray × Int × Int × Int × Int × Int × Int × Int) × (ByteArray × List (Int × Int)) × Bool × Int × Int)) (a1 : List Int) : Option Int :=
  if 3 < (a0.length : Int) then
    some 2
  else if 8 < (a1.length : Int) then
    some 2
  else dual_CheckAll.l4 k a0 a1 a0 (a0.length : Int) 0
def dual_cut.f (k : Nat) (a0 : (ByteArray × Int × Int × Int × Int × Int × Int × Int) × (ByteArray × List (Int × Int)) × Bool × Int × Int) (a1 : Bool × Int × Int) : Option (Bool × Int × Int) :=
  if a1.1 = true then
    some (a1.1, mn a1.2.1 a0.1.2.2.2.2.2.1, a1.2.2)
  else some (a1.1, mn a1.2.1 a0.1.2.2.2.2.2.2.1, a1.2.2)
mutual
def offer_Supply.l8 : Nat → Int → Int → Int → (List (Int × Int)) → Int → Int → Option (Int × Int × Int)
  | 0, _, _, _, _, _, _ => none
  | k + 1, x1, x8, x9, x24, x25, x26 => if x26 < x25 then
      if 0 ≤ x26 then
        if x26 < (x24.length : Int) then
          if (rY0 x24 x26).2 < x1 then
            offer_Supply.l12 k x1 (wrap64 (x8 + (rY0 x24 x26).1)) x9 x24 x25 x26 (rY0 x24 x26).1 (rY0 x24 x26).2
          else offer_Supply.l12 k x1 x8 x9 x24 x25 x26 (rY0 x24 x26).1 (rY0 x24 x26).2
        else none
      else none
    else some (x8, x9, 0)
def offer_Supply.l12 : Nat → Int → Int → Int → (List (Int × Int)) → Int → Int → Int → Int → Option (Int × Int × Int)
  | 0, _, _, _, _, _, _, _, _ => none
  | k + 1, x1, x8, x9, x24, x25, x26, xo0_0, xo0_1 => if xo0_1 ≤ x1 then
      offer_Supply.l8 k x1 x8 (wrap64 (x9 + xo0_0)) x24 x25 (wrap64 (x26 + 1))
    else offer_Supply.l8 k x1 x8 x9 x24 x25 (wrap64 (x26 + 1))
end
theorem offer_Supply.l8_eq (k : Nat) (x1 : Int) (x8 : Int) (x9 : Int) (x24 : List (Int × Int)) (x25 : Int) (x26 : Int) : offer_Supply.l8 (k + 1) x1 x8 x9 x24 x25 x26 = if x26 < x25 then
      if 0 ≤ x26 then
        if x26 < (x24.length : Int) then
          if (rY0 x24 x26).2 < x1 then
            offer_Supply.l12 k x1 (wrap64 (x8 + (rY0 x24 x26).1)) x9 x24 x25 x26 (rY0 x24 x26).1 (rY0 x24 x26).2
          else offer_Supply.l12 k x1 x8 x9 x24 x25 x26 (rY0 x24 x26).1 (rY0 x24 x26).2
        else none
      else none
    else some (x8, x9, 0) := rfl
theorem offer_Supply.l12_eq (k : Nat) (x1 : Int) (x8 : Int) (x9 : Int) (x24 : List (Int × Int)) (x25 : Int) (x26 : Int) (xo0_0 : Int) (xo0_1 : Int) : offer_Supply.l12 (k + 1) x1 x8 x9 x24 x25 x26 xo0_0 xo0_1 = if xo0_1 ≤ x1 then
      offer_Supply.l8 k x1 x8 (wrap64 (x9 + xo0_0)) x24 x25 (wrap64 (x26 + 1))
    else offer_Supply.l8 k x1 x8 x9 x24 x25 (wrap64 (x26 + 1)) := rfl
def offer_Supply.f (k : Nat) (a0 : ByteArray × List (Int × Int)) (a1 : Int) : Option (Int × Int × Int) :=
  (offer_Check.f k a0).bind fun r1 =>
  if r1 = 0 then
    if a1 < (-2000000) then
      some (0, 0, 4)
    else if 2000000 < a1 then
      some (0, 0, 4)
    else offer_Supply.l8 k a1 0 0 a0.2 (a0.2.length : Int) 0
  else some (0, 0, r1)
def offer_Cost.l8 : Nat → Int → Int → (List (Int × Int)) → Int → Int → Option (Int × Int)
  | 0, _, _, _, _, _ => none
  | k + 1, x1, x7, x25, x26, x27 => if x27 < x26 then
      if 0 ≤ x27 then
        if x27 < (x25.length : Int) then
          offer_Cost.l8 k (wrap64 (x1 - (mn x1 (rY0 x25 x27).1))) (wrap64 (x7 + (wrap64 ((mn x1 (rY0 x25 x27).1) * (rY0 x25 x27).2)))) x25 x26 (wrap64 (x27 + 1))
        else none
      else none
    else some (x7, 0)
theorem offer_Cost.l8_eq (k : Nat) (x1 : Int) (x7 : Int) (x25 : List (Int × Int)) (x26 : Int) (x27 : Int) : offer_Cost.l8 (k + 1) x1 x7 x25 x26 x27 = if x27 < x26 then
      if 0 ≤ x27 then
        if x27 < (x25.length : Int) then
          offer_Cost.l8 k (wrap64 (x1 - (mn x1 (rY0 x25 x27).1))) (wrap64 (x7 + (wrap64 ((mn x1 (rY0 x25 x27).1) * (rY0 x25 x27).2)))) x25 x26 (wrap64 (x27 + 1))
        else none
      else none
    else some (x7, 0) := rfl
def offer_Cost.f (k : Nat) (a0 : ByteArray × List (Int × Int)) (a1 : Int) : Option (Int × Int) :=
  (offer_Check.f k a0).bind fun r1 =>
  if r1 = 0 then
    if a1 < 0 then
      some (0, 4)
    else (offer_Most.f k a0).bind fun r2 =>
    if r2 < a1 then
      some (0, 4)
    else offer_Cost.l8 k a1 0 a0.2 (a0.2.length : Int) 0
  else some (0, r1)
def dual_earn.f (k : Nat) (a0 : (ByteArray × Int × Int × Int × Int × Int × Int × Int) × (ByteArray × List (Int × Int)) × Bool × Int × Int) (a1 : Int) : Option (Int × Int) :=
  (offer_Supply.f k a0.2.1 a1).bind fun r1 =>
  (offer_Cost.f k a0.2.1 (mx r1.1 a0.1.2.1)).bind fun r2 =>
  some (mx r1.1 a0.1.2.1, wrap64 ((wrap64 (a1 * (mx r1.1 a0.1.2.1))) - r2.1))
def unit_Next.f (k : Nat) (a0 : ByteArray × Int × Int × Int × Int × Int × Int × Int) (a1 : Bool × Int × Int) (a2 : Int) : Option ((Bool × Int × Int) × Int × Int) :=
  (unit_CheckState.f k a0 a1).bind fun r1 =>
  if r1 = 0 then
    if a2 = (-1) then
      if a1.1 = true then
        if a2 = (-1) then
          if a1.2.1 < a0.2.2.2.2.2.1 then
            if a1.2.1 < a0.2.2.2.2.2.1 then
              some ((false, 0, 0), 0, 12)
            else if a1.1 = true then
              if a2 = (-1) then
                if a1.1 = (!decide (a2 = (-1))) then
                  some ((a1.1, mn (wrap64 (a1.2.1 + 1)) 200000, mx a2 0), 0, 0)
                else if a2 = (-1) then
                  some ((false, 1, 0), 0, 0)
                else some ((true, 1, a2), a0.2.2.2.2.2.2.2, 0)
              else if (wrap64 (a1.2.2 + a0.2.2.2.1)) < a2 then
                some ((false, 0, 0), 0, 17)
              else if a2 < (wrap64 (a1.2.2 - a0.2.2.2.2.1)) then
                some ((false, 0, 0), 0, 17)
              else if a1.1 = (!decide (a2 = (-1))) then
                some ((a1.1, mn (wrap64 (a1.2.1 + 1)) 200000, mx a2 0), 0, 0)
              else if a2 = (-1) then
                some ((false, 1, 0), 0, 0)
              else some ((true, 1, a2), a0.2.2.2.2.2.2.2, 0)
            else if a1.1 = (!decide (a2 = (-1))) then
              some ((a1.1, mn (wrap64 (a1.2.1 + 1)) 200000, mx a2 0), 0, 0)
            else if a2 = (-1) then
              some ((false, 1, 0), 0, 0)
            else some ((true, 1, a2), a0.2.2.2.2.2.2.2, 0)
          else if a1.1 = true then
            if a1.1 = true then
              if a2 = (-1) then
                if a1.1 = (!decide (a2 = (-1))) then
                  some ((a1.1, mn (wrap64 (a1.2.1 + 1)) 200000, mx a2 0), 0, 0)
                else if a2 = (-1) then
                  some ((false, 1, 0), 0, 0)
                else some ((true, 1, a2), a0.2.2.2.2.2.2.2, 0)
              else if (wrap64 (a1.2.2 + a0.2.2.2.1)) < a2 then
                some ((false, 0, 0), 0, 17)
              else if a2 < (wrap64 (a1.2.2 - a0.2.2.2.2.1)) then
                some ((false, 0, 0), 0, 17)
              else if a1.1 = (!decide (a2 = (-1))) then
                some ((a1.1, mn (wrap64 (a1.2.1 + 1)) 200000, mx a2 0), 0, 0)
              else if a2 = (-1) then
                some ((false, 1, 0), 0, 0)
              else some ((true, 1, a2), a0.2.2.2.2.2.2.2, 0)
            else if a1.1 = (!decide (a2 = (-1))) then
              some ((a1.1, mn (wrap64 (a1.2.1 + 1)) 200000, mx a2 0), 0, 0)
            else if a2 = (-1) then
              some ((false, 1, 0), 0, 0)
            else some ((true, 1, a2), a0.2.2.2.2.2.2.2, 0)
          else if a2 = (-1) then
            if a1.1 = true then
              if a2 = (-1) then
                if a1.1 = (!decide (a2 = (-1))) then
                  some ((a1.1, mn (wrap64 (a1.2.1 + 1)) 200000, mx a2 0), 0, 0)
                else if a2 = (-1) then
                  some ((false, 1, 0), 0, 0)
                else some ((true, 1, a2), a0.2.2.2.2.2.2.2, 0)
              else if (wrap64 (a1.2.2 + a0.2.2.2.1)) < a2 then
                some ((false, 0, 0), 0, 17)
              else if a2 < (wrap64 (a1.2.2 - a0.2.2.2.2.1)) then
                some ((false, 0, 0), 0, 17)
              else if a1.1 = (!decide (a2 = (-1))) then
                some ((a1.1, mn (wrap64 (a1.2.1 + 1)) 200000, mx a2 0), 0, 0)
              else if a2 = (-1) then
                some ((false, 1, 0), 0, 0)
              else some ((true, 1, a2), a0.2.2.2.2.2.2.2, 0)
            else if a1.1 = (!decide (a2 = (-1))) then
              some ((a1.1, mn (wrap64 (a1.2.1 + 1)) 200000, mx a2 0), 0, 0)
            else if a2 = (-1) then
              some ((false, 1, 0), 0, 0)
            else some ((true, 1, a2), a0.2.2.2.2.2.2.2, 0)
          else if a1.2.1 < a0.2.2.2.2.2.2.1 then
            some ((false, 0, 0), 0, 12)
          else if a1.1 = true then
            if a2 = (-1) then
              if a1.1 = (!decide (a2 = (-1))) then
                some ((a1.1, mn (wrap64 (a1.2.1 + 1)) 200000, mx a2 0), 0, 0)
              else if a2 = (-1) then
                some ((false, 1, 0), 0, 0)
              else some ((true, 1, a2), a0.2.2.2.2.2.2.2, 0)
            else if (wrap64 (a1.2.2 + a0.2.2.2.1)) < a2 then
              some ((false, 0, 0), 0, 17)
            else if a2 < (wrap64 (a1.2.2 - a0.2.2.2.2.1)) then
              some ((false, 0, 0), 0, 17)
            else if a1.1 = (!decide (a2 = (-1))) then
              some ((a1.1, mn (wrap64 (a1.2.1 + 1)) 200000, mx a2 0), 0, 0)
            else if a2 = (-1) then
              some ((false, 1, 0), 0, 0)
            else some ((true, 1, a2), a0.2.2.2.2.2.2.2, 0)
          else if a1.1 = (!decide (a2 = (-1))) then
            some ((a1.1, mn (wrap64 (a1.2.1 + 1)) 200000, mx a2 0), 0, 0)
          else if a2 = (-1) then
            some ((false, 1, 0), 0, 0)
          else some ((true, 1, a2), a0.2.2.2.2.2.2.2, 0)
        else if a1.1 = true then
          if a1.1 = true then
            if a2 = (-1) then
              if a1.1 = (!decide (a2 = (-1))) then
                some ((a1.1, mn (wrap64 (a1.2.1 + 1)) 200000, mx a2 0), 0, 0)
              else if a2 = (-1) then
                some ((false, 1, 0), 0, 0)
              else some ((true, 1, a2), a0.2.2.2.2.2.2.2, 0)
            else if (wrap64 (a1.2.2 + a0.2.2.2.1)) < a2 then
              some ((false, 0, 0), 0, 17)
            else if a2 < (wrap64 (a1.2.2 - a0.2.2.2.2.1)) then
              some ((false, 0, 0), 0, 17)
            else if a1.1 = (!decide (a2 = (-1))) then
              some ((a1.1, mn (wrap64 (a1.2.1 + 1)) 200000, mx a2 0), 0, 0)
            else if a2 = (-1) then
              some ((false, 1, 0), 0, 0)
            else some ((true, 1, a2), a0.2.2.2.2.2.2.2, 0)
          else if a1.1 = (!decide (a2 = (-1))) then
            some ((a1.1, mn (wrap64 (a1.2.1 + 1)) 200000, mx a2 0), 0, 0)
          else if a2 = (-1) then
            some ((false, 1, 0), 0, 0)
          else some ((true, 1, a2), a0.2.2.2.2.2.2.2, 0)
        else if a2 = (-1) then
          if a1.1 = true then
            if a2 = (-1) then
              if a1.1 = (!decide (a2 = (-1))) then
                some ((a1.1, mn (wrap64 (a1.2.1 + 1)) 200000, mx a2 0), 0, 0)
              else if a2 = (-1) then
                some ((false, 1, 0), 0, 0)
              else some ((true, 1, a2), a0.2.2.2.2.2.2.2, 0)
            else if (wrap64 (a1.2.2 + a0.2.2.2.1)) < a2 then
              some ((false, 0, 0), 0, 17)
            else if a2 < (wrap64 (a1.2.2 - a0.2.2.2.2.1)) then
              some ((false, 0, 0), 0, 17)
            else if a1.1 = (!decide (a2 = (-1))) then
              some ((a1.1, mn (wrap64 (a1.2.1 + 1)) 200000, mx a2 0), 0, 0)
            else if a2 = (-1) then
              some ((false, 1, 0), 0, 0)
            else some ((true, 1, a2), a0.2.2.2.2.2.2.2, 0)
          else if a1.1 = (!decide (a2 = (-1))) then
            some ((a1.1, mn (wrap64 (a1.2.1 + 1)) 200000, mx a2 0), 0, 0)
          else if a2 = (-1) then
            some ((false, 1, 0), 0, 0)
          else some ((true, 1, a2), a0.2.2.2.2.2.2.2, 0)
        else if a1.2.1 < a0.2.2.2.2.2.2.1 then
          some ((false, 0, 0), 0, 12)
        else if a1.1 = true then
          if a2 = (-1) then
            if a1.1 = (!decide (a2 = (-1))) then
              some ((a1.1, mn (wrap64 (a1.2.1 + 1)) 200000, mx a2 0), 0, 0)
            else if a2 = (-1) then
              some ((false, 1, 0), 0, 0)
            else some ((true, 1, a2), a0.2.2.2.2.2.2.2, 0)
          else if (wrap64 (a1.2.2 + a0.2.2.2.1)) < a2 then
            some ((false, 0, 0), 0, 17)
          else if a2 < (wrap64 (a1.2.2 - a0.2.2.2.2.1)) then
            some ((false, 0, 0), 0, 17)
          else if a1.1 = (!decide (a2 = (-1))) then
            some ((a1.1, mn (wrap64 (a1.2.1 + 1)) 200000, mx a2 0), 0, 0)
          else if a2 = (-1) then
            some ((false, 1, 0), 0, 0)
          else some ((true, 1, a2), a0.2.2.2.2.2.2.2, 0)
        else if a1.1 = (!decide (a2 = (-1))) then
          some ((a1.1, mn (wrap64 (a1.2.1 + 1)) 200000, mx a2 0), 0, 0)
        else if a2 = (-1) then
          some ((false, 1, 0), 0, 0)
        else some ((true, 1, a2), a0.2.2.2.2.2.2.2, 0)
      else if a1.1 = true then
        if a1.1 = true then
          if a2 = (-1) then
            if a1.1 = (!decide (a2 = (-1))) then
              some ((a1.1, mn (wrap64 (a1.2.1 + 1)) 200000, mx a2 0), 0, 0)
            else if a2 = (-1) then
              some ((false, 1, 0), 0, 0)
            else some ((true, 1, a2), a0.2.2.2.2.2.2.2, 0)
          else if (wrap64 (a1.2.2 + a0.2.2.2.1)) < a2 then
            some ((false, 0, 0), 0, 17)
          else if a2 < (wrap64 (a1.2.2 - a0.2.2.2.2.1)) then
            some ((false, 0, 0), 0, 17)
          else if a1.1 = (!decide (a2 = (-1))) then
            some ((a1.1, mn (wrap64 (a1.2.1 + 1)) 200000, mx a2 0), 0, 0)
          else if a2 = (-1) then
            some ((false, 1, 0), 0, 0)
          else some ((true, 1, a2), a0.2.2.2.2.2.2.2, 0)
        else if a1.1 = (!decide (a2 = (-1))) then
          some ((a1.1, mn (wrap64 (a1.2.1 + 1)) 200000, mx a2 0), 0, 0)
        else if a2 = (-1) then
          some ((false, 1, 0), 0, 0)
        else some ((true, 1, a2), a0.2.2.2.2.2.2.2, 0)
      else if a2 = (-1) then
        if a1.1 = true then
          if a2 = (-1) then
            if a1.1 = (!decide (a2 = (-1))) then
              some ((a1.1, mn (wrap64 (a1.2.1 + 1)) 200000, mx a2 0), 0, 0)
            else if a2 = (-1) then
              some ((false, 1, 0), 0, 0)
            else some ((true, 1, a2), a0.2.2.2.2.2.2.2, 0)
          else if (wrap64 (a1.2.2 + a0.2.2.2.1)) < a2 then
            some ((false, 0, 0), 0, 17)
          else if a2 < (wrap64 (a1.2.2 - a0.2.2.2.2.1)) then
            some ((false, 0, 0), 0, 17)
          else if a1.1 = (!decide (a2 = (-1))) then
            some ((a1.1, mn (wrap64 (a1.2.1 + 1)) 200000, mx a2 0), 0, 0)
          else if a2 = (-1) then
            some ((false, 1, 0), 0, 0)
          else some ((true, 1, a2), a0.2.2.2.2.2.2.2, 0)
        else if a1.1 = (!decide (a2 = (-1))) then
          some ((a1.1, mn (wrap64 (a1.2.1 + 1)) 200000, mx a2 0), 0, 0)
        else if a2 = (-1) then
          some ((false, 1, 0), 0, 0)
        else some ((true, 1, a2), a0.2.2.2.2.2.2.2, 0)
      else if a1.2.1 < a0.2.2.2.2.2.2.1 then
        some ((false, 0, 0), 0, 12)
      else if a1.1 = true then
        if a2 = (-1) then
          if a1.1 = (!decide (a2 = (-1))) then
            some ((a1.1, mn (wrap64 (a1.2.1 + 1)) 200000, mx a2 0), 0, 0)
          else if a2 = (-1) then
            some ((false, 1, 0), 0, 0)
          else some ((true, 1, a2), a0.2.2.2.2.2.2.2, 0)
        else if (wrap64 (a1.2.2 + a0.2.2.2.1)) < a2 then
          some ((false, 0, 0), 0, 17)
        else if a2 < (wrap64 (a1.2.2 - a0.2.2.2.2.1)) then
          some ((false, 0, 0), 0, 17)
        else if a1.1 = (!decide (a2 = (-1))) then
          some ((a1.1, mn (wrap64 (a1.2.1 + 1)) 200000, mx a2 0), 0, 0)
        else if a2 = (-1) then
          some ((false, 1, 0), 0, 0)
        else some ((true, 1, a2), a0.2.2.2.2.2.2.2, 0)
      else if a1.1 = (!decide (a2 = (-1))) then
        some ((a1.1, mn (wrap64 (a1.2.1 + 1)) 200000, mx a2 0), 0, 0)
      else if a2 = (-1) then
        some ((false, 1, 0), 0, 0)
      else some ((true, 1, a2), a0.2.2.2.2.2.2.2, 0)
    else if a2 < a0.2.1 then
      some ((false, 0, 0), 0, 4)
    else if a0.2.2.1 < a2 then
      some ((false, 0, 0), 0, 4)
    else if a1.1 = true then
      if a2 = (-1) then
        if a1.2.1 < a0.2.2.2.2.2.1 then
          if a1.2.1 < a0.2.2.2.2.2.1 then
            some ((false, 0, 0), 0, 12)
          else if a1.1 = true then
            if a2 = (-1) then
              if a1.1 = (!decide (a2 = (-1))) then
                some ((a1.1, mn (wrap64 (a1.2.1 + 1)) 200000, mx a2 0), 0, 0)
              else if a2 = (-1) then
                some ((false, 1, 0), 0, 0)
              else some ((true, 1, a2), a0.2.2.2.2.2.2.2, 0)
            else if (wrap64 (a1.2.2 + a0.2.2.2.1)) < a2 then
              some ((false, 0, 0), 0, 17)
            else if a2 < (wrap64 (a1.2.2 - a0.2.2.2.2.1)) then
              some ((false, 0, 0), 0, 17)
            else if a1.1 = (!decide (a2 = (-1))) then
              some ((a1.1, mn (wrap64 (a1.2.1 + 1)) 200000, mx a2 0), 0, 0)
            else if a2 = (-1) then
              some ((false, 1, 0), 0, 0)
            else some ((true, 1, a2), a0.2.2.2.2.2.2.2, 0)
          else if a1.1 = (!decide (a2 = (-1))) then
            some ((a1.1, mn (wrap64 (a1.2.1 + 1)) 200000, mx a2 0), 0, 0)
          else if a2 = (-1) then
            some ((false, 1, 0), 0, 0)
          else some ((true, 1, a2), a0.2.2.2.2.2.2.2, 0)
        else if a1.1 = true then
          if a1.1 = true then
            if a2 = (-1) then
              if a1.1 = (!decide (a2 = (-1))) then
                some ((a1.1, mn (wrap64 (a1.2.1 + 1)) 200000, mx a2 0), 0, 0)
              else if a2 = (-1) then
                some ((false, 1, 0), 0, 0)
              else some ((true, 1, a2), a0.2.2.2.2.2.2.2, 0)
            else if (wrap64 (a1.2.2 + a0.2.2.2.1)) < a2 then
              some ((false, 0, 0), 0, 17)
            else if a2 < (wrap64 (a1.2.2 - a0.2.2.2.2.1)) then
              some ((false, 0, 0), 0, 17)
            else if a1.1 = (!decide (a2 = (-1))) then
              some ((a1.1, mn (wrap64 (a1.2.1 + 1)) 200000, mx a2 0), 0, 0)
            else if a2 = (-1) then
              some ((false, 1, 0), 0, 0)
            else some ((true, 1, a2), a0.2.2.2.2.2.2.2, 0)
          else if a1.1 = (!decide (a2 = (-1))) then
            some ((a1.1, mn (wrap64 (a1.2.1 + 1)) 200000, mx a2 0), 0, 0)
          else if a2 = (-1) then
            some ((false, 1, 0), 0, 0)
          else some ((true, 1, a2), a0.2.2.2.2.2.2.2, 0)
        else if a2 = (-1) then
          if a1.1 = true then
            if a2 = (-1) then
              if a1.1 = (!decide (a2 = (-1))) then
                some ((a1.1, mn (wrap64 (a1.2.1 + 1)) 200000, mx a2 0), 0, 0)
              else if a2 = (-1) then
                some ((false, 1, 0), 0, 0)
              else some ((true, 1, a2), a0.2.2.2.2.2.2.2, 0)
            else if (wrap64 (a1.2.2 + a0.2.2.2.1)) < a2 then
              some ((false, 0, 0), 0, 17)
            else if a2 < (wrap64 (a1.2.2 - a0.2.2.2.2.1)) then
              some ((false, 0, 0), 0, 17)
            else if a1.1 = (!decide (a2 = (-1))) then
              some ((a1.1, mn (wrap64 (a1.2.1 + 1)) 200000, mx a2 0), 0, 0)
            else if a2 = (-1) then
              some ((false, 1, 0), 0, 0)
            else some ((true, 1, a2), a0.2.2.2.2.2.2.2, 0)
          else if a1.1 = (!decide (a2 = (-1))) then
            some ((a1.1, mn (wrap64 (a1.2.1 + 1)) 200000, mx a2 0), 0, 0)
          else if a2 = (-1) then
            some ((false, 1, 0), 0, 0)
          else some ((true, 1, a2), a0.2.2.2.2.2.2.2, 0)
        else if a1.2.1 < a0.2.2.2.2.2.2.1 then
          some ((false, 0, 0), 0, 12)
        else if a1.1 = true then
          if a2 = (-1) then
            if a1.1 = (!decide (a2 = (-1))) then
              some ((a1.1, mn (wrap64 (a1.2.1 + 1)) 200000, mx a2 0), 0, 0)
            else if a2 = (-1) then
              some ((false, 1, 0), 0, 0)
            else some ((true, 1, a2), a0.2.2.2.2.2.2.2, 0)
          else if (wrap64 (a1.2.2 + a0.2.2.2.1)) < a2 then
            some ((false, 0, 0), 0, 17)
          else if a2 < (wrap64 (a1.2.2 - a0.2.2.2.2.1)) then
            some ((false, 0, 0), 0, 17)
          else if a1.1 = (!decide (a2 = (-1))) then
            some ((a1.1, mn (wrap64 (a1.2.1 + 1)) 200000, mx a2 0), 0, 0)
          else if a2 = (-1) then
            some ((false, 1, 0), 0, 0)
          else some ((true, 1, a2), a0.2.2.2.2.2.2.2, 0)
        else if a1.1 = (!decide (a2 = (-1))) then
          some ((a1.1, mn (wrap64 (a1.2.1 + 1)) 200000, mx a2 0), 0, 0)
        else if a2 = (-1) then
          some ((false, 1, 0), 0, 0)
        else some ((true, 1, a2), a0.2.2.2.2.2.2.2, 0)
      else if a1.1 = true then
        if a1.1 = true then
          if a2 = (-1) then
            if a1.1 = (!decide (a2 = (-1))) then
              some ((a1.1, mn (wrap64 (a1.2.1 + 1)) 200000, mx a2 0), 0, 0)
            else if a2 = (-1) then
              some ((false, 1, 0), 0, 0)
            else some ((true, 1, a2), a0.2.2.2.2.2.2.2, 0)
          else if (wrap64 (a1.2.2 + a0.2.2.2.1)) < a2 then
            some ((false, 0, 0), 0, 17)
          else if a2 < (wrap64 (a1.2.2 - a0.2.2.2.2.1)) then
            some ((false, 0, 0), 0, 17)
          else if a1.1 = (!decide (a2 = (-1))) then
            some ((a1.1, mn (wrap64 (a1.2.1 + 1)) 200000, mx a2 0), 0, 0)
          else if a2 = (-1) then
            some ((false, 1, 0), 0, 0)
          else some ((true, 1, a2), a0.2.2.2.2.2.2.2, 0)
        else if a1.1 = (!decide (a2 = (-1))) then
          some ((a1.1, mn (wrap64 (a1.2.1 + 1)) 200000, mx a2 0), 0, 0)
        else if a2 = (-1) then
          some ((false, 1, 0), 0, 0)
        else some ((true, 1, a2), a0.2.2.2.2.2.2.2, 0)
      else if a2 = (-1) then
        if a1.1 = true then
          if a2 = (-1) then
            if a1.1 = (!decide (a2 = (-1))) then
              some ((a1.1, mn (wrap64 (a1.2.1 + 1)) 200000, mx a2 0), 0, 0)
            else if a2 = (-1) then
              some ((false, 1, 0), 0, 0)
            else some ((true, 1, a2), a0.2.2.2.2.2.2.2, 0)
          else if (wrap64 (a1.2.2 + a0.2.2.2.1)) < a2 then
            some ((false, 0, 0), 0, 17)
          else if a2 < (wrap64 (a1.2.2 - a0.2.2.2.2.1)) then
            some ((false, 0, 0), 0, 17)
          else if a1.1 = (!decide (a2 = (-1))) then
            some ((a1.1, mn (wrap64 (a1.2.1 + 1)) 200000, mx a2 0), 0, 0)
          else if a2 = (-1) then
            some ((false, 1, 0), 0, 0)
          else some ((true, 1, a2), a0.2.2.2.2.2.2.2, 0)
        else if a1.1 = (!decide (a2 = (-1))) then
          some ((a1.1, mn (wrap64 (a1.2.1 + 1)) 200000, mx a2 0), 0, 0)
        else if a2 = (-1) then
          some ((false, 1, 0), 0, 0)
        else some ((true, 1, a2), a0.2.2.2.2.2.2.2, 0)
      else if a1.2.1 < a0.2.2.2.2.2.2.1 then
        some ((false, 0, 0), 0, 12)
      else if a1.1 = true then
        if a2 = (-1) then
          if a1.1 = (!decide (a2 = (-1))) then
            some ((a1.1, mn (wrap64 (a1.2.1 + 1)) 200000, mx a2 0), 0, 0)
          else if a2 = (-1) then
            some ((false, 1, 0), 0, 0)
          else some ((true, 1, a2), a0.2.2.2.2.2.2.2, 0)
        else if (wrap64 (a1.2.2 + a0.2.2.2.1)) < a2 then
          some ((false, 0, 0), 0, 17)
        else if a2 < (wrap64 (a1.2.2 - a0.2.2.2.2.1)) then
          some ((false, 0, 0), 0, 17)
        else if a1.1 = (!decide (a2 = (-1))) then
          some ((a1.1, mn (wrap64 (a1.2.1 + 1)) 200000, mx a2 0), 0, 0)
        else if a2 = (-1) then
          some ((false, 1, 0), 0, 0)
        else some ((true, 1, a2), a0.2.2.2.2.2.2.2, 0)
      else if a1.1 = (!decide (a2 = (-1))) then
        some ((a1.1, mn (wrap64 (a1.2.1 + 1)) 200000, mx a2 0), 0, 0)
      else if a2 = (-1) then
        some ((false, 1, 0), 0, 0)
      else some ((true, 1, a2), a0.2.2.2.2.2.2.2, 0)
    else if a1.1 = true then
      if a1.1 = true then
        if a2 = (-1) then
          if a1.1 = (!decide (a2 = (-1))) then
            some ((a1.1, mn (wrap64 (a1.2.1 + 1)) 200000, mx a2 0), 0, 0)
          else if a2 = (-1) then
            some ((false, 1, 0), 0, 0)
          else some ((true, 1, a2), a0.2.2.2.2.2.2.2, 0)
        else if (wrap64 (a1.2.2 + a0.2.2.2.1)) < a2 then
          some ((false, 0, 0), 0, 17)
        else if a2 < (wrap64 (a1.2.2 - a0.2.2.2.2.1)) then
          some ((false, 0, 0), 0, 17)
        else if a1.1 = (!decide (a2 = (-1))) then
          some ((a1.1, mn (wrap64 (a1.2.1 + 1)) 200000, mx a2 0), 0, 0)
        else if a2 = (-1) then
          some ((false, 1, 0), 0, 0)
        else some ((true, 1, a2), a0.2.2.2.2.2.2.2, 0)
      else if a1.1 = (!decide (a2 = (-1))) then
        some ((a1.1, mn (wrap64 (a1.2.1 + 1)) 200000, mx a2 0), 0, 0)
      else if a2 = (-1) then
        some ((false, 1, 0), 0, 0)
      else some ((true, 1, a2), a0.2.2.2.2.2.2.2, 0)
    else if a2 = (-1) then
      if a1.1 = true then
        if a2 = (-1) then
          if a1.1 = (!decide (a2 = (-1))) then
            some ((a1.1, mn (wrap64 (a1.2.1 + 1)) 200000, mx a2 0), 0, 0)
          else if a2 = (-1) then
            some ((false, 1, 0), 0, 0)
          else some ((true, 1, a2), a0.2.2.2.2.2.2.2, 0)
        else if (wrap64 (a1.2.2 + a0.2.2.2.1)) < a2 then
          some ((false, 0, 0), 0, 17)
        else if a2 < (wrap64 (a1.2.2 - a0.2.2.2.2.1)) then
          some ((false, 0, 0), 0, 17)
        else if a1.1 = (!decide (a2 = (-1))) then
          some ((a1.1, mn (wrap64 (a1.2.1 + 1)) 200000, mx a2 0), 0, 0)
        else if a2 = (-1) then
          some ((false, 1, 0), 0, 0)
        else some ((true, 1, a2), a0.2.2.2.2.2.2.2, 0)
      else if a1.1 = (!decide (a2 = (-1))) then
        some ((a1.1, mn (wrap64 (a1.2.1 + 1)) 200000, mx a2 0), 0, 0)
      else if a2 = (-1) then
        some ((false, 1, 0), 0, 0)
      else some ((true, 1, a2), a0.2.2.2.2.2.2.2, 0)
    else if a1.2.1 < a0.2.2.2.2.2.2.1 then
      some ((false, 0, 0), 0, 12)
    else if a1.1 = true then
      if a2 = (-1) then
        if a1.1 = (!decide (a2 = (-1))) then
          some ((a1.1, mn (wrap64 (a1.2.1 + 1)) 200000, mx a2 0), 0, 0)
        else if a2 = (-1) then
          some ((false, 1, 0), 0, 0)
        else some ((true, 1, a2), a0.2.2.2.2.2.2.2, 0)
      else if (wrap64 (a1.2.2 + a0.2.2.2.1)) < a2 then
        some ((false, 0, 0), 0, 17)
      else if a2 < (wrap64 (a1.2.2 - a0.2.2.2.2.1)) then
        some ((false, 0, 0), 0, 17)
      else if a1.1 = (!decide (a2 = (-1))) then
        some ((a1.1, mn (wrap64 (a1.2.1 + 1)) 200000, mx a2 0), 0, 0)
      else if a2 = (-1) then
        some ((false, 1, 0), 0, 0)
      else some ((true, 1, a2), a0.2.2.2.2.2.2.2, 0)
    else if a1.1 = (!decide (a2 = (-1))) then
      some ((a1.1, mn (wrap64 (a1.2.1 + 1)) 200000, mx a2 0), 0, 0)
    else if a2 = (-1) then
      some ((false, 1, 0), 0, 0)
    else some ((true, 1, a2), a0.2.2.2.2.2.2.2, 0)
  else some ((false, 0, 0), 0, r1)
def dual_put.l2 : Nat → Int → Int → (List ((Bool × Int × Int) × Int × Int)) → Bool → Int → Int → Int → Int → Option (List ((Bool × Int × Int) × Int × Int))
  | 0, _, _, _, _, _, _, _, _ => none
  | k + 1, x8, x9, xo0, xo1_0, xo1_1, xo1_2, xo1_3, xo1_4 => if x9 < x8 then
      if 0 ≤ x9 then
        if x9 < (xo0.length : Int) then
          if (rY11 xo0 x9).1.1 = xo1_0 then
            if (rY11 xo0 x9).1.2.1 = xo1_1 then
              if (rY11 xo0 x9).2.1 < xo1_3 then
                if 0 ≤ x9 then
                  if x9 < (xo0.length : Int) then
                    some (xo0.set x9.toNat ((xo1_0, xo1_1, xo1_2), xo1_3, xo1_4))
                  else none
                else none
              else some xo0
            else dual_put.l2 k x8 (wrap64 (x9 + 1)) xo0 xo1_0 xo1_1 xo1_2 xo1_3 xo1_4
          else dual_put.l2 k x8 (wrap64 (x9 + 1)) xo0 xo1_0 xo1_1 xo1_2 xo1_3 xo1_4
        else none
      else none
    else if (xo0.length + [((xo1_0, xo1_1, xo1_2), xo1_3, xo1_4)].length) * 40 ≤ 140737488355328 then
      some (xo0 ++ [((xo1_0, xo1_1, xo1_2), xo1_3, xo1_4)])
    else none
theorem dual_put.l2_eq (k : Nat) (x8 : Int) (x9 : Int) (xo0 : List ((Bool × Int × Int) × Int × Int)) (xo1_0 : Bool) (xo1_1 : Int) (xo1_2 : Int) (xo1_3 : Int) (xo1_4 : Int) : dual_put.l2 (k + 1) x8 x9 xo0 xo1_0 xo1_1 xo1_2 xo1_3 xo1_4 = if x9 < x8 then
      if 0 ≤ x9 then
        if x9 < (xo0.length : Int) then
          if (rY11 xo0 x9).1.1 = xo1_0 then
            if (rY11 xo0 x9).1.2.1 = xo1_1 then
              if (rY11 xo0 x9).2.1 < xo1_3 then
                if 0 ≤ x9 then
                  if x9 < (xo0.length : Int) then
                    some (xo0.set x9.toNat ((xo1_0, xo1_1, xo1_2), xo1_3, xo1_4))
                  else none
                else none
              else some xo0
            else dual_put.l2 k x8 (wrap64 (x9 + 1)) xo0 xo1_0 xo1_1 xo1_2 xo1_3 xo1_4
          else dual_put.l2 k x8 (wrap64 (x9 + 1)) xo0 xo1_0 xo1_1 xo1_2 xo1_3 xo1_4
        else none
      else none
    else if (xo0.length + [((xo1_0, xo1_1, xo1_2), xo1_3, xo1_4)].length) * 40 ≤ 140737488355328 then
      some (xo0 ++ [((xo1_0, xo1_1, xo1_2), xo1_3, xo1_4)])
    else none := rfl
def dual_put.f (k : Nat) (a1 : (Bool × Int × Int) × Int × Int) (ao0 : List ((Bool × Int × Int) × Int × Int)) : Option (List ((Bool × Int × Int) × Int × Int)) :=
  dual_put.l2 k (ao0.length : Int) 0 ao0 a1.1.1 a1.1.2.1 a1.1.2.2 a1.2.1 a1.2.2
def dual_Single.l41 : Nat → List Int → Int → Int → Int → ByteArray → Int → Int → Int → Int → Int → Int → Int → ByteArray → (List (Int × Int)) → Bool → Int → Int → (List (List ((Bool × Int × Int) × Int × Int))) → List Int → Option (List Int × Int × Int)
  | 0, _, _, _, _, _, _, _, _, _, _, _, _, _, _, _, _, _, _, _ => none
  | k + 1, x1, x25, x28, x30, xo0_0, xo0_1, xo0_2, xo0_3, xo0_4, xo0_5, xo0_6, xo0_7, xo0_8, xo0_9, xo0_10, xo0_11, xo0_12, xo1, xo2 => if 0 < x30 then
      if 0 ≤ x30 then
        if x30 < (xo1.length : Int) then
          if 0 ≤ x25 then
            if x25 < ((rd (.list 117 Y11) xo1 x30).length : Int) then
              if 0 ≤ (wrap64 (x30 - 1)) then
                if (wrap64 (x30 - 1)) < (xo2.length : Int) then
                  if (rY11 (rd (.list 117 Y11) xo1 x30) x25).1.1 = true then
                    if 0 ≤ (wrap64 (x30 - 1)) then
                      if (wrap64 (x30 - 1)) < (x1.length : Int) then
                        (dual_earn.f k ((xo0_0, xo0_1, xo0_2, xo0_3, xo0_4, xo0_5, xo0_6, xo0_7), (xo0_8, xo0_9), xo0_10, xo0_11, xo0_12) (rI64 x1 (wrap64 (x30 - 1)))).bind fun r10 =>
                        if 0 ≤ (wrap64 (x30 - 1)) then
                          if (wrap64 (x30 - 1)) < ((xo2.set (wrap64 (x30 - 1)).toNat (-1)).length : Int) then
                            dual_Single.l41 k x1 (rY11 (rd (.list 117 Y11) xo1 x30) x25).2.2 x28 (wrap64 (x30 - 1)) xo0_0 xo0_1 xo0_2 xo0_3 xo0_4 xo0_5 xo0_6 xo0_7 xo0_8 xo0_9 xo0_10 xo0_11 xo0_12 xo1 ((xo2.set (wrap64 (x30 - 1)).toNat (-1)).set (wrap64 (x30 - 1)).toNat r10.1)
                          else none
                        else none
                      else none
                    else none
                  else dual_Single.l41 k x1 (rY11 (rd (.list 117 Y11) xo1 x30) x25).2.2 x28 (wrap64 (x30 - 1)) xo0_0 xo0_1 xo0_2 xo0_3 xo0_4 xo0_5 xo0_6 xo0_7 xo0_8 xo0_9 xo0_10 xo0_11 xo0_12 xo1 (xo2.set (wrap64 (x30 - 1)).toNat (-1))
                else none
              else none
            else none
          else none
        else none
      else none
    else some (xo2, x28, 0)
theorem dual_Single.l41_eq (k : Nat) (x1 : List Int) (x25 : Int) (x28 : Int) (x30 : Int) (xo0_0 : ByteArray) (xo0_1 : Int) (xo0_2 : Int) (xo0_3 : Int) (xo0_4 : Int) (xo0_5 : Int) (xo0_6 : Int) (xo0_7 : Int) (xo0_8 : ByteArray) (xo0_9 : List (Int × Int)) (xo0_10 : Bool) (xo0_11 : Int) (xo0_12 : Int) (xo1 : List (List ((Bool × Int × Int) × Int × Int))) (xo2 : List Int) : dual_Single.l41 (k + 1) x1 x25 x28 x30 xo0_0 xo0_1 xo0_2 xo0_3 xo0_4 xo0_5 xo0_6 xo0_7 xo0_8 xo0_9 xo0_10 xo0_11 xo0_12 xo1 xo2 = if 0 < x30 then
      if 0 ≤ x30 then
        if x30 < (xo1.length : Int) then
          if 0 ≤ x25 then
            if x25 < ((rd (.list 117 Y11) xo1 x30).length : Int) then
              if 0 ≤ (wrap64 (x30 - 1)) then
                if (wrap64 (x30 - 1)) < (xo2.length : Int) then
                  if (rY11 (rd (.list 117 Y11) xo1 x30) x25).1.1 = true then
                    if 0 ≤ (wrap64 (x30 - 1)) then
                      if (wrap64 (x30 - 1)) < (x1.length : Int) then
                        (dual_earn.f k ((xo0_0, xo0_1, xo0_2, xo0_3, xo0_4, xo0_5, xo0_6, xo0_7), (xo0_8, xo0_9), xo0_10, xo0_11, xo0_12) (rI64 x1 (wrap64 (x30 - 1)))).bind fun r10 =>
                        if 0 ≤ (wrap64 (x30 - 1)) then
                          if (wrap64 (x30 - 1)) < ((xo2.set (wrap64 (x30 - 1)).toNat (-1)).length : Int) then
                            dual_Single.l41 k x1 (rY11 (rd (.list 117 Y11) xo1 x30) x25).2.2 x28 (wrap64 (x30 - 1)) xo0_0 xo0_1 xo0_2 xo0_3 xo0_4 xo0_5 xo0_6 xo0_7 xo0_8 xo0_9 xo0_10 xo0_11 xo0_12 xo1 ((xo2.set (wrap64 (x30 - 1)).toNat (-1)).set (wrap64 (x30 - 1)).toNat r10.1)
                          else none
                        else none
                      else none
                    else none
                  else dual_Single.l41 k x1 (rY11 (rd (.list 117 Y11) xo1 x30) x25).2.2 x28 (wrap64 (x30 - 1)) xo0_0 xo0_1 xo0_2 xo0_3 xo0_4 xo0_5 xo0_6 xo0_7 xo0_8 xo0_9 xo0_10 xo0_11 xo0_12 xo1 (xo2.set (wrap64 (x30 - 1)).toNat (-1))
                else none
              else none
            else none
          else none
        else none
      else none
    else some (xo2, x28, 0) := rfl
def dual_Single.l33 : Nat → List Int → (List ((Bool × Int × Int) × Int × Int)) → Int → (List ((Bool × Int × Int) × Int × Int)) → Int → Int → ByteArray → Int → Int → Int → Int → Int → Int → Int → ByteArray → (List (Int × Int)) → Bool → Int → Int → (List (List ((Bool × Int × Int) × Int × Int))) → Option (List Int × Int × Int)
  | 0, _, _, _, _, _, _, _, _, _, _, _, _, _, _, _, _, _, _, _, _ => none
  | k + 1, x1, x24, x25, x141, x142, x143, xo0_0, xo0_1, xo0_2, xo0_3, xo0_4, xo0_5, xo0_6, xo0_7, xo0_8, xo0_9, xo0_10, xo0_11, xo0_12, xo1 => if x143 < x142 then
      if 0 ≤ x143 then
        if x143 < (x141.length : Int) then
          if 0 ≤ x25 then
            if x25 < (x24.length : Int) then
              if (rY11 x24 x25).2.1 < (rY11 x141 x143).2.1 then
                dual_Single.l33 k x1 x24 x143 x141 x142 (wrap64 (x143 + 1)) xo0_0 xo0_1 xo0_2 xo0_3 xo0_4 xo0_5 xo0_6 xo0_7 xo0_8 xo0_9 xo0_10 xo0_11 xo0_12 xo1
              else dual_Single.l33 k x1 x24 x25 x141 x142 (wrap64 (x143 + 1)) xo0_0 xo0_1 xo0_2 xo0_3 xo0_4 xo0_5 xo0_6 xo0_7 xo0_8 xo0_9 xo0_10 xo0_11 xo0_12 xo1
            else none
          else none
        else none
      else none
    else if 0 ≤ x25 then
      if x25 < (x24.length : Int) then
        if 0 ≤ (x1.length : Int) then
          if (x1.length : Int) * 8 ≤ 140737488355328 then
            if (x1.length : Int) ≤ 140737488355328 then
              dual_Single.l41 k x1 x25 (rY11 x24 x25).2.1 (x1.length : Int) xo0_0 xo0_1 xo0_2 xo0_3 xo0_4 xo0_5 xo0_6 xo0_7 xo0_8 xo0_9 xo0_10 xo0_11 xo0_12 xo1 (List.replicate (x1.length : Int).toNat 0)
            else none
          else none
        else none
      else none
    else none
theorem dual_Single.l33_eq (k : Nat) (x1 : List Int) (x24 : List ((Bool × Int × Int) × Int × Int)) (x25 : Int) (x141 : List ((Bool × Int × Int) × Int × Int)) (x142 : Int) (x143 : Int) (xo0_0 : ByteArray) (xo0_1 : Int) (xo0_2 : Int) (xo0_3 : Int) (xo0_4 : Int) (xo0_5 : Int) (xo0_6 : Int) (xo0_7 : Int) (xo0_8 : ByteArray) (xo0_9 : List (Int × Int)) (xo0_10 : Bool) (xo0_11 : Int) (xo0_12 : Int) (xo1 : List (List ((Bool × Int × Int) × Int × Int))) : dual_Single.l33 (k + 1) x1 x24 x25 x141 x142 x143 xo0_0 xo0_1 xo0_2 xo0_3 xo0_4 xo0_5 xo0_6 xo0_7 xo0_8 xo0_9 xo0_10 xo0_11 xo0_12 xo1 = if x143 < x142 then
      if 0 ≤ x143 then
        if x143 < (x141.length : Int) then
          if 0 ≤ x25 then
            if x25 < (x24.length : Int) then
              if (rY11 x24 x25).2.1 < (rY11 x141 x143).2.1 then
                dual_Single.l33 k x1 x24 x143 x141 x142 (wrap64 (x143 + 1)) xo0_0 xo0_1 xo0_2 xo0_3 xo0_4 xo0_5 xo0_6 xo0_7 xo0_8 xo0_9 xo0_10 xo0_11 xo0_12 xo1
              else dual_Single.l33 k x1 x24 x25 x141 x142 (wrap64 (x143 + 1)) xo0_0 xo0_1 xo0_2 xo0_3 xo0_4 xo0_5 xo0_6 xo0_7 xo0_8 xo0_9 xo0_10 xo0_11 xo0_12 xo1
            else none
          else none
        else none
      else none
    else if 0 ≤ x25 then
      if x25 < (x24.length : Int) then
        if 0 ≤ (x1.length : Int) then
          if (x1.length : Int) * 8 ≤ 140737488355328 then
            if (x1.length : Int) ≤ 140737488355328 then
              dual_Single.l41 k x1 x25 (rY11 x24 x25).2.1 (x1.length : Int) xo0_0 xo0_1 xo0_2 xo0_3 xo0_4 xo0_5 xo0_6 xo0_7 xo0_8 xo0_9 xo0_10 xo0_11 xo0_12 xo1 (List.replicate (x1.length : Int).toNat 0)
            else none
          else none
        else none
      else none
    else none := rfl
mutual
def dual_Single.l14 : Nat → List Int → List Int → Int → Int → ByteArray → Int → Int → Int → Int → Int → Int → Int → ByteArray → (List (Int × Int)) → Bool → Int → Int → (List (List ((Bool × Int × Int) × Int × Int))) → Option (List Int × Int × Int)
  | 0, _, _, _, _, _, _, _, _, _, _, _, _, _, _, _, _, _, _ => none
  | k + 1, x1, x60, x61, x62, xo0_0, xo0_1, xo0_2, xo0_3, xo0_4, xo0_5, xo0_6, xo0_7, xo0_8, xo0_9, xo0_10, xo0_11, xo0_12, xo1 => if x62 < x61 then
      if 0 ≤ x62 then
        if x62 < (x60.length : Int) then
          (dual_earn.f k ((xo0_0, xo0_1, xo0_2, xo0_3, xo0_4, xo0_5, xo0_6, xo0_7), (xo0_8, xo0_9), xo0_10, xo0_11, xo0_12) (rI64 x60 x62)).bind fun r3 =>
          if 0 ≤ (wrap64 ((xo1.length : Int) - 1)) then
            if (wrap64 ((xo1.length : Int) - 1)) < (xo1.length : Int) then
              dual_Single.l19 k x1 r3.1 r3.2 x60 x61 x62 (rd (.list 117 Y11) xo1 (wrap64 ((xo1.length : Int) - 1))) ((rd (.list 117 Y11) xo1 (wrap64 ((xo1.length : Int) - 1))).length : Int) 0 xo0_0 xo0_1 xo0_2 xo0_3 xo0_4 xo0_5 xo0_6 xo0_7 xo0_8 xo0_9 xo0_10 xo0_11 xo0_12 xo1 []
            else none
          else none
        else none
      else none
    else if 0 ≤ (wrap64 ((xo1.length : Int) - 1)) then
      if (wrap64 ((xo1.length : Int) - 1)) < (xo1.length : Int) then
        dual_Single.l33 k x1 (rd (.list 117 Y11) xo1 (wrap64 ((xo1.length : Int) - 1))) 0 (rd (.list 117 Y11) xo1 (wrap64 ((xo1.length : Int) - 1))) ((rd (.list 117 Y11) xo1 (wrap64 ((xo1.length : Int) - 1))).length : Int) 0 xo0_0 xo0_1 xo0_2 xo0_3 xo0_4 xo0_5 xo0_6 xo0_7 xo0_8 xo0_9 xo0_10 xo0_11 xo0_12 xo1
      else none
    else none
def dual_Single.l19 : Nat → List Int → Int → Int → List Int → Int → Int → (List ((Bool × Int × Int) × Int × Int)) → Int → Int → ByteArray → Int → Int → Int → Int → Int → Int → Int → ByteArray → (List (Int × Int)) → Bool → Int → Int → (List (List ((Bool × Int × Int) × Int × Int))) → (List ((Bool × Int × Int) × Int × Int)) → Option (List Int × Int × Int)
  | 0, _, _, _, _, _, _, _, _, _, _, _, _, _, _, _, _, _, _, _, _, _, _, _, _ => none
  | k + 1, x1, x13, x14, x60, x61, x62, x77, x78, x79, xo0_0, xo0_1, xo0_2, xo0_3, xo0_4, xo0_5, xo0_6, xo0_7, xo0_8, xo0_9, xo0_10, xo0_11, xo0_12, xo1, xo2 => if x79 < x78 then
      if 0 ≤ x79 then
        if x79 < (x77.length : Int) then
          (unit_Next.f k (xo0_0, xo0_1, xo0_2, xo0_3, xo0_4, xo0_5, xo0_6, xo0_7) (rY11 x77 x79).1 (-1)).bind fun r4 =>
          if r4.2.2 = 0 then
            (dual_cut.f k ((xo0_0, xo0_1, xo0_2, xo0_3, xo0_4, xo0_5, xo0_6, xo0_7), (xo0_8, xo0_9), xo0_10, xo0_11, xo0_12) r4.1).bind fun r5 =>
            (dual_put.f k (r5, (rY11 x77 x79).2.1, x79) xo2).bind fun r6 =>
            dual_Single.l24 k x1 x13 x14 x79 x60 x61 x62 x77 x78 x79 xo0_0 xo0_1 xo0_2 xo0_3 xo0_4 xo0_5 xo0_6 xo0_7 xo0_8 xo0_9 xo0_10 xo0_11 xo0_12 xo1 r6 (rY11 x77 x79).1.1 (rY11 x77 x79).1.2.1 (rY11 x77 x79).1.2.2 (rY11 x77 x79).2.1 (rY11 x77 x79).2.2
          else dual_Single.l24 k x1 x13 x14 x79 x60 x61 x62 x77 x78 x79 xo0_0 xo0_1 xo0_2 xo0_3 xo0_4 xo0_5 xo0_6 xo0_7 xo0_8 xo0_9 xo0_10 xo0_11 xo0_12 xo1 xo2 (rY11 x77 x79).1.1 (rY11 x77 x79).1.2.1 (rY11 x77 x79).1.2.2 (rY11 x77 x79).2.1 (rY11 x77 x79).2.2
        else none
      else none
    else if (xo1.length + [xo2].length) * 24 ≤ 140737488355328 then
      dual_Single.l14 k x1 x60 x61 (wrap64 (x62 + 1)) xo0_0 xo0_1 xo0_2 xo0_3 xo0_4 xo0_5 xo0_6 xo0_7 xo0_8 xo0_9 xo0_10 xo0_11 xo0_12 (xo1 ++ [xo2])
    else none
def dual_Single.l24 : Nat → List Int → Int → Int → Int → List Int → Int → Int → (List ((Bool × Int × Int) × Int × Int)) → Int → Int → ByteArray → Int → Int → Int → Int → Int → Int → Int → ByteArray → (List (Int × Int)) → Bool → Int → Int → (List (List ((Bool × Int × Int) × Int × Int))) → (List ((Bool × Int × Int) × Int × Int)) → Bool → Int → Int → Int → Int → Option (List Int × Int × Int)
  | 0, _, _, _, _, _, _, _, _, _, _, _, _, _, _, _, _, _, _, _, _, _, _, _, _, _, _, _, _, _, _ => none
  | k + 1, x1, x13, x14, x16, x60, x61, x62, x77, x78, x79, xo0_0, xo0_1, xo0_2, xo0_3, xo0_4, xo0_5, xo0_6, xo0_7, xo0_8, xo0_9, xo0_10, xo0_11, xo0_12, xo1, xo2, xo3_0, xo3_1, xo3_2, xo3_3, xo3_4 => (unit_Next.f k (xo0_0, xo0_1, xo0_2, xo0_3, xo0_4, xo0_5, xo0_6, xo0_7) (xo3_0, xo3_1, xo3_2) x13).bind fun r7 =>
    if r7.2.2 = 0 then
      (dual_cut.f k ((xo0_0, xo0_1, xo0_2, xo0_3, xo0_4, xo0_5, xo0_6, xo0_7), (xo0_8, xo0_9), xo0_10, xo0_11, xo0_12) r7.1).bind fun r8 =>
      (dual_put.f k (r8, wrap64 ((wrap64 (xo3_3 + x14)) - r7.2.1), x16) xo2).bind fun r9 =>
      dual_Single.l19 k x1 x13 x14 x60 x61 x62 x77 x78 (wrap64 (x79 + 1)) xo0_0 xo0_1 xo0_2 xo0_3 xo0_4 xo0_5 xo0_6 xo0_7 xo0_8 xo0_9 xo0_10 xo0_11 xo0_12 xo1 r9
    else dual_Single.l19 k x1 x13 x14 x60 x61 x62 x77 x78 (wrap64 (x79 + 1)) xo0_0 xo0_1 xo0_2 xo0_3 xo0_4 xo0_5 xo0_6 xo0_7 xo0_8 xo0_9 xo0_10 xo0_11 xo0_12 xo1 xo2
end
theorem dual_Single.l14_eq (k : Nat) (x1 : List Int) (x60 : List Int) (x61 : Int) (x62 : Int) (xo0_0 : ByteArray) (xo0_1 : Int) (xo0_2 : Int) (xo0_3 : Int) (xo0_4 : Int) (xo0_5 : Int) (xo0_6 : Int) (xo0_7 : Int) (xo0_8 : ByteArray) (xo0_9 : List (Int × Int)) (xo0_10 : Bool) (xo0_11 : Int) (xo0_12 : Int) (xo1 : List (List ((Bool × Int × Int) × Int × Int))) : dual_Single.l14 (k + 1) x1 x60 x61 x62 xo0_0 xo0_1 xo0_2 xo0_3 xo0_4 xo0_5 xo0_6 xo0_7 xo0_8 xo0_9 xo0_10 xo0_11 xo0_12 xo1 = if x62 < x61 then
      if 0 ≤ x62 then
        if x62 < (x60.length : Int) then
          (dual_earn.f k ((xo0_0, xo0_1, xo0_2, xo0_3, xo0_4, xo0_5, xo0_6, xo0_7), (xo0_8, xo0_9), xo0_10, xo0_11, xo0_12) (rI64 x60 x62)).bind fun r3 =>
          if 0 ≤ (wrap64 ((xo1.length : Int) - 1)) then
            if (wrap64 ((xo1.length : Int) - 1)) < (xo1.length : Int) then
              dual_Single.l19 k x1 r3.1 r3.2 x60 x61 x62 (rd (.list 117 Y11) xo1 (wrap64 ((xo1.length : Int) - 1))) ((rd (.list 117 Y11) xo1 (wrap64 ((xo1.length : Int) - 1))).length : Int) 0 xo0_0 xo0_1 xo0_2 xo0_3 xo0_4 xo0_5 xo0_6 xo0_7 xo0_8 xo0_9 xo0_10 xo0_11 xo0_12 xo1 []
            else none
          else none
        else none
      else none
    else if 0 ≤ (wrap64 ((xo1.length : Int) - 1)) then
      if (wrap64 ((xo1.length : Int) - 1)) < (xo1.length : Int) then
        dual_Single.l33 k x1 (rd (.list 117 Y11) xo1 (wrap64 ((xo1.length : Int) - 1))) 0 (rd (.list 117 Y11) xo1 (wrap64 ((xo1.length : Int) - 1))) ((rd (.list 117 Y11) xo1 (wrap64 ((xo1.length : Int) - 1))).length : Int) 0 xo0_0 xo0_1 xo0_2 xo0_3 xo0_4 xo0_5 xo0_6 xo0_7 xo0_8 xo0_9 xo0_10 xo0_11 xo0_12 xo1
      else none
    else none := rfl
theorem dual_Single.l19_eq (k : Nat) (x1 : List Int) (x13 : Int) (x14 : Int) (x60 : List Int) (x61 : Int) (x62 : Int) (x77 : List ((Bool × Int × Int) × Int × Int)) (x78 : Int) (x79 : Int) (xo0_0 : ByteArray) (xo0_1 : Int) (xo0_2 : Int) (xo0_3 : Int) (xo0_4 : Int) (xo0_5 : Int) (xo0_6 : Int) (xo0_7 : Int) (xo0_8 : ByteArray) (xo0_9 : List (Int × Int)) (xo0_10 : Bool) (xo0_11 : Int) (xo0_12 : Int) (xo1 : List (List ((Bool × Int × Int) × Int × Int))) (xo2 : List ((Bool × Int × Int) × Int × Int)) : dual_Single.l19 (k + 1) x1 x13 x14 x60 x61 x62 x77 x78 x79 xo0_0 xo0_1 xo0_2 xo0_3 xo0_4 xo0_5 xo0_6 xo0_7 xo0_8 xo0_9 xo0_10 xo0_11 xo0_12 xo1 xo2 = if x79 < x78 then
      if 0 ≤ x79 then
        if x79 < (x77.length : Int) then
          (unit_Next.f k (xo0_0, xo0_1, xo0_2, xo0_3, xo0_4, xo0_5, xo0_6, xo0_7) (rY11 x77 x79).1 (-1)).bind fun r4 =>
          if r4.2.2 = 0 then
            (dual_cut.f k ((xo0_0, xo0_1, xo0_2, xo0_3, xo0_4, xo0_5, xo0_6, xo0_7), (xo0_8, xo0_9), xo0_10, xo0_11, xo0_12) r4.1).bind fun r5 =>
            (dual_put.f k (r5, (rY11 x77 x79).2.1, x79) xo2).bind fun r6 =>
            dual_Single.l24 k x1 x13 x14 x79 x60 x61 x62 x77 x78 x79 xo0_0 xo0_1 xo0_2 xo0_3 xo0_4 xo0_5 xo0_6 xo0_7 xo0_8 xo0_9 xo0_10 xo0_11 xo0_12 xo1 r6 (rY11 x77 x79).1.1 (rY11 x77 x79).1.2.1 (rY11 x77 x79).1.2.2 (rY11 x77 x79).2.1 (rY11 x77 x79).2.2
          else dual_Single.l24 k x1 x13 x14 x79 x60 x61 x62 x77 x78 x79 xo0_0 xo0_1 xo0_2 xo0_3 xo0_4 xo0_5 xo0_6 xo0_7 xo0_8 xo0_9 xo0_10 xo0_11 xo0_12 xo1 xo2 (rY11 x77 x79).1.1 (rY11 x77 x79).1.2.1 (rY11 x77 x79).1.2.2 (rY11 x77 x79).2.1 (rY11 x77 x79).2.2
        else none
      else none
    else if (xo1.length + [xo2].length) * 24 ≤ 140737488355328 then
      dual_Single.l14 k x1 x60 x61 (wrap64 (x62 + 1)) xo0_0 xo0_1 xo0_2 xo0_3 xo0_4 xo0_5 xo0_6 xo0_7 xo0_8 xo0_9 xo0_10 xo0_11 xo0_12 (xo1 ++ [xo2])
    else none := rfl
theorem dual_Single.l24_eq (k : Nat) (x1 : List Int) (x13 : Int) (x14 : Int) (x16 : Int) (x60 : List Int) (x61 : Int) (x62 : Int) (x77 : List ((Bool × Int × Int) × Int × Int)) (x78 : Int) (x79 : Int) (xo0_0 : ByteArray) (xo0_1 : Int) (xo0_2 : Int) (xo0_3 : Int) (xo0_4 : Int) (xo0_5 : Int) (xo0_6 : Int) (xo0_7 : Int) (xo0_8 : ByteArray) (xo0_9 : List (Int × Int)) (xo0_10 : Bool) (xo0_11 : Int) (xo0_12 : Int) (xo1 : List (List ((Bool × Int × Int) × Int × Int))) (xo2 : List ((Bool × Int × Int) × Int × Int)) (xo3_0 : Bool) (xo3_1 : Int) (xo3_2 : Int) (xo3_3 : Int) (xo3_4 : Int) : dual_Single.l24 (k + 1) x1 x13 x14 x16 x60 x61 x62 x77 x78 x79 xo0_0 xo0_1 xo0_2 xo0_3 xo0_4 xo0_5 xo0_6 xo0_7 xo0_8 xo0_9 xo0_10 xo0_11 xo0_12 xo1 xo2 xo3_0 xo3_1 xo3_2 xo3_3 xo3_4 = (unit_Next.f k (xo0_0, xo0_1, xo0_2, xo0_3, xo0_4, xo0_5, xo0_6, xo0_7) (xo3_0, xo3_1, xo3_2) x13).bind fun r7 =>
    if r7.2.2 = 0 then
      (dual_cut.f k ((xo0_0, xo0_1, xo0_2, xo0_3, xo0_4, xo0_5, xo0_6, xo0_7), (xo0_8, xo0_9), xo0_10, xo0_11, xo0_12) r7.1).bind fun r8 =>
      (dual_put.f k (r8, wrap64 ((wrap64 (xo3_3 + x14)) - r7.2.1), x16) xo2).bind fun r9 =>
      dual_Single.l19 k x1 x13 x14 x60 x61 x62 x77 x78 (wrap64 (x79 + 1)) xo0_0 xo0_1 xo0_2 xo0_3 xo0_4 xo0_5 xo0_6 xo0_7 xo0_8 xo0_9 xo0_10 xo0_11 xo0_12 xo1 r9
    else dual_Single.l19 k x1 x13 x14 x60 x61 x62 x77 x78 (wrap64 (x79 + 1)) xo0_0 xo0_1 xo0_2 xo0_3 xo0_4 xo0_5 xo0_6 xo0_7 xo0_8 xo0_9 xo0_10 xo0_11 xo0_12 xo1 xo2 := rfl
def dual_Single.l7 : Nat → List Int → List Int → Int → Int → ByteArray → Int → Int → Int → Int → Int → Int → Int → ByteArray → (List (Int × Int)) → Bool → Int → Int → Option (List Int × Int × Int)
  | 0, _, _, _, _, _, _, _, _, _, _, _, _, _, _, _, _, _ => none
  | k + 1, x1, x40, x41, x42, xo0_0, xo0_1, xo0_2, xo0_3, xo0_4, xo0_5, xo0_6, xo0_7, xo0_8, xo0_9, xo0_10, xo0_11, xo0_12 => if x42 < x41 then
      if 0 ≤ x42 then
        if x42 < (x40.length : Int) then
          if (rI64 x40 x42) < (-2000000) then
            some ([], 0, 4)
          else if 2000000 < (rI64 x40 x42) then
            some ([], 0, 4)
          else dual_Single.l7 k x1 x40 x41 (wrap64 (x42 + 1)) xo0_0 xo0_1 xo0_2 xo0_3 xo0_4 xo0_5 xo0_6 xo0_7 xo0_8 xo0_9 xo0_10 xo0_11 xo0_12
        else none
      else none
    else (dual_cut.f k ((xo0_0, xo0_1, xo0_2, xo0_3, xo0_4, xo0_5, xo0_6, xo0_7), (xo0_8, xo0_9), xo0_10, xo0_11, xo0_12) (xo0_10, xo0_11, xo0_12)).bind fun r2 =>
    dual_Single.l14 k x1 x1 (x1.length : Int) 0 xo0_0 xo0_1 xo0_2 xo0_3 xo0_4 xo0_5 xo0_6 xo0_7 xo0_8 xo0_9 xo0_10 xo0_11 xo0_12 [[(r2, 0, 0)]]
theorem dual_Single.l7_eq (k : Nat) (x1 : List Int) (x40 : List Int) (x41 : Int) (x42 : Int) (xo0_0 : ByteArray) (xo0_1 : Int) (xo0_2 : Int) (xo0_3 : Int) (xo0_4 : Int) (xo0_5 : Int) (xo0_6 : Int) (xo0_7 : Int) (xo0_8 : ByteArray) (xo0_9 : List (Int × Int)) (xo0_10 : Bool) (xo0_11 : Int) (xo0_12 : Int) : dual_Single.l7 (k + 1) x1 x40 x41 x42 xo0_0 xo0_1 xo0_2 xo0_3 xo0_4 xo0_5 xo0_6 xo0_7 xo0_8 xo0_9 xo0_10 xo0_11 xo0_12 = if x42 < x41 then
      if 0 ≤ x42 then
        if x42 < (x40.length : Int) then
          if (rI64 x40 x42) < (-2000000) then
            some ([], 0, 4)
          else if 2000000 < (rI64 x40 x42) then
            some ([], 0, 4)
          else dual_Single.l7 k x1 x40 x41 (wrap64 (x42 + 1)) xo0_0 xo0_1 xo0_2 xo0_3 xo0_4 xo0_5 xo0_6 xo0_7 xo0_8 xo0_9 xo0_10 xo0_11 xo0_12
        else none
      else none
    else (dual_cut.f k ((xo0_0, xo0_1, xo0_2, xo0_3, xo0_4, xo0_5, xo0_6, xo0_7), (xo0_8, xo0_9), xo0_10, xo0_11, xo0_12) (xo0_10, xo0_11, xo0_12)).bind fun r2 =>
    dual_Single.l14 k x1 x1 (x1.length : Int) 0 xo0_0 xo0_1 xo0_2 xo0_3 xo0_4 xo0_5 xo0_6 xo0_7 xo0_8 xo0_9 xo0_10 xo0_11 xo0_12 [[(r2, 0, 0)]] := rfl
def dual_Single.f (k : Nat) (a0 : (ByteArray × Int × Int × Int × Int × Int × Int × Int) × (ByteArray × List (Int × Int)) × Bool × Int × Int) (a1 : List Int) : Option (List Int × Int × Int) :=
  (dual_Check.f k a0).bind fun r1 =>
  if r1 = 0 then
    if 8 < (a1.length : Int) then
      some ([], 0, 2)
    else dual_Single.l7 k a1 a1 (a1.length : Int) 0 a0.1.1 a0.1.2.1 a0.1.2.2.1 a0.1.2.2.2.1 a0.1.2.2.2.2.1 a0.1.2.2.2.2.2.1 a0.1.2.2.2.2.2.2.1 a0.1.2.2.2.2.2.2.2 a0.2.1.1 a0.2.1.2 a0.2.2.1 a0.2.2.2.1 a0.2.2.2.2
  else some ([], 0, r1)
def dual_Bound.l15 : Nat → List Int → Int → (List ((ByteArray × Int × Int × Int × Int × Int × Int × Int) × (ByteArray × List (Int × Int)) × Bool × Int × Int)) → Int → Int → Option (Int × Int)
  | 0, _, _, _, _, _ => none
  | k + 1, x2, x9, x56, x57, x58 => if x58 < x57 then
      if 0 ≤ x58 then
        if x58 < (x56.length : Int) then
          (dual_Single.f k (rY10 x56 x58) x2).bind fun r2 =>
          if r2.2.2 = 0 then
            dual_Bound.l15 k x2 (wrap64 (x9 - r2.2.1)) x56 x57 (wrap64 (x58 + 1))
          else some (0, r2.2.2)
        else none
      else none
    else some (x9, 0)
theorem dual_Bound.l15_eq (k : Nat) (x2 : List Int) (x9 : Int) (x56 : List ((ByteArray × Int × Int × Int × Int × Int × Int × Int) × (ByteArray × List (Int × Int)) × Bool × Int × Int)) (x57 : Int) (x58 : Int) : dual_Bound.l15 (k + 1) x2 x9 x56 x57 x58 = if x58 < x57 then
      if 0 ≤ x58 then
        if x58 < (x56.length : Int) then
          (dual_Single.f k (rY10 x56 x58) x2).bind fun r2 =>
          if r2.2.2 = 0 then
            dual_Bound.l15 k x2 (wrap64 (x9 - r2.2.1)) x56 x57 (wrap64 (x58 + 1))
          else some (0, r2.2.2)
        else none
      else none
    else some (x9, 0) := rfl
def dual_Bound.l8 : Nat → (List ((ByteArray × Int × Int × Int × Int × Int × Int × Int) × (ByteArray × List (Int × Int)) × Bool × Int × Int)) → List Int → Int → List Int → Int → Int → Option (Int × Int)
  | 0, _, _, _, _, _, _ => none
  | k + 1, x0, x2, x9, x28, x29, x30 => if x30 < x29 then
      if 0 ≤ x30 then
        if x30 < (x28.length : Int) then
          if 0 ≤ x30 then
            if x30 < (x2.length : Int) then
              if (rI64 x2 x30) < (-2000000) then
                some (0, 4)
              else if 0 ≤ x30 then
                if x30 < (x2.length : Int) then
                  if 2000000 < (rI64 x2 x30) then
                    some (0, 4)
                  else if 0 ≤ x30 then
                    if x30 < (x2.length : Int) then
                      dual_Bound.l8 k x0 x2 (wrap64 (x9 + (wrap64 ((rI64 x2 x30) * (rI64 x28 x30))))) x28 x29 (wrap64 (x30 + 1))
                    else none
                  else none
                else none
              else none
            else none
          else none
        else none
      else none
    else dual_Bound.l15 k x2 x9 x0 (x0.length : Int) 0
theorem dual_Bound.l8_eq (k : Nat) (x0 : List ((ByteArray × Int × Int × Int × Int × Int × Int × Int) × (ByteArray × List (Int × Int)) × Bool × Int × Int)) (x2 : List Int) (x9 : Int) (x28 : List Int) (x29 : Int) (x30 : Int) : dual_Bound.l8 (k + 1) x0 x2 x9 x28 x29 x30 = if x30 < x29 then
      if 0 ≤ x30 then
        if x30 < (x28.length : Int) then
          if 0 ≤ x30 then
            if x30 < (x2.length : Int) then
              if (rI64 x2 x30) < (-2000000) then
                some (0, 4)
              else if 0 ≤ x30 then
                if x30 < (x2.length : Int) then
                  if 2000000 < (rI64 x2 x30) then
                    some (0, 4)
                  else if 0 ≤ x30 then
                    if x30 < (x2.length : Int) then
                      dual_Bound.l8 k x0 x2 (wrap64 (x9 + (wrap64 ((rI64 x2 x30) * (rI64 x28 x30))))) x28 x29 (wrap64 (x30 + 1))
                    else none
                  else none
                else none
              else none
            else none
          else none
        else none
      else none
    else dual_Bound.l15 k x2 x9 x0 (x0.length : Int) 0 := rfl
def dual_Bound.f (k : Nat) (a0 : List ((ByteArray × Int × Int × Int × Int × Int × Int × Int) × (ByteArray × List (Int × Int)) × Bool × Int × Int)) (a1 : List Int) (a2 : List Int) : Option (Int × Int) :=
  (dual_CheckAll.f k a0 a1).bind fun r1 =>
  if r1 = 0 then
    if (a2.length : Int) = (a1.length : Int) then
      dual_Bound.l8 k a0 a2 0 a1 (a1.length : Int) 0
    else some (0, 3)
  else some (0, r1)
def dual_Step.l19 : Nat → List Int → Int → List Int → Int → Int → List Int → List Int → Option (List Int × Int)
  | 0, _, _, _, _, _, _, _ => none
  | k + 1, x1, x3, x75, x76, x77, xo0, xo1 => if x77 < x76 then
      if 0 ≤ x77 then
        if x77 < (x75.length : Int) then
          if 0 ≤ x77 then
            if x77 < (xo0.length : Int) then
              if 0 ≤ x77 then
                if x77 < (x1.length : Int) then
                  if (rI64 xo0 x77) < (rI64 x1 x77) then
                    if 0 ≤ x77 then
                      if x77 < (xo1.length : Int) then
                        dual_Step.l19 k x1 x3 x75 x76 (wrap64 (x77 + 1)) xo0 (xo1.set x77.toNat (mx (-2000000) (mn (wrap64 ((rI64 x75 x77) + x3)) 2000000)))
                      else none
                    else none
                  else if 0 ≤ x77 then
                    if x77 < (xo0.length : Int) then
                      if 0 ≤ x77 then
                        if x77 < (x1.length : Int) then
                          if (rI64 x1 x77) < (rI64 xo0 x77) then
                            if 0 ≤ x77 then
                              if x77 < (xo1.length : Int) then
                                dual_Step.l19 k x1 x3 x75 x76 (wrap64 (x77 + 1)) xo0 (xo1.set x77.toNat (mx (-2000000) (mn (wrap64 ((rI64 x75 x77) - x3)) 2000000)))
                              else none
                            else none
                          else if 0 ≤ x77 then
                            if x77 < (xo1.length : Int) then
                              dual_Step.l19 k x1 x3 x75 x76 (wrap64 (x77 + 1)) xo0 (xo1.set x77.toNat (mx (-2000000) (mn (rI64 x75 x77) 2000000)))
                            else none
                          else none
                        else none
                      else none
                    else none
                  else none
                else none
              else none
            else none
          else none
        else none
      else none
    else some (xo1, 0)
theorem dual_Step.l19_eq (k : Nat) (x1 : List Int) (x3 : Int) (x75 : List Int) (x76 : Int) (x77 : Int) (xo0 : List Int) (xo1 : List Int) : dual_Step.l19 (k + 1) x1 x3 x75 x76 x77 xo0 xo1 = if x77 < x76 then
      if 0 ≤ x77 then
        if x77 < (x75.length : Int) then
          if 0 ≤ x77 then
            if x77 < (xo0.length : Int) then
              if 0 ≤ x77 then
                if x77 < (x1.length : Int) then
                  if (rI64 xo0 x77) < (rI64 x1 x77) then
                    if 0 ≤ x77 then
                      if x77 < (xo1.length : Int) then
                        dual_Step.l19 k x1 x3 x75 x76 (wrap64 (x77 + 1)) xo0 (xo1.set x77.toNat (mx (-2000000) (mn (wrap64 ((rI64 x75 x77) + x3)) 2000000)))
                      else none
                    else none
                  else if 0 ≤ x77 then
                    if x77 < (xo0.length : Int) then
                      if 0 ≤ x77 then
                        if x77 < (x1.length : Int) then
                          if (rI64 x1 x77) < (rI64 xo0 x77) then
                            if 0 ≤ x77 then
                              if x77 < (xo1.length : Int) then
                                dual_Step.l19 k x1 x3 x75 x76 (wrap64 (x77 + 1)) xo0 (xo1.set x77.toNat (mx (-2000000) (mn (wrap64 ((rI64 x75 x77) - x3)) 2000000)))
                              else none
                            else none
                          else if 0 ≤ x77 then
                            if x77 < (xo1.length : Int) then
                              dual_Step.l19 k x1 x3 x75 x76 (wrap64 (x77 + 1)) xo0 (xo1.set x77.toNat (mx (-2000000) (mn (rI64 x75 x77) 2000000)))
                            else none
                          else none
                        else none
                      else none
                    else none
                  else none
                else none
              else none
            else none
          else none
        else none
      else none
    else some (xo1, 0) := rfl
mutual
def dual_Step.l8 : Nat → List Int → List Int → Int → (List ((ByteArray × Int × Int × Int × Int × Int × Int × Int) × (ByteArray × List (Int × Int)) × Bool × Int × Int)) → Int → Int → List Int → Option (List Int × Int)
  | 0, _, _, _, _, _, _, _ => none
  | k + 1, x1, x2, x3, x42, x43, x44, xo0 => if x44 < x43 then
      if 0 ≤ x44 then
        if x44 < (x42.length : Int) then
          (dual_Single.f k (rY10 x42 x44) x2).bind fun r2 =>
          dual_Step.l12 k x1 x2 x3 x42 x43 x44 r2.1 (r2.1.length : Int) 0 xo0
        else none
      else none
    else if 0 ≤ (x2.length : Int) then
      if (x2.length : Int) * 8 ≤ 140737488355328 then
        if (x2.length : Int) ≤ 140737488355328 then
          dual_Step.l19 k x1 x3 x2 (x2.length : Int) 0 xo0 (List.replicate (x2.length : Int).toNat 0)
        else none
      else none
    else none
def dual_Step.l12 : Nat → List Int → List Int → Int → (List ((ByteArray × Int × Int × Int × Int × Int × Int × Int) × (ByteArray × List (Int × Int)) × Bool × Int × Int)) → Int → Int → List Int → Int → Int → List Int → Option (List Int × Int)
  | 0, _, _, _, _, _, _, _, _, _, _ => none
  | k + 1, x1, x2, x3, x42, x43, x44, x55, x56, x57, xo0 => if x57 < x56 then
      if 0 ≤ x57 then
        if x57 < (x55.length : Int) then
          if 0 ≤ x57 then
            if x57 < (xo0.length : Int) then
              if 0 ≤ x57 then
                if x57 < (xo0.length : Int) then
                  dual_Step.l12 k x1 x2 x3 x42 x43 x44 x55 x56 (wrap64 (x57 + 1)) (xo0.set x57.toNat (wrap64 ((rI64 xo0 x57) + (mx (rI64 x55 x57) 0))))
                else none
              else none
            else none
          else none
        else none
      else none
    else dual_Step.l8 k x1 x2 x3 x42 x43 (wrap64 (x44 + 1)) xo0
end
theorem dual_Step.l8_eq (k : Nat) (x1 : List Int) (x2 : List Int) (x3 : Int) (x42 : List ((ByteArray × Int × Int × Int × Int × Int × Int × Int) × (ByteArray × List (Int × Int)) × Bool × Int × Int)) (x43 : Int) (x44 : Int) (xo0 : List Int) : dual_Step.l8 (k + 1) x1 x2 x3 x42 x43 x44 xo0 = if x44 < x43 then
      if 0 ≤ x44 then
        if x44 < (x42.length : Int) then
          (dual_Single.f k (rY10 x42 x44) x2).bind fun r2 =>
          dual_Step.l12 k x1 x2 x3 x42 x43 x44 r2.1 (r2.1.length : Int) 0 xo0
        else none
      else none
    else if 0 ≤ (x2.length : Int) then
      if (x2.length : Int) * 8 ≤ 140737488355328 then
        if (x2.length : Int) ≤ 140737488355328 then
          dual_Step.l19 k x1 x3 x2 (x2.length : Int) 0 xo0 (List.replicate (x2.length : Int).toNat 0)
        else none
      else none
    else none := rfl
theorem dual_Step.l12_eq (k : Nat) (x1 : List Int) (x2 : List Int) (x3 : Int) (x42 : List ((ByteArray × Int × Int × Int × Int × Int × Int × Int) × (ByteArray × List (Int × Int)) × Bool × Int × Int)) (x43 : Int) (x44 : Int) (x55 : List Int) (x56 : Int) (x57 : Int) (xo0 : List Int) : dual_Step.l12 (k + 1) x1 x2 x3 x42 x43 x44 x55 x56 x57 xo0 = if x57 < x56 then
      if 0 ≤ x57 then
        if x57 < (x55.length : Int) then
          if 0 ≤ x57 then
            if x57 < (xo0.length : Int) then
              if 0 ≤ x57 then
                if x57 < (xo0.length : Int) then
                  dual_Step.l12 k x1 x2 x3 x42 x43 x44 x55 x56 (wrap64 (x57 + 1)) (xo0.set x57.toNat (wrap64 ((rI64 xo0 x57) + (mx (rI64 x55 x57) 0))))
                else none
              else none
            else none
          else none
        else none
      else none
    else dual_Step.l8 k x1 x2 x3 x42 x43 (wrap64 (x44 + 1)) xo0 := rfl
def dual_Step.f (k : Nat) (a0 : List ((ByteArray × Int × Int × Int × Int × Int × Int × Int) × (ByteArray × List (Int × Int)) × Bool × Int × Int)) (a1 : List Int) (a2 : List Int) (a3 : Int) : Option (List Int × Int) :=
  (dual_Bound.f k a0 a1 a2).bind fun r1 =>
  if r1.2 = 0 then
    if a3 < 1 then
      some ([], 1)
    else if 1000000 < a3 then
      some ([], 1)
    else if 0 ≤ (a1.length : Int) then
      if (a1.length : Int) * 8 ≤ 140737488355328 then
        if (a1.length : Int) ≤ 140737488355328 then
          dual_Step.l8 k a1 a2 a3 a0 (a0.length : Int) 0 (List.replicate (a1.length : Int).toNat 0)
        else none
      else none
    else none
  else some ([], r1.2)
def slices_Equal_int.l4 : Nat → List Int → List Int → Int → Int → Option Bool
  | 0, _, _, _, _ => none
  | k + 1, x0, x1, x12, x13 => if x13 < x12 then
      if 0 ≤ x13 then
        if x13 < (x0.length : Int) then
          if 0 ≤ x13 then
            if x13 < (x1.length : Int) then
              if (rI64 x0 x13) = (rI64 x1 x13) then
                slices_Equal_int.l4 k x0 x1 x12 (wrap64 (x13 + 1))
              else some false
            else none
          else none
        else none
      else none
    else some true
theorem slices_Equal_int.l4_eq (k : Nat) (x0 : List Int) (x1 : List Int) (x12 : Int) (x13 : Int) : slices_Equal_int.l4 (k + 1) x0 x1 x12 x13 = if x13 < x12 then
      if 0 ≤ x13 then
        if x13 < (x0.length : Int) then
          if 0 ≤ x13 then
            if x13 < (x1.length : Int) then
              if (rI64 x0 x13) = (rI64 x1 x13) then
                slices_Equal_int.l4 k x0 x1 x12 (wrap64 (x13 + 1))
              else some false
            else none
          else none
        else none
      else none
    else some true := rfl
def slices_Equal_int.f (k : Nat) (a0 : List Int) (a1 : List Int) : Option Bool :=
  if (a0.length : Int) = (a1.length : Int) then
    slices_Equal_int.l4 k a0 a1 (a0.length : Int) 0
  else some false
def gridhallkeep3_DualSteps.l23 : Nat → List Int → List Int → Int → List Int → Int → Int → List Int → Option Bool
  | 0, _, _, _, _, _, _, _ => none
  | k + 1, x1, x2, x3, x100, x101, x102, xo0 => if x102 < x101 then
      if 0 ≤ x102 then
        if x102 < (x100.length : Int) then
          if 0 ≤ x102 then
            if x102 < (x2.length : Int) then
              if x3 < (wrap64 ((rI64 x100 x102) - (rI64 x2 x102))) then
                some false
              else if (wrap64 ((rI64 x100 x102) - (rI64 x2 x102))) < (wrap64 (0 - x3)) then
                some false
              else if 0 ≤ x102 then
                if x102 < (xo0.length : Int) then
                  if 0 ≤ x102 then
                    if x102 < (x1.length : Int) then
                      if (decide ((rI64 xo0 x102) = (rI64 x1 x102))) = (decide ((wrap64 ((rI64 x100 x102) - (rI64 x2 x102))) = 0)) then
                        if 0 < (wrap64 ((rI64 x100 x102) - (rI64 x2 x102))) then
                          if 0 ≤ x102 then
                            if x102 < (xo0.length : Int) then
                              if 0 ≤ x102 then
                                if x102 < (x1.length : Int) then
                                  if (rI64 x1 x102) < (rI64 xo0 x102) then
                                    some false
                                  else gridhallkeep3_DualSteps.l23 k x1 x2 x3 x100 x101 (wrap64 (x102 + 1)) xo0
                                else none
                              else none
                            else none
                          else none
                        else gridhallkeep3_DualSteps.l23 k x1 x2 x3 x100 x101 (wrap64 (x102 + 1)) xo0
                      else if (rI64 x100 x102) = 2000000 then
                        if 0 < (wrap64 ((rI64 x100 x102) - (rI64 x2 x102))) then
                          if 0 ≤ x102 then
                            if x102 < (xo0.length : Int) then
                              if 0 ≤ x102 then
                                if x102 < (x1.length : Int) then
                                  if (rI64 x1 x102) < (rI64 xo0 x102) then
                                    some false
                                  else gridhallkeep3_DualSteps.l23 k x1 x2 x3 x100 x101 (wrap64 (x102 + 1)) xo0
                                else none
                              else none
                            else none
                          else none
                        else gridhallkeep3_DualSteps.l23 k x1 x2 x3 x100 x101 (wrap64 (x102 + 1)) xo0
                      else if (rI64 x100 x102) = (-2000000) then
                        if 0 < (wrap64 ((rI64 x100 x102) - (rI64 x2 x102))) then
                          if 0 ≤ x102 then
                            if x102 < (xo0.length : Int) then
                              if 0 ≤ x102 then
                                if x102 < (x1.length : Int) then
                                  if (rI64 x1 x102) < (rI64 xo0 x102) then
                                    some false
                                  else gridhallkeep3_DualSteps.l23 k x1 x2 x3 x100 x101 (wrap64 (x102 + 1)) xo0
                                else none
                              else none
                            else none
                          else none
                        else gridhallkeep3_DualSteps.l23 k x1 x2 x3 x100 x101 (wrap64 (x102 + 1)) xo0
                      else some false
                    else none
                  else none
                else none
              else none
            else none
          else none
        else none
      else none
    else some true
theorem gridhallkeep3_DualSteps.l23_eq (k : Nat) (x1 : List Int) (x2 : List Int) (x3 : Int) (x100 : List Int) (x101 : Int) (x102 : Int) (xo0 : List Int) : gridhallkeep3_DualSteps.l23 (k + 1) x1 x2 x3 x100 x101 x102 xo0 = if x102 < x101 then
      if 0 ≤ x102 then
        if x102 < (x100.length : Int) then
          if 0 ≤ x102 then
            if x102 < (x2.length : Int) then
              if x3 < (wrap64 ((rI64 x100 x102) - (rI64 x2 x102))) then
                some false
              else if (wrap64 ((rI64 x100 x102) - (rI64 x2 x102))) < (wrap64 (0 - x3)) then
                some false
              else if 0 ≤ x102 then
                if x102 < (xo0.length : Int) then
                  if 0 ≤ x102 then
                    if x102 < (x1.length : Int) then
                      if (decide ((rI64 xo0 x102) = (rI64 x1 x102))) = (decide ((wrap64 ((rI64 x100 x102) - (rI64 x2 x102))) = 0)) then
                        if 0 < (wrap64 ((rI64 x100 x102) - (rI64 x2 x102))) then
                          if 0 ≤ x102 then
                            if x102 < (xo0.length : Int) then
                              if 0 ≤ x102 then
                                if x102 < (x1.length : Int) then
                                  if (rI64 x1 x102) < (rI64 xo0 x102) then
                                    some false
                                  else gridhallkeep3_DualSteps.l23 k x1 x2 x3 x100 x101 (wrap64 (x102 + 1)) xo0
                                else none
                              else none
                            else none
                          else none
                        else gridhallkeep3_DualSteps.l23 k x1 x2 x3 x100 x101 (wrap64 (x102 + 1)) xo0
                      else if (rI64 x100 x102) = 2000000 then
                        if 0 < (wrap64 ((rI64 x100 x102) - (rI64 x2 x102))) then
                          if 0 ≤ x102 then
                            if x102 < (xo0.length : Int) then
                              if 0 ≤ x102 then
                                if x102 < (x1.length : Int) then
                                  if (rI64 x1 x102) < (rI64 xo0 x102) then
                                    some false
                                  else gridhallkeep3_DualSteps.l23 k x1 x2 x3 x100 x101 (wrap64 (x102 + 1)) xo0
                                else none
                              else none
                            else none
                          else none
                        else gridhallkeep3_DualSteps.l23 k x1 x2 x3 x100 x101 (wrap64 (x102 + 1)) xo0
                      else if (rI64 x100 x102) = (-2000000) then
                        if 0 < (wrap64 ((rI64 x100 x102) - (rI64 x2 x102))) then
                          if 0 ≤ x102 then
                            if x102 < (xo0.length : Int) then
                              if 0 ≤ x102 then
                                if x102 < (x1.length : Int) then
                                  if (rI64 x1 x102) < (rI64 xo0 x102) then
                                    some false
                                  else gridhallkeep3_DualSteps.l23 k x1 x2 x3 x100 x101 (wrap64 (x102 + 1)) xo0
                                else none
                              else none
                            else none
                          else none
                        else gridhallkeep3_DualSteps.l23 k x1 x2 x3 x100 x101 (wrap64 (x102 + 1)) xo0
                      else some false
                    else none
                  else none
                else none
              else none
            else none
          else none
        else none
      else none
    else some true := rfl
mutual
def gridhallkeep3_DualSteps.l11 : Nat → List Int → List Int → Int → List Int → (List ((ByteArray × Int × Int × Int × Int × Int × Int × Int) × (ByteArray × List (Int × Int)) × Bool × Int × Int)) → Int → Int → List Int → Option Bool
  | 0, _, _, _, _, _, _, _, _ => none
  | k + 1, x1, x2, x3, x11, x61, x62, x63, xo0 => if x63 < x62 then
      if 0 ≤ x63 then
        if x63 < (x61.length : Int) then
          (dual_Single.f k (rY10 x61 x63) x2).bind fun r5 =>
          if r5.2.2 = 0 then
            if (r5.1.length : Int) = (x2.length : Int) then
              gridhallkeep3_DualSteps.l17 k x1 x2 x3 x11 x61 x62 x63 r5.1 (r5.1.length : Int) 0 xo0
            else some false
          else some false
        else none
      else none
    else gridhallkeep3_DualSteps.l23 k x1 x2 x3 x11 (x11.length : Int) 0 xo0
def gridhallkeep3_DualSteps.l17 : Nat → List Int → List Int → Int → List Int → (List ((ByteArray × Int × Int × Int × Int × Int × Int × Int) × (ByteArray × List (Int × Int)) × Bool × Int × Int)) → Int → Int → List Int → Int → Int → List Int → Option Bool
  | 0, _, _, _, _, _, _, _, _, _, _, _ => none
  | k + 1, x1, x2, x3, x11, x61, x62, x63, x83, x84, x85, xo0 => if x85 < x84 then
      if 0 ≤ x85 then
        if x85 < (x83.length : Int) then
          if 0 ≤ x85 then
            if x85 < (xo0.length : Int) then
              if 0 ≤ x85 then
                if x85 < (xo0.length : Int) then
                  gridhallkeep3_DualSteps.l17 k x1 x2 x3 x11 x61 x62 x63 x83 x84 (wrap64 (x85 + 1)) (xo0.set x85.toNat (wrap64 ((rI64 xo0 x85) + (mx (rI64 x83 x85) 0))))
                else none
              else none
            else none
          else none
        else none
      else none
    else gridhallkeep3_DualSteps.l11 k x1 x2 x3 x11 x61 x62 (wrap64 (x63 + 1)) xo0
end
theorem gridhallkeep3_DualSteps.l11_eq (k : Nat) (x1 : List Int) (x2 : List Int) (x3 : Int) (x11 : List Int) (x61 : List ((ByteArray × Int × Int × Int × Int × Int × Int × Int) × (ByteArray × List (Int × Int)) × Bool × Int × Int)) (x62 : Int) (x63 : Int) (xo0 : List Int) : gridhallkeep3_DualSteps.l11 (k + 1) x1 x2 x3 x11 x61 x62 x63 xo0 = if x63 < x62 then
      if 0 ≤ x63 then
        if x63 < (x61.length : Int) then
          (dual_Single.f k (rY10 x61 x63) x2).bind fun r5 =>
          if r5.2.2 = 0 then
            if (r5.1.length : Int) = (x2.length : Int) then
              gridhallkeep3_DualSteps.l17 k x1 x2 x3 x11 x61 x62 x63 r5.1 (r5.1.length : Int) 0 xo0
            else some false
          else some false
        else none
      else none
    else gridhallkeep3_DualSteps.l23 k x1 x2 x3 x11 (x11.length : Int) 0 xo0 := rfl
theorem gridhallkeep3_DualSteps.l17_eq (k : Nat) (x1 : List Int) (x2 : List Int) (x3 : Int) (x11 : List Int) (x61 : List ((ByteArray × Int × Int × Int × Int × Int × Int × Int) × (ByteArray × List (Int × Int)) × Bool × Int × Int)) (x62 : Int) (x63 : Int) (x83 : List Int) (x84 : Int) (x85 : Int) (xo0 : List Int) : gridhallkeep3_DualSteps.l17 (k + 1) x1 x2 x3 x11 x61 x62 x63 x83 x84 x85 xo0 = if x85 < x84 then
      if 0 ≤ x85 then
        if x85 < (x83.length : Int) then
          if 0 ≤ x85 then
            if x85 < (xo0.length : Int) then
              if 0 ≤ x85 then
                if x85 < (xo0.length : Int) then
                  gridhallkeep3_DualSteps.l17 k x1 x2 x3 x11 x61 x62 x63 x83 x84 (wrap64 (x85 + 1)) (xo0.set x85.toNat (wrap64 ((rI64 xo0 x85) + (mx (rI64 x83 x85) 0))))
                else none
              else none
            else none
          else none
        else none
      else none
    else gridhallkeep3_DualSteps.l11 k x1 x2 x3 x11 x61 x62 (wrap64 (x63 + 1)) xo0 := rfl
def gridhallkeep3_DualSteps.f (k : Nat) (a0 : List ((ByteArray × Int × Int × Int × Int × Int × Int × Int) × (ByteArray × List (Int × Int)) × Bool × Int × Int)) (a1 : List Int) (a2 : List Int) (a3 : Int) : Option Bool :=
  (gridhallkeep3_alone.f k).bind fun r1 =>
  (dual_Step.f k [r1] [12] [0] 3).bind fun r2 =>
  if r2.2 = 0 then
    (slices_Equal_int.f k r2.1 [3]).bind fun r3 =>
    if r3 = true then
      (dual_Step.f k a0 a1 a2 a3).bind fun r4 =>
      if r4.2 = 0 then
        if (r4.1.length : Int) = (a2.length : Int) then
          if 0 ≤ (a2.length : Int) then
            if (a2.length : Int) * 8 ≤ 140737488355328 then
              if (a2.length : Int) ≤ 140737488355328 then
                gridhallkeep3_DualSteps.l11 k a1 a2 a3 r4.1 a0 (a0.length : Int) 0 (List.replicate (a2.length : Int).toNat 0)
              else none
            else none
          else none
        else some false
      else some (decide ((r4.1.length : Int) = 0))
    else some false
  else some false
def unit_Run.l9 : Nat → Int → List Int → Int → Int → ByteArray → Int → Int → Int → Int → Int → Int → Int → Bool → Int → Int → (List (Bool × Int × Int)) → Option ((List (Bool × Int × Int)) × Int × Int)
  | 0, _, _, _, _, _, _, _, _, _, _, _, _, _, _, _, _ => none
  | k + 1, x11, x26, x27, x28, xo0_0, xo0_1, xo0_2, xo0_3, xo0_4, xo0_5, xo0_6, xo0_7, xo1_0, xo1_1, xo1_2, xo2 => if x28 < x27 then
      if 0 ≤ x28 then
        if x28 < (x26.length : Int) then
          (unit_Next.f k (xo0_0, xo0_1, xo0_2, xo0_3, xo0_4, xo0_5, xo0_6, xo0_7) (xo1_0, xo1_1, xo1_2) (rI64 x26 x28)).bind fun r2 =>
          if r2.2.2 = 0 then
            if (xo2.length + [r2.1].length) * 24 ≤ 140737488355328 then
              unit_Run.l9 k (wrap64 (x11 + r2.2.1)) x26 x27 (wrap64 (x28 + 1)) xo0_0 xo0_1 xo0_2 xo0_3 xo0_4 xo0_5 xo0_6 xo0_7 r2.1.1 r2.1.2.1 r2.1.2.2 (xo2 ++ [r2.1])
            else none
          else some ([], 0, r2.2.2)
        else none
      else none
    else some (xo2, x11, 0)
theorem unit_Run.l9_eq (k : Nat) (x11 : Int) (x26 : List Int) (x27 : Int) (x28 : Int) (xo0_0 : ByteArray) (xo0_1 : Int) (xo0_2 : Int) (xo0_3 : Int) (xo0_4 : Int) (xo0_5 : Int) (xo0_6 : Int) (xo0_7 : Int) (xo1_0 : Bool) (xo1_1 : Int) (xo1_2 : Int) (xo2 : List (Bool × Int × Int)) : unit_Run.l9 (k + 1) x11 x26 x27 x28 xo0_0 xo0_1 xo0_2 xo0_3 xo0_4 xo0_5 xo0_6 xo0_7 xo1_0 xo1_1 xo1_2 xo2 = if x28 < x27 then
      if 0 ≤ x28 then
        if x28 < (x26.length : Int) then
          (unit_Next.f k (xo0_0, xo0_1, xo0_2, xo0_3, xo0_4, xo0_5, xo0_6, xo0_7) (xo1_0, xo1_1, xo1_2) (rI64 x26 x28)).bind fun r2 =>
          if r2.2.2 = 0 then
            if (xo2.length + [r2.1].length) * 24 ≤ 140737488355328 then
              unit_Run.l9 k (wrap64 (x11 + r2.2.1)) x26 x27 (wrap64 (x28 + 1)) xo0_0 xo0_1 xo0_2 xo0_3 xo0_4 xo0_5 xo0_6 xo0_7 r2.1.1 r2.1.2.1 r2.1.2.2 (xo2 ++ [r2.1])
            else none
          else some ([], 0, r2.2.2)
        else none
      else none
    else some (xo2, x11, 0) := rfl
def unit_Run.f (k : Nat) (a0 : ByteArray × Int × Int × Int × Int × Int × Int × Int) (a1 : Bool × Int × Int) (a2 : List Int) : Option ((List (Bool × Int × Int)) × Int × Int) :=
  (unit_CheckState.f k a0 a1).bind fun r1 =>
  if r1 = 0 then
    if 24 < (a2.length : Int) then
      some ([], 0, 2)
    else unit_Run.l9 k 0 a2 (a2.length : Int) 0 a0.1 a0.2.1 a0.2.2.1 a0.2.2.2.1 a0.2.2.2.2.1 a0.2.2.2.2.2.1 a0.2.2.2.2.2.2.1 a0.2.2.2.2.2.2.2 a1.1 a1.2.1 a1.2.2 []
  else some ([], 0, r1)
mutual
def commit_Cost.l28 : Nat → (List ((ByteArray × Int × Int × Int × Int × Int × Int × Int) × (ByteArray × List (Int × Int)) × Bool × Int × Int)) → List (List Int) → Int → List Int → Int → Int → Option (Int × Int)
  | 0, _, _, _, _, _, _ => none
  | k + 1, x0, x2, x11, x96, x97, x98 => if x98 < x97 then
      if 0 ≤ x98 then
        if x98 < (x96.length : Int) then
          commit_Cost.l32 k x0 x2 x11 x98 (rI64 x96 x98) 0 x96 x97 x98 (x0.length : Int) 0
        else none
      else none
    else some (x11, 0)
def commit_Cost.l32 : Nat → (List ((ByteArray × Int × Int × Int × Int × Int × Int × Int) × (ByteArray × List (Int × Int)) × Bool × Int × Int)) → List (List Int) → Int → Int → Int → Int → List Int → Int → Int → Int → Int → Option (Int × Int)
  | 0, _, _, _, _, _, _, _, _, _, _, _ => none
  | k + 1, x0, x2, x11, x21, x22, x23, x96, x97, x98, x104, x105 => if x105 < x104 then
      if 0 ≤ x105 then
        if x105 < (x2.length : Int) then
          if 0 ≤ x21 then
            if x21 < ((rd (.list 3 (.int .i64)) x2 x105).length : Int) then
              commit_Cost.l32 k x0 x2 x11 x21 x22 (wrap64 (x23 + (mx (rI64 (rd (.list 3 (.int .i64)) x2 x105) x21) 0))) x96 x97 x98 x104 (wrap64 (x105 + 1))
            else none
          else none
        else none
      else none
    else if x23 = x22 then
      commit_Cost.l28 k x0 x2 x11 x96 x97 (wrap64 (x98 + 1))
    else some (0, 14)
end
theorem commit_Cost.l28_eq (k : Nat) (x0 : List ((ByteArray × Int × Int × Int × Int × Int × Int × Int) × (ByteArray × List (Int × Int)) × Bool × Int × Int)) (x2 : List (List Int)) (x11 : Int) (x96 : List Int) (x97 : Int) (x98 : Int) : commit_Cost.l28 (k + 1) x0 x2 x11 x96 x97 x98 = if x98 < x97 then
      if 0 ≤ x98 then
        if x98 < (x96.length : Int) then
          commit_Cost.l32 k x0 x2 x11 x98 (rI64 x96 x98) 0 x96 x97 x98 (x0.length : Int) 0
        else none
      else none
    else some (x11, 0) := rfl
theorem commit_Cost.l32_eq (k : Nat) (x0 : List ((ByteArray × Int × Int × Int × Int × Int × Int × Int) × (ByteArray × List (Int × Int)) × Bool × Int × Int)) (x2 : List (List Int)) (x11 : Int) (x21 : Int) (x22 : Int) (x23 : Int) (x96 : List Int) (x97 : Int) (x98 : Int) (x104 : Int) (x105 : Int) : commit_Cost.l32 (k + 1) x0 x2 x11 x21 x22 x23 x96 x97 x98 x104 x105 = if x105 < x104 then
      if 0 ≤ x105 then
        if x105 < (x2.length : Int) then
          if 0 ≤ x21 then
            if x21 < ((rd (.list 3 (.int .i64)) x2 x105).length : Int) then
              commit_Cost.l32 k x0 x2 x11 x21 x22 (wrap64 (x23 + (mx (rI64 (rd (.list 3 (.int .i64)) x2 x105) x21) 0))) x96 x97 x98 x104 (wrap64 (x105 + 1))
            else none
          else none
        else none
      else none
    else if x23 = x22 then
      commit_Cost.l28 k x0 x2 x11 x96 x97 (wrap64 (x98 + 1))
    else some (0, 14) := rfl
mutual
def commit_Cost.l14 : Nat → (List ((ByteArray × Int × Int × Int × Int × Int × Int × Int) × (ByteArray × List (Int × Int)) × Bool × Int × Int)) → List Int → List (List Int) → Int → (List ((ByteArray × Int × Int × Int × Int × Int × Int × Int) × (ByteArray × List (Int × Int)) × Bool × Int × Int)) → Int → Int → Option (Int × Int)
  | 0, _, _, _, _, _, _, _ => none
  | k + 1, x0, x1, x2, x11, x48, x49, x50 => if x50 < x49 then
      if 0 ≤ x50 then
        if x50 < (x48.length : Int) then
          if 0 ≤ x50 then
            if x50 < (x2.length : Int) then
              (unit_Run.f k (rY10 x48 x50).1 (rY10 x48 x50).2.2 (rd (.list 3 (.int .i64)) x2 x50)).bind fun r2 =>
              if r2.2.2 = 0 then
                if 0 ≤ x50 then
                  if x50 < (x2.length : Int) then
                    commit_Cost.l21 k x0 x1 x2 (wrap64 (x11 + r2.2.1)) x48 x49 x50 (rd (.list 3 (.int .i64)) x2 x50) ((rd (.list 3 (.int .i64)) x2 x50).length : Int) 0 (rY10 x48 x50).1.1 (rY10 x48 x50).1.2.1 (rY10 x48 x50).1.2.2.1 (rY10 x48 x50).1.2.2.2.1 (rY10 x48 x50).1.2.2.2.2.1 (rY10 x48 x50).1.2.2.2.2.2.1 (rY10 x48 x50).1.2.2.2.2.2.2.1 (rY10 x48 x50).1.2.2.2.2.2.2.2 (rY10 x48 x50).2.1.1 (rY10 x48 x50).2.1.2 (rY10 x48 x50).2.2.1 (rY10 x48 x50).2.2.2.1 (rY10 x48 x50).2.2.2.2
                  else none
                else none
              else some (0, r2.2.2)
            else none
          else none
        else none
      else none
    else commit_Cost.l28 k x0 x2 x11 x1 (x1.length : Int) 0
def commit_Cost.l21 : Nat → (List ((ByteArray × Int × Int × Int × Int × Int × Int × Int) × (ByteArray × List (Int × Int)) × Bool × Int × Int)) → List Int → List (List Int) → Int → (List ((ByteArray × Int × Int × Int × Int × Int × Int × Int) × (ByteArray × List (Int × Int)) × Bool × Int × Int)) → Int → Int → List Int → Int → Int → ByteArray → Int → Int → Int → Int → Int → Int → Int → ByteArray → (List (Int × Int)) → Bool → Int → Int → Option (Int × Int)
  | 0, _, _, _, _, _, _, _, _, _, _, _, _, _, _, _, _, _, _, _, _, _, _, _ => none
  | k + 1, x0, x1, x2, x11, x48, x49, x50, x77, x78, x79, xo0_0, xo0_1, xo0_2, xo0_3, xo0_4, xo0_5, xo0_6, xo0_7, xo0_8, xo0_9, xo0_10, xo0_11, xo0_12 => if x79 < x78 then
      if 0 ≤ x79 then
        if x79 < (x77.length : Int) then
          (offer_Cost.f k (xo0_8, xo0_9) (mx (rI64 x77 x79) 0)).bind fun r3 =>
          commit_Cost.l21 k x0 x1 x2 (wrap64 (x11 + r3.1)) x48 x49 x50 x77 x78 (wrap64 (x79 + 1)) xo0_0 xo0_1 xo0_2 xo0_3 xo0_4 xo0_5 xo0_6 xo0_7 xo0_8 xo0_9 xo0_10 xo0_11 xo0_12
        else none
      else none
    else commit_Cost.l14 k x0 x1 x2 x11 x48 x49 (wrap64 (x50 + 1))
end
theorem commit_Cost.l14_eq (k : Nat) (x0 : List ((ByteArray × Int × Int × Int × Int × Int × Int × Int) × (ByteArray × List (Int × Int)) × Bool × Int × Int)) (x1 : List Int) (x2 : List (List Int)) (x11 : Int) (x48 : List ((ByteArray × Int × Int × Int × Int × Int × Int × Int) × (ByteArray × List (Int × Int)) × Bool × Int × Int)) (x49 : Int) (x50 : Int) : commit_Cost.l14 (k + 1) x0 x1 x2 x11 x48 x49 x50 = if x50 < x49 then
      if 0 ≤ x50 then
        if x50 < (x48.length : Int) then
          if 0 ≤ x50 then
            if x50 < (x2.length : Int) then
              (unit_Run.f k (rY10 x48 x50).1 (rY10 x48 x50).2.2 (rd (.list 3 (.int .i64)) x2 x50)).bind fun r2 =>
              if r2.2.2 = 0 then
                if 0 ≤ x50 then
                  if x50 < (x2.length : Int) then
                    commit_Cost.l21 k x0 x1 x2 (wrap64 (x11 + r2.2.1)) x48 x49 x50 (rd (.list 3 (.int .i64)) x2 x50) ((rd (.list 3 (.int .i64)) x2 x50).length : Int) 0 (rY10 x48 x50).1.1 (rY10 x48 x50).1.2.1 (rY10 x48 x50).1.2.2.1 (rY10 x48 x50).1.2.2.2.1 (rY10 x48 x50).1.2.2.2.2.1 (rY10 x48 x50).1.2.2.2.2.2.1 (rY10 x48 x50).1.2.2.2.2.2.2.1 (rY10 x48 x50).1.2.2.2.2.2.2.2 (rY10 x48 x50).2.1.1 (rY10 x48 x50).2.1.2 (rY10 x48 x50).2.2.1 (rY10 x48 x50).2.2.2.1 (rY10 x48 x50).2.2.2.2
                  else none
                else none
              else some (0, r2.2.2)
            else none
          else none
        else none
      else none
    else commit_Cost.l28 k x0 x2 x11 x1 (x1.length : Int) 0 := rfl
theorem commit_Cost.l21_eq (k : Nat) (x0 : List ((ByteArray × Int × Int × Int × Int × Int × Int × Int) × (ByteArray × List (Int × Int)) × Bool × Int × Int)) (x1 : List Int) (x2 : List (List Int)) (x11 : Int) (x48 : List ((ByteArray × Int × Int × Int × Int × Int × Int × Int) × (ByteArray × List (Int × Int)) × Bool × Int × Int)) (x49 : Int) (x50 : Int) (x77 : List Int) (x78 : Int) (x79 : Int) (xo0_0 : ByteArray) (xo0_1 : Int) (xo0_2 : Int) (xo0_3 : Int) (xo0_4 : Int) (xo0_5 : Int) (xo0_6 : Int) (xo0_7 : Int) (xo0_8 : ByteArray) (xo0_9 : List (Int × Int)) (xo0_10 : Bool) (xo0_11 : Int) (xo0_12 : Int) : commit_Cost.l21 (k + 1) x0 x1 x2 x11 x48 x49 x50 x77 x78 x79 xo0_0 xo0_1 xo0_2 xo0_3 xo0_4 xo0_5 xo0_6 xo0_7 xo0_8 xo0_9 xo0_10 xo0_11 xo0_12 = if x79 < x78 then
      if 0 ≤ x79 then
        if x79 < (x77.length : Int) then
          (offer_Cost.f k (xo0_8, xo0_9) (mx (rI64 x77 x79) 0)).bind fun r3 =>
          commit_Cost.l21 k x0 x1 x2 (wrap64 (x11 + r3.1)) x48 x49 x50 x77 x78 (wrap64 (x79 + 1)) xo0_0 xo0_1 xo0_2 xo0_3 xo0_4 xo0_5 xo0_6 xo0_7 xo0_8 xo0_9 xo0_10 xo0_11 xo0_12
        else none
      else none
    else commit_Cost.l14 k x0 x1 x2 x11 x48 x49 (wrap64 (x50 + 1)) := rfl
def commit_Cost.l7 : Nat → (List ((ByteArray × Int × Int × Int × Int × Int × Int × Int) × (ByteArray × List (Int × Int)) × Bool × Int × Int)) → List Int → List (List Int) → List (List Int) → Int → Int → Option (Int × Int)
  | 0, _, _, _, _, _, _ => none
  | k + 1, x0, x1, x2, x36, x37, x38 => if x38 < x37 then
      if 0 ≤ x38 then
        if x38 < (x36.length : Int) then
          if ((rd (.list 3 (.int .i64)) x36 x38).length : Int) = (x1.length : Int) then
            commit_Cost.l7 k x0 x1 x2 x36 x37 (wrap64 (x38 + 1))
          else some (0, 3)
        else none
      else none
    else commit_Cost.l14 k x0 x1 x2 0 x0 (x0.length : Int) 0
theorem commit_Cost.l7_eq (k : Nat) (x0 : List ((ByteArray × Int × Int × Int × Int × Int × Int × Int) × (ByteArray × List (Int × Int)) × Bool × Int × Int)) (x1 : List Int) (x2 : List (List Int)) (x36 : List (List Int)) (x37 : Int) (x38 : Int) : commit_Cost.l7 (k + 1) x0 x1 x2 x36 x37 x38 = if x38 < x37 then
      if 0 ≤ x38 then
        if x38 < (x36.length : Int) then
          if ((rd (.list 3 (.int .i64)) x36 x38).length : Int) = (x1.length : Int) then
            commit_Cost.l7 k x0 x1 x2 x36 x37 (wrap64 (x38 + 1))
          else some (0, 3)
        else none
      else none
    else commit_Cost.l14 k x0 x1 x2 0 x0 (x0.length : Int) 0 := rfl
def commit_Cost.f (k : Nat) (a0 : List ((ByteArray × Int × Int × Int × Int × Int × Int × Int) × (ByteArray × List (Int × Int)) × Bool × Int × Int)) (a1 : List Int) (a2 : List (List Int)) : Option (Int × Int) :=
  (dual_CheckAll.f k a0 a1).bind fun r1 =>
  if r1 = 0 then
    if (a2.length : Int) = (a0.length : Int) then
      commit_Cost.l7 k a0 a1 a2 a2 (a2.length : Int) 0
    else some (0, 3)
  else some (0, r1)
def commit_cut.f (k : Nat) (a0 : ByteArray × Int × Int × Int × Int × Int × Int × Int) (a1 : Bool × Int × Int) : Option (Bool × Int × Int) :=
  if a1.1 = true then
    some (a1.1, mn a1.2.1 a0.2.2.2.2.2.1, a0.2.1)
  else some (a1.1, mn a1.2.1 a0.2.2.2.2.2.2.1, 0)
def commit_bools.l3 : Nat → Int → Int → Int → List Bool → Option (List Bool)
  | 0, _, _, _, _ => none
  | k + 1, x0, x10, x11, xo0 => if x11 < x10 then
      if 0 ≤ x11 then
        if 0 ≤ x11 then
          if x11 < (xo0.length : Int) then
            commit_bools.l3 k x0 x10 (wrap64 (x11 + 1)) (xo0.set x11.toNat (decide ((andI .i64 (shrI .i64 x0 x11) 1) = 1)))
          else none
        else none
      else none
    else some xo0
theorem commit_bools.l3_eq (k : Nat) (x0 : Int) (x10 : Int) (x11 : Int) (xo0 : List Bool) : commit_bools.l3 (k + 1) x0 x10 x11 xo0 = if x11 < x10 then
      if 0 ≤ x11 then
        if 0 ≤ x11 then
          if x11 < (xo0.length : Int) then
            commit_bools.l3 k x0 x10 (wrap64 (x11 + 1)) (xo0.set x11.toNat (decide ((andI .i64 (shrI .i64 x0 x11) 1) = 1)))
          else none
        else none
      else none
    else some xo0 := rfl
def commit_bools.f (k : Nat) (a0 : Int) (a1 : Int) : Option (List Bool) :=
  if 0 ≤ a1 then
    if a1 * 1 ≤ 140737488355328 then
      if a1 ≤ 140737488355328 then
        commit_bools.l3 k a0 ((List.replicate a1.toNat false).length : Int) 0 (List.replicate a1.toNat false)
      else none
    else none
  else none
def cmp_isNaN_int.f (k : Nat) (a0 : Int) : Option Bool :=
  some (!decide (a0 = a0))
def cmp_Compare_int.f (k : Nat) (a0 : Int) (a1 : Int) : Option Int :=
  (cmp_isNaN_int.f k a0).bind fun r1 =>
  (cmp_isNaN_int.f k a1).bind fun r2 =>
  if r1 = true then
    if r2 = true then
      some 0
    else some (-1)
  else if r2 = true then
    some 1
  else if a0 < a1 then
    some (-1)
  else if a1 < a0 then
    some 1
  else some 0
def cmp_Or_int.l3 : Nat → Int → List Int → Int → Int → Option Int
  | 0, _, _, _, _ => none
  | k + 1, x3, x6, x7, x8 => if x8 < x7 then
      if 0 ≤ x8 then
        if x8 < (x6.length : Int) then
          if (rI64 x6 x8) = x3 then
            cmp_Or_int.l3 k x3 x6 x7 (wrap64 (x8 + 1))
          else some (rI64 x6 x8)
        else none
      else none
    else some x3
theorem cmp_Or_int.l3_eq (k : Nat) (x3 : Int) (x6 : List Int) (x7 : Int) (x8 : Int) : cmp_Or_int.l3 (k + 1) x3 x6 x7 x8 = if x8 < x7 then
      if 0 ≤ x8 then
        if x8 < (x6.length : Int) then
          if (rI64 x6 x8) = x3 then
            cmp_Or_int.l3 k x3 x6 x7 (wrap64 (x8 + 1))
          else some (rI64 x6 x8)
        else none
      else none
    else some x3 := rfl
def cmp_Or_int.f (k : Nat) (a0 : List Int) : Option Int :=
  cmp_Or_int.l3 k 0 a0 (a0.length : Int) 0
def commit_serve_1.f (k : Nat) (a0 : Int × Int × Int) (a1 : Int × Int × Int) : Option Int :=
  (cmp_Compare_int.f k a0.2.2 a1.2.2).bind fun r1 =>
  (cmp_Compare_int.f k a0.1 a1.1).bind fun r2 =>
  (cmp_Or_int.f k [r1, r2]).bind fun r3 =>
  some r3
mutual
def slices_insertionSortCmpFunc_commit_piece.l1 : Nat → Int → Int → Int → (List (Int × Int × Int)) → Option (List (Int × Int × Int))
  | 0, _, _, _, _ => none
  | k + 1, x1, x2, x8, xo0 => if x8 < x2 then
      slices_insertionSortCmpFunc_commit_piece.l4 k x1 x2 x8 x8 xo0
    else some xo0
def slices_insertionSortCmpFunc_commit_piece.l4 : Nat → Int → Int → Int → Int → (List (Int × Int × Int)) → Option (List (Int × Int × Int))
  | 0, _, _, _, _, _ => none
  | k + 1, x1, x2, x8, x9, xo0 => if x1 < x9 then
      if 0 ≤ x9 then
        if x9 < (xo0.length : Int) then
          if 0 ≤ (wrap64 (x9 - 1)) then
            if (wrap64 (x9 - 1)) < (xo0.length : Int) then
              (commit_serve_1.f k (rY1 xo0 x9) (rY1 xo0 (wrap64 (x9 - 1)))).bind fun r1 =>
              if r1 < 0 then
                if 0 ≤ (wrap64 (x9 - 1)) then
                  if (wrap64 (x9 - 1)) < (xo0.length : Int) then
                    if 0 ≤ x9 then
                      if x9 < (xo0.length : Int) then
                        if 0 ≤ x9 then
                          if x9 < (xo0.length : Int) then
                            if 0 ≤ (wrap64 (x9 - 1)) then
                              if (wrap64 (x9 - 1)) < ((xo0.set x9.toNat (rY1 xo0 (wrap64 (x9 - 1)))).length : Int) then
                                slices_insertionSortCmpFunc_commit_piece.l4 k x1 x2 x8 (wrap64 (x9 - 1)) ((xo0.set x9.toNat (rY1 xo0 (wrap64 (x9 - 1)))).set (wrap64 (x9 - 1)).toNat (rY1 xo0 x9))
                              else none
                            else none
                          else none
                        else none
                      else none
                    else none
                  else none
                else none
              else slices_insertionSortCmpFunc_commit_piece.l1 k x1 x2 (wrap64 (x8 + 1)) xo0
            else none
          else none
        else none
      else none
    else slices_insertionSortCmpFunc_commit_piece.l1 k x1 x2 (wrap64 (x8 + 1)) xo0
end
theorem slices_insertionSortCmpFunc_commit_piece.l1_eq (k : Nat) (x1 : Int) (x2 : Int) (x8 : Int) (xo0 : List (Int × Int × Int)) : slices_insertionSortCmpFunc_commit_piece.l1 (k + 1) x1 x2 x8 xo0 = if x8 < x2 then
      slices_insertionSortCmpFunc_commit_piece.l4 k x1 x2 x8 x8 xo0
    else some xo0 := rfl
theorem slices_insertionSortCmpFunc_commit_piece.l4_eq (k : Nat) (x1 : Int) (x2 : Int) (x8 : Int) (x9 : Int) (xo0 : List (Int × Int × Int)) : slices_insertionSortCmpFunc_commit_piece.l4 (k + 1) x1 x2 x8 x9 xo0 = if x1 < x9 then
      if 0 ≤ x9 then
        if x9 < (xo0.length : Int) then
          if 0 ≤ (wrap64 (x9 - 1)) then
            if (wrap64 (x9 - 1)) < (xo0.length : Int) then
              (commit_serve_1.f k (rY1 xo0 x9) (rY1 xo0 (wrap64 (x9 - 1)))).bind fun r1 =>
              if r1 < 0 then
                if 0 ≤ (wrap64 (x9 - 1)) then
                  if (wrap64 (x9 - 1)) < (xo0.length : Int) then
                    if 0 ≤ x9 then
                      if x9 < (xo0.length : Int) then
                        if 0 ≤ x9 then
                          if x9 < (xo0.length : Int) then
                            if 0 ≤ (wrap64 (x9 - 1)) then
                              if (wrap64 (x9 - 1)) < ((xo0.set x9.toNat (rY1 xo0 (wrap64 (x9 - 1)))).length : Int) then
                                slices_insertionSortCmpFunc_commit_piece.l4 k x1 x2 x8 (wrap64 (x9 - 1)) ((xo0.set x9.toNat (rY1 xo0 (wrap64 (x9 - 1)))).set (wrap64 (x9 - 1)).toNat (rY1 xo0 x9))
                              else none
                            else none
                          else none
                        else none
                      else none
                    else none
                  else none
                else none
              else slices_insertionSortCmpFunc_commit_piece.l1 k x1 x2 (wrap64 (x8 + 1)) xo0
            else none
          else none
        else none
      else none
    else slices_insertionSortCmpFunc_commit_piece.l1 k x1 x2 (wrap64 (x8 + 1)) xo0 := rfl
def slices_insertionSortCmpFunc_commit_piece.f (k : Nat) (a1 : Int) (a2 : Int) (ao0 : List (Int × Int × Int)) : Option (List (Int × Int × Int)) :=
  slices_insertionSortCmpFunc_commit_piece.l1 k a1 a2 (wrap64 (a1 + 1)) ao0
def slices_swapRangeCmpFunc_commit_piece.l1 : Nat → Int → Int → Int → Int → (List (Int × Int × Int)) → Option (List (Int × Int × Int))
  | 0, _, _, _, _, _ => none
  | k + 1, x1, x2, x3, x10, xo0 => if x10 < x3 then
      if 0 ≤ (wrap64 (x2 + x10)) then
        if (wrap64 (x2 + x10)) < (xo0.length : Int) then
          if 0 ≤ (wrap64 (x1 + x10)) then
            if (wrap64 (x1 + x10)) < (xo0.length : Int) then
              if 0 ≤ (wrap64 (x1 + x10)) then
                if (wrap64 (x1 + x10)) < (xo0.length : Int) then
                  if 0 ≤ (wrap64 (x2 + x10)) then
                    if (wrap64 (x2 + x10)) < ((xo0.set (wrap64 (x1 + x10)).toNat (rY1 xo0 (wrap64 (x2 + x10)))).length : Int) then
                      slices_swapRangeCmpFunc_commit_piece.l1 k x1 x2 x3 (wrap64 (x10 + 1)) ((xo0.set (wrap64 (x1 + x10)).toNat (rY1 xo0 (wrap64 (x2 + x10)))).set (wrap64 (x2 + x10)).toNat (rY1 xo0 (wrap64 (x1 + x10))))
                    else none
                  else none
                else none
              else none
            else none
          else none
        else none
      else none
    else some xo0
theorem slices_swapRangeCmpFunc_commit_piece.l1_eq (k : Nat) (x1 : Int) (x2 : Int) (x3 : Int) (x10 : Int) (xo0 : List (Int × Int × Int)) : slices_swapRangeCmpFunc_commit_piece.l1 (k + 1) x1 x2 x3 x10 xo0 = if x10 < x3 then
      if 0 ≤ (wrap64 (x2 + x10)) then
        if (wrap64 (x2 + x10)) < (xo0.length : Int) then
          if 0 ≤ (wrap64 (x1 + x10)) then
            if (wrap64 (x1 + x10)) < (xo0.length : Int) then
              if 0 ≤ (wrap64 (x1 + x10)) then
                if (wrap64 (x1 + x10)) < (xo0.length : Int) then
                  if 0 ≤ (wrap64 (x2 + x10)) then
                    if (wrap64 (x2 + x10)) < ((xo0.set (wrap64 (x1 + x10)).toNat (rY1 xo0 (wrap64 (x2 + x10)))).length : Int) then
                      slices_swapRangeCmpFunc_commit_piece.l1 k x1 x2 x3 (wrap64 (x10 + 1)) ((xo0.set (wrap64 (x1 + x10)).toNat (rY1 xo0 (wrap64 (x2 + x10)))).set (wrap64 (x2 + x10)).toNat (rY1 xo0 (wrap64 (x1 + x10))))
                    else none
                  else none
                else none
              else none
            else none
          else none
        else none
      else none
    else some xo0 := rfl
def slices_swapRangeCmpFunc_commit_piece.f (k : Nat) (a1 : Int) (a2 : Int) (a3 : Int) (ao0 : List (Int × Int × Int)) : Option (List (Int × Int × Int)) :=
  slices_swapRangeCmpFunc_commit_piece.l1 k a1 a2 a3 0 ao0
def slices_rotateCmpFunc_commit_piece.l2 : Nat → Int → Int → Int → (List (Int × Int × Int)) → Option (List (Int × Int × Int))
  | 0, _, _, _, _ => none
  | k + 1, x2, x10, x11, xo0 => if x10 = x11 then
      (slices_swapRangeCmpFunc_commit_piece.f k (wrap64 (x2 - x10)) x2 x10 xo0).bind fun r1 =>
      some r1
    else if x11 < x10 then
      (slices_swapRangeCmpFunc_commit_piece.f k (wrap64 (x2 - x10)) x2 x11 xo0).bind fun r2 =>
      slices_rotateCmpFunc_commit_piece.l2 k x2 (wrap64 (x10 - x11)) x11 r2
    else (slices_swapRangeCmpFunc_commit_piece.f k (wrap64 (x2 - x10)) (wrap64 ((wrap64 (x2 + x11)) - x10)) x10 xo0).bind fun r3 =>
    slices_rotateCmpFunc_commit_piece.l2 k x2 x10 (wrap64 (x11 - x10)) r3
theorem slices_rotateCmpFunc_commit_piece.l2_eq (k : Nat) (x2 : Int) (x10 : Int) (x11 : Int) (xo0 : List (Int × Int × Int)) : slices_rotateCmpFunc_commit_piece.l2 (k + 1) x2 x10 x11 xo0 = if x10 = x11 then
      (slices_swapRangeCmpFunc_commit_piece.f k (wrap64 (x2 - x10)) x2 x10 xo0).bind fun r1 =>
      some r1
    else if x11 < x10 then
      (slices_swapRangeCmpFunc_commit_piece.f k (wrap64 (x2 - x10)) x2 x11 xo0).bind fun r2 =>
      slices_rotateCmpFunc_commit_piece.l2 k x2 (wrap64 (x10 - x11)) x11 r2
    else (slices_swapRangeCmpFunc_commit_piece.f k (wrap64 (x2 - x10)) (wrap64 ((wrap64 (x2 + x11)) - x10)) x10 xo0).bind fun r3 =>
    slices_rotateCmpFunc_commit_piece.l2 k x2 x10 (wrap64 (x11 - x10)) r3 := rfl
def slices_rotateCmpFunc_commit_piece.f (k : Nat) (a1 : Int) (a2 : Int) (a3 : Int) (ao0 : List (Int × Int × Int)) : Option (List (Int × Int × Int)) :=
  slices_rotateCmpFunc_commit_piece.l2 k a2 (wrap64 (a2 - a1)) (wrap64 (a3 - a2)) ao0
def slices_symMergeCmpFunc_commit_piece.l9 : Nat → Int → Int → (List (Int × Int × Int)) → Option (List (Int × Int × Int))
  | 0, _, _, _ => none
  | k + 1, x10, x13, xo0 => if x13 < (wrap64 (x10 - 1)) then
      if 0 ≤ (wrap64 (x13 + 1)) then
        if (wrap64 (x13 + 1)) < (xo0.length : Int) then
          if 0 ≤ x13 then
            if x13 < (xo0.length : Int) then
              if 0 ≤ x13 then
                if x13 < (xo0.length : Int) then
                  if 0 ≤ (wrap64 (x13 + 1)) then
                    if (wrap64 (x13 + 1)) < ((xo0.set x13.toNat (rY1 xo0 (wrap64 (x13 + 1)))).length : Int) then
                      slices_symMergeCmpFunc_commit_piece.l9 k x10 (wrap64 (x13 + 1)) ((xo0.set x13.toNat (rY1 xo0 (wrap64 (x13 + 1)))).set (wrap64 (x13 + 1)).toNat (rY1 xo0 x13))
                    else none
                  else none
                else none
              else none
            else none
          else none
        else none
      else none
    else some xo0
theorem slices_symMergeCmpFunc_commit_piece.l9_eq (k : Nat) (x10 : Int) (x13 : Int) (xo0 : List (Int × Int × Int)) : slices_symMergeCmpFunc_commit_piece.l9 (k + 1) x10 x13 xo0 = if x13 < (wrap64 (x10 - 1)) then
      if 0 ≤ (wrap64 (x13 + 1)) then
        if (wrap64 (x13 + 1)) < (xo0.length : Int) then
          if 0 ≤ x13 then
            if x13 < (xo0.length : Int) then
              if 0 ≤ x13 then
                if x13 < (xo0.length : Int) then
                  if 0 ≤ (wrap64 (x13 + 1)) then
                    if (wrap64 (x13 + 1)) < ((xo0.set x13.toNat (rY1 xo0 (wrap64 (x13 + 1)))).length : Int) then
                      slices_symMergeCmpFunc_commit_piece.l9 k x10 (wrap64 (x13 + 1)) ((xo0.set x13.toNat (rY1 xo0 (wrap64 (x13 + 1)))).set (wrap64 (x13 + 1)).toNat (rY1 xo0 x13))
                    else none
                  else none
                else none
              else none
            else none
          else none
        else none
      else none
    else some xo0 := rfl
def slices_symMergeCmpFunc_commit_piece.l3 : Nat → Int → Int → Int → (List (Int × Int × Int)) → Option (List (Int × Int × Int))
  | 0, _, _, _, _ => none
  | k + 1, x1, x10, x11, xo0 => if x10 < x11 then
      if (0 : Int) ≤ 1 then
        if 0 ≤ (wrap64 (shrI .u64 (IntKind.wrap .u64 (wrap64 (x10 + x11))) 1)) then
          if (wrap64 (shrI .u64 (IntKind.wrap .u64 (wrap64 (x10 + x11))) 1)) < (xo0.length : Int) then
            if 0 ≤ x1 then
              if x1 < (xo0.length : Int) then
                (commit_serve_1.f k (rY1 xo0 (wrap64 (shrI .u64 (IntKind.wrap .u64 (wrap64 (x10 + x11))) 1))) (rY1 xo0 x1)).bind fun r1 =>
                if r1 < 0 then
                  slices_symMergeCmpFunc_commit_piece.l3 k x1 (wrap64 ((wrap64 (shrI .u64 (IntKind.wrap .u64 (wrap64 (x10 + x11))) 1)) + 1)) x11 xo0
                else slices_symMergeCmpFunc_commit_piece.l3 k x1 x10 (wrap64 (shrI .u64 (IntKind.wrap .u64 (wrap64 (x10 + x11))) 1)) xo0
              else none
            else none
          else none
        else none
      else none
    else slices_symMergeCmpFunc_commit_piece.l9 k x10 x1 xo0
theorem slices_symMergeCmpFunc_commit_piece.l3_eq (k : Nat) (x1 : Int) (x10 : Int) (x11 : Int) (xo0 : List (Int × Int × Int)) : slices_symMergeCmpFunc_commit_piece.l3 (k + 1) x1 x10 x11 xo0 = if x10 < x11 then
      if (0 : Int) ≤ 1 then
        if 0 ≤ (wrap64 (shrI .u64 (IntKind.wrap .u64 (wrap64 (x10 + x11))) 1)) then
          if (wrap64 (shrI .u64 (IntKind.wrap .u64 (wrap64 (x10 + x11))) 1)) < (xo0.length : Int) then
            if 0 ≤ x1 then
              if x1 < (xo0.length : Int) then
                (commit_serve_1.f k (rY1 xo0 (wrap64 (shrI .u64 (IntKind.wrap .u64 (wrap64 (x10 + x11))) 1))) (rY1 xo0 x1)).bind fun r1 =>
                if r1 < 0 then
                  slices_symMergeCmpFunc_commit_piece.l3 k x1 (wrap64 ((wrap64 (shrI .u64 (IntKind.wrap .u64 (wrap64 (x10 + x11))) 1)) + 1)) x11 xo0
                else slices_symMergeCmpFunc_commit_piece.l3 k x1 x10 (wrap64 (shrI .u64 (IntKind.wrap .u64 (wrap64 (x10 + x11))) 1)) xo0
              else none
            else none
          else none
        else none
      else none
    else slices_symMergeCmpFunc_commit_piece.l9 k x10 x1 xo0 := rfl
def slices_symMergeCmpFunc_commit_piece.l21 : Nat → Int → Int → (List (Int × Int × Int)) → Option (List (Int × Int × Int))
  | 0, _, _, _ => none
  | k + 1, x14, x17, xo0 => if x14 < x17 then
      if 0 ≤ (wrap64 (x17 - 1)) then
        if (wrap64 (x17 - 1)) < (xo0.length : Int) then
          if 0 ≤ x17 then
            if x17 < (xo0.length : Int) then
              if 0 ≤ x17 then
                if x17 < (xo0.length : Int) then
                  if 0 ≤ (wrap64 (x17 - 1)) then
                    if (wrap64 (x17 - 1)) < ((xo0.set x17.toNat (rY1 xo0 (wrap64 (x17 - 1)))).length : Int) then
                      slices_symMergeCmpFunc_commit_piece.l21 k x14 (wrap64 (x17 - 1)) ((xo0.set x17.toNat (rY1 xo0 (wrap64 (x17 - 1)))).set (wrap64 (x17 - 1)).toNat (rY1 xo0 x17))
                    else none
                  else none
                else none
              else none
            else none
          else none
        else none
      else none
    else some xo0
theorem slices_symMergeCmpFunc_commit_piece.l21_eq (k : Nat) (x14 : Int) (x17 : Int) (xo0 : List (Int × Int × Int)) : slices_symMergeCmpFunc_commit_piece.l21 (k + 1) x14 x17 xo0 = if x14 < x17 then
      if 0 ≤ (wrap64 (x17 - 1)) then
        if (wrap64 (x17 - 1)) < (xo0.length : Int) then
          if 0 ≤ x17 then
            if x17 < (xo0.length : Int) then
              if 0 ≤ x17 then
                if x17 < (xo0.length : Int) then
                  if 0 ≤ (wrap64 (x17 - 1)) then
                    if (wrap64 (x17 - 1)) < ((xo0.set x17.toNat (rY1 xo0 (wrap64 (x17 - 1)))).length : Int) then
                      slices_symMergeCmpFunc_commit_piece.l21 k x14 (wrap64 (x17 - 1)) ((xo0.set x17.toNat (rY1 xo0 (wrap64 (x17 - 1)))).set (wrap64 (x17 - 1)).toNat (rY1 xo0 x17))
                    else none
                  else none
                else none
              else none
            else none
          else none
        else none
      else none
    else some xo0 := rfl
def slices_symMergeCmpFunc_commit_piece.l15 : Nat → Int → Int → Int → (List (Int × Int × Int)) → Option (List (Int × Int × Int))
  | 0, _, _, _, _ => none
  | k + 1, x2, x14, x15, xo0 => if x14 < x15 then
      if (0 : Int) ≤ 1 then
        if 0 ≤ x2 then
          if x2 < (xo0.length : Int) then
            if 0 ≤ (wrap64 (shrI .u64 (IntKind.wrap .u64 (wrap64 (x14 + x15))) 1)) then
              if (wrap64 (shrI .u64 (IntKind.wrap .u64 (wrap64 (x14 + x15))) 1)) < (xo0.length : Int) then
                (commit_serve_1.f k (rY1 xo0 x2) (rY1 xo0 (wrap64 (shrI .u64 (IntKind.wrap .u64 (wrap64 (x14 + x15))) 1)))).bind fun r2 =>
                if r2 < 0 then
                  slices_symMergeCmpFunc_commit_piece.l15 k x2 x14 (wrap64 (shrI .u64 (IntKind.wrap .u64 (wrap64 (x14 + x15))) 1)) xo0
                else slices_symMergeCmpFunc_commit_piece.l15 k x2 (wrap64 ((wrap64 (shrI .u64 (IntKind.wrap .u64 (wrap64 (x14 + x15))) 1)) + 1)) x15 xo0
              else none
            else none
          else none
        else none
      else none
    else slices_symMergeCmpFunc_commit_piece.l21 k x14 x2 xo0
theorem slices_symMergeCmpFunc_commit_piece.l15_eq (k : Nat) (x2 : Int) (x14 : Int) (x15 : Int) (xo0 : List (Int × Int × Int)) : slices_symMergeCmpFunc_commit_piece.l15 (k + 1) x2 x14 x15 xo0 = if x14 < x15 then
      if (0 : Int) ≤ 1 then
        if 0 ≤ x2 then
          if x2 < (xo0.length : Int) then
            if 0 ≤ (wrap64 (shrI .u64 (IntKind.wrap .u64 (wrap64 (x14 + x15))) 1)) then
              if (wrap64 (shrI .u64 (IntKind.wrap .u64 (wrap64 (x14 + x15))) 1)) < (xo0.length : Int) then
                (commit_serve_1.f k (rY1 xo0 x2) (rY1 xo0 (wrap64 (shrI .u64 (IntKind.wrap .u64 (wrap64 (x14 + x15))) 1)))).bind fun r2 =>
                if r2 < 0 then
                  slices_symMergeCmpFunc_commit_piece.l15 k x2 x14 (wrap64 (shrI .u64 (IntKind.wrap .u64 (wrap64 (x14 + x15))) 1)) xo0
                else slices_symMergeCmpFunc_commit_piece.l15 k x2 (wrap64 ((wrap64 (shrI .u64 (IntKind.wrap .u64 (wrap64 (x14 + x15))) 1)) + 1)) x15 xo0
              else none
            else none
          else none
        else none
      else none
    else slices_symMergeCmpFunc_commit_piece.l21 k x14 x2 xo0 := rfl
mutual
def slices_symMergeCmpFunc_commit_piece.f : Nat → Int → Int → Int → (List (Int × Int × Int)) → Option (List (Int × Int × Int))
  | 0, _, _, _, _ => none
  | k + 1, a1, a2, a3, ao0 => if (wrap64 (a2 - a1)) = 1 then
      slices_symMergeCmpFunc_commit_piece.l3 k a1 a2 a3 ao0
    else if (wrap64 (a3 - a2)) = 1 then
      slices_symMergeCmpFunc_commit_piece.l15 k a2 a1 a2 ao0
    else if (0 : Int) ≤ 1 then
      if (wrap64 (shrI .u64 (IntKind.wrap .u64 (wrap64 (a1 + a3))) 1)) < a2 then
        slices_symMergeCmpFunc_commit_piece.l32 k a1 a2 a3 (wrap64 (shrI .u64 (IntKind.wrap .u64 (wrap64 (a1 + a3))) 1)) (wrap64 ((wrap64 (shrI .u64 (IntKind.wrap .u64 (wrap64 (a1 + a3))) 1)) + a2)) (wrap64 ((wrap64 ((wrap64 (shrI .u64 (IntKind.wrap .u64 (wrap64 (a1 + a3))) 1)) + a2)) - a3)) (wrap64 (shrI .u64 (IntKind.wrap .u64 (wrap64 (a1 + a3))) 1)) ao0
      else slices_symMergeCmpFunc_commit_piece.l32 k a1 a2 a3 (wrap64 (shrI .u64 (IntKind.wrap .u64 (wrap64 (a1 + a3))) 1)) (wrap64 ((wrap64 (shrI .u64 (IntKind.wrap .u64 (wrap64 (a1 + a3))) 1)) + a2)) a1 a2 ao0
    else none
def slices_symMergeCmpFunc_commit_piece.l32 : Nat → Int → Int → Int → Int → Int → Int → Int → (List (Int × Int × Int)) → Option (List (Int × Int × Int))
  | 0, _, _, _, _, _, _, _, _ => none
  | k + 1, x1, x2, x3, x18, x19, x20, x21, xo0 => slices_symMergeCmpFunc_commit_piece.l33 k x1 x2 x3 x18 x19 x20 x21 (wrap64 (x19 - 1)) xo0
def slices_symMergeCmpFunc_commit_piece.l33 : Nat → Int → Int → Int → Int → Int → Int → Int → Int → (List (Int × Int × Int)) → Option (List (Int × Int × Int))
  | 0, _, _, _, _, _, _, _, _, _ => none
  | k + 1, x1, x2, x3, x18, x19, x20, x21, x22, xo0 => if x20 < x21 then
      if (0 : Int) ≤ 1 then
        if 0 ≤ (wrap64 (x22 - (wrap64 (shrI .u64 (IntKind.wrap .u64 (wrap64 (x20 + x21))) 1)))) then
          if (wrap64 (x22 - (wrap64 (shrI .u64 (IntKind.wrap .u64 (wrap64 (x20 + x21))) 1)))) < (xo0.length : Int) then
            if 0 ≤ (wrap64 (shrI .u64 (IntKind.wrap .u64 (wrap64 (x20 + x21))) 1)) then
              if (wrap64 (shrI .u64 (IntKind.wrap .u64 (wrap64 (x20 + x21))) 1)) < (xo0.length : Int) then
                (commit_serve_1.f k (rY1 xo0 (wrap64 (x22 - (wrap64 (shrI .u64 (IntKind.wrap .u64 (wrap64 (x20 + x21))) 1))))) (rY1 xo0 (wrap64 (shrI .u64 (IntKind.wrap .u64 (wrap64 (x20 + x21))) 1)))).bind fun r3 =>
                if r3 < 0 then
                  slices_symMergeCmpFunc_commit_piece.l33 k x1 x2 x3 x18 x19 x20 (wrap64 (shrI .u64 (IntKind.wrap .u64 (wrap64 (x20 + x21))) 1)) x22 xo0
                else slices_symMergeCmpFunc_commit_piece.l33 k x1 x2 x3 x18 x19 (wrap64 ((wrap64 (shrI .u64 (IntKind.wrap .u64 (wrap64 (x20 + x21))) 1)) + 1)) x21 x22 xo0
              else none
            else none
          else none
        else none
      else none
    else if x20 < x2 then
      if x2 < (wrap64 (x19 - x20)) then
        (slices_rotateCmpFunc_commit_piece.f k x20 x2 (wrap64 (x19 - x20)) xo0).bind fun r4 =>
        slices_symMergeCmpFunc_commit_piece.l41 k x1 x3 x18 x20 (wrap64 (x19 - x20)) r4
      else slices_symMergeCmpFunc_commit_piece.l41 k x1 x3 x18 x20 (wrap64 (x19 - x20)) xo0
    else slices_symMergeCmpFunc_commit_piece.l41 k x1 x3 x18 x20 (wrap64 (x19 - x20)) xo0
def slices_symMergeCmpFunc_commit_piece.l41 : Nat → Int → Int → Int → Int → Int → (List (Int × Int × Int)) → Option (List (Int × Int × Int))
  | 0, _, _, _, _, _, _ => none
  | k + 1, x1, x3, x18, x20, x24, xo0 => if x1 < x20 then
      if x20 < x18 then
        (slices_symMergeCmpFunc_commit_piece.f k x1 x20 x18 xo0).bind fun r5 =>
        if x18 < x24 then
          if x24 < x3 then
            (slices_symMergeCmpFunc_commit_piece.f k x18 x24 x3 r5).bind fun r6 =>
            some r6
          else some r5
        else some r5
      else if x18 < x24 then
        if x24 < x3 then
          (slices_symMergeCmpFunc_commit_piece.f k x18 x24 x3 xo0).bind fun r7 =>
          some r7
        else some xo0
      else some xo0
    else if x18 < x24 then
      if x24 < x3 then
        (slices_symMergeCmpFunc_commit_piece.f k x18 x24 x3 xo0).bind fun r8 =>
        some r8
      else some xo0
    else some xo0
end
theorem slices_symMergeCmpFunc_commit_piece.f_eq (k : Nat) (a1 : Int) (a2 : Int) (a3 : Int) (ao0 : List (Int × Int × Int)) : slices_symMergeCmpFunc_commit_piece.f (k + 1) a1 a2 a3 ao0 = if (wrap64 (a2 - a1)) = 1 then
      slices_symMergeCmpFunc_commit_piece.l3 k a1 a2 a3 ao0
    else if (wrap64 (a3 - a2)) = 1 then
      slices_symMergeCmpFunc_commit_piece.l15 k a2 a1 a2 ao0
    else if (0 : Int) ≤ 1 then
      if (wrap64 (shrI .u64 (IntKind.wrap .u64 (wrap64 (a1 + a3))) 1)) < a2 then
        slices_symMergeCmpFunc_commit_piece.l32 k a1 a2 a3 (wrap64 (shrI .u64 (IntKind.wrap .u64 (wrap64 (a1 + a3))) 1)) (wrap64 ((wrap64 (shrI .u64 (IntKind.wrap .u64 (wrap64 (a1 + a3))) 1)) + a2)) (wrap64 ((wrap64 ((wrap64 (shrI .u64 (IntKind.wrap .u64 (wrap64 (a1 + a3))) 1)) + a2)) - a3)) (wrap64 (shrI .u64 (IntKind.wrap .u64 (wrap64 (a1 + a3))) 1)) ao0
      else slices_symMergeCmpFunc_commit_piece.l32 k a1 a2 a3 (wrap64 (shrI .u64 (IntKind.wrap .u64 (wrap64 (a1 + a3))) 1)) (wrap64 ((wrap64 (shrI .u64 (IntKind.wrap .u64 (wrap64 (a1 + a3))) 1)) + a2)) a1 a2 ao0
    else none := rfl
theorem slices_symMergeCmpFunc_commit_piece.l32_eq (k : Nat) (x1 : Int) (x2 : Int) (x3 : Int) (x18 : Int) (x19 : Int) (x20 : Int) (x21 : Int) (xo0 : List (Int × Int × Int)) : slices_symMergeCmpFunc_commit_piece.l32 (k + 1) x1 x2 x3 x18 x19 x20 x21 xo0 = slices_symMergeCmpFunc_commit_piece.l33 k x1 x2 x3 x18 x19 x20 x21 (wrap64 (x19 - 1)) xo0 := rfl
theorem slices_symMergeCmpFunc_commit_piece.l33_eq (k : Nat) (x1 : Int) (x2 : Int) (x3 : Int) (x18 : Int) (x19 : Int) (x20 : Int) (x21 : Int) (x22 : Int) (xo0 : List (Int × Int × Int)) : slices_symMergeCmpFunc_commit_piece.l33 (k + 1) x1 x2 x3 x18 x19 x20 x21 x22 xo0 = if x20 < x21 then
      if (0 : Int) ≤ 1 then
        if 0 ≤ (wrap64 (x22 - (wrap64 (shrI .u64 (IntKind.wrap .u64 (wrap64 (x20 + x21))) 1)))) then
          if (wrap64 (x22 - (wrap64 (shrI .u64 (IntKind.wrap .u64 (wrap64 (x20 + x21))) 1)))) < (xo0.length : Int) then
            if 0 ≤ (wrap64 (shrI .u64 (IntKind.wrap .u64 (wrap64 (x20 + x21))) 1)) then
              if (wrap64 (shrI .u64 (IntKind.wrap .u64 (wrap64 (x20 + x21))) 1)) < (xo0.length : Int) then
                (commit_serve_1.f k (rY1 xo0 (wrap64 (x22 - (wrap64 (shrI .u64 (IntKind.wrap .u64 (wrap64 (x20 + x21))) 1))))) (rY1 xo0 (wrap64 (shrI .u64 (IntKind.wrap .u64 (wrap64 (x20 + x21))) 1)))).bind fun r3 =>
                if r3 < 0 then
                  slices_symMergeCmpFunc_commit_piece.l33 k x1 x2 x3 x18 x19 x20 (wrap64 (shrI .u64 (IntKind.wrap .u64 (wrap64 (x20 + x21))) 1)) x22 xo0
                else slices_symMergeCmpFunc_commit_piece.l33 k x1 x2 x3 x18 x19 (wrap64 ((wrap64 (shrI .u64 (IntKind.wrap .u64 (wrap64 (x20 + x21))) 1)) + 1)) x21 x22 xo0
              else none
            else none
          else none
        else none
      else none
    else if x20 < x2 then
      if x2 < (wrap64 (x19 - x20)) then
        (slices_rotateCmpFunc_commit_piece.f k x20 x2 (wrap64 (x19 - x20)) xo0).bind fun r4 =>
        slices_symMergeCmpFunc_commit_piece.l41 k x1 x3 x18 x20 (wrap64 (x19 - x20)) r4
      else slices_symMergeCmpFunc_commit_piece.l41 k x1 x3 x18 x20 (wrap64 (x19 - x20)) xo0
    else slices_symMergeCmpFunc_commit_piece.l41 k x1 x3 x18 x20 (wrap64 (x19 - x20)) xo0 := rfl
theorem slices_symMergeCmpFunc_commit_piece.l41_eq (k : Nat) (x1 : Int) (x3 : Int) (x18 : Int) (x20 : Int) (x24 : Int) (xo0 : List (Int × Int × Int)) : slices_symMergeCmpFunc_commit_piece.l41 (k + 1) x1 x3 x18 x20 x24 xo0 = if x1 < x20 then
      if x20 < x18 then
        (slices_symMergeCmpFunc_commit_piece.f k x1 x20 x18 xo0).bind fun r5 =>
        if x18 < x24 then
          if x24 < x3 then
            (slices_symMergeCmpFunc_commit_piece.f k x18 x24 x3 r5).bind fun r6 =>
            some r6
          else some r5
        else some r5
      else if x18 < x24 then
        if x24 < x3 then
          (slices_symMergeCmpFunc_commit_piece.f k x18 x24 x3 xo0).bind fun r7 =>
          some r7
        else some xo0
      else some xo0
    else if x18 < x24 then
      if x24 < x3 then
        (slices_symMergeCmpFunc_commit_piece.f k x18 x24 x3 xo0).bind fun r8 =>
        some r8
      else some xo0
    else some xo0 := rfl
mutual
def slices_stableCmpFunc_commit_piece.l7 : Nat → Int → Int → (List (Int × Int × Int)) → Option (List (Int × Int × Int))
  | 0, _, _, _ => none
  | k + 1, x1, x6, xo0 => if x6 < x1 then
      slices_stableCmpFunc_commit_piece.l9 k x1 x6 0 (wrap64 (2 * x6)) xo0
    else some xo0
def slices_stableCmpFunc_commit_piece.l9 : Nat → Int → Int → Int → Int → (List (Int × Int × Int)) → Option (List (Int × Int × Int))
  | 0, _, _, _, _, _ => none
  | k + 1, x1, x6, x7, x8, xo0 => if x8 ≤ x1 then
      (slices_symMergeCmpFunc_commit_piece.f k x7 (wrap64 (x7 + x6)) x8 xo0).bind fun r3 =>
      slices_stableCmpFunc_commit_piece.l9 k x1 x6 x8 (wrap64 (x8 + (wrap64 (2 * x6)))) r3
    else if (wrap64 (x7 + x6)) < x1 then
      (slices_symMergeCmpFunc_commit_piece.f k x7 (wrap64 (x7 + x6)) x1 xo0).bind fun r4 =>
      slices_stableCmpFunc_commit_piece.l7 k x1 (wrap64 (x6 * 2)) r4
    else slices_stableCmpFunc_commit_piece.l7 k x1 (wrap64 (x6 * 2)) xo0
end
theorem slices_stableCmpFunc_commit_piece.l7_eq (k : Nat) (x1 : Int) (x6 : Int) (xo0 : List (Int × Int × Int)) : slices_stableCmpFunc_commit_piece.l7 (k + 1) x1 x6 xo0 = if x6 < x1 then
      slices_stableCmpFunc_commit_piece.l9 k x1 x6 0 (wrap64 (2 * x6)) xo0
    else some xo0 := rfl
theorem slices_stableCmpFunc_commit_piece.l9_eq (k : Nat) (x1 : Int) (x6 : Int) (x7 : Int) (x8 : Int) (xo0 : List (Int × Int × Int)) : slices_stableCmpFunc_commit_piece.l9 (k + 1) x1 x6 x7 x8 xo0 = if x8 ≤ x1 then
      (slices_symMergeCmpFunc_commit_piece.f k x7 (wrap64 (x7 + x6)) x8 xo0).bind fun r3 =>
      slices_stableCmpFunc_commit_piece.l9 k x1 x6 x8 (wrap64 (x8 + (wrap64 (2 * x6)))) r3
    else if (wrap64 (x7 + x6)) < x1 then
      (slices_symMergeCmpFunc_commit_piece.f k x7 (wrap64 (x7 + x6)) x1 xo0).bind fun r4 =>
      slices_stableCmpFunc_commit_piece.l7 k x1 (wrap64 (x6 * 2)) r4
    else slices_stableCmpFunc_commit_piece.l7 k x1 (wrap64 (x6 * 2)) xo0 := rfl
def slices_stableCmpFunc_commit_piece.l2 : Nat → Int → Int → Int → Int → (List (Int × Int × Int)) → Option (List (Int × Int × Int))
  | 0, _, _, _, _, _ => none
  | k + 1, x1, x6, x7, x8, xo0 => if x8 ≤ x1 then
      (slices_insertionSortCmpFunc_commit_piece.f k x7 x8 xo0).bind fun r1 =>
      slices_stableCmpFunc_commit_piece.l2 k x1 x6 x8 (wrap64 (x8 + x6)) r1
    else (slices_insertionSortCmpFunc_commit_piece.f k x7 x1 xo0).bind fun r2 =>
    slices_stableCmpFunc_commit_piece.l7 k x1 x6 r2
theorem slices_stableCmpFunc_commit_piece.l2_eq (k : Nat) (x1 : Int) (x6 : Int) (x7 : Int) (x8 : Int) (xo0 : List (Int × Int × Int)) : slices_stableCmpFunc_commit_piece.l2 (k + 1) x1 x6 x7 x8 xo0 = if x8 ≤ x1 then
      (slices_insertionSortCmpFunc_commit_piece.f k x7 x8 xo0).bind fun r1 =>
      slices_stableCmpFunc_commit_piece.l2 k x1 x6 x8 (wrap64 (x8 + x6)) r1
    else (slices_insertionSortCmpFunc_commit_piece.f k x7 x1 xo0).bind fun r2 =>
    slices_stableCmpFunc_commit_piece.l7 k x1 x6 r2 := rfl
def slices_stableCmpFunc_commit_piece.f (k : Nat) (a1 : Int) (ao0 : List (Int × Int × Int)) : Option (List (Int × Int × Int)) :=
  slices_stableCmpFunc_commit_piece.l2 k a1 20 0 20 ao0
def slices_SortStableFunc_commit_piece.f (k : Nat) (ao0 : List (Int × Int × Int)) : Option (List (Int × Int × Int)) :=
  (slices_stableCmpFunc_commit_piece.f k (ao0.length : Int) ao0).bind fun r1 =>
  some r1
def commit_serve.l34 : Nat → Int → (List ((ByteArray × Int × Int × Int × Int × Int × Int × Int) × (ByteArray × List (Int × Int)) × Bool × Int × Int)) → Int → Int → List Int → Option (List Int × Int × Bool)
  | 0, _, _, _, _, _ => none
  | k + 1, x21, x122, x123, x124, xo0 => if x124 < x123 then
      if 0 ≤ x124 then
        if x124 < (x122.length : Int) then
          if 0 ≤ x124 then
            if x124 < (xo0.length : Int) then
              (offer_Cost.f k (rY10 x122 x124).2.1 (mx (rI64 xo0 x124) 0)).bind fun r2 =>
              commit_serve.l34 k (wrap64 (x21 + r2.1)) x122 x123 (wrap64 (x124 + 1)) xo0
            else none
          else none
        else none
      else none
    else some (xo0, x21, true)
theorem commit_serve.l34_eq (k : Nat) (x21 : Int) (x122 : List ((ByteArray × Int × Int × Int × Int × Int × Int × Int) × (ByteArray × List (Int × Int)) × Bool × Int × Int)) (x123 : Int) (x124 : Int) (xo0 : List Int) : commit_serve.l34 (k + 1) x21 x122 x123 x124 xo0 = if x124 < x123 then
      if 0 ≤ x124 then
        if x124 < (x122.length : Int) then
          if 0 ≤ x124 then
            if x124 < (xo0.length : Int) then
              (offer_Cost.f k (rY10 x122 x124).2.1 (mx (rI64 xo0 x124) 0)).bind fun r2 =>
              commit_serve.l34 k (wrap64 (x21 + r2.1)) x122 x123 (wrap64 (x124 + 1)) xo0
            else none
          else none
        else none
      else none
    else some (xo0, x21, true) := rfl
def commit_serve.l25 : Nat → (List ((ByteArray × Int × Int × Int × Int × Int × Int × Int) × (ByteArray × List (Int × Int)) × Bool × Int × Int)) → Int → Int → Int → List Int → (List (Int × Int × Int)) → Option (List Int × Int × Bool)
  | 0, _, _, _, _, _, _ => none
  | k + 1, x0, x11, x96, x97, xo0, xo1 => if x97 < x96 then
      if 0 ≤ x97 then
        if x97 < (xo1.length : Int) then
          if 0 ≤ (rY1 xo1 x97).1 then
            if (rY1 xo1 x97).1 < (xo0.length : Int) then
              if 0 ≤ (rY1 xo1 x97).1 then
                if (rY1 xo1 x97).1 < (xo0.length : Int) then
                  commit_serve.l25 k x0 (wrap64 (x11 - (mn (rY1 xo1 x97).2.1 x11))) x96 (wrap64 (x97 + 1)) (xo0.set (rY1 xo1 x97).1.toNat (wrap64 ((rI64 xo0 (rY1 xo1 x97).1) + (mn (rY1 xo1 x97).2.1 x11)))) xo1
                else none
              else none
            else none
          else none
        else none
      else none
    else if 0 < x11 then
      some ([], 0, false)
    else commit_serve.l34 k 0 x0 (x0.length : Int) 0 xo0
theorem commit_serve.l25_eq (k : Nat) (x0 : List ((ByteArray × Int × Int × Int × Int × Int × Int × Int) × (ByteArray × List (Int × Int)) × Bool × Int × Int)) (x11 : Int) (x96 : Int) (x97 : Int) (xo0 : List Int) (xo1 : List (Int × Int × Int)) : commit_serve.l25 (k + 1) x0 x11 x96 x97 xo0 xo1 = if x97 < x96 then
      if 0 ≤ x97 then
        if x97 < (xo1.length : Int) then
          if 0 ≤ (rY1 xo1 x97).1 then
            if (rY1 xo1 x97).1 < (xo0.length : Int) then
              if 0 ≤ (rY1 xo1 x97).1 then
                if (rY1 xo1 x97).1 < (xo0.length : Int) then
                  commit_serve.l25 k x0 (wrap64 (x11 - (mn (rY1 xo1 x97).2.1 x11))) x96 (wrap64 (x97 + 1)) (xo0.set (rY1 xo1 x97).1.toNat (wrap64 ((rI64 xo0 (rY1 xo1 x97).1) + (mn (rY1 xo1 x97).2.1 x11)))) xo1
                else none
              else none
            else none
          else none
        else none
      else none
    else if 0 < x11 then
      some ([], 0, false)
    else commit_serve.l34 k 0 x0 (x0.length : Int) 0 xo0 := rfl
mutual
def commit_serve.l5 : Nat → (List ((ByteArray × Int × Int × Int × Int × Int × Int × Int) × (ByteArray × List (Int × Int)) × Bool × Int × Int)) → List Bool → Int → (List ((ByteArray × Int × Int × Int × Int × Int × Int × Int) × (ByteArray × List (Int × Int)) × Bool × Int × Int)) → Int → Int → List Int → (List (Int × Int × Int)) → Option (List Int × Int × Bool)
  | 0, _, _, _, _, _, _, _, _ => none
  | k + 1, x0, x1, x11, x30, x31, x32, xo0, xo1 => if x32 < x31 then
      if 0 ≤ x32 then
        if x32 < (x30.length : Int) then
          if 0 ≤ x32 then
            if x32 < (xo0.length : Int) then
              if 0 ≤ x32 then
                if x32 < (x1.length : Int) then
                  if (rBool x1 x32) = true then
                    if 0 ≤ x32 then
                      if x32 < ((xo0.set x32.toNat (-1)).length : Int) then
                        commit_serve.l13 k x0 x1 (wrap64 (x11 - (rY10 x30 x32).1.2.1)) x32 (rY10 x30 x32).1.2.1 x30 x31 x32 (rY10 x30 x32).2.1.2 ((rY10 x30 x32).2.1.2.length : Int) 0 ((xo0.set x32.toNat (-1)).set x32.toNat (rY10 x30 x32).1.2.1) xo1
                      else none
                    else none
                  else commit_serve.l5 k x0 x1 x11 x30 x31 (wrap64 (x32 + 1)) (xo0.set x32.toNat (-1)) xo1
                else none
              else none
            else none
          else none
        else none
      else none
    else if x11 < 0 then
      some ([], 0, false)
    else (slices_SortStableFunc_commit_piece.f k xo1).bind fun r1 =>
    commit_serve.l25 k x0 x11 (r1.length : Int) 0 xo0 r1
def commit_serve.l13 : Nat → (List ((ByteArray × Int × Int × Int × Int × Int × Int × Int) × (ByteArray × List (Int × Int)) × Bool × Int × Int)) → List Bool → Int → Int → Int → (List ((ByteArray × Int × Int × Int × Int × Int × Int × Int) × (ByteArray × List (Int × Int)) × Bool × Int × Int)) → Int → Int → (List (Int × Int)) → Int → Int → List Int → (List (Int × Int × Int)) → Option (List Int × Int × Bool)
  | 0, _, _, _, _, _, _, _, _, _, _, _, _, _ => none
  | k + 1, x0, x1, x11, x12, x14, x30, x31, x32, x61, x62, x63, xo0, xo1 => if x63 < x62 then
      if 0 ≤ x63 then
        if x63 < (x61.length : Int) then
          if (mn x14 (rY0 x61 x63).1) < (rY0 x61 x63).1 then
            if (xo1.length + [(x12, wrap64 ((rY0 x61 x63).1 - (mn x14 (rY0 x61 x63).1)), (rY0 x61 x63).2)].length) * 24 ≤ 140737488355328 then
              commit_serve.l13 k x0 x1 x11 x12 (wrap64 (x14 - (mn x14 (rY0 x61 x63).1))) x30 x31 x32 x61 x62 (wrap64 (x63 + 1)) xo0 (xo1 ++ [(x12, wrap64 ((rY0 x61 x63).1 - (mn x14 (rY0 x61 x63).1)), (rY0 x61 x63).2)])
            else none
          else commit_serve.l13 k x0 x1 x11 x12 (wrap64 (x14 - (mn x14 (rY0 x61 x63).1))) x30 x31 x32 x61 x62 (wrap64 (x63 + 1)) xo0 xo1
        else none
      else none
    else commit_serve.l5 k x0 x1 x11 x30 x31 (wrap64 (x32 + 1)) xo0 xo1
end
theorem commit_serve.l5_eq (k : Nat) (x0 : List ((ByteArray × Int × Int × Int × Int × Int × Int × Int) × (ByteArray × List (Int × Int)) × Bool × Int × Int)) (x1 : List Bool) (x11 : Int) (x30 : List ((ByteArray × Int × Int × Int × Int × Int × Int × Int) × (ByteArray × List (Int × Int)) × Bool × Int × Int)) (x31 : Int) (x32 : Int) (xo0 : List Int) (xo1 : List (Int × Int × Int)) : commit_serve.l5 (k + 1) x0 x1 x11 x30 x31 x32 xo0 xo1 = if x32 < x31 then
      if 0 ≤ x32 then
        if x32 < (x30.length : Int) then
          if 0 ≤ x32 then
            if x32 < (xo0.length : Int) then
              if 0 ≤ x32 then
                if x32 < (x1.length : Int) then
                  if (rBool x1 x32) = true then
                    if 0 ≤ x32 then
                      if x32 < ((xo0.set x32.toNat (-1)).length : Int) then
                        commit_serve.l13 k x0 x1 (wrap64 (x11 - (rY10 x30 x32).1.2.1)) x32 (rY10 x30 x32).1.2.1 x30 x31 x32 (rY10 x30 x32).2.1.2 ((rY10 x30 x32).2.1.2.length : Int) 0 ((xo0.set x32.toNat (-1)).set x32.toNat (rY10 x30 x32).1.2.1) xo1
                      else none
                    else none
                  else commit_serve.l5 k x0 x1 x11 x30 x31 (wrap64 (x32 + 1)) (xo0.set x32.toNat (-1)) xo1
                else none
              else none
            else none
          else none
        else none
      else none
    else if x11 < 0 then
      some ([], 0, false)
    else (slices_SortStableFunc_commit_piece.f k xo1).bind fun r1 =>
    commit_serve.l25 k x0 x11 (r1.length : Int) 0 xo0 r1 := rfl
theorem commit_serve.l13_eq (k : Nat) (x0 : List ((ByteArray × Int × Int × Int × Int × Int × Int × Int) × (ByteArray × List (Int × Int)) × Bool × Int × Int)) (x1 : List Bool) (x11 : Int) (x12 : Int) (x14 : Int) (x30 : List ((ByteArray × Int × Int × Int × Int × Int × Int × Int) × (ByteArray × List (Int × Int)) × Bool × Int × Int)) (x31 : Int) (x32 : Int) (x61 : List (Int × Int)) (x62 : Int) (x63 : Int) (xo0 : List Int) (xo1 : List (Int × Int × Int)) : commit_serve.l13 (k + 1) x0 x1 x11 x12 x14 x30 x31 x32 x61 x62 x63 xo0 xo1 = if x63 < x62 then
      if 0 ≤ x63 then
        if x63 < (x61.length : Int) then
          if (mn x14 (rY0 x61 x63).1) < (rY0 x61 x63).1 then
            if (xo1.length + [(x12, wrap64 ((rY0 x61 x63).1 - (mn x14 (rY0 x61 x63).1)), (rY0 x61 x63).2)].length) * 24 ≤ 140737488355328 then
              commit_serve.l13 k x0 x1 x11 x12 (wrap64 (x14 - (mn x14 (rY0 x61 x63).1))) x30 x31 x32 x61 x62 (wrap64 (x63 + 1)) xo0 (xo1 ++ [(x12, wrap64 ((rY0 x61 x63).1 - (mn x14 (rY0 x61 x63).1)), (rY0 x61 x63).2)])
            else none
          else commit_serve.l13 k x0 x1 x11 x12 (wrap64 (x14 - (mn x14 (rY0 x61 x63).1))) x30 x31 x32 x61 x62 (wrap64 (x63 + 1)) xo0 xo1
        else none
      else none
    else commit_serve.l5 k x0 x1 x11 x30 x31 (wrap64 (x32 + 1)) xo0 xo1 := rfl
def commit_serve.f (k : Nat) (a0 : List ((ByteArray × Int × Int × Int × Int × Int × Int × Int) × (ByteArray × List (Int × Int)) × Bool × Int × Int)) (a1 : List Bool) (a2 : Int) : Option (List Int × Int × Bool) :=
  if 0 ≤ (a0.length : Int) then
    if (a0.length : Int) * 8 ≤ 140737488355328 then
      if (a0.length : Int) ≤ 140737488355328 then
        commit_serve.l5 k a0 a1 a2 a0 (a0.length : Int) 0 (List.replicate (a0.length : Int).toNat 0) []
      else none
    else none
  else none
mutual
def commit_moved.l3 : Nat → Int → (List ((ByteArray × Int × Int × Int × Int × Int × Int × Int) × (ByteArray × List (Int × Int)) × Bool × Int × Int)) → Int → Int → (List (Bool × Int × Int)) → Int → Int → Int → Int → Int → Int → Int → Int → Int → (List (Bool × Int × Int)) → Option (((List (Bool × Int × Int)) × Int × Int × Int) × Bool)
  | 0, _, _, _, _, _, _, _, _, _, _, _, _, _, _, _ => none
  | k + 1, x2, x19, x20, x21, xo0_0, xo0_1, xo0_2, xo0_3, xo1_0, xo1_1, xo1_2, xo2_0, xo2_1, xo2_2, xo3 => if x21 < x20 then
      if 0 ≤ x21 then
        if x21 < (x19.length : Int) then
          if 0 ≤ x21 then
            if (andI .i64 (shrI .i64 x2 x21) 1) = 1 then
              commit_moved.l8 k x2 x21 (rY10 x19 x21).1.2.1 x19 x20 x21 xo0_0 xo0_1 xo0_2 xo0_3 xo1_0 xo1_1 xo1_2 xo2_0 xo2_1 xo2_2 (rY10 x19 x21).1.1 (rY10 x19 x21).1.2.1 (rY10 x19 x21).1.2.2.1 (rY10 x19 x21).1.2.2.2.1 (rY10 x19 x21).1.2.2.2.2.1 (rY10 x19 x21).1.2.2.2.2.2.1 (rY10 x19 x21).1.2.2.2.2.2.2.1 (rY10 x19 x21).1.2.2.2.2.2.2.2 (rY10 x19 x21).2.1.1 (rY10 x19 x21).2.1.2 (rY10 x19 x21).2.2.1 (rY10 x19 x21).2.2.2.1 (rY10 x19 x21).2.2.2.2 xo3
            else commit_moved.l8 k x2 x21 (-1) x19 x20 x21 xo0_0 xo0_1 xo0_2 xo0_3 xo1_0 xo1_1 xo1_2 xo2_0 xo2_1 xo2_2 (rY10 x19 x21).1.1 (rY10 x19 x21).1.2.1 (rY10 x19 x21).1.2.2.1 (rY10 x19 x21).1.2.2.2.1 (rY10 x19 x21).1.2.2.2.2.1 (rY10 x19 x21).1.2.2.2.2.2.1 (rY10 x19 x21).1.2.2.2.2.2.2.1 (rY10 x19 x21).1.2.2.2.2.2.2.2 (rY10 x19 x21).2.1.1 (rY10 x19 x21).2.1.2 (rY10 x19 x21).2.2.1 (rY10 x19 x21).2.2.2.1 (rY10 x19 x21).2.2.2.2 xo3
          else none
        else none
      else none
    else some ((xo3, xo2_0, xo2_1, xo2_2), true)
def commit_moved.l8 : Nat → Int → Int → Int → (List ((ByteArray × Int × Int × Int × Int × Int × Int × Int) × (ByteArray × List (Int × Int)) × Bool × Int × Int)) → Int → Int → (List (Bool × Int × Int)) → Int → Int → Int → Int → Int → Int → Int → Int → Int → ByteArray → Int → Int → Int → Int → Int → Int → Int → ByteArray → (List (Int × Int)) → Bool → Int → Int → (List (Bool × Int × Int)) → Option (((List (Bool × Int × Int)) × Int × Int × Int) × Bool)
  | 0, _, _, _, _, _, _, _, _, _, _, _, _, _, _, _, _, _, _, _, _, _, _, _, _, _, _, _, _, _, _ => none
  | k + 1, x2, x9, x11, x19, x20, x21, xo0_0, xo0_1, xo0_2, xo0_3, xo1_0, xo1_1, xo1_2, xo2_0, xo2_1, xo2_2, xo3_0, xo3_1, xo3_2, xo3_3, xo3_4, xo3_5, xo3_6, xo3_7, xo3_8, xo3_9, xo3_10, xo3_11, xo3_12, xo4 => if 0 ≤ x9 then
      if x9 < (xo0_0.length : Int) then
        (unit_Next.f k (xo3_0, xo3_1, xo3_2, xo3_3, xo3_4, xo3_5, xo3_6, xo3_7) (rY8 xo0_0 x9) x11).bind fun r1 =>
        if r1.2.2 = 0 then
          (commit_cut.f k (xo3_0, xo3_1, xo3_2, xo3_3, xo3_4, xo3_5, xo3_6, xo3_7) r1.1).bind fun r2 =>
          if (xo4.length + [r2].length) * 24 ≤ 140737488355328 then
            commit_moved.l3 k x2 x19 x20 (wrap64 (x21 + 1)) xo0_0 xo0_1 xo0_2 xo0_3 xo1_0 xo1_1 xo1_2 (wrap64 (xo2_0 + r1.2.1)) xo2_1 xo2_2 (xo4 ++ [r2])
          else none
        else some (([], 0, 0, 0), false)
      else none
    else none
end
theorem commit_moved.l3_eq (k : Nat) (x2 : Int) (x19 : List ((ByteArray × Int × Int × Int × Int × Int × Int × Int) × (ByteArray × List (Int × Int)) × Bool × Int × Int)) (x20 : Int) (x21 : Int) (xo0_0 : List (Bool × Int × Int)) (xo0_1 : Int) (xo0_2 : Int) (xo0_3 : Int) (xo1_0 : Int) (xo1_1 : Int) (xo1_2 : Int) (xo2_0 : Int) (xo2_1 : Int) (xo2_2 : Int) (xo3 : List (Bool × Int × Int)) : commit_moved.l3 (k + 1) x2 x19 x20 x21 xo0_0 xo0_1 xo0_2 xo0_3 xo1_0 xo1_1 xo1_2 xo2_0 xo2_1 xo2_2 xo3 = if x21 < x20 then
      if 0 ≤ x21 then
        if x21 < (x19.length : Int) then
          if 0 ≤ x21 then
            if (andI .i64 (shrI .i64 x2 x21) 1) = 1 then
              commit_moved.l8 k x2 x21 (rY10 x19 x21).1.2.1 x19 x20 x21 xo0_0 xo0_1 xo0_2 xo0_3 xo1_0 xo1_1 xo1_2 xo2_0 xo2_1 xo2_2 (rY10 x19 x21).1.1 (rY10 x19 x21).1.2.1 (rY10 x19 x21).1.2.2.1 (rY10 x19 x21).1.2.2.2.1 (rY10 x19 x21).1.2.2.2.2.1 (rY10 x19 x21).1.2.2.2.2.2.1 (rY10 x19 x21).1.2.2.2.2.2.2.1 (rY10 x19 x21).1.2.2.2.2.2.2.2 (rY10 x19 x21).2.1.1 (rY10 x19 x21).2.1.2 (rY10 x19 x21).2.2.1 (rY10 x19 x21).2.2.2.1 (rY10 x19 x21).2.2.2.2 xo3
            else commit_moved.l8 k x2 x21 (-1) x19 x20 x21 xo0_0 xo0_1 xo0_2 xo0_3 xo1_0 xo1_1 xo1_2 xo2_0 xo2_1 xo2_2 (rY10 x19 x21).1.1 (rY10 x19 x21).1.2.1 (rY10 x19 x21).1.2.2.1 (rY10 x19 x21).1.2.2.2.1 (rY10 x19 x21).1.2.2.2.2.1 (rY10 x19 x21).1.2.2.2.2.2.1 (rY10 x19 x21).1.2.2.2.2.2.2.1 (rY10 x19 x21).1.2.2.2.2.2.2.2 (rY10 x19 x21).2.1.1 (rY10 x19 x21).2.1.2 (rY10 x19 x21).2.2.1 (rY10 x19 x21).2.2.2.1 (rY10 x19 x21).2.2.2.2 xo3
          else none
        else none
      else none
    else some ((xo3, xo2_0, xo2_1, xo2_2), true) := rfl
theorem commit_moved.l8_eq (k : Nat) (x2 : Int) (x9 : Int) (x11 : Int) (x19 : List ((ByteArray × Int × Int × Int × Int × Int × Int × Int) × (ByteArray × List (Int × Int)) × Bool × Int × Int)) (x20 : Int) (x21 : Int) (xo0_0 : List (Bool × Int × Int)) (xo0_1 : Int) (xo0_2 : Int) (xo0_3 : Int) (xo1_0 : Int) (xo1_1 : Int) (xo1_2 : Int) (xo2_0 : Int) (xo2_1 : Int) (xo2_2 : Int) (xo3_0 : ByteArray) (xo3_1 : Int) (xo3_2 : Int) (xo3_3 : Int) (xo3_4 : Int) (xo3_5 : Int) (xo3_6 : Int) (xo3_7 : Int) (xo3_8 : ByteArray) (xo3_9 : List (Int × Int)) (xo3_10 : Bool) (xo3_11 : Int) (xo3_12 : Int) (xo4 : List (Bool × Int × Int)) : commit_moved.l8 (k + 1) x2 x9 x11 x19 x20 x21 xo0_0 xo0_1 xo0_2 xo0_3 xo1_0 xo1_1 xo1_2 xo2_0 xo2_1 xo2_2 xo3_0 xo3_1 xo3_2 xo3_3 xo3_4 xo3_5 xo3_6 xo3_7 xo3_8 xo3_9 xo3_10 xo3_11 xo3_12 xo4 = if 0 ≤ x9 then
      if x9 < (xo0_0.length : Int) then
        (unit_Next.f k (xo3_0, xo3_1, xo3_2, xo3_3, xo3_4, xo3_5, xo3_6, xo3_7) (rY8 xo0_0 x9) x11).bind fun r1 =>
        if r1.2.2 = 0 then
          (commit_cut.f k (xo3_0, xo3_1, xo3_2, xo3_3, xo3_4, xo3_5, xo3_6, xo3_7) r1.1).bind fun r2 =>
          if (xo4.length + [r2].length) * 24 ≤ 140737488355328 then
            commit_moved.l3 k x2 x19 x20 (wrap64 (x21 + 1)) xo0_0 xo0_1 xo0_2 xo0_3 xo1_0 xo1_1 xo1_2 (wrap64 (xo2_0 + r1.2.1)) xo2_1 xo2_2 (xo4 ++ [r2])
          else none
        else some (([], 0, 0, 0), false)
      else none
    else none := rfl
def commit_moved.f (k : Nat) (a0 : List ((ByteArray × Int × Int × Int × Int × Int × Int × Int) × (ByteArray × List (Int × Int)) × Bool × Int × Int)) (a1 : (List (Bool × Int × Int)) × Int × Int × Int) (a2 : Int) : Option (((List (Bool × Int × Int)) × Int × Int × Int) × Bool) :=
  commit_moved.l3 k a2 a0 (a0.length : Int) 0 a1.1 a1.2.1 a1.2.2.1 a1.2.2.2 0 0 0 a1.2.1 0 a2 []
def commit_key.l3 : Nat → Int → (List (Bool × Int × Int)) → Int → Int → Option Int
  | 0, _, _, _, _ => none
  | k + 1, x3, x6, x7, x8 => if x8 < x7 then
      if 0 ≤ x8 then
        if x8 < (x6.length : Int) then
          if (rY8 x6 x8).1 = true then
            commit_key.l3 k (wrap64 ((wrap64 ((wrap64 (x3 * 64)) + (wrap64 (2 * (rY8 x6 x8).2.1)))) + 1)) x6 x7 (wrap64 (x8 + 1))
          else commit_key.l3 k (wrap64 ((wrap64 (x3 * 64)) + (wrap64 (2 * (rY8 x6 x8).2.1)))) x6 x7 (wrap64 (x8 + 1))
        else none
      else none
    else some x3
theorem commit_key.l3_eq (k : Nat) (x3 : Int) (x6 : List (Bool × Int × Int)) (x7 : Int) (x8 : Int) : commit_key.l3 (k + 1) x3 x6 x7 x8 = if x8 < x7 then
      if 0 ≤ x8 then
        if x8 < (x6.length : Int) then
          if (rY8 x6 x8).1 = true then
            commit_key.l3 k (wrap64 ((wrap64 ((wrap64 (x3 * 64)) + (wrap64 (2 * (rY8 x6 x8).2.1)))) + 1)) x6 x7 (wrap64 (x8 + 1))
          else commit_key.l3 k (wrap64 ((wrap64 (x3 * 64)) + (wrap64 (2 * (rY8 x6 x8).2.1)))) x6 x7 (wrap64 (x8 + 1))
        else none
      else none
    else some x3 := rfl
def commit_key.f (k : Nat) (a0 : List (Bool × Int × Int)) : Option Int :=
  commit_key.l3 k 0 a0 (a0.length : Int) 0
mutual
def commit_period.l4 : Nat → (List ((ByteArray × Int × Int × Int × Int × Int × Int × Int) × (ByteArray × List (Int × Int)) × Bool × Int × Int)) → (List ((List (Bool × Int × Int)) × Int × Int × Int)) → Int → Int → Int → (List ((List (Bool × Int × Int)) × Int × Int × Int)) → (List (Int × Int)) → Option (List ((List (Bool × Int × Int)) × Int × Int × Int))
  | 0, _, _, _, _, _, _, _ => none
  | k + 1, x0, x1, x2, x22, x23, xo0, xo1 => if x23 < x22 then
      (commit_bools.f k x23 (x0.length : Int)).bind fun r1 =>
      (commit_serve.f k x0 r1 x2).bind fun r2 =>
      if r2.2.2 = true then
        commit_period.l9 k x0 x1 x2 x23 r2.2.1 x22 x23 x1 (x1.length : Int) 0 xo0 xo1
      else commit_period.l4 k x0 x1 x2 x22 (wrap64 (x23 + 1)) xo0 xo1
    else some xo0
def commit_period.l9 : Nat → (List ((ByteArray × Int × Int × Int × Int × Int × Int × Int) × (ByteArray × List (Int × Int)) × Bool × Int × Int)) → (List ((List (Bool × Int × Int)) × Int × Int × Int)) → Int → Int → Int → Int → Int → (List ((List (Bool × Int × Int)) × Int × Int × Int)) → Int → Int → (List ((List (Bool × Int × Int)) × Int × Int × Int)) → (List (Int × Int)) → Option (List ((List (Bool × Int × Int)) × Int × Int × Int))
  | 0, _, _, _, _, _, _, _, _, _, _, _, _ => none
  | k + 1, x0, x1, x2, x9, x11, x22, x23, x39, x40, x41, xo0, xo1 => if x41 < x40 then
      if 0 ≤ x41 then
        if x41 < (x39.length : Int) then
          (commit_moved.f k x0 (rY12 x39 x41) x9).bind fun r3 =>
          if r3.2 = true then
            (commit_key.f k r3.1.1).bind fun r4 =>
            if ((mget xo1 r4).isSome) = true then
              if 0 ≤ ((mget xo1 r4).getD 0) then
                if ((mget xo1 r4).getD 0) < (xo0.length : Int) then
                  if (wrap64 (r3.1.2.1 + x11)) < (rY12 xo0 ((mget xo1 r4).getD 0)).2.1 then
                    if 0 ≤ ((mget xo1 r4).getD 0) then
                      if ((mget xo1 r4).getD 0) < (xo0.length : Int) then
                        commit_period.l9 k x0 x1 x2 x9 x11 x22 x23 x39 x40 (wrap64 (x41 + 1)) (xo0.set ((mget xo1 r4).getD 0).toNat (r3.1.1, wrap64 (r3.1.2.1 + x11), x41, r3.1.2.2.2)) xo1
                      else none
                    else none
                  else commit_period.l9 k x0 x1 x2 x9 x11 x22 x23 x39 x40 (wrap64 (x41 + 1)) xo0 xo1
                else none
              else none
            else (commit_key.f k r3.1.1).bind fun r5 =>
            if (xo0.length + [(r3.1.1, wrap64 (r3.1.2.1 + x11), x41, r3.1.2.2.2)].length) * 48 ≤ 140737488355328 then
              commit_period.l9 k x0 x1 x2 x9 x11 x22 x23 x39 x40 (wrap64 (x41 + 1)) (xo0 ++ [(r3.1.1, wrap64 (r3.1.2.1 + x11), x41, r3.1.2.2.2)]) (mput xo1 r5 (xo0.length : Int))
            else none
          else commit_period.l9 k x0 x1 x2 x9 x11 x22 x23 x39 x40 (wrap64 (x41 + 1)) xo0 xo1
        else none
      else none
    else commit_period.l4 k x0 x1 x2 x22 (wrap64 (x23 + 1)) xo0 xo1
end
theorem commit_period.l4_eq (k : Nat) (x0 : List ((ByteArray × Int × Int × Int × Int × Int × Int × Int) × (ByteArray × List (Int × Int)) × Bool × Int × Int)) (x1 : List ((List (Bool × Int × Int)) × Int × Int × Int)) (x2 : Int) (x22 : Int) (x23 : Int) (xo0 : List ((List (Bool × Int × Int)) × Int × Int × Int)) (xo1 : List (Int × Int)) : commit_period.l4 (k + 1) x0 x1 x2 x22 x23 xo0 xo1 = if x23 < x22 then
      (commit_bools.f k x23 (x0.length : Int)).bind fun r1 =>
      (commit_serve.f k x0 r1 x2).bind fun r2 =>
      if r2.2.2 = true then
        commit_period.l9 k x0 x1 x2 x23 r2.2.1 x22 x23 x1 (x1.length : Int) 0 xo0 xo1
      else commit_period.l4 k x0 x1 x2 x22 (wrap64 (x23 + 1)) xo0 xo1
    else some xo0 := rfl
theorem commit_period.l9_eq (k : Nat) (x0 : List ((ByteArray × Int × Int × Int × Int × Int × Int × Int) × (ByteArray × List (Int × Int)) × Bool × Int × Int)) (x1 : List ((List (Bool × Int × Int)) × Int × Int × Int)) (x2 : Int) (x9 : Int) (x11 : Int) (x22 : Int) (x23 : Int) (x39 : List ((List (Bool × Int × Int)) × Int × Int × Int)) (x40 : Int) (x41 : Int) (xo0 : List ((List (Bool × Int × Int)) × Int × Int × Int)) (xo1 : List (Int × Int)) : commit_period.l9 (k + 1) x0 x1 x2 x9 x11 x22 x23 x39 x40 x41 xo0 xo1 = if x41 < x40 then
      if 0 ≤ x41 then
        if x41 < (x39.length : Int) then
          (commit_moved.f k x0 (rY12 x39 x41) x9).bind fun r3 =>
          if r3.2 = true then
            (commit_key.f k r3.1.1).bind fun r4 =>
            if ((mget xo1 r4).isSome) = true then
              if 0 ≤ ((mget xo1 r4).getD 0) then
                if ((mget xo1 r4).getD 0) < (xo0.length : Int) then
                  if (wrap64 (r3.1.2.1 + x11)) < (rY12 xo0 ((mget xo1 r4).getD 0)).2.1 then
                    if 0 ≤ ((mget xo1 r4).getD 0) then
                      if ((mget xo1 r4).getD 0) < (xo0.length : Int) then
                        commit_period.l9 k x0 x1 x2 x9 x11 x22 x23 x39 x40 (wrap64 (x41 + 1)) (xo0.set ((mget xo1 r4).getD 0).toNat (r3.1.1, wrap64 (r3.1.2.1 + x11), x41, r3.1.2.2.2)) xo1
                      else none
                    else none
                  else commit_period.l9 k x0 x1 x2 x9 x11 x22 x23 x39 x40 (wrap64 (x41 + 1)) xo0 xo1
                else none
              else none
            else (commit_key.f k r3.1.1).bind fun r5 =>
            if (xo0.length + [(r3.1.1, wrap64 (r3.1.2.1 + x11), x41, r3.1.2.2.2)].length) * 48 ≤ 140737488355328 then
              commit_period.l9 k x0 x1 x2 x9 x11 x22 x23 x39 x40 (wrap64 (x41 + 1)) (xo0 ++ [(r3.1.1, wrap64 (r3.1.2.1 + x11), x41, r3.1.2.2.2)]) (mput xo1 r5 (xo0.length : Int))
            else none
          else commit_period.l9 k x0 x1 x2 x9 x11 x22 x23 x39 x40 (wrap64 (x41 + 1)) xo0 xo1
        else none
      else none
    else commit_period.l4 k x0 x1 x2 x22 (wrap64 (x23 + 1)) xo0 xo1 := rfl
def commit_period.f (k : Nat) (a0 : List ((ByteArray × Int × Int × Int × Int × Int × Int × Int) × (ByteArray × List (Int × Int)) × Bool × Int × Int)) (a1 : List ((List (Bool × Int × Int)) × Int × Int × Int)) (a2 : Int) : Option (List ((List (Bool × Int × Int)) × Int × Int × Int)) :=
  if 0 ≤ (a0.length : Int) then
    commit_period.l4 k a0 a1 a2 (shlI .i64 1 (a0.length : Int)) 0 [] []
  else none
mutual
def commit_Best.l35 : Nat → (List ((ByteArray × Int × Int × Int × Int × Int × Int × Int) × (ByteArray × List (Int × Int)) × Bool × Int × Int)) → List Int → Int → Int → Int → (List (List ((List (Bool × Int × Int)) × Int × Int × Int))) → List (List Int) → Option (List (List Int) × Int × Int)
  | 0, _, _, _, _, _, _, _ => none
  | k + 1, x0, x1, x16, x19, x22, xo0, xo1 => if 0 < x22 then
      if 0 ≤ x22 then
        if x22 < (xo0.length : Int) then
          if 0 ≤ x16 then
            if x16 < ((rd (.list 96 Y12) xo0 x22).length : Int) then
              (commit_bools.f k (rY12 (rd (.list 96 Y12) xo0 x22) x16).2.2.2 (x0.length : Int)).bind fun r4 =>
              if 0 ≤ (wrap64 (x22 - 1)) then
                if (wrap64 (x22 - 1)) < (x1.length : Int) then
                  (commit_serve.f k x0 r4 (rI64 x1 (wrap64 (x22 - 1)))).bind fun r5 =>
                  commit_Best.l40 k x0 x1 x19 x22 r5.1 (xo1.length : Int) 0 xo0 xo1 (rY12 (rd (.list 96 Y12) xo0 x22) x16).1 (rY12 (rd (.list 96 Y12) xo0 x22) x16).2.1 (rY12 (rd (.list 96 Y12) xo0 x22) x16).2.2.1 (rY12 (rd (.list 96 Y12) xo0 x22) x16).2.2.2
                else none
              else none
            else none
          else none
        else none
      else none
    else some (xo1, x19, 0)
def commit_Best.l40 : Nat → (List ((ByteArray × Int × Int × Int × Int × Int × Int × Int) × (ByteArray × List (Int × Int)) × Bool × Int × Int)) → List Int → Int → Int → List Int → Int → Int → (List (List ((List (Bool × Int × Int)) × Int × Int × Int))) → List (List Int) → (List (Bool × Int × Int)) → Int → Int → Int → Option (List (List Int) × Int × Int)
  | 0, _, _, _, _, _, _, _, _, _, _, _, _, _ => none
  | k + 1, x0, x1, x19, x22, x24, x151, x152, xo0, xo1, xo2_0, xo2_1, xo2_2, xo2_3 => if x152 < x151 then
      if 0 ≤ x152 then
        if x152 < (xo1.length : Int) then
          if 0 ≤ x152 then
            if x152 < (x24.length : Int) then
              if 0 ≤ (wrap64 (x22 - 1)) then
                if (wrap64 (x22 - 1)) < (((rd (.list 3 (.int .i64)) xo1 x152).length) : Int) then
                  commit_Best.l40 k x0 x1 x19 x22 x24 x151 (wrap64 (x152 + 1)) xo0 (xo1.set x152.toNat ((rd (.list 3 (.int .i64)) xo1 x152).set (wrap64 (x22 - 1)).toNat (rI64 x24 x152))) xo2_0 xo2_1 xo2_2 xo2_3
                else none
              else none
            else none
          else none
        else none
      else none
    else commit_Best.l35 k x0 x1 xo2_2 x19 (wrap64 (x22 - 1)) xo0 xo1
end
theorem commit_Best.l35_eq (k : Nat) (x0 : List ((ByteArray × Int × Int × Int × Int × Int × Int × Int) × (ByteArray × List (Int × Int)) × Bool × Int × Int)) (x1 : List Int) (x16 : Int) (x19 : Int) (x22 : Int) (xo0 : List (List ((List (Bool × Int × Int)) × Int × Int × Int))) (xo1 : List (List Int)) : commit_Best.l35 (k + 1) x0 x1 x16 x19 x22 xo0 xo1 = if 0 < x22 then
      if 0 ≤ x22 then
        if x22 < (xo0.length : Int) then
          if 0 ≤ x16 then
            if x16 < ((rd (.list 96 Y12) xo0 x22).length : Int) then
              (commit_bools.f k (rY12 (rd (.list 96 Y12) xo0 x22) x16).2.2.2 (x0.length : Int)).bind fun r4 =>
              if 0 ≤ (wrap64 (x22 - 1)) then
                if (wrap64 (x22 - 1)) < (x1.length : Int) then
                  (commit_serve.f k x0 r4 (rI64 x1 (wrap64 (x22 - 1)))).bind fun r5 =>
                  commit_Best.l40 k x0 x1 x19 x22 r5.1 (xo1.length : Int) 0 xo0 xo1 (rY12 (rd (.list 96 Y12) xo0 x22) x16).1 (rY12 (rd (.list 96 Y12) xo0 x22) x16).2.1 (rY12 (rd (.list 96 Y12) xo0 x22) x16).2.2.1 (rY12 (rd (.list 96 Y12) xo0 x22) x16).2.2.2
                else none
              else none
            else none
          else none
        else none
      else none
    else some (xo1, x19, 0) := rfl
theorem commit_Best.l40_eq (k : Nat) (x0 : List ((ByteArray × Int × Int × Int × Int × Int × Int × Int) × (ByteArray × List (Int × Int)) × Bool × Int × Int)) (x1 : List Int) (x19 : Int) (x22 : Int) (x24 : List Int) (x151 : Int) (x152 : Int) (xo0 : List (List ((List (Bool × Int × Int)) × Int × Int × Int))) (xo1 : List (List Int)) (xo2_0 : List (Bool × Int × Int)) (xo2_1 : Int) (xo2_2 : Int) (xo2_3 : Int) : commit_Best.l40 (k + 1) x0 x1 x19 x22 x24 x151 x152 xo0 xo1 xo2_0 xo2_1 xo2_2 xo2_3 = if x152 < x151 then
      if 0 ≤ x152 then
        if x152 < (xo1.length : Int) then
          if 0 ≤ x152 then
            if x152 < (x24.length : Int) then
              if 0 ≤ (wrap64 (x22 - 1)) then
                if (wrap64 (x22 - 1)) < (((rd (.list 3 (.int .i64)) xo1 x152).length) : Int) then
                  commit_Best.l40 k x0 x1 x19 x22 x24 x151 (wrap64 (x152 + 1)) xo0 (xo1.set x152.toNat ((rd (.list 3 (.int .i64)) xo1 x152).set (wrap64 (x22 - 1)).toNat (rI64 x24 x152))) xo2_0 xo2_1 xo2_2 xo2_3
                else none
              else none
            else none
          else none
        else none
      else none
    else commit_Best.l35 k x0 x1 xo2_2 x19 (wrap64 (x22 - 1)) xo0 xo1 := rfl
def commit_Best.l30 : Nat → (List ((ByteArray × Int × Int × Int × Int × Int × Int × Int) × (ByteArray × List (Int × Int)) × Bool × Int × Int)) → List Int → Int → Int → Int → Int → (List (List ((List (Bool × Int × Int)) × Int × Int × Int))) → List (List Int) → Option (List (List Int) × Int × Int)
  | 0, _, _, _, _, _, _, _, _ => none
  | k + 1, x0, x1, x16, x19, x110, x111, xo0, xo1 => if x111 < x110 then
      if 0 ≤ (x1.length : Int) then
        if (x1.length : Int) * 8 ≤ 140737488355328 then
          if (x1.length : Int) ≤ 140737488355328 then
            if 0 ≤ x111 then
              if x111 < (xo1.length : Int) then
                if (rd (.list 3 (.int .i64)) xo1 x111).length = 0 then
                  commit_Best.l30 k x0 x1 x16 x19 x110 (wrap64 (x111 + 1)) xo0 (xo1.set x111.toNat (List.replicate (x1.length : Int).toNat 0))
                else none
              else none
            else none
          else none
        else none
      else none
    else commit_Best.l35 k x0 x1 x16 x19 (x1.length : Int) xo0 xo1
theorem commit_Best.l30_eq (k : Nat) (x0 : List ((ByteArray × Int × Int × Int × Int × Int × Int × Int) × (ByteArray × List (Int × Int)) × Bool × Int × Int)) (x1 : List Int) (x16 : Int) (x19 : Int) (x110 : Int) (x111 : Int) (xo0 : List (List ((List (Bool × Int × Int)) × Int × Int × Int))) (xo1 : List (List Int)) : commit_Best.l30 (k + 1) x0 x1 x16 x19 x110 x111 xo0 xo1 = if x111 < x110 then
      if 0 ≤ (x1.length : Int) then
        if (x1.length : Int) * 8 ≤ 140737488355328 then
          if (x1.length : Int) ≤ 140737488355328 then
            if 0 ≤ x111 then
              if x111 < (xo1.length : Int) then
                if (rd (.list 3 (.int .i64)) xo1 x111).length = 0 then
                  commit_Best.l30 k x0 x1 x16 x19 x110 (wrap64 (x111 + 1)) xo0 (xo1.set x111.toNat (List.replicate (x1.length : Int).toNat 0))
                else none
              else none
            else none
          else none
        else none
      else none
    else commit_Best.l35 k x0 x1 x16 x19 (x1.length : Int) xo0 xo1 := rfl
def commit_Best.l22 : Nat → (List ((ByteArray × Int × Int × Int × Int × Int × Int × Int) × (ByteArray × List (Int × Int)) × Bool × Int × Int)) → List Int → (List ((List (Bool × Int × Int)) × Int × Int × Int)) → Int → (List ((List (Bool × Int × Int)) × Int × Int × Int)) → Int → Int → (List (List ((List (Bool × Int × Int)) × Int × Int × Int))) → Option (List (List Int) × Int × Int)
  | 0, _, _, _, _, _, _, _, _ => none
  | k + 1, x0, x1, x15, x16, x84, x85, x86, xo0 => if x86 < x85 then
      if 0 ≤ x86 then
        if x86 < (x84.length : Int) then
          if 0 ≤ x16 then
            if x16 < (x15.length : Int) then
              if (rY12 x84 x86).2.1 < (rY12 x15 x16).2.1 then
                commit_Best.l22 k x0 x1 x15 x86 x84 x85 (wrap64 (x86 + 1)) xo0
              else commit_Best.l22 k x0 x1 x15 x16 x84 x85 (wrap64 (x86 + 1)) xo0
            else none
          else none
        else none
      else none
    else if 0 ≤ x16 then
      if x16 < (x15.length : Int) then
        if 0 ≤ (x0.length : Int) then
          if (x0.length : Int) * 24 ≤ 140737488355328 then
            if (x0.length : Int) ≤ 140737488355328 then
              commit_Best.l30 k x0 x1 x16 (rY12 x15 x16).2.1 ((List.replicate (x0.length : Int).toNat ([] : List Int)).length : Int) 0 xo0 (List.replicate (x0.length : Int).toNat ([] : List Int))
            else none
          else none
        else none
      else none
    else none
theorem commit_Best.l22_eq (k : Nat) (x0 : List ((ByteArray × Int × Int × Int × Int × Int × Int × Int) × (ByteArray × List (Int × Int)) × Bool × Int × Int)) (x1 : List Int) (x15 : List ((List (Bool × Int × Int)) × Int × Int × Int)) (x16 : Int) (x84 : List ((List (Bool × Int × Int)) × Int × Int × Int)) (x85 : Int) (x86 : Int) (xo0 : List (List ((List (Bool × Int × Int)) × Int × Int × Int))) : commit_Best.l22 (k + 1) x0 x1 x15 x16 x84 x85 x86 xo0 = if x86 < x85 then
      if 0 ≤ x86 then
        if x86 < (x84.length : Int) then
          if 0 ≤ x16 then
            if x16 < (x15.length : Int) then
              if (rY12 x84 x86).2.1 < (rY12 x15 x16).2.1 then
                commit_Best.l22 k x0 x1 x15 x86 x84 x85 (wrap64 (x86 + 1)) xo0
              else commit_Best.l22 k x0 x1 x15 x16 x84 x85 (wrap64 (x86 + 1)) xo0
            else none
          else none
        else none
      else none
    else if 0 ≤ x16 then
      if x16 < (x15.length : Int) then
        if 0 ≤ (x0.length : Int) then
          if (x0.length : Int) * 24 ≤ 140737488355328 then
            if (x0.length : Int) ≤ 140737488355328 then
              commit_Best.l30 k x0 x1 x16 (rY12 x15 x16).2.1 ((List.replicate (x0.length : Int).toNat ([] : List Int)).length : Int) 0 xo0 (List.replicate (x0.length : Int).toNat ([] : List Int))
            else none
          else none
        else none
      else none
    else none := rfl
def commit_Best.l12 : Nat → (List ((ByteArray × Int × Int × Int × Int × Int × Int × Int) × (ByteArray × List (Int × Int)) × Bool × Int × Int)) → List Int → List Int → Int → Int → (List (List ((List (Bool × Int × Int)) × Int × Int × Int))) → Option (List (List Int) × Int × Int)
  | 0, _, _, _, _, _, _ => none
  | k + 1, x0, x1, x55, x56, x57, xo0 => if x57 < x56 then
      if 0 ≤ x57 then
        if x57 < (x55.length : Int) then
          if 0 ≤ (wrap64 ((xo0.length : Int) - 1)) then
            if (wrap64 ((xo0.length : Int) - 1)) < (xo0.length : Int) then
              (commit_period.f k x0 (rd (.list 96 Y12) xo0 (wrap64 ((xo0.length : Int) - 1))) (rI64 x55 x57)).bind fun r3 =>
              if (r3.length : Int) = 0 then
                some ([], 0, 8)
              else if (xo0.length + [r3].length) * 24 ≤ 140737488355328 then
                commit_Best.l12 k x0 x1 x55 x56 (wrap64 (x57 + 1)) (xo0 ++ [r3])
              else none
            else none
          else none
        else none
      else none
    else if 0 ≤ (wrap64 ((xo0.length : Int) - 1)) then
      if (wrap64 ((xo0.length : Int) - 1)) < (xo0.length : Int) then
        commit_Best.l22 k x0 x1 (rd (.list 96 Y12) xo0 (wrap64 ((xo0.length : Int) - 1))) 0 (rd (.list 96 Y12) xo0 (wrap64 ((xo0.length : Int) - 1))) ((rd (.list 96 Y12) xo0 (wrap64 ((xo0.length : Int) - 1))).length : Int) 0 xo0
      else none
    else none
theorem commit_Best.l12_eq (k : Nat) (x0 : List ((ByteArray × Int × Int × Int × Int × Int × Int × Int) × (ByteArray × List (Int × Int)) × Bool × Int × Int)) (x1 : List Int) (x55 : List Int) (x56 : Int) (x57 : Int) (xo0 : List (List ((List (Bool × Int × Int)) × Int × Int × Int))) : commit_Best.l12 (k + 1) x0 x1 x55 x56 x57 xo0 = if x57 < x56 then
      if 0 ≤ x57 then
        if x57 < (x55.length : Int) then
          if 0 ≤ (wrap64 ((xo0.length : Int) - 1)) then
            if (wrap64 ((xo0.length : Int) - 1)) < (xo0.length : Int) then
              (commit_period.f k x0 (rd (.list 96 Y12) xo0 (wrap64 ((xo0.length : Int) - 1))) (rI64 x55 x57)).bind fun r3 =>
              if (r3.length : Int) = 0 then
                some ([], 0, 8)
              else if (xo0.length + [r3].length) * 24 ≤ 140737488355328 then
                commit_Best.l12 k x0 x1 x55 x56 (wrap64 (x57 + 1)) (xo0 ++ [r3])
              else none
            else none
          else none
        else none
      else none
    else if 0 ≤ (wrap64 ((xo0.length : Int) - 1)) then
      if (wrap64 ((xo0.length : Int) - 1)) < (xo0.length : Int) then
        commit_Best.l22 k x0 x1 (rd (.list 96 Y12) xo0 (wrap64 ((xo0.length : Int) - 1))) 0 (rd (.list 96 Y12) xo0 (wrap64 ((xo0.length : Int) - 1))) ((rd (.list 96 Y12) xo0 (wrap64 ((xo0.length : Int) - 1))).length : Int) 0 xo0
      else none
    else none := rfl
def commit_Best.l6 : Nat → (List ((ByteArray × Int × Int × Int × Int × Int × Int × Int) × (ByteArray × List (Int × Int)) × Bool × Int × Int)) → List Int → (List ((ByteArray × Int × Int × Int × Int × Int × Int × Int) × (ByteArray × List (Int × Int)) × Bool × Int × Int)) → Int → Int → Int → Int → Int → (List (Bool × Int × Int)) → Option (List (List Int) × Int × Int)
  | 0, _, _, _, _, _, _, _, _, _ => none
  | k + 1, x0, x1, x35, x36, x37, xo0_0, xo0_1, xo0_2, xo1 => if x37 < x36 then
      if 0 ≤ x37 then
        if x37 < (x35.length : Int) then
          (commit_cut.f k (rY10 x35 x37).1 (rY10 x35 x37).2.2).bind fun r2 =>
          if (xo1.length + [r2].length) * 24 ≤ 140737488355328 then
            commit_Best.l6 k x0 x1 x35 x36 (wrap64 (x37 + 1)) xo0_0 xo0_1 xo0_2 (xo1 ++ [r2])
          else none
        else none
      else none
    else commit_Best.l12 k x0 x1 x1 (x1.length : Int) 0 [[(xo1, xo0_0, xo0_1, xo0_2)]]
theorem commit_Best.l6_eq (k : Nat) (x0 : List ((ByteArray × Int × Int × Int × Int × Int × Int × Int) × (ByteArray × List (Int × Int)) × Bool × Int × Int)) (x1 : List Int) (x35 : List ((ByteArray × Int × Int × Int × Int × Int × Int × Int) × (ByteArray × List (Int × Int)) × Bool × Int × Int)) (x36 : Int) (x37 : Int) (xo0_0 : Int) (xo0_1 : Int) (xo0_2 : Int) (xo1 : List (Bool × Int × Int)) : commit_Best.l6 (k + 1) x0 x1 x35 x36 x37 xo0_0 xo0_1 xo0_2 xo1 = if x37 < x36 then
      if 0 ≤ x37 then
        if x37 < (x35.length : Int) then
          (commit_cut.f k (rY10 x35 x37).1 (rY10 x35 x37).2.2).bind fun r2 =>
          if (xo1.length + [r2].length) * 24 ≤ 140737488355328 then
            commit_Best.l6 k x0 x1 x35 x36 (wrap64 (x37 + 1)) xo0_0 xo0_1 xo0_2 (xo1 ++ [r2])
          else none
        else none
      else none
    else commit_Best.l12 k x0 x1 x1 (x1.length : Int) 0 [[(xo1, xo0_0, xo0_1, xo0_2)]] := rfl
def commit_Best.f (k : Nat) (a0 : List ((ByteArray × Int × Int × Int × Int × Int × Int × Int) × (ByteArray × List (Int × Int)) × Bool × Int × Int)) (a1 : List Int) : Option (List (List Int) × Int × Int) :=
  (dual_CheckAll.f k a0 a1).bind fun r1 =>
  if r1 = 0 then
    commit_Best.l6 k a0 a1 a0 (a0.length : Int) 0 0 0 0 []
  else some ([], 0, r1)
def gridhallkeep3_DualBelow.f (k : Nat) (a0 : List ((ByteArray × Int × Int × Int × Int × Int × Int × Int) × (ByteArray × List (Int × Int)) × Bool × Int × Int)) (a1 : List Int) (a2 : List Int) (a3 : List (List Int)) : Option Bool :=
  (gridhallkeep3_alone.f k).bind fun r1 =>
  (dual_Bound.f k [r1] [12] [5]).bind fun r2 =>
  if r2.2 = 0 then
    if r2.1 = 60 then
      (gridhallkeep3_alone.f k).bind fun r3 =>
      (commit_Cost.f k [r3] [12] [[12]]).bind fun r4 =>
      if r4.2 = 0 then
        if r4.1 = 75 then
          (dual_Bound.f k a0 a1 a2).bind fun r5 =>
          (commit_Cost.f k a0 a1 a3).bind fun r6 =>
          (commit_Best.f k a0 a1).bind fun r7 =>
          if r5.2 = 0 then
            if r5.2 = 0 then
              if r6.2 = 0 then
                if r5.1 ≤ r6.1 then
                  if r7.2.2 = 0 then
                    some (decide (r5.1 ≤ r7.2.1))
                  else some true
                else some false
              else if r7.2.2 = 0 then
                some (decide (r5.1 ≤ r7.2.1))
              else some true
            else some false
          else if r5.1 = 0 then
            some true
          else if r5.2 = 0 then
            if r6.2 = 0 then
              if r5.1 ≤ r6.1 then
                if r7.2.2 = 0 then
                  some (decide (r5.1 ≤ r7.2.1))
                else some true
              else some false
            else if r7.2.2 = 0 then
              some (decide (r5.1 ≤ r7.2.1))
            else some true
          else some false
        else some false
      else some false
    else some false
  else some false
def gridhallkeep3_CommitKept.f (k : Nat) (a0 : List ((ByteArray × Int × Int × Int × Int × Int × Int × Int) × (ByteArray × List (Int × Int)) × Bool × Int × Int)) (a1 : List Int) (a2 : List (List Int)) : Option Bool :=
  (gridhallkeep3_alone.f k).bind fun r1 =>
  (commit_Best.f k [r1] [12, 0]).bind fun r2 =>
  if r2.2.2 = 0 then
    if r2.2.1 = 75 then
      (gridhallkeep3_alone.f k).bind fun r3 =>
      (commit_Cost.f k [r3] [12] [[12]]).bind fun r4 =>
      if r4.2 = 0 then
        if r4.1 = 75 then
          (commit_Best.f k a0 a1).bind fun r5 =>
          (commit_Cost.f k a0 a1 a2).bind fun r6 =>
          if r5.2.2 = 0 then
            (commit_Cost.f k a0 a1 r5.1).bind fun r7 =>
            if r7.2 = 0 then
              if r7.1 = r5.2.1 then
                if r6.2 = 0 then
                  some (decide (r5.2.1 ≤ r6.1))
                else some true
              else some false
            else some false
          else if (r5.1.length : Int) = 0 then
            if r5.2.1 = 0 then
              some (!decide (r6.2 = 0))
            else some false
          else some false
        else some false
      else some false
    else some false
  else some false
def gridhallkeep3_CommitMore.l7 : Nat → (List ((ByteArray × Int × Int × Int × Int × Int × Int × Int) × (ByteArray × List (Int × Int)) × Bool × Int × Int)) → List Int → (List ((ByteArray × Int × Int × Int × Int × Int × Int × Int) × (ByteArray × List (Int × Int)) × Bool × Int × Int)) → Int → Int → Option Bool
  | 0, _, _, _, _, _ => none
  | k + 1, x0, x1, x33, x34, x35 => if x35 < x34 then
      if 0 ≤ x35 then
        if x35 < (x33.length : Int) then
          if 0 < ((rY10 x33 x35).2.1.2.length : Int) then
            if (0 : Int) ≤ 0 then
              if 0 < ((rY10 x33 x35).2.1.2.length : Int) then
                if (rY0 (rY10 x33 x35).2.1.2 0).2 < 0 then
                  some true
                else gridhallkeep3_CommitMore.l7 k x0 x1 x33 x34 (wrap64 (x35 + 1))
              else none
            else none
          else gridhallkeep3_CommitMore.l7 k x0 x1 x33 x34 (wrap64 (x35 + 1))
        else none
      else none
    else (commit_Best.f k x0 x1).bind fun r3 =>
    if (wrap64 ((x1.length : Int) - 1)) ≤ (x1.length : Int) then
      if 0 ≤ (wrap64 ((x1.length : Int) - 1)) then
        (commit_Best.f k x0 (x1.take (wrap64 ((x1.length : Int) - 1)).toNat)).bind fun r4 =>
        if r3.2.2 = 0 then
          if r4.2.2 = 0 then
            some (decide (r4.2.1 ≤ r3.2.1))
          else some false
        else some true
      else none
    else none
theorem gridhallkeep3_CommitMore.l7_eq (k : Nat) (x0 : List ((ByteArray × Int × Int × Int × Int × Int × Int × Int) × (ByteArray × List (Int × Int)) × Bool × Int × Int)) (x1 : List Int) (x33 : List ((ByteArray × Int × Int × Int × Int × Int × Int × Int) × (ByteArray × List (Int × Int)) × Bool × Int × Int)) (x34 : Int) (x35 : Int) : gridhallkeep3_CommitMore.l7 (k + 1) x0 x1 x33 x34 x35 = if x35 < x34 then
      if 0 ≤ x35 then
        if x35 < (x33.length : Int) then
          if 0 < ((rY10 x33 x35).2.1.2.length : Int) then
            if (0 : Int) ≤ 0 then
              if 0 < ((rY10 x33 x35).2.1.2.length : Int) then
                if (rY0 (rY10 x33 x35).2.1.2 0).2 < 0 then
                  some true
                else gridhallkeep3_CommitMore.l7 k x0 x1 x33 x34 (wrap64 (x35 + 1))
              else none
            else none
          else gridhallkeep3_CommitMore.l7 k x0 x1 x33 x34 (wrap64 (x35 + 1))
        else none
      else none
    else (commit_Best.f k x0 x1).bind fun r3 =>
    if (wrap64 ((x1.length : Int) - 1)) ≤ (x1.length : Int) then
      if 0 ≤ (wrap64 ((x1.length : Int) - 1)) then
        (commit_Best.f k x0 (x1.take (wrap64 ((x1.length : Int) - 1)).toNat)).bind fun r4 =>
        if r3.2.2 = 0 then
          if r4.2.2 = 0 then
            some (decide (r4.2.1 ≤ r3.2.1))
          else some false
        else some true
      else none
    else none := rfl
def gridhallkeep3_CommitMore.f (k : Nat) (a0 : List ((ByteArray × Int × Int × Int × Int × Int × Int × Int) × (ByteArray × List (Int × Int)) × Bool × Int × Int)) (a1 : List Int) : Option Bool :=
  (gridhallkeep3_alone.f k).bind fun r1 =>
  (commit_Best.f k [r1] [12, 0]).bind fun r2 =>
  if r2.2.2 = 0 then
    if r2.2.1 = 75 then
      if (a1.length : Int) = 0 then
        some true
      else gridhallkeep3_CommitMore.l7 k a0 a1 a0 (a0.length : Int) 0
    else some false
  else some false
def gridhalltop_bTwo.f (k : Nat) (a0 : ByteArray) : Option (ByteArray × List (Int × Int)) :=
  some (a0, [(10, 5), (10, 8)])
def commit_Serve.f (k : Nat) (a0 : List ((ByteArray × Int × Int × Int × Int × Int × Int × Int) × (ByteArray × List (Int × Int)) × Bool × Int × Int)) (a1 : List Bool) (a2 : Int) : Option (List Int × Int × Int) :=
  (dual_CheckAll.f k a0 [a2]).bind fun r1 =>
  if r1 = 0 then
    if (a1.length : Int) = (a0.length : Int) then
      (commit_serve.f k a0 a1 a2).bind fun r2 =>
      if r2.2.2 = true then
        some (r2.1, r2.2.1, 0)
      else some ([], 0, 8)
    else some ([], 0, 3)
  else some ([], 0, r1)
mutual
def gridhalltop_TopCommit.l33 : Nat → (List ((ByteArray × Int × Int × Int × Int × Int × Int × Int) × (ByteArray × List (Int × Int)) × Bool × Int × Int)) → List (List Int) → Int → Int → List Int → Int → Int → Option Bool
  | 0, _, _, _, _, _, _, _ => none
  | k + 1, x0, x19, x20, x30, x177, x178, x179 => if x179 < x178 then
      if 0 ≤ x179 then
        if x179 < (x177.length : Int) then
          gridhalltop_TopCommit.l37 k x0 x19 x20 x30 x179 (rI64 x177 x179) x177 x178 x179 (x0.length : Int) 0 []
        else none
      else none
    else some (decide (x30 = x20))
def gridhalltop_TopCommit.l37 : Nat → (List ((ByteArray × Int × Int × Int × Int × Int × Int × Int) × (ByteArray × List (Int × Int)) × Bool × Int × Int)) → List (List Int) → Int → Int → Int → Int → List Int → Int → Int → Int → Int → List Bool → Option Bool
  | 0, _, _, _, _, _, _, _, _, _, _, _, _ => none
  | k + 1, x0, x19, x20, x30, x31, x32, x177, x178, x179, x185, x186, xo0 => if x186 < x185 then
      if 0 ≤ x186 then
        if x186 < (x19.length : Int) then
          if 0 ≤ x31 then
            if x31 < ((rd (.list 3 (.int .i64)) x19 x186).length : Int) then
              if (xo0.length + [decide (0 ≤ (rI64 (rd (.list 3 (.int .i64)) x19 x186) x31))].length) * 1 ≤ 140737488355328 then
                gridhalltop_TopCommit.l37 k x0 x19 x20 x30 x31 x32 x177 x178 x179 x185 (wrap64 (x186 + 1)) (xo0 ++ [decide (0 ≤ (rI64 (rd (.list 3 (.int .i64)) x19 x186) x31))])
              else none
            else none
          else none
        else none
      else none
    else (commit_Serve.f k x0 xo0 x32).bind fun r9 =>
    if r9.2.2 = 0 then
      gridhalltop_TopCommit.l33 k x0 x19 x20 (wrap64 (x30 + r9.2.1)) x177 x178 (wrap64 (x179 + 1))
    else some false
end
theorem gridhalltop_TopCommit.l33_eq (k : Nat) (x0 : List ((ByteArray × Int × Int × Int × Int × Int × Int × Int) × (ByteArray × List (Int × Int)) × Bool × Int × Int)) (x19 : List (List Int)) (x20 : Int) (x30 : Int) (x177 : List Int) (x178 : Int) (x179 : Int) : gridhalltop_TopCommit.l33 (k + 1) x0 x19 x20 x30 x177 x178 x179 = if x179 < x178 then
      if 0 ≤ x179 then
        if x179 < (x177.length : Int) then
          gridhalltop_TopCommit.l37 k x0 x19 x20 x30 x179 (rI64 x177 x179) x177 x178 x179 (x0.length : Int) 0 []
        else none
      else none
    else some (decide (x30 = x20)) := rfl
theorem gridhalltop_TopCommit.l37_eq (k : Nat) (x0 : List ((ByteArray × Int × Int × Int × Int × Int × Int × Int) × (ByteArray × List (Int × Int)) × Bool × Int × Int)) (x19 : List (List Int)) (x20 : Int) (x30 : Int) (x31 : Int) (x32 : Int) (x177 : List Int) (x178 : Int) (x179 : Int) (x185 : Int) (x186 : Int) (xo0 : List Bool) : gridhalltop_TopCommit.l37 (k + 1) x0 x19 x20 x30 x31 x32 x177 x178 x179 x185 x186 xo0 = if x186 < x185 then
      if 0 ≤ x186 then
        if x186 < (x19.length : Int) then
          if 0 ≤ x31 then
            if x31 < ((rd (.list 3 (.int .i64)) x19 x186).length : Int) then
              if (xo0.length + [decide (0 ≤ (rI64 (rd (.list 3 (.int .i64)) x19 x186) x31))].length) * 1 ≤ 140737488355328 then
                gridhalltop_TopCommit.l37 k x0 x19 x20 x30 x31 x32 x177 x178 x179 x185 (wrap64 (x186 + 1)) (xo0 ++ [decide (0 ≤ (rI64 (rd (.list 3 (.int .i64)) x19 x186) x31))])
              else none
            else none
          else none
        else none
      else none
    else (commit_Serve.f k x0 xo0 x32).bind fun r9 =>
    if r9.2.2 = 0 then
      gridhalltop_TopCommit.l33 k x0 x19 x20 (wrap64 (x30 + r9.2.1)) x177 x178 (wrap64 (x179 + 1))
    else some false := rfl
def gridhalltop_TopCommit.l22 : Nat → (List ((ByteArray × Int × Int × Int × Int × Int × Int × Int) × (ByteArray × List (Int × Int)) × Bool × Int × Int)) → List Int → List (List Int) → Int → Int → (List ((ByteArray × Int × Int × Int × Int × Int × Int × Int) × (ByteArray × List (Int × Int)) × Bool × Int × Int)) → Int → Int → Option Bool
  | 0, _, _, _, _, _, _, _, _ => none
  | k + 1, x0, x1, x19, x20, x24, x136, x137, x138 => if x138 < x137 then
      if 0 ≤ x138 then
        if x138 < (x136.length : Int) then
          if (x19.length : Int) ≤ x138 then
            some false
          else if 0 ≤ x138 then
            if x138 < (x19.length : Int) then
              if ((rd (.list 3 (.int .i64)) x19 x138).length : Int) = (x1.length : Int) then
                if 0 ≤ x138 then
                  if x138 < (x19.length : Int) then
                    (unit_Run.f k (rY10 x136 x138).1 (rY10 x136 x138).2.2 (rd (.list 3 (.int .i64)) x19 x138)).bind fun r8 =>
                    if r8.2.2 = 0 then
                      gridhalltop_TopCommit.l22 k x0 x1 x19 x20 (wrap64 (x24 + r8.2.1)) x136 x137 (wrap64 (x138 + 1))
                    else some false
                  else none
                else none
              else some false
            else none
          else none
        else none
      else none
    else gridhalltop_TopCommit.l33 k x0 x19 x20 x24 x1 (x1.length : Int) 0
theorem gridhalltop_TopCommit.l22_eq (k : Nat) (x0 : List ((ByteArray × Int × Int × Int × Int × Int × Int × Int) × (ByteArray × List (Int × Int)) × Bool × Int × Int)) (x1 : List Int) (x19 : List (List Int)) (x20 : Int) (x24 : Int) (x136 : List ((ByteArray × Int × Int × Int × Int × Int × Int × Int) × (ByteArray × List (Int × Int)) × Bool × Int × Int)) (x137 : Int) (x138 : Int) : gridhalltop_TopCommit.l22 (k + 1) x0 x1 x19 x20 x24 x136 x137 x138 = if x138 < x137 then
      if 0 ≤ x138 then
        if x138 < (x136.length : Int) then
          if (x19.length : Int) ≤ x138 then
            some false
          else if 0 ≤ x138 then
            if x138 < (x19.length : Int) then
              if ((rd (.list 3 (.int .i64)) x19 x138).length : Int) = (x1.length : Int) then
                if 0 ≤ x138 then
                  if x138 < (x19.length : Int) then
                    (unit_Run.f k (rY10 x136 x138).1 (rY10 x136 x138).2.2 (rd (.list 3 (.int .i64)) x19 x138)).bind fun r8 =>
                    if r8.2.2 = 0 then
                      gridhalltop_TopCommit.l22 k x0 x1 x19 x20 (wrap64 (x24 + r8.2.1)) x136 x137 (wrap64 (x138 + 1))
                    else some false
                  else none
                else none
              else some false
            else none
          else none
        else none
      else none
    else gridhalltop_TopCommit.l33 k x0 x19 x20 x24 x1 (x1.length : Int) 0 := rfl
def gridhalltop_TopCommit.f (k : Nat) (a0 : List ((ByteArray × Int × Int × Int × Int × Int × Int × Int) × (ByteArray × List (Int × Int)) × Bool × Int × Int)) (a1 : List Int) (a2 : List Int) : Option Bool :=
  (gridhalltop_bTwo.f k (ByteArray.mk #[65])).bind fun r1 =>
  (commit_Best.f k [((ByteArray.mk #[65], 0, 20, 20, 20, 1, 1, 9), r1, false, 5, 0)] [12, 0]).bind fun r2 =>
  if r2.2.2 = 0 then
    if r2.2.1 = 75 then
      (dual_Bound.f k [((ByteArray.mk #[65], 0, 20, 20, 20, 1, 1, 9), r1, false, 5, 0)] [12] [5]).bind fun r3 =>
      if r3.2 = 0 then
        if r3.1 = 60 then
          (unit_Run.f k (ByteArray.mk #[65], 0, 20, 20, 20, 1, 1, 9) (false, 5, 0) [12]).bind fun r4 =>
          if r4.2.2 = 0 then
            if (r4.1.length : Int) = 1 then
              if r4.2.1 = 9 then
                (commit_Serve.f k [((ByteArray.mk #[65], 0, 20, 20, 20, 1, 1, 9), r1, false, 5, 0)] [true] 12).bind fun r5 =>
                if r5.2.2 = 0 then
                  if (r5.1.length : Int) = 1 then
                    if r5.2.1 = 66 then
                      (commit_Best.f k a0 a1).bind fun r6 =>
                      (dual_Bound.f k a0 a1 a2).bind fun r7 =>
                      if r6.2.2 = 0 then
                        if r7.2 = 0 then
                          if r6.2.1 < r7.1 then
                            some false
                          else gridhalltop_TopCommit.l22 k a0 a1 r6.1 r6.2.1 0 a0 (a0.length : Int) 0
                        else gridhalltop_TopCommit.l22 k a0 a1 r6.1 r6.2.1 0 a0 (a0.length : Int) 0
                      else some (decide ((r6.1.length : Int) = 0))
                    else some false
                  else some false
                else some false
              else some false
            else some false
          else some false
        else some false
      else some false
    else some false
  else some false
end Go.Proofs.Ytodagcbcdkfniaa.VE
