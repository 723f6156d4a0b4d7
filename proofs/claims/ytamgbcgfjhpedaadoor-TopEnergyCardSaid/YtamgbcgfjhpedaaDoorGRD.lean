/- Functions as plain Lean (definitions printed by a program; no statement is proved here). -/
import Derived.Test.YtamgbcgfjhpedaaDoorVpEv
namespace Go.Proofs.YtamgbcgfjhpedaaDoor.VE
set_option linter.unusedVariables false
open Go Go.RowKit
abbrev Y0 : Ty := .pair .bool .bool
abbrev Y1 : Ty := .pair .str Y0
abbrev Y2 : Ty := .pair .str Y1
abbrev Y3 : Ty := .pair .str Y2
abbrev Y4 : Ty := .pair (.int .i64) (.int .i64)
abbrev Y5 : Ty := .pair (.int .i64) Y4
abbrev Y6 : Ty := .pair (.int .i64) Y5
abbrev Y7 : Ty := .pair (.int .i64) Y6
abbrev Y8 : Ty := .pair (.int .i64) Y7
abbrev Y9 : Ty := .pair .str Y8
abbrev Y10 : Ty := .pair .str Y9
abbrev Y11 : Ty := .pair .str Y10
abbrev Y12 : Ty := .pair .str Y5
abbrev Y13 : Ty := .pair .str Y12
abbrev Y14 : Ty := .pair .str (.int .i64)
abbrev Y15 : Ty := .pair .str Y14
abbrev Y16 : Ty := .pair (.int .i64) .str
abbrev Y17 : Ty := .pair (.int .i64) Y16
abbrev Y18 : Ty := .pair (.int .i64) Y17
abbrev Y19 : Ty := .pair (.int .i64) Y18
abbrev Y20 : Ty := .pair (.list 138 (.int .u32)) (.list 138 (.int .u32))
abbrev Y21 : Ty := .pair .bool Y20
abbrev Y22 : Ty := .pair (.list 109 Y15) (.list 175 Y13)
abbrev Y23 : Ty := .pair (.list 76 Y13) Y22
abbrev Y24 : Ty := .pair (.list 107 Y11) Y23
abbrev Y25 : Ty := .pair (.list 150 Y3) Y24
abbrev Y26 : Ty := .pair (.list 9 .str) Y25
abbrev Y27 : Ty := .pair .str (.list 111 Y4)
abbrev Y28 : Ty := .pair .str .str
abbrev Y29 : Ty := .pair (.list 3 (.int .i64)) (.list 3 (.int .i64))
abbrev rI64 (xs : List Int) (i : Int) : Int := rd (.int .i64) xs i
theorem rI64_mem {xs : List Int} {i : Int} (h0 : 0 ≤ i) (h1 : i < (xs.length : Int)) : rI64 xs i ∈ xs := rd_mem (t := (.int .i64)) h0 h1
theorem rI64_get (xs : List Int) (j : Nat) (x : Int) (h : xs[j]? = some x) : rI64 xs (j : Int) = x := rd_get (t := (.int .i64)) xs j x h
theorem rI64_drop {xs : List Int} {i : Int} (h0 : 0 ≤ i) (h1 : i < (xs.length : Int)) : xs.drop i.toNat = rI64 xs i :: xs.drop (i + 1).toNat := drop_rd (t := (.int .i64)) h0 h1
theorem rI64_some {xs : List Int} {i : Int} (h0 : 0 ≤ i) (h1 : i < (xs.length : Int)) : xs[i.toNat]? = some (rI64 xs i) := rd_some (t := (.int .i64)) h0 h1
theorem rI64_set {xs : List Int} {i : Int} (v : Int) (h0 : 0 ≤ i) (h1 : i < (xs.length : Int)) {j : Int} (hj : 0 ≤ j) : rI64 (xs.set i.toNat v) j = if j = i then v else rI64 xs j := rd_set (t := (.int .i64)) v h0 h1 hj
abbrev rStr (xs : List ByteArray) (i : Int) : ByteArray := rd .str xs i
theorem rStr_mem {xs : List ByteArray} {i : Int} (h0 : 0 ≤ i) (h1 : i < (xs.length : Int)) : rStr xs i ∈ xs := rd_mem (t := .str) h0 h1
theorem rStr_get (xs : List ByteArray) (j : Nat) (x : ByteArray) (h : xs[j]? = some x) : rStr xs (j : Int) = x := rd_get (t := .str) xs j x h
theorem rStr_drop {xs : List ByteArray} {i : Int} (h0 : 0 ≤ i) (h1 : i < (xs.length : Int)) : xs.drop i.toNat = rStr xs i :: xs.drop (i + 1).toNat := drop_rd (t := .str) h0 h1
theorem rStr_some {xs : List ByteArray} {i : Int} (h0 : 0 ≤ i) (h1 : i < (xs.length : Int)) : xs[i.toNat]? = some (rStr xs i) := rd_some (t := .str) h0 h1
theorem rStr_set {xs : List ByteArray} {i : Int} (v : ByteArray) (h0 : 0 ≤ i) (h1 : i < (xs.length : Int)) {j : Int} (hj : 0 ≤ j) : rStr (xs.set i.toNat v) j = if j = i then v else rStr xs j := rd_set (t := .str) v h0 h1 hj
abbrev rU32 (xs : List Int) (i : Int) : Int := rd (.int .u32) xs i
theorem rU32_mem {xs : List Int} {i : Int} (h0 : 0 ≤ i) (h1 : i < (xs.length : Int)) : rU32 xs i ∈ xs := rd_mem (t := (.int .u32)) h0 h1
theorem rU32_get (xs : List Int) (j : Nat) (x : Int) (h : xs[j]? = some x) : rU32 xs (j : Int) = x := rd_get (t := (.int .u32)) xs j x h
theorem rU32_drop {xs : List Int} {i : Int} (h0 : 0 ≤ i) (h1 : i < (xs.length : Int)) : xs.drop i.toNat = rU32 xs i :: xs.drop (i + 1).toNat := drop_rd (t := (.int .u32)) h0 h1
theorem rU32_some {xs : List Int} {i : Int} (h0 : 0 ≤ i) (h1 : i < (xs.length : Int)) : xs[i.toNat]? = some (rU32 xs i) := rd_some (t := (.int .u32)) h0 h1
theorem rU32_set {xs : List Int} {i : Int} (v : Int) (h0 : 0 ≤ i) (h1 : i < (xs.length : Int)) {j : Int} (hj : 0 ≤ j) : rU32 (xs.set i.toNat v) j = if j = i then v else rU32 xs j := rd_set (t := (.int .u32)) v h0 h1 hj
abbrev rU8 (xs : List Int) (i : Int) : Int := rd (.int .u8) xs i
theorem rU8_mem {xs : List Int} {i : Int} (h0 : 0 ≤ i) (h1 : i < (xs.length : Int)) : rU8 xs i ∈ xs := rd_mem (t := (.int .u8)) h0 h1
theorem rU8_get (xs : List Int) (j : Nat) (x : Int) (h : xs[j]? = some x) : rU8 xs (j : Int) = x := rd_get (t := (.int .u8)) xs j x h
theorem rU8_drop {xs : List Int} {i : Int} (h0 : 0 ≤ i) (h1 : i < (xs.length : Int)) : xs.drop i.toNat = rU8 xs i :: xs.drop (i + 1).toNat := drop_rd (t := (.int .u8)) h0 h1
theorem rU8_some {xs : List Int} {i : Int} (h0 : 0 ≤ i) (h1 : i < (xs.length : Int)) : xs[i.toNat]? = some (rU8 xs i) := rd_some (t := (.int .u8)) h0 h1
theorem rU8_set {xs : List Int} {i : Int} (v : Int) (h0 : 0 ≤ i) (h1 : i < (xs.length : Int)) {j : Int} (hj : 0 ≤ j) : rU8 (xs.set i.toNat v) j = if j = i then v else rU8 xs j := rd_set (t := (.int .u8)) v h0 h1 hj
abbrev rY11 (xs : List (ByteArray × ByteArray × ByteArray × Int × Int × Int × Int × Int × Int)) (i : Int) : ByteArray × ByteArray × ByteArray × Int × Int × Int × Int × Int × Int := rd Y11 xs i
theorem rY11_mem {xs : List (ByteArray × ByteArray × ByteArray × Int × Int × Int × Int × Int × Int)} {i : Int} (h0 : 0 ≤ i) (h1 : i < (xs.length : Int)) : rY11 xs i ∈ xs := rd_mem (t := Y11) h0 h1
theorem rY11_get (xs : List (ByteArray × ByteArray × ByteArray × Int × Int × Int × Int × Int × Int)) (j : Nat) (x : ByteArray × ByteArray × ByteArray × Int × Int × Int × Int × Int × Int) (h : xs[j]? = some x) : rY11 xs (j : Int) = x := rd_get (t := Y11) xs j x h
theorem rY11_drop {xs : List (ByteArray × ByteArray × ByteArray × Int × Int × Int × Int × Int × Int)} {i : Int} (h0 : 0 ≤ i) (h1 : i < (xs.length : Int)) : xs.drop i.toNat = rY11 xs i :: xs.drop (i + 1).toNat := drop_rd (t := Y11) h0 h1
theorem rY11_some {xs : List (ByteArray × ByteArray × ByteArray × Int × Int × Int × Int × Int × Int)} {i : Int} (h0 : 0 ≤ i) (h1 : i < (xs.length : Int)) : xs[i.toNat]? = some (rY11 xs i) := rd_some (t := Y11) h0 h1
theorem rY11_set {xs : List (ByteArray × ByteArray × ByteArray × Int × Int × Int × Int × Int × Int)} {i : Int} (v : ByteArray × ByteArray × ByteArray × Int × Int × Int × Int × Int × Int) (h0 : 0 ≤ i) (h1 : i < (xs.length : Int)) {j : Int} (hj : 0 ≤ j) : rY11 (xs.set i.toNat v) j = if j = i then v else rY11 xs j := rd_set (t := Y11) v h0 h1 hj
abbrev rY13 (xs : List (ByteArray × ByteArray × Int × Int × Int)) (i : Int) : ByteArray × ByteArray × Int × Int × Int := rd Y13 xs i
theorem rY13_mem {xs : List (ByteArray × ByteArray × Int × Int × Int)} {i : Int} (h0 : 0 ≤ i) (h1 : i < (xs.length : Int)) : rY13 xs i ∈ xs := rd_mem (t := Y13) h0 h1
theorem rY13_get (xs : List (ByteArray × ByteArray × Int × Int × Int)) (j : Nat) (x : ByteArray × ByteArray × Int × Int × Int) (h : xs[j]? = some x) : rY13 xs (j : Int) = x := rd_get (t := Y13) xs j x h
theorem rY13_drop {xs : List (ByteArray × ByteArray × Int × Int × Int)} {i : Int} (h0 : 0 ≤ i) (h1 : i < (xs.length : Int)) : xs.drop i.toNat = rY13 xs i :: xs.drop (i + 1).toNat := drop_rd (t := Y13) h0 h1
theorem rY13_some {xs : List (ByteArray × ByteArray × Int × Int × Int)} {i : Int} (h0 : 0 ≤ i) (h1 : i < (xs.length : Int)) : xs[i.toNat]? = some (rY13 xs i) := rd_some (t := Y13) h0 h1
theorem rY13_set {xs : List (ByteArray × ByteArray × Int × Int × Int)} {i : Int} (v : ByteArray × ByteArray × Int × Int × Int) (h0 : 0 ≤ i) (h1 : i < (xs.length : Int)) {j : Int} (hj : 0 ≤ j) : rY13 (xs.set i.toNat v) j = if j = i then v else rY13 xs j := rd_set (t := Y13) v h0 h1 hj
abbrev rY15 (xs : List (ByteArray × ByteArray × Int)) (i : Int) : ByteArray × ByteArray × Int := rd Y15 xs i
theorem rY15_mem {xs : List (ByteArray × ByteArray × Int)} {i : Int} (h0 : 0 ≤ i) (h1 : i < (xs.length : Int)) : rY15 xs i ∈ xs := rd_mem (t := Y15) h0 h1
theorem rY15_get (xs : List (ByteArray × ByteArray × Int)) (j : Nat) (x : ByteArray × ByteArray × Int) (h : xs[j]? = some x) : rY15 xs (j : Int) = x := rd_get (t := Y15) xs j x h
theorem rY15_drop {xs : List (ByteArray × ByteArray × Int)} {i : Int} (h0 : 0 ≤ i) (h1 : i < (xs.length : Int)) : xs.drop i.toNat = rY15 xs i :: xs.drop (i + 1).toNat := drop_rd (t := Y15) h0 h1
theorem rY15_some {xs : List (ByteArray × ByteArray × Int)} {i : Int} (h0 : 0 ≤ i) (h1 : i < (xs.length : Int)) : xs[i.toNat]? = some (rY15 xs i) := rd_some (t := Y15) h0 h1
theorem rY15_set {xs : List (ByteArray × ByteArray × Int)} {i : Int} (v : ByteArray × ByteArray × Int) (h0 : 0 ≤ i) (h1 : i < (xs.length : Int)) {j : Int} (hj : 0 ≤ j) : rY15 (xs.set i.toNat v) j = if j = i then v else rY15 xs j := rd_set (t := Y15) v h0 h1 hj
abbrev rY19 (xs : List (Int × Int × Int × Int × ByteArray)) (i : Int) : Int × Int × Int × Int × ByteArray := rd Y19 xs i
theorem rY19_mem {xs : List (Int × Int × Int × Int × ByteArray)} {i : Int} (h0 : 0 ≤ i) (h1 : i < (xs.length : Int)) : rY19 xs i ∈ xs := rd_mem (t := Y19) h0 h1
theorem rY19_get (xs : List (Int × Int × Int × Int × ByteArray)) (j : Nat) (x : Int × Int × Int × Int × ByteArray) (h : xs[j]? = some x) : rY19 xs (j : Int) = x := rd_get (t := Y19) xs j x h
theorem rY19_drop {xs : List (Int × Int × Int × Int × ByteArray)} {i : Int} (h0 : 0 ≤ i) (h1 : i < (xs.length : Int)) : xs.drop i.toNat = rY19 xs i :: xs.drop (i + 1).toNat := drop_rd (t := Y19) h0 h1
theorem rY19_some {xs : List (Int × Int × Int × Int × ByteArray)} {i : Int} (h0 : 0 ≤ i) (h1 : i < (xs.length : Int)) : xs[i.toNat]? = some (rY19 xs i) := rd_some (t := Y19) h0 h1
theorem rY19_set {xs : List (Int × Int × Int × Int × ByteArray)} {i : Int} (v : Int × Int × Int × Int × ByteArray) (h0 : 0 ≤ i) (h1 : i < (xs.length : Int)) {j : Int} (hj : 0 ≤ j) : rY19 (xs.set i.toNat v) j = if j = i then v else rY19 xs j := rd_set (t := Y19) v h0 h1 hj
abbrev rY21 (xs : List (Bool × List Int × List Int)) (i : Int) : Bool × List Int × List Int := rd Y21 xs i
theorem rY21_mem {xs : List (Bool × List Int × List Int)} {i : Int} (h0 : 0 ≤ i) (h1 : i < (xs.length : Int)) : rY21 xs i ∈ xs := rd_mem (t := Y21) h0 h1
theorem rY21_get (xs : List (Bool × List Int × List Int)) (j : Nat) (x : Bool × List Int × List Int) (h : xs[j]? = some x) : rY21 xs (j : Int) = x := rd_get (t := Y21) xs j x h
theorem rY21_drop {xs : List (Bool × List Int × List Int)} {i : Int} (h0 : 0 ≤ i) (h1 : i < (xs.length : Int)) : xs.drop i.toNat = rY21 xs i :: xs.drop (i + 1).toNat := drop_rd (t := Y21) h0 h1
theorem rY21_some {xs : List (Bool × List Int × List Int)} {i : Int} (h0 : 0 ≤ i) (h1 : i < (xs.length : Int)) : xs[i.toNat]? = some (rY21 xs i) := rd_some (t := Y21) h0 h1
theorem rY21_set {xs : List (Bool × List Int × List Int)} {i : Int} (v : Bool × List Int × List Int) (h0 : 0 ≤ i) (h1 : i < (xs.length : Int)) {j : Int} (hj : 0 ≤ j) : rY21 (xs.set i.toNat v) j = if j = i then v else rY21 xs j := rd_set (t := Y21) v h0 h1 hj
abbrev rY3 (xs : List (ByteArray × ByteArray × ByteArray × Bool × Bool)) (i : Int) : ByteArray × ByteArray × ByteArray × Bool × Bool := rd Y3 xs i
theorem rY3_mem {xs : List (ByteArray × ByteArray × ByteArray × Bool × Bool)} {i : Int} (h0 : 0 ≤ i) (h1 : i < (xs.length : Int)) : rY3 xs i ∈ xs := rd_mem (t := Y3) h0 h1
theorem rY3_get (xs : List (ByteArray × ByteArray × ByteArray × Bool × Bool)) (j : Nat) (x : ByteArray × ByteArray × ByteArray × Bool × Bool) (h : xs[j]? = some x) : rY3 xs (j : Int) = x := rd_get (t := Y3) xs j x h
theorem rY3_drop {xs : List (ByteArray × ByteArray × ByteArray × Bool × Bool)} {i : Int} (h0 : 0 ≤ i) (h1 : i < (xs.length : Int)) : xs.drop i.toNat = rY3 xs i :: xs.drop (i + 1).toNat := drop_rd (t := Y3) h0 h1
theorem rY3_some {xs : List (ByteArray × ByteArray × ByteArray × Bool × Bool)} {i : Int} (h0 : 0 ≤ i) (h1 : i < (xs.length : Int)) : xs[i.toNat]? = some (rY3 xs i) := rd_some (t := Y3) h0 h1
theorem rY3_set {xs : List (ByteArray × ByteArray × ByteArray × Bool × Bool)} {i : Int} (v : ByteArray × ByteArray × ByteArray × Bool × Bool) (h0 : 0 ≤ i) (h1 : i < (xs.length : Int)) {j : Int} (hj : 0 ≤ j) : rY3 (xs.set i.toNat v) j = if j = i then v else rY3 xs j := rd_set (t := Y3) v h0 h1 hj
abbrev rY4 (xs : List (Int × Int)) (i : Int) : Int × Int := rd Y4 xs i
theorem rY4_mem {xs : List (Int × Int)} {i : Int} (h0 : 0 ≤ i) (h1 : i < (xs.length : Int)) : rY4 xs i ∈ xs := rd_mem (t := Y4) h0 h1
theorem rY4_get (xs : List (Int × Int)) (j : Nat) (x : Int × Int) (h : xs[j]? = some x) : rY4 xs (j : Int) = x := rd_get (t := Y4) xs j x h
theorem rY4_drop {xs : List (Int × Int)} {i : Int} (h0 : 0 ≤ i) (h1 : i < (xs.length : Int)) : xs.drop i.toNat = rY4 xs i :: xs.drop (i + 1).toNat := drop_rd (t := Y4) h0 h1
theorem rY4_some {xs : List (Int × Int)} {i : Int} (h0 : 0 ≤ i) (h1 : i < (xs.length : Int)) : xs[i.toNat]? = some (rY4 xs i) := rd_some (t := Y4) h0 h1
theorem rY4_set {xs : List (Int × Int)} {i : Int} (v : Int × Int) (h0 : 0 ≤ i) (h1 : i < (xs.length : Int)) {j : Int} (hj : 0 ≤ j) : rY4 (xs.set i.toNat v) j = if j = i then v else rY4 xs j := rd_set (t := Y4) v h0 h1 hj
abbrev rY5 (xs : List (Int × Int × Int)) (i : Int) : Int × Int × Int := rd Y5 xs i
theorem rY5_mem {xs : List (Int × Int × Int)} {i : Int} (h0 : 0 ≤ i) (h1 : i < (xs.length : Int)) : rY5 xs i ∈ xs := rd_mem (t := Y5) h0 h1
theorem rY5_get (xs : List (Int × Int × Int)) (j : Nat) (x : Int × Int × Int) (h : xs[j]? = some x) : rY5 xs (j : Int) = x := rd_get (t := Y5) xs j x h
theorem rY5_drop {xs : List (Int × Int × Int)} {i : Int} (h0 : 0 ≤ i) (h1 : i < (xs.length : Int)) : xs.drop i.toNat = rY5 xs i :: xs.drop (i + 1).toNat := drop_rd (t := Y5) h0 h1
theorem rY5_some {xs : List (Int × Int × Int)} {i : Int} (h0 : 0 ≤ i) (h1 : i < (xs.length : Int)) : xs[i.toNat]? = some (rY5 xs i) := rd_some (t := Y5) h0 h1
theorem rY5_set {xs : List (Int × Int × Int)} {i : Int} (v : Int × Int × Int) (h0 : 0 ≤ i) (h1 : i < (xs.length : Int)) {j : Int} (hj : 0 ≤ j) : rY5 (xs.set i.toNat v) j = if j = i then v else rY5 xs j := rd_set (t := Y5) v h0 h1 hj
def BY (e : Nat) : Nat := (look [(3, 8), (9, 16), (28, 16), (76, 56), (107, 96), (109, 40), (150, 56), (175, 56)] e).getD 0
def gridhallkeep3_ring.f (k : Nat) (a0 : Int) : Option ((List ByteArray × (List (ByteArray × ByteArray × ByteArray × Bool × Bool)) × (List (ByteArray × ByteArray × ByteArray × Int × Int × Int × Int × Int × Int)) × (List (ByteArray × ByteArray × Int × Int × Int)) × (List (ByteArray × ByteArray × Int)) × List (ByteArray × ByteArray × Int × Int × Int)) × List (ByteArray × List (Int × Int))) :=
  some (([ByteArray.mk #[78, 49], ByteArray.mk #[78, 50]], [], [(ByteArray.mk #[76, 49], ByteArray.mk #[78, 49], ByteArray.mk #[78, 50], 1000, 1000, 0, a0, a0, 1)], [(ByteArray.mk #[71, 49], ByteArray.mk #[78, 49], 0, 20, 1), (ByteArray.mk #[71, 50], ByteArray.mk #[78, 50], 0, 20, 1)], [(ByteArray.mk #[68, 49], ByteArray.mk #[78, 50], 15)], []), [(ByteArray.mk #[71, 49], [(20, 5)]), (ByteArray.mk #[71, 50], [(20, 8)])])
def netmodel_sizes.f (k : Nat) (a0 : List ByteArray × (List (ByteArray × ByteArray × ByteArray × Bool × Bool)) × (List (ByteArray × ByteArray × ByteArray × Int × Int × Int × Int × Int × Int)) × (List (ByteArray × ByteArray × Int × Int × Int)) × (List (ByteArray × ByteArray × Int)) × List (ByteArray × ByteArray × Int × Int × Int)) : Option Int :=
  if 24 < (a0.1.length : Int) then
    some 2
  else if 32 < (a0.2.1.length : Int) then
    some 2
  else if 24 < (a0.2.2.1.length : Int) then
    some 2
  else if 10 < (a0.2.2.2.1.length : Int) then
    some 2
  else if 12 < (a0.2.2.2.2.1.length : Int) then
    some 2
  else if 4 < (a0.2.2.2.2.2.length : Int) then
    some 2
  else some 0
def netmodel_Name.l2 : Nat → ByteArray → List Int → Int → Int → Option Bool
  | 0, _, _, _, _ => none
  | k + 1, x0, x7, x8, x9 => if x9 < x8 then
      if 0 ≤ x9 then
        if x9 < (x7.length : Int) then
          if 65 ≤ (rU8 x7 x9) then
            if (rU8 x7 x9) ≤ 90 then
              netmodel_Name.l2 k x0 x7 x8 (wrap64 (x9 + 1))
            else if x9 = 0 then
              some false
            else if (rU8 x7 x9) < 48 then
              some false
            else if 57 < (rU8 x7 x9) then
              some false
            else netmodel_Name.l2 k x0 x7 x8 (wrap64 (x9 + 1))
          else if x9 = 0 then
            some false
          else if (rU8 x7 x9) < 48 then
            some false
          else if 57 < (rU8 x7 x9) then
            some false
          else netmodel_Name.l2 k x0 x7 x8 (wrap64 (x9 + 1))
        else none
      else none
    else if x0 = ByteArray.empty then
      some false
    else some (decide ((x0.size : Int) ≤ 8))
theorem netmodel_Name.l2_eq (k : Nat) (x0 : ByteArray) (x7 : List Int) (x8 : Int) (x9 : Int) : netmodel_Name.l2 (k + 1) x0 x7 x8 x9 = if x9 < x8 then
      if 0 ≤ x9 then
        if x9 < (x7.length : Int) then
          if 65 ≤ (rU8 x7 x9) then
            if (rU8 x7 x9) ≤ 90 then
              netmodel_Name.l2 k x0 x7 x8 (wrap64 (x9 + 1))
            else if x9 = 0 then
              some false
            else if (rU8 x7 x9) < 48 then
              some false
            else if 57 < (rU8 x7 x9) then
              some false
            else netmodel_Name.l2 k x0 x7 x8 (wrap64 (x9 + 1))
          else if x9 = 0 then
            some false
          else if (rU8 x7 x9) < 48 then
            some false
          else if 57 < (rU8 x7 x9) then
            some false
          else netmodel_Name.l2 k x0 x7 x8 (wrap64 (x9 + 1))
        else none
      else none
    else if x0 = ByteArray.empty then
      some false
    else some (decide ((x0.size : Int) ≤ 8)) := rfl
def netmodel_Name.f (k : Nat) (a0 : ByteArray) : Option Bool :=
  netmodel_Name.l2 k a0 (bytesL a0) ((bytesL a0).length : Int) 0
def slices_Index_string.l2 : Nat → List ByteArray → ByteArray → Int → Int → Option Int
  | 0, _, _, _, _ => none
  | k + 1, x0, x1, x7, x8 => if x8 < x7 then
      if 0 ≤ x8 then
        if x8 < (x0.length : Int) then
          if x1 = (rStr x0 x8) then
            some x8
          else slices_Index_string.l2 k x0 x1 x7 (wrap64 (x8 + 1))
        else none
      else none
    else some (-1)
theorem slices_Index_string.l2_eq (k : Nat) (x0 : List ByteArray) (x1 : ByteArray) (x7 : Int) (x8 : Int) : slices_Index_string.l2 (k + 1) x0 x1 x7 x8 = if x8 < x7 then
      if 0 ≤ x8 then
        if x8 < (x0.length : Int) then
          if x1 = (rStr x0 x8) then
            some x8
          else slices_Index_string.l2 k x0 x1 x7 (wrap64 (x8 + 1))
        else none
      else none
    else some (-1) := rfl
def slices_Index_string.f (k : Nat) (a0 : List ByteArray) (a1 : ByteArray) : Option Int :=
  slices_Index_string.l2 k a0 a1 (a0.length : Int) 0
def slices_Contains_string.f (k : Nat) (a0 : List ByteArray) (a1 : ByteArray) : Option Bool :=
  (slices_Index_string.f k a0 a1).bind fun r1 =>
  some (decide (0 ≤ r1))
def netmodel_names_add'.f (k : Nat) (a1 : ByteArray) (ao1 : List ByteArray) : Option (Int × List ByteArray) :=
  (netmodel_Name.f k a1).bind fun r1 =>
  if r1 = true then
    (slices_Contains_string.f k ao1 a1).bind fun r2 =>
    if r2 = true then
      some (7, ao1)
    else if (ao1.length + [a1].length) * 16 ≤ 140737488355328 then
      some (0, ao1 ++ [a1])
    else none
  else some (5, ao1)
def netmodel_ends.l2 : Nat → List ByteArray → Int → Int → List ByteArray → (List (ByteArray × ByteArray × ByteArray × Bool × Bool)) → (List (ByteArray × ByteArray × ByteArray × Int × Int × Int × Int × Int × Int)) → (List (ByteArray × ByteArray × Int × Int × Int)) → (List (ByteArray × ByteArray × Int)) → (List (ByteArray × ByteArray × Int × Int × Int)) → Option Int
  | 0, _, _, _, _, _, _, _, _, _ => none
  | k + 1, x7, x8, x9, xo0_0, xo0_1, xo0_2, xo0_3, xo0_4, xo0_5 => if x9 < x8 then
      if 0 ≤ x9 then
        if x9 < (x7.length : Int) then
          (slices_Contains_string.f k xo0_0 (rStr x7 x9)).bind fun r1 =>
          if r1 = true then
            netmodel_ends.l2 k x7 x8 (wrap64 (x9 + 1)) xo0_0 xo0_1 xo0_2 xo0_3 xo0_4 xo0_5
          else some 6
        else none
      else none
    else some 0
theorem netmodel_ends.l2_eq (k : Nat) (x7 : List ByteArray) (x8 : Int) (x9 : Int) (xo0_0 : List ByteArray) (xo0_1 : List (ByteArray × ByteArray × ByteArray × Bool × Bool)) (xo0_2 : List (ByteArray × ByteArray × ByteArray × Int × Int × Int × Int × Int × Int)) (xo0_3 : List (ByteArray × ByteArray × Int × Int × Int)) (xo0_4 : List (ByteArray × ByteArray × Int)) (xo0_5 : List (ByteArray × ByteArray × Int × Int × Int)) : netmodel_ends.l2 (k + 1) x7 x8 x9 xo0_0 xo0_1 xo0_2 xo0_3 xo0_4 xo0_5 = if x9 < x8 then
      if 0 ≤ x9 then
        if x9 < (x7.length : Int) then
          (slices_Contains_string.f k xo0_0 (rStr x7 x9)).bind fun r1 =>
          if r1 = true then
            netmodel_ends.l2 k x7 x8 (wrap64 (x9 + 1)) xo0_0 xo0_1 xo0_2 xo0_3 xo0_4 xo0_5
          else some 6
        else none
      else none
    else some 0 := rfl
def netmodel_ends.f (k : Nat) (a0 : List ByteArray × (List (ByteArray × ByteArray × ByteArray × Bool × Bool)) × (List (ByteArray × ByteArray × ByteArray × Int × Int × Int × Int × Int × Int)) × (List (ByteArray × ByteArray × Int × Int × Int)) × (List (ByteArray × ByteArray × Int)) × List (ByteArray × ByteArray × Int × Int × Int)) (a1 : List ByteArray) : Option Int :=
  netmodel_ends.l2 k a1 (a1.length : Int) 0 a0.1 a0.2.1 a0.2.2.1 a0.2.2.2.1 a0.2.2.2.2.1 a0.2.2.2.2.2
def netmodel_device.f (k : Nat) (a0 : List ByteArray × (List (ByteArray × ByteArray × ByteArray × Bool × Bool)) × (List (ByteArray × ByteArray × ByteArray × Int × Int × Int × Int × Int × Int)) × (List (ByteArray × ByteArray × Int × Int × Int)) × (List (ByteArray × ByteArray × Int)) × List (ByteArray × ByteArray × Int × Int × Int)) (a2 : ByteArray) (a3 : List ByteArray) (ao1 : List ByteArray) : Option (Int × List ByteArray) :=
  (netmodel_names_add'.f k a2 ao1).bind fun r1 =>
  if r1.1 = 0 then
    (netmodel_ends.f k a0 a3).bind fun r2 =>
    some (r2, r1.2)
  else some r1
def netmodel_within.f (k : Nat) (a0 : Int) (a1 : Int) (a2 : Int) : Option Bool :=
  if a1 ≤ a0 then
    some (decide (a0 ≤ a2))
  else some false
def netmodel_Branch.f (k : Nat) (a0 : ByteArray × ByteArray × ByteArray × Int × Int × Int × Int × Int × Int) : Option Int :=
  (netmodel_within.f k a0.2.2.2.1 1 10000).bind fun r1 =>
  if r1 = true then
    (netmodel_within.f k a0.2.2.2.2.1 500 1500).bind fun r2 =>
    if r2 = true then
      (netmodel_within.f k a0.2.2.2.2.2.1 (-1000) 1000).bind fun r3 =>
      if r3 = true then
        (netmodel_within.f k a0.2.2.2.2.2.2.1 0 100000).bind fun r4 =>
        if r4 = true then
          (netmodel_within.f k a0.2.2.2.2.2.2.2.1 a0.2.2.2.2.2.2.1 100000).bind fun r5 =>
          if r5 = true then
            (netmodel_within.f k a0.2.2.2.2.2.2.2.2 0 200000).bind fun r6 =>
            if r6 = true then
              some 0
            else some 4
          else some 4
        else some 4
      else some 4
    else some 4
  else some 4
def netmodel_sources.l20 : Nat → (List (ByteArray × ByteArray × Int × Int × Int)) → Int → Int → List ByteArray → (List (ByteArray × ByteArray × ByteArray × Bool × Bool)) → (List (ByteArray × ByteArray × ByteArray × Int × Int × Int × Int × Int × Int)) → (List (ByteArray × ByteArray × Int × Int × Int)) → (List (ByteArray × ByteArray × Int)) → (List (ByteArray × ByteArray × Int × Int × Int)) → List ByteArray → Option (Int × List ByteArray)
  | 0, _, _, _, _, _, _, _, _, _, _ => none
  | k + 1, x75, x76, x77, xo2_0, xo2_1, xo2_2, xo2_3, xo2_4, xo2_5, xo3 => if x77 < x76 then
      if 0 ≤ x77 then
        if x77 < (x75.length : Int) then
          (netmodel_device.f k (xo2_0, xo2_1, xo2_2, xo2_3, xo2_4, xo2_5) (rY13 x75 x77).1 [(rY13 x75 x77).2.1] xo3).bind fun r7 =>
          if r7.1 = 0 then
            (netmodel_within.f k (rY13 x75 x77).2.2.1 0 100000).bind fun r8 =>
            if r8 = true then
              (netmodel_within.f k (rY13 x75 x77).2.2.2.1 0 100000).bind fun r9 =>
              if r9 = true then
                (netmodel_within.f k (rY13 x75 x77).2.2.2.2 0 100000).bind fun r10 =>
                if r10 = true then
                  netmodel_sources.l20 k x75 x76 (wrap64 (x77 + 1)) xo2_0 xo2_1 xo2_2 xo2_3 xo2_4 xo2_5 r7.2
                else some (4, r7.2)
              else some (4, r7.2)
            else some (4, r7.2)
          else some r7
        else none
      else none
    else some (0, xo3)
theorem netmodel_sources.l20_eq (k : Nat) (x75 : List (ByteArray × ByteArray × Int × Int × Int)) (x76 : Int) (x77 : Int) (xo2_0 : List ByteArray) (xo2_1 : List (ByteArray × ByteArray × ByteArray × Bool × Bool)) (xo2_2 : List (ByteArray × ByteArray × ByteArray × Int × Int × Int × Int × Int × Int)) (xo2_3 : List (ByteArray × ByteArray × Int × Int × Int)) (xo2_4 : List (ByteArray × ByteArray × Int)) (xo2_5 : List (ByteArray × ByteArray × Int × Int × Int)) (xo3 : List ByteArray) : netmodel_sources.l20 (k + 1) x75 x76 x77 xo2_0 xo2_1 xo2_2 xo2_3 xo2_4 xo2_5 xo3 = if x77 < x76 then
      if 0 ≤ x77 then
        if x77 < (x75.length : Int) then
          (netmodel_device.f k (xo2_0, xo2_1, xo2_2, xo2_3, xo2_4, xo2_5) (rY13 x75 x77).1 [(rY13 x75 x77).2.1] xo3).bind fun r7 =>
          if r7.1 = 0 then
            (netmodel_within.f k (rY13 x75 x77).2.2.1 0 100000).bind fun r8 =>
            if r8 = true then
              (netmodel_within.f k (rY13 x75 x77).2.2.2.1 0 100000).bind fun r9 =>
              if r9 = true then
                (netmodel_within.f k (rY13 x75 x77).2.2.2.2 0 100000).bind fun r10 =>
                if r10 = true then
                  netmodel_sources.l20 k x75 x76 (wrap64 (x77 + 1)) xo2_0 xo2_1 xo2_2 xo2_3 xo2_4 xo2_5 r7.2
                else some (4, r7.2)
              else some (4, r7.2)
            else some (4, r7.2)
          else some r7
        else none
      else none
    else some (0, xo3) := rfl
def netmodel_sources.l11 : Nat → (List (ByteArray × ByteArray × Int)) → Int → Int → List ByteArray → (List (ByteArray × ByteArray × ByteArray × Bool × Bool)) → (List (ByteArray × ByteArray × ByteArray × Int × Int × Int × Int × Int × Int)) → (List (ByteArray × ByteArray × Int × Int × Int)) → (List (ByteArray × ByteArray × Int)) → (List (ByteArray × ByteArray × Int × Int × Int)) → List ByteArray → Option (Int × List ByteArray)
  | 0, _, _, _, _, _, _, _, _, _, _ => none
  | k + 1, x52, x53, x54, xo2_0, xo2_1, xo2_2, xo2_3, xo2_4, xo2_5, xo3 => if x54 < x53 then
      if 0 ≤ x54 then
        if x54 < (x52.length : Int) then
          (netmodel_device.f k (xo2_0, xo2_1, xo2_2, xo2_3, xo2_4, xo2_5) (rY15 x52 x54).1 [(rY15 x52 x54).2.1] xo3).bind fun r5 =>
          if r5.1 = 0 then
            (netmodel_within.f k (rY15 x52 x54).2.2 0 100000).bind fun r6 =>
            if r6 = true then
              netmodel_sources.l11 k x52 x53 (wrap64 (x54 + 1)) xo2_0 xo2_1 xo2_2 xo2_3 xo2_4 xo2_5 r5.2
            else some (4, r5.2)
          else some r5
        else none
      else none
    else netmodel_sources.l20 k xo2_5 (xo2_5.length : Int) 0 xo2_0 xo2_1 xo2_2 xo2_3 xo2_4 xo2_5 xo3
theorem netmodel_sources.l11_eq (k : Nat) (x52 : List (ByteArray × ByteArray × Int)) (x53 : Int) (x54 : Int) (xo2_0 : List ByteArray) (xo2_1 : List (ByteArray × ByteArray × ByteArray × Bool × Bool)) (xo2_2 : List (ByteArray × ByteArray × ByteArray × Int × Int × Int × Int × Int × Int)) (xo2_3 : List (ByteArray × ByteArray × Int × Int × Int)) (xo2_4 : List (ByteArray × ByteArray × Int)) (xo2_5 : List (ByteArray × ByteArray × Int × Int × Int)) (xo3 : List ByteArray) : netmodel_sources.l11 (k + 1) x52 x53 x54 xo2_0 xo2_1 xo2_2 xo2_3 xo2_4 xo2_5 xo3 = if x54 < x53 then
      if 0 ≤ x54 then
        if x54 < (x52.length : Int) then
          (netmodel_device.f k (xo2_0, xo2_1, xo2_2, xo2_3, xo2_4, xo2_5) (rY15 x52 x54).1 [(rY15 x52 x54).2.1] xo3).bind fun r5 =>
          if r5.1 = 0 then
            (netmodel_within.f k (rY15 x52 x54).2.2 0 100000).bind fun r6 =>
            if r6 = true then
              netmodel_sources.l11 k x52 x53 (wrap64 (x54 + 1)) xo2_0 xo2_1 xo2_2 xo2_3 xo2_4 xo2_5 r5.2
            else some (4, r5.2)
          else some r5
        else none
      else none
    else netmodel_sources.l20 k xo2_5 (xo2_5.length : Int) 0 xo2_0 xo2_1 xo2_2 xo2_3 xo2_4 xo2_5 xo3 := rfl
def netmodel_sources.l2 : Nat → (List (ByteArray × ByteArray × Int × Int × Int)) → Int → Int → List ByteArray → (List (ByteArray × ByteArray × ByteArray × Bool × Bool)) → (List (ByteArray × ByteArray × ByteArray × Int × Int × Int × Int × Int × Int)) → (List (ByteArray × ByteArray × Int × Int × Int)) → (List (ByteArray × ByteArray × Int)) → (List (ByteArray × ByteArray × Int × Int × Int)) → List ByteArray → Option (Int × List ByteArray)
  | 0, _, _, _, _, _, _, _, _, _, _ => none
  | k + 1, x15, x16, x17, xo2_0, xo2_1, xo2_2, xo2_3, xo2_4, xo2_5, xo3 => if x17 < x16 then
      if 0 ≤ x17 then
        if x17 < (x15.length : Int) then
          (netmodel_device.f k (xo2_0, xo2_1, xo2_2, xo2_3, xo2_4, xo2_5) (rY13 x15 x17).1 [(rY13 x15 x17).2.1] xo3).bind fun r1 =>
          if r1.1 = 0 then
            (netmodel_within.f k (rY13 x15 x17).2.2.1 0 100000).bind fun r2 =>
            if r2 = true then
              (netmodel_within.f k (rY13 x15 x17).2.2.2.1 (rY13 x15 x17).2.2.1 100000).bind fun r3 =>
              if r3 = true then
                (netmodel_within.f k (rY13 x15 x17).2.2.2.2 0 100000).bind fun r4 =>
                if r4 = true then
                  netmodel_sources.l2 k x15 x16 (wrap64 (x17 + 1)) xo2_0 xo2_1 xo2_2 xo2_3 xo2_4 xo2_5 r1.2
                else some (4, r1.2)
              else some (4, r1.2)
            else some (4, r1.2)
          else some r1
        else none
      else none
    else netmodel_sources.l11 k xo2_4 (xo2_4.length : Int) 0 xo2_0 xo2_1 xo2_2 xo2_3 xo2_4 xo2_5 xo3
theorem netmodel_sources.l2_eq (k : Nat) (x15 : List (ByteArray × ByteArray × Int × Int × Int)) (x16 : Int) (x17 : Int) (xo2_0 : List ByteArray) (xo2_1 : List (ByteArray × ByteArray × ByteArray × Bool × Bool)) (xo2_2 : List (ByteArray × ByteArray × ByteArray × Int × Int × Int × Int × Int × Int)) (xo2_3 : List (ByteArray × ByteArray × Int × Int × Int)) (xo2_4 : List (ByteArray × ByteArray × Int)) (xo2_5 : List (ByteArray × ByteArray × Int × Int × Int)) (xo3 : List ByteArray) : netmodel_sources.l2 (k + 1) x15 x16 x17 xo2_0 xo2_1 xo2_2 xo2_3 xo2_4 xo2_5 xo3 = if x17 < x16 then
      if 0 ≤ x17 then
        if x17 < (x15.length : Int) then
          (netmodel_device.f k (xo2_0, xo2_1, xo2_2, xo2_3, xo2_4, xo2_5) (rY13 x15 x17).1 [(rY13 x15 x17).2.1] xo3).bind fun r1 =>
          if r1.1 = 0 then
            (netmodel_within.f k (rY13 x15 x17).2.2.1 0 100000).bind fun r2 =>
            if r2 = true then
              (netmodel_within.f k (rY13 x15 x17).2.2.2.1 (rY13 x15 x17).2.2.1 100000).bind fun r3 =>
              if r3 = true then
                (netmodel_within.f k (rY13 x15 x17).2.2.2.2 0 100000).bind fun r4 =>
                if r4 = true then
                  netmodel_sources.l2 k x15 x16 (wrap64 (x17 + 1)) xo2_0 xo2_1 xo2_2 xo2_3 xo2_4 xo2_5 r1.2
                else some (4, r1.2)
              else some (4, r1.2)
            else some (4, r1.2)
          else some r1
        else none
      else none
    else netmodel_sources.l11 k xo2_4 (xo2_4.length : Int) 0 xo2_0 xo2_1 xo2_2 xo2_3 xo2_4 xo2_5 xo3 := rfl
def netmodel_sources.f (k : Nat) (a0 : List ByteArray × (List (ByteArray × ByteArray × ByteArray × Bool × Bool)) × (List (ByteArray × ByteArray × ByteArray × Int × Int × Int × Int × Int × Int)) × (List (ByteArray × ByteArray × Int × Int × Int)) × (List (ByteArray × ByteArray × Int)) × List (ByteArray × ByteArray × Int × Int × Int)) (ao1 : List ByteArray) : Option (Int × List ByteArray) :=
  netmodel_sources.l2 k a0.2.2.2.1 (a0.2.2.2.1.length : Int) 0 a0.1 a0.2.1 a0.2.2.1 a0.2.2.2.1 a0.2.2.2.2.1 a0.2.2.2.2.2 ao1
def netmodel_Check.l22 : Nat → (List (ByteArray × ByteArray × ByteArray × Int × Int × Int × Int × Int × Int)) → Int → Int → List ByteArray → (List (ByteArray × ByteArray × ByteArray × Bool × Bool)) → (List (ByteArray × ByteArray × ByteArray × Int × Int × Int × Int × Int × Int)) → (List (ByteArray × ByteArray × Int × Int × Int)) → (List (ByteArray × ByteArray × Int)) → (List (ByteArray × ByteArray × Int × Int × Int)) → List ByteArray → Option Int
  | 0, _, _, _, _, _, _, _, _, _, _ => none
  | k + 1, x59, x60, x61, xo0_0, xo0_1, xo0_2, xo0_3, xo0_4, xo0_5, xo2 => if x61 < x60 then
      if 0 ≤ x61 then
        if x61 < (x59.length : Int) then
          (netmodel_device.f k (xo0_0, xo0_1, xo0_2, xo0_3, xo0_4, xo0_5) (rY11 x59 x61).1 [(rY11 x59 x61).2.1, (rY11 x59 x61).2.2.1] xo2).bind fun r4 =>
          if r4.1 = 0 then
            if (rY11 x59 x61).2.1 = (rY11 x59 x61).2.2.1 then
              some 3
            else (netmodel_Branch.f k (rY11 x59 x61)).bind fun r5 =>
            if r5 = 0 then
              netmodel_Check.l22 k x59 x60 (wrap64 (x61 + 1)) xo0_0 xo0_1 xo0_2 xo0_3 xo0_4 xo0_5 r4.2
            else some r5
          else some r4.1
        else none
      else none
    else (netmodel_sources.f k (xo0_0, xo0_1, xo0_2, xo0_3, xo0_4, xo0_5) xo2).bind fun r6 =>
    some r6.1
theorem netmodel_Check.l22_eq (k : Nat) (x59 : List (ByteArray × ByteArray × ByteArray × Int × Int × Int × Int × Int × Int)) (x60 : Int) (x61 : Int) (xo0_0 : List ByteArray) (xo0_1 : List (ByteArray × ByteArray × ByteArray × Bool × Bool)) (xo0_2 : List (ByteArray × ByteArray × ByteArray × Int × Int × Int × Int × Int × Int)) (xo0_3 : List (ByteArray × ByteArray × Int × Int × Int)) (xo0_4 : List (ByteArray × ByteArray × Int)) (xo0_5 : List (ByteArray × ByteArray × Int × Int × Int)) (xo2 : List ByteArray) : netmodel_Check.l22 (k + 1) x59 x60 x61 xo0_0 xo0_1 xo0_2 xo0_3 xo0_4 xo0_5 xo2 = if x61 < x60 then
      if 0 ≤ x61 then
        if x61 < (x59.length : Int) then
          (netmodel_device.f k (xo0_0, xo0_1, xo0_2, xo0_3, xo0_4, xo0_5) (rY11 x59 x61).1 [(rY11 x59 x61).2.1, (rY11 x59 x61).2.2.1] xo2).bind fun r4 =>
          if r4.1 = 0 then
            if (rY11 x59 x61).2.1 = (rY11 x59 x61).2.2.1 then
              some 3
            else (netmodel_Branch.f k (rY11 x59 x61)).bind fun r5 =>
            if r5 = 0 then
              netmodel_Check.l22 k x59 x60 (wrap64 (x61 + 1)) xo0_0 xo0_1 xo0_2 xo0_3 xo0_4 xo0_5 r4.2
            else some r5
          else some r4.1
        else none
      else none
    else (netmodel_sources.f k (xo0_0, xo0_1, xo0_2, xo0_3, xo0_4, xo0_5) xo2).bind fun r6 =>
    some r6.1 := rfl
def netmodel_Check.l13 : Nat → (List (ByteArray × ByteArray × ByteArray × Bool × Bool)) → Int → Int → List ByteArray → (List (ByteArray × ByteArray × ByteArray × Bool × Bool)) → (List (ByteArray × ByteArray × ByteArray × Int × Int × Int × Int × Int × Int)) → (List (ByteArray × ByteArray × Int × Int × Int)) → (List (ByteArray × ByteArray × Int)) → (List (ByteArray × ByteArray × Int × Int × Int)) → List ByteArray → Option Int
  | 0, _, _, _, _, _, _, _, _, _, _ => none
  | k + 1, x34, x35, x36, xo0_0, xo0_1, xo0_2, xo0_3, xo0_4, xo0_5, xo2 => if x36 < x35 then
      if 0 ≤ x36 then
        if x36 < (x34.length : Int) then
          (netmodel_device.f k (xo0_0, xo0_1, xo0_2, xo0_3, xo0_4, xo0_5) (rY3 x34 x36).1 [(rY3 x34 x36).2.1, (rY3 x34 x36).2.2.1] xo2).bind fun r3 =>
          if r3.1 = 0 then
            if (rY3 x34 x36).2.1 = (rY3 x34 x36).2.2.1 then
              some 3
            else netmodel_Check.l13 k x34 x35 (wrap64 (x36 + 1)) xo0_0 xo0_1 xo0_2 xo0_3 xo0_4 xo0_5 r3.2
          else some r3.1
        else none
      else none
    else netmodel_Check.l22 k xo0_2 (xo0_2.length : Int) 0 xo0_0 xo0_1 xo0_2 xo0_3 xo0_4 xo0_5 xo2
theorem netmodel_Check.l13_eq (k : Nat) (x34 : List (ByteArray × ByteArray × ByteArray × Bool × Bool)) (x35 : Int) (x36 : Int) (xo0_0 : List ByteArray) (xo0_1 : List (ByteArray × ByteArray × ByteArray × Bool × Bool)) (xo0_2 : List (ByteArray × ByteArray × ByteArray × Int × Int × Int × Int × Int × Int)) (xo0_3 : List (ByteArray × ByteArray × Int × Int × Int)) (xo0_4 : List (ByteArray × ByteArray × Int)) (xo0_5 : List (ByteArray × ByteArray × Int × Int × Int)) (xo2 : List ByteArray) : netmodel_Check.l13 (k + 1) x34 x35 x36 xo0_0 xo0_1 xo0_2 xo0_3 xo0_4 xo0_5 xo2 = if x36 < x35 then
      if 0 ≤ x36 then
        if x36 < (x34.length : Int) then
          (netmodel_device.f k (xo0_0, xo0_1, xo0_2, xo0_3, xo0_4, xo0_5) (rY3 x34 x36).1 [(rY3 x34 x36).2.1, (rY3 x34 x36).2.2.1] xo2).bind fun r3 =>
          if r3.1 = 0 then
            if (rY3 x34 x36).2.1 = (rY3 x34 x36).2.2.1 then
              some 3
            else netmodel_Check.l13 k x34 x35 (wrap64 (x36 + 1)) xo0_0 xo0_1 xo0_2 xo0_3 xo0_4 xo0_5 r3.2
          else some r3.1
        else none
      else none
    else netmodel_Check.l22 k xo0_2 (xo0_2.length : Int) 0 xo0_0 xo0_1 xo0_2 xo0_3 xo0_4 xo0_5 xo2 := rfl
def netmodel_Check.l6 : Nat → List ByteArray → Int → Int → List ByteArray → (List (ByteArray × ByteArray × ByteArray × Bool × Bool)) → (List (ByteArray × ByteArray × ByteArray × Int × Int × Int × Int × Int × Int)) → (List (ByteArray × ByteArray × Int × Int × Int)) → (List (ByteArray × ByteArray × Int)) → (List (ByteArray × ByteArray × Int × Int × Int)) → List ByteArray → Option Int
  | 0, _, _, _, _, _, _, _, _, _, _ => none
  | k + 1, x21, x22, x23, xo0_0, xo0_1, xo0_2, xo0_3, xo0_4, xo0_5, xo2 => if x23 < x22 then
      if 0 ≤ x23 then
        if x23 < (x21.length : Int) then
          (netmodel_names_add'.f k (rStr x21 x23) xo2).bind fun r2 =>
          if r2.1 = 0 then
            netmodel_Check.l6 k x21 x22 (wrap64 (x23 + 1)) xo0_0 xo0_1 xo0_2 xo0_3 xo0_4 xo0_5 r2.2
          else some r2.1
        else none
      else none
    else netmodel_Check.l13 k xo0_1 (xo0_1.length : Int) 0 xo0_0 xo0_1 xo0_2 xo0_3 xo0_4 xo0_5 xo2
theorem netmodel_Check.l6_eq (k : Nat) (x21 : List ByteArray) (x22 : Int) (x23 : Int) (xo0_0 : List ByteArray) (xo0_1 : List (ByteArray × ByteArray × ByteArray × Bool × Bool)) (xo0_2 : List (ByteArray × ByteArray × ByteArray × Int × Int × Int × Int × Int × Int)) (xo0_3 : List (ByteArray × ByteArray × Int × Int × Int)) (xo0_4 : List (ByteArray × ByteArray × Int)) (xo0_5 : List (ByteArray × ByteArray × Int × Int × Int)) (xo2 : List ByteArray) : netmodel_Check.l6 (k + 1) x21 x22 x23 xo0_0 xo0_1 xo0_2 xo0_3 xo0_4 xo0_5 xo2 = if x23 < x22 then
      if 0 ≤ x23 then
        if x23 < (x21.length : Int) then
          (netmodel_names_add'.f k (rStr x21 x23) xo2).bind fun r2 =>
          if r2.1 = 0 then
            netmodel_Check.l6 k x21 x22 (wrap64 (x23 + 1)) xo0_0 xo0_1 xo0_2 xo0_3 xo0_4 xo0_5 r2.2
          else some r2.1
        else none
      else none
    else netmodel_Check.l13 k xo0_1 (xo0_1.length : Int) 0 xo0_0 xo0_1 xo0_2 xo0_3 xo0_4 xo0_5 xo2 := rfl
def netmodel_Check.f (k : Nat) (a0 : List ByteArray × (List (ByteArray × ByteArray × ByteArray × Bool × Bool)) × (List (ByteArray × ByteArray × ByteArray × Int × Int × Int × Int × Int × Int)) × (List (ByteArray × ByteArray × Int × Int × Int)) × (List (ByteArray × ByteArray × Int)) × List (ByteArray × ByteArray × Int × Int × Int)) : Option Int :=
  (netmodel_sizes.f k a0).bind fun r1 =>
  if r1 = 0 then
    netmodel_Check.l6 k a0.1 (a0.1.length : Int) 0 a0.1 a0.2.1 a0.2.2.1 a0.2.2.2.1 a0.2.2.2.2.1 a0.2.2.2.2.2 []
  else some r1
def netmodel_Node.f (k : Nat) (a0 : List ByteArray × (List (ByteArray × ByteArray × ByteArray × Bool × Bool)) × (List (ByteArray × ByteArray × ByteArray × Int × Int × Int × Int × Int × Int)) × (List (ByteArray × ByteArray × Int × Int × Int)) × (List (ByteArray × ByteArray × Int)) × List (ByteArray × ByteArray × Int × Int × Int)) (a1 : ByteArray) : Option (Int × Int) :=
  (netmodel_Check.f k a0).bind fun r1 =>
  if r1 = 0 then
    (slices_Index_string.f k a0.1 a1).bind fun r2 =>
    if r2 < 0 then
      some (0, 6)
    else some (r2, 0)
  else some (0, r1)
mutual
def rights_Check.l7 : Nat → (List (ByteArray × ByteArray × Int)) → Int → Int → List ByteArray → (List (ByteArray × ByteArray × ByteArray × Bool × Bool)) → (List (ByteArray × ByteArray × ByteArray × Int × Int × Int × Int × Int × Int)) → (List (ByteArray × ByteArray × Int × Int × Int)) → (List (ByteArray × ByteArray × Int)) → (List (ByteArray × ByteArray × Int × Int × Int)) → Option Int
  | 0, _, _, _, _, _, _, _, _, _ => none
  | k + 1, x20, x21, x22, xo0_0, xo0_1, xo0_2, xo0_3, xo0_4, xo0_5 => if x22 < x21 then
      if 0 ≤ x22 then
        if x22 < (x20.length : Int) then
          rights_Check.l10 k x20 x21 x22 ((rY15 x20 x22).1, (rY15 x20 x22).2.1) 0 xo0_0 xo0_1 xo0_2 xo0_3 xo0_4 xo0_5 (rY15 x20 x22).1 (rY15 x20 x22).2.1 (rY15 x20 x22).2.2
        else none
      else none
    else some 0
def rights_Check.l10 : Nat → (List (ByteArray × ByteArray × Int)) → Int → Int → (ByteArray × ByteArray) → Int → List ByteArray → (List (ByteArray × ByteArray × ByteArray × Bool × Bool)) → (List (ByteArray × ByteArray × ByteArray × Int × Int × Int × Int × Int × Int)) → (List (ByteArray × ByteArray × Int × Int × Int)) → (List (ByteArray × ByteArray × Int)) → (List (ByteArray × ByteArray × Int × Int × Int)) → ByteArray → ByteArray → Int → Option Int
  | 0, _, _, _, _, _, _, _, _, _, _, _, _, _, _ => none
  | k + 1, x20, x21, x22, x30, x31, xo0_0, xo0_1, xo0_2, xo0_3, xo0_4, xo0_5, xo1_0, xo1_1, xo1_2 => if x31 < 2 then
      if 0 ≤ x31 then
        if x31 < 2 then
          (netmodel_Node.f k (xo0_0, xo0_1, xo0_2, xo0_3, xo0_4, xo0_5) (rStr [x30.1, x30.2] x31)).bind fun r2 =>
          if r2.2 = 0 then
            rights_Check.l10 k x20 x21 x22 x30 (wrap64 (x31 + 1)) xo0_0 xo0_1 xo0_2 xo0_3 xo0_4 xo0_5 xo1_0 xo1_1 xo1_2
          else some 6
        else none
      else none
    else if xo1_2 < 1 then
      some 4
    else if 100000 < xo1_2 then
      some 4
    else rights_Check.l7 k x20 x21 (wrap64 (x22 + 1)) xo0_0 xo0_1 xo0_2 xo0_3 xo0_4 xo0_5
end
theorem rights_Check.l7_eq (k : Nat) (x20 : List (ByteArray × ByteArray × Int)) (x21 : Int) (x22 : Int) (xo0_0 : List ByteArray) (xo0_1 : List (ByteArray × ByteArray × ByteArray × Bool × Bool)) (xo0_2 : List (ByteArray × ByteArray × ByteArray × Int × Int × Int × Int × Int × Int)) (xo0_3 : List (ByteArray × ByteArray × Int × Int × Int)) (xo0_4 : List (ByteArray × ByteArray × Int)) (xo0_5 : List (ByteArray × ByteArray × Int × Int × Int)) : rights_Check.l7 (k + 1) x20 x21 x22 xo0_0 xo0_1 xo0_2 xo0_3 xo0_4 xo0_5 = if x22 < x21 then
      if 0 ≤ x22 then
        if x22 < (x20.length : Int) then
          rights_Check.l10 k x20 x21 x22 ((rY15 x20 x22).1, (rY15 x20 x22).2.1) 0 xo0_0 xo0_1 xo0_2 xo0_3 xo0_4 xo0_5 (rY15 x20 x22).1 (rY15 x20 x22).2.1 (rY15 x20 x22).2.2
        else none
      else none
    else some 0 := rfl
theorem rights_Check.l10_eq (k : Nat) (x20 : List (ByteArray × ByteArray × Int)) (x21 : Int) (x22 : Int) (x30 : ByteArray × ByteArray) (x31 : Int) (xo0_0 : List ByteArray) (xo0_1 : List (ByteArray × ByteArray × ByteArray × Bool × Bool)) (xo0_2 : List (ByteArray × ByteArray × ByteArray × Int × Int × Int × Int × Int × Int)) (xo0_3 : List (ByteArray × ByteArray × Int × Int × Int)) (xo0_4 : List (ByteArray × ByteArray × Int)) (xo0_5 : List (ByteArray × ByteArray × Int × Int × Int)) (xo1_0 : ByteArray) (xo1_1 : ByteArray) (xo1_2 : Int) : rights_Check.l10 (k + 1) x20 x21 x22 x30 x31 xo0_0 xo0_1 xo0_2 xo0_3 xo0_4 xo0_5 xo1_0 xo1_1 xo1_2 = if x31 < 2 then
      if 0 ≤ x31 then
        if x31 < 2 then
          (netmodel_Node.f k (xo0_0, xo0_1, xo0_2, xo0_3, xo0_4, xo0_5) (rStr [x30.1, x30.2] x31)).bind fun r2 =>
          if r2.2 = 0 then
            rights_Check.l10 k x20 x21 x22 x30 (wrap64 (x31 + 1)) xo0_0 xo0_1 xo0_2 xo0_3 xo0_4 xo0_5 xo1_0 xo1_1 xo1_2
          else some 6
        else none
      else none
    else if xo1_2 < 1 then
      some 4
    else if 100000 < xo1_2 then
      some 4
    else rights_Check.l7 k x20 x21 (wrap64 (x22 + 1)) xo0_0 xo0_1 xo0_2 xo0_3 xo0_4 xo0_5 := rfl
def rights_Check.f (k : Nat) (a0 : List ByteArray × (List (ByteArray × ByteArray × ByteArray × Bool × Bool)) × (List (ByteArray × ByteArray × ByteArray × Int × Int × Int × Int × Int × Int)) × (List (ByteArray × ByteArray × Int × Int × Int)) × (List (ByteArray × ByteArray × Int)) × List (ByteArray × ByteArray × Int × Int × Int)) (a1 : List (ByteArray × ByteArray × Int)) : Option Int :=
  (netmodel_Check.f k a0).bind fun r1 =>
  if r1 = 0 then
    if 12 < (a1.length : Int) then
      some 2
    else rights_Check.l7 k a1 (a1.length : Int) 0 a0.1 a0.2.1 a0.2.2.1 a0.2.2.2.1 a0.2.2.2.2.1 a0.2.2.2.2.2
  else some r1
def station_Edges.l3 : Nat → (List (ByteArray × ByteArray × ByteArray × Bool × Bool)) → Int → Int → List ByteArray → (List (ByteArray × ByteArray × ByteArray × Bool × Bool)) → (List (ByteArray × ByteArray × ByteArray × Int × Int × Int × Int × Int × Int)) → (List (ByteArray × ByteArray × Int × Int × Int)) → (List (ByteArray × ByteArray × Int)) → (List (ByteArray × ByteArray × Int × Int × Int)) → (List (Int × Int)) → Option (List (Int × Int))
  | 0, _, _, _, _, _, _, _, _, _, _ => none
  | k + 1, x7, x8, x9, xo0_0, xo0_1, xo0_2, xo0_3, xo0_4, xo0_5, xo1 => if x9 < x8 then
      if 0 ≤ x9 then
        if x9 < (x7.length : Int) then
          (slices_Index_string.f k xo0_0 (rY3 x7 x9).2.1).bind fun r1 =>
          (slices_Index_string.f k xo0_0 (rY3 x7 x9).2.2.1).bind fun r2 =>
          if (xo1.length + [(r1, r2)].length) * 16 ≤ 140737488355328 then
            station_Edges.l3 k x7 x8 (wrap64 (x9 + 1)) xo0_0 xo0_1 xo0_2 xo0_3 xo0_4 xo0_5 (xo1 ++ [(r1, r2)])
          else none
        else none
      else none
    else some xo1
theorem station_Edges.l3_eq (k : Nat) (x7 : List (ByteArray × ByteArray × ByteArray × Bool × Bool)) (x8 : Int) (x9 : Int) (xo0_0 : List ByteArray) (xo0_1 : List (ByteArray × ByteArray × ByteArray × Bool × Bool)) (xo0_2 : List (ByteArray × ByteArray × ByteArray × Int × Int × Int × Int × Int × Int)) (xo0_3 : List (ByteArray × ByteArray × Int × Int × Int)) (xo0_4 : List (ByteArray × ByteArray × Int)) (xo0_5 : List (ByteArray × ByteArray × Int × Int × Int)) (xo1 : List (Int × Int)) : station_Edges.l3 (k + 1) x7 x8 x9 xo0_0 xo0_1 xo0_2 xo0_3 xo0_4 xo0_5 xo1 = if x9 < x8 then
      if 0 ≤ x9 then
        if x9 < (x7.length : Int) then
          (slices_Index_string.f k xo0_0 (rY3 x7 x9).2.1).bind fun r1 =>
          (slices_Index_string.f k xo0_0 (rY3 x7 x9).2.2.1).bind fun r2 =>
          if (xo1.length + [(r1, r2)].length) * 16 ≤ 140737488355328 then
            station_Edges.l3 k x7 x8 (wrap64 (x9 + 1)) xo0_0 xo0_1 xo0_2 xo0_3 xo0_4 xo0_5 (xo1 ++ [(r1, r2)])
          else none
        else none
      else none
    else some xo1 := rfl
def station_Edges.f (k : Nat) (a0 : List ByteArray × (List (ByteArray × ByteArray × ByteArray × Bool × Bool)) × (List (ByteArray × ByteArray × ByteArray × Int × Int × Int × Int × Int × Int)) × (List (ByteArray × ByteArray × Int × Int × Int)) × (List (ByteArray × ByteArray × Int)) × List (ByteArray × ByteArray × Int × Int × Int)) : Option (List (Int × Int)) :=
  station_Edges.l3 k a0.2.1 (a0.2.1.length : Int) 0 a0.1 a0.2.1 a0.2.2.1 a0.2.2.2.1 a0.2.2.2.2.1 a0.2.2.2.2.2 []
def bits_Mul64.f (k : Nat) (a0 : Int) (a1 : Int) : Option (Int × Int) :=
  if (0 : Int) ≤ 32 then
    if (0 : Int) ≤ 32 then
      if (0 : Int) ≤ 32 then
        if (0 : Int) ≤ 32 then
          if (0 : Int) ≤ 32 then
            some (IntKind.wrap .u64 ((IntKind.wrap .u64 ((IntKind.wrap .u64 ((shrI .u64 a0 32) * (shrI .u64 a1 32))) + (shrI .u64 (IntKind.wrap .u64 ((IntKind.wrap .u64 ((shrI .u64 a0 32) * (andI .u64 a1 4294967295))) + (shrI .u64 (IntKind.wrap .u64 ((andI .u64 a0 4294967295) * (andI .u64 a1 4294967295))) 32))) 32))) + (shrI .u64 (IntKind.wrap .u64 ((andI .u64 (IntKind.wrap .u64 ((IntKind.wrap .u64 ((shrI .u64 a0 32) * (andI .u64 a1 4294967295))) + (shrI .u64 (IntKind.wrap .u64 ((andI .u64 a0 4294967295) * (andI .u64 a1 4294967295))) 32))) 4294967295) + (IntKind.wrap .u64 ((andI .u64 a0 4294967295) * (shrI .u64 a1 32))))) 32)), IntKind.wrap .u64 (a0 * a1))
          else none
        else none
      else none
    else none
  else none
def bits_Mul.f (k : Nat) (a0 : Int) (a1 : Int) : Option (Int × Int) :=
  (bits_Mul64.f k a0 a1).bind fun r1 =>
  some r1
def slices_Repeat_int.l8 : Nat → Int → List Int → Option (List Int)
  | 0, _, _ => none
  | k + 1, x8, xo0 => if x8 < (xo0.length : Int) then
      if 0 ≤ x8 then
        if x8 ≤ (xo0.length : Int) then
          if x8 ≤ (xo0.length : Int) then
            if 0 ≤ x8 then
              slices_Repeat_int.l8 k (wrap64 (x8 + ((min ((Int.toNat (xo0.length : Int)) - (Int.toNat x8)) ((xo0.drop (Int.toNat 0)).take ((Int.toNat x8) - (Int.toNat 0)) : List Int).length : Nat) : Int))) (xo0.take (Int.toNat x8) ++ ((xo0.drop (Int.toNat 0)).take ((Int.toNat x8) - (Int.toNat 0)) : List Int).take (min ((Int.toNat (xo0.length : Int)) - (Int.toNat x8)) ((xo0.drop (Int.toNat 0)).take ((Int.toNat x8) - (Int.toNat 0)) : List Int).length) ++ xo0.drop ((Int.toNat x8) + min ((Int.toNat (xo0.length : Int)) - (Int.toNat x8)) ((xo0.drop (Int.toNat 0)).take ((Int.toNat x8) - (Int.toNat 0)) : List Int).length))
            else none
          else none
        else none
      else none
    else some xo0
theorem slices_Repeat_int.l8_eq (k : Nat) (x8 : Int) (xo0 : List Int) : slices_Repeat_int.l8 (k + 1) x8 xo0 = if x8 < (xo0.length : Int) then
      if 0 ≤ x8 then
        if x8 ≤ (xo0.length : Int) then
          if x8 ≤ (xo0.length : Int) then
            if 0 ≤ x8 then
              slices_Repeat_int.l8 k (wrap64 (x8 + ((min ((Int.toNat (xo0.length : Int)) - (Int.toNat x8)) ((xo0.drop (Int.toNat 0)).take ((Int.toNat x8) - (Int.toNat 0)) : List Int).length : Nat) : Int))) (xo0.take (Int.toNat x8) ++ ((xo0.drop (Int.toNat 0)).take ((Int.toNat x8) - (Int.toNat 0)) : List Int).take (min ((Int.toNat (xo0.length : Int)) - (Int.toNat x8)) ((xo0.drop (Int.toNat 0)).take ((Int.toNat x8) - (Int.toNat 0)) : List Int).length) ++ xo0.drop ((Int.toNat x8) + min ((Int.toNat (xo0.length : Int)) - (Int.toNat x8)) ((xo0.drop (Int.toNat 0)).take ((Int.toNat x8) - (Int.toNat 0)) : List Int).length))
            else none
          else none
        else none
      else none
    else some xo0 := rfl
def slices_Repeat_int.l6 : Nat → List Int → Int → Option (List Int)
  | 0, _, _ => none
  | k + 1, x0, x6 => if 0 ≤ (wrap64 (x6)) then
      if (wrap64 (x6)) * 8 ≤ 140737488355328 then
        if (wrap64 (x6)) ≤ 140737488355328 then
          slices_Repeat_int.l8 k ((min (List.replicate (wrap64 (x6)).toNat 0 : List Int).length x0.length : Nat) : Int) ((List.replicate (wrap64 (x6)).toNat 0 : List Int).take 0 ++ x0.take (min (List.replicate (wrap64 (x6)).toNat 0 : List Int).length x0.length) ++ (List.replicate (wrap64 (x6)).toNat 0 : List Int).drop (0 + min (List.replicate (wrap64 (x6)).toNat 0 : List Int).length x0.length))
        else none
      else none
    else none
theorem slices_Repeat_int.l6_eq (k : Nat) (x0 : List Int) (x6 : Int) : slices_Repeat_int.l6 (k + 1) x0 x6 = if 0 ≤ (wrap64 (x6)) then
      if (wrap64 (x6)) * 8 ≤ 140737488355328 then
        if (wrap64 (x6)) ≤ 140737488355328 then
          slices_Repeat_int.l8 k ((min (List.replicate (wrap64 (x6)).toNat 0 : List Int).length x0.length : Nat) : Int) ((List.replicate (wrap64 (x6)).toNat 0 : List Int).take 0 ++ x0.take (min (List.replicate (wrap64 (x6)).toNat 0 : List Int).length x0.length) ++ (List.replicate (wrap64 (x6)).toNat 0 : List Int).drop (0 + min (List.replicate (wrap64 (x6)).toNat 0 : List Int).length x0.length))
        else none
      else none
    else none := rfl
def slices_Repeat_int.l3 : Nat → List Int → Int → Option (List Int)
  | 0, _, _ => none
  | k + 1, x0, x1 => (bits_Mul.f k (IntKind.wrap .u64 ((x0.length : Int))) (IntKind.wrap .u64 (x1))).bind fun r1 =>
    if 0 < r1.1 then
      none
    else if 9223372036854775807 < r1.2 then
      none
    else slices_Repeat_int.l6 k x0 r1.2
theorem slices_Repeat_int.l3_eq (k : Nat) (x0 : List Int) (x1 : Int) : slices_Repeat_int.l3 (k + 1) x0 x1 = (bits_Mul.f k (IntKind.wrap .u64 ((x0.length : Int))) (IntKind.wrap .u64 (x1))).bind fun r1 =>
    if 0 < r1.1 then
      none
    else if 9223372036854775807 < r1.2 then
      none
    else slices_Repeat_int.l6 k x0 r1.2 := rfl
def slices_Repeat_int.f (k : Nat) (a0 : List Int) (a1 : Int) : Option (List Int) :=
  if a1 < 0 then
    none
  else slices_Repeat_int.l3 k a0 a1
def station_Buses_1.f (k : Nat) (a0 : Int) (ao0_0 : List ByteArray) (ao0_1 : List (ByteArray × ByteArray × ByteArray × Bool × Bool)) (ao0_2 : List (ByteArray × ByteArray × ByteArray × Int × Int × Int × Int × Int × Int)) (ao0_3 : List (ByteArray × ByteArray × Int × Int × Int)) (ao0_4 : List (ByteArray × ByteArray × Int)) (ao0_5 : List (ByteArray × ByteArray × Int × Int × Int)) : Option (Bool × List ByteArray × (List (ByteArray × ByteArray × ByteArray × Bool × Bool)) × (List (ByteArray × ByteArray × ByteArray × Int × Int × Int × Int × Int × Int)) × (List (ByteArray × ByteArray × Int × Int × Int)) × (List (ByteArray × ByteArray × Int)) × List (ByteArray × ByteArray × Int × Int × Int)) :=
  if 0 ≤ a0 then
    if a0 < (ao0_1.length : Int) then
      some (!decide ((rY3 ao0_1 a0).2.2.2.2 = true), ao0_0, ao0_1, ao0_2, ao0_3, ao0_4, ao0_5)
    else none
  else none
mutual
def graph_Parts.l4 : Nat → (List (Int × Int)) → Int → Int → Int → List ByteArray → (List (ByteArray × ByteArray × ByteArray × Bool × Bool)) → (List (ByteArray × ByteArray × ByteArray × Int × Int × Int × Int × Int × Int)) → (List (ByteArray × ByteArray × Int × Int × Int)) → (List (ByteArray × ByteArray × Int)) → (List (ByteArray × ByteArray × Int × Int × Int)) → List Int → Option (List Int × List ByteArray × (List (ByteArray × ByteArray × ByteArray × Bool × Bool)) × (List (ByteArray × ByteArray × ByteArray × Int × Int × Int × Int × Int × Int)) × (List (ByteArray × ByteArray × Int × Int × Int)) × (List (ByteArray × ByteArray × Int)) × List (ByteArray × ByteArray × Int × Int × Int))
  | 0, _, _, _, _, _, _, _, _, _, _, _ => none
  | k + 1, x1, x8, x18, x19, xo0_0, xo0_1, xo0_2, xo0_3, xo0_4, xo0_5, xo2 => if x19 < x18 then
      if 0 ≤ x19 then
        if x19 < (xo2.length : Int) then
          if 0 ≤ (rI64 xo2 x19) then
            graph_Parts.l4 k x1 x8 x18 (wrap64 (x19 + 1)) xo0_0 xo0_1 xo0_2 xo0_3 xo0_4 xo0_5 xo2
          else if 0 ≤ x19 then
            if x19 < (xo2.length : Int) then
              graph_Parts.l9 k x1 x8 true x18 x19 xo0_0 xo0_1 xo0_2 xo0_3 xo0_4 xo0_5 (xo2.set x19.toNat x8)
            else none
          else none
        else none
      else none
    else some (xo2, xo0_0, xo0_1, xo0_2, xo0_3, xo0_4, xo0_5)
def graph_Parts.l9 : Nat → (List (Int × Int)) → Int → Bool → Int → Int → List ByteArray → (List (ByteArray × ByteArray × ByteArray × Bool × Bool)) → (List (ByteArray × ByteArray × ByteArray × Int × Int × Int × Int × Int × Int)) → (List (ByteArray × ByteArray × Int × Int × Int)) → (List (ByteArray × ByteArray × Int)) → (List (ByteArray × ByteArray × Int × Int × Int)) → List Int → Option (List Int × List ByteArray × (List (ByteArray × ByteArray × ByteArray × Bool × Bool)) × (List (ByteArray × ByteArray × ByteArray × Int × Int × Int × Int × Int × Int)) × (List (ByteArray × ByteArray × Int × Int × Int)) × (List (ByteArray × ByteArray × Int)) × List (ByteArray × ByteArray × Int × Int × Int))
  | 0, _, _, _, _, _, _, _, _, _, _, _, _ => none
  | k + 1, x1, x8, x10, x18, x19, xo0_0, xo0_1, xo0_2, xo0_3, xo0_4, xo0_5, xo2 => if x10 = true then
      graph_Parts.l12 k x1 x8 false x18 x19 x1 (x1.length : Int) 0 xo0_0 xo0_1 xo0_2 xo0_3 xo0_4 xo0_5 xo2
    else graph_Parts.l4 k x1 (wrap64 (x8 + 1)) x18 (wrap64 (x19 + 1)) xo0_0 xo0_1 xo0_2 xo0_3 xo0_4 xo0_5 xo2
def graph_Parts.l12 : Nat → (List (Int × Int)) → Int → Bool → Int → Int → (List (Int × Int)) → Int → Int → List ByteArray → (List (ByteArray × ByteArray × ByteArray × Bool × Bool)) → (List (ByteArray × ByteArray × ByteArray × Int × Int × Int × Int × Int × Int)) → (List (ByteArray × ByteArray × Int × Int × Int)) → (List (ByteArray × ByteArray × Int)) → (List (ByteArray × ByteArray × Int × Int × Int)) → List Int → Option (List Int × List ByteArray × (List (ByteArray × ByteArray × ByteArray × Bool × Bool)) × (List (ByteArray × ByteArray × ByteArray × Int × Int × Int × Int × Int × Int)) × (List (ByteArray × ByteArray × Int × Int × Int)) × (List (ByteArray × ByteArray × Int)) × List (ByteArray × ByteArray × Int × Int × Int))
  | 0, _, _, _, _, _, _, _, _, _, _, _, _, _, _, _ => none
  | k + 1, x1, x8, x10, x18, x19, x32, x33, x34, xo0_0, xo0_1, xo0_2, xo0_3, xo0_4, xo0_5, xo2 => if x34 < x33 then
      if 0 ≤ x34 then
        if x34 < (x32.length : Int) then
          if [0, 0].length = 2 then
            if (0 : Int) ≤ 0 then
              if (0 : Int) < 2 then
                if 0 < ([(rY4 x32 x34).1, (rY4 x32 x34).2].length : Int) then
                  if 0 ≤ (rI64 [(rY4 x32 x34).1, (rY4 x32 x34).2] 0) then
                    if (rI64 [(rY4 x32 x34).1, (rY4 x32 x34).2] 0) < (xo2.length : Int) then
                      if (0 : Int) ≤ 1 then
                        if (1 : Int) < 2 then
                          if 1 < ([(rY4 x32 x34).1, (rY4 x32 x34).2].length : Int) then
                            if 0 ≤ (rI64 [(rY4 x32 x34).1, (rY4 x32 x34).2] 1) then
                              if (rI64 [(rY4 x32 x34).1, (rY4 x32 x34).2] 1) < (xo2.length : Int) then
                                if (decide ((rI64 xo2 (rI64 [(rY4 x32 x34).1, (rY4 x32 x34).2] 0)) = x8)) = (decide ((rI64 xo2 (rI64 [(rY4 x32 x34).1, (rY4 x32 x34).2] 1)) = x8)) then
                                  graph_Parts.l12 k x1 x8 x10 x18 x19 x32 x33 (wrap64 (x34 + 1)) xo0_0 xo0_1 xo0_2 xo0_3 xo0_4 xo0_5 xo2
                                else (station_Buses_1.f k x34 xo0_0 xo0_1 xo0_2 xo0_3 xo0_4 xo0_5).bind fun r2 =>
                                if r2.1 = true then
                                  if (0 : Int) ≤ 0 then
                                    if (0 : Int) < 2 then
                                      if 0 < ([(rY4 x32 x34).1, (rY4 x32 x34).2].length : Int) then
                                        if (0 : Int) ≤ 1 then
                                          if (1 : Int) < 2 then
                                            if 1 < ([(rY4 x32 x34).1, (rY4 x32 x34).2].length : Int) then
                                              if 0 ≤ (rI64 [(rY4 x32 x34).1, (rY4 x32 x34).2] 0) then
                                                if (rI64 [(rY4 x32 x34).1, (rY4 x32 x34).2] 0) < (xo2.length : Int) then
                                                  if 0 ≤ (rI64 [(rY4 x32 x34).1, (rY4 x32 x34).2] 1) then
                                                    if (rI64 [(rY4 x32 x34).1, (rY4 x32 x34).2] 1) < ((xo2.set (rI64 [(rY4 x32 x34).1, (rY4 x32 x34).2] 0).toNat x8).length : Int) then
                                                      graph_Parts.l12 k x1 x8 true x18 x19 x32 x33 (wrap64 (x34 + 1)) r2.2.1 r2.2.2.1 r2.2.2.2.1 r2.2.2.2.2.1 r2.2.2.2.2.2.1 r2.2.2.2.2.2.2 ((xo2.set (rI64 [(rY4 x32 x34).1, (rY4 x32 x34).2] 0).toNat x8).set (rI64 [(rY4 x32 x34).1, (rY4 x32 x34).2] 1).toNat x8)
                                                    else none
                                                  else none
                                                else none
                                              else none
                                            else none
                                          else none
                                        else none
                                      else none
                                    else none
                                  else none
                                else graph_Parts.l12 k x1 x8 x10 x18 x19 x32 x33 (wrap64 (x34 + 1)) r2.2.1 r2.2.2.1 r2.2.2.2.1 r2.2.2.2.2.1 r2.2.2.2.2.2.1 r2.2.2.2.2.2.2 xo2
                              else none
                            else none
                          else none
                        else none
                      else none
                    else none
                  else none
                else none
              else none
            else none
          else none
        else none
      else none
    else graph_Parts.l9 k x1 x8 x10 x18 x19 xo0_0 xo0_1 xo0_2 xo0_3 xo0_4 xo0_5 xo2
end
theorem graph_Parts.l4_eq (k : Nat) (x1 : List (Int × Int)) (x8 : Int) (x18 : Int) (x19 : Int) (xo0_0 : List ByteArray) (xo0_1 : List (ByteArray × ByteArray × ByteArray × Bool × Bool)) (xo0_2 : List (ByteArray × ByteArray × ByteArray × Int × Int × Int × Int × Int × Int)) (xo0_3 : List (ByteArray × ByteArray × Int × Int × Int)) (xo0_4 : List (ByteArray × ByteArray × Int)) (xo0_5 : List (ByteArray × ByteArray × Int × Int × Int)) (xo2 : List Int) : graph_Parts.l4 (k + 1) x1 x8 x18 x19 xo0_0 xo0_1 xo0_2 xo0_3 xo0_4 xo0_5 xo2 = if x19 < x18 then
      if 0 ≤ x19 then
        if x19 < (xo2.length : Int) then
          if 0 ≤ (rI64 xo2 x19) then
            graph_Parts.l4 k x1 x8 x18 (wrap64 (x19 + 1)) xo0_0 xo0_1 xo0_2 xo0_3 xo0_4 xo0_5 xo2
          else if 0 ≤ x19 then
            if x19 < (xo2.length : Int) then
              graph_Parts.l9 k x1 x8 true x18 x19 xo0_0 xo0_1 xo0_2 xo0_3 xo0_4 xo0_5 (xo2.set x19.toNat x8)
            else none
          else none
        else none
      else none
    else some (xo2, xo0_0, xo0_1, xo0_2, xo0_3, xo0_4, xo0_5) := rfl
theorem graph_Parts.l9_eq (k : Nat) (x1 : List (Int × Int)) (x8 : Int) (x10 : Bool) (x18 : Int) (x19 : Int) (xo0_0 : List ByteArray) (xo0_1 : List (ByteArray × ByteArray × ByteArray × Bool × Bool)) (xo0_2 : List (ByteArray × ByteArray × ByteArray × Int × Int × Int × Int × Int × Int)) (xo0_3 : List (ByteArray × ByteArray × Int × Int × Int)) (xo0_4 : List (ByteArray × ByteArray × Int)) (xo0_5 : List (ByteArray × ByteArray × Int × Int × Int)) (xo2 : List Int) : graph_Parts.l9 (k + 1) x1 x8 x10 x18 x19 xo0_0 xo0_1 xo0_2 xo0_3 xo0_4 xo0_5 xo2 = if x10 = true then
      graph_Parts.l12 k x1 x8 false x18 x19 x1 (x1.length : Int) 0 xo0_0 xo0_1 xo0_2 xo0_3 xo0_4 xo0_5 xo2
    else graph_Parts.l4 k x1 (wrap64 (x8 + 1)) x18 (wrap64 (x19 + 1)) xo0_0 xo0_1 xo0_2 xo0_3 xo0_4 xo0_5 xo2 := rfl
theorem graph_Parts.l12_eq (k : Nat) (x1 : List (Int × Int)) (x8 : Int) (x10 : Bool) (x18 : Int) (x19 : Int) (x32 : List (Int × Int)) (x33 : Int) (x34 : Int) (xo0_0 : List ByteArray) (xo0_1 : List (ByteArray × ByteArray × ByteArray × Bool × Bool)) (xo0_2 : List (ByteArray × ByteArray × ByteArray × Int × Int × Int × Int × Int × Int)) (xo0_3 : List (ByteArray × ByteArray × Int × Int × Int)) (xo0_4 : List (ByteArray × ByteArray × Int)) (xo0_5 : List (ByteArray × ByteArray × Int × Int × Int)) (xo2 : List Int) : graph_Parts.l12 (k + 1) x1 x8 x10 x18 x19 x32 x33 x34 xo0_0 xo0_1 xo0_2 xo0_3 xo0_4 xo0_5 xo2 = if x34 < x33 then
      if 0 ≤ x34 then
        if x34 < (x32.length : Int) then
          if [0, 0].length = 2 then
            if (0 : Int) ≤ 0 then
              if (0 : Int) < 2 then
                if 0 < ([(rY4 x32 x34).1, (rY4 x32 x34).2].length : Int) then
                  if 0 ≤ (rI64 [(rY4 x32 x34).1, (rY4 x32 x34).2] 0) then
                    if (rI64 [(rY4 x32 x34).1, (rY4 x32 x34).2] 0) < (xo2.length : Int) then
                      if (0 : Int) ≤ 1 then
                        if (1 : Int) < 2 then
                          if 1 < ([(rY4 x32 x34).1, (rY4 x32 x34).2].length : Int) then
                            if 0 ≤ (rI64 [(rY4 x32 x34).1, (rY4 x32 x34).2] 1) then
                              if (rI64 [(rY4 x32 x34).1, (rY4 x32 x34).2] 1) < (xo2.length : Int) then
                                if (decide ((rI64 xo2 (rI64 [(rY4 x32 x34).1, (rY4 x32 x34).2] 0)) = x8)) = (decide ((rI64 xo2 (rI64 [(rY4 x32 x34).1, (rY4 x32 x34).2] 1)) = x8)) then
                                  graph_Parts.l12 k x1 x8 x10 x18 x19 x32 x33 (wrap64 (x34 + 1)) xo0_0 xo0_1 xo0_2 xo0_3 xo0_4 xo0_5 xo2
                                else (station_Buses_1.f k x34 xo0_0 xo0_1 xo0_2 xo0_3 xo0_4 xo0_5).bind fun r2 =>
                                if r2.1 = true then
                                  if (0 : Int) ≤ 0 then
                                    if (0 : Int) < 2 then
                                      if 0 < ([(rY4 x32 x34).1, (rY4 x32 x34).2].length : Int) then
                                        if (0 : Int) ≤ 1 then
                                          if (1 : Int) < 2 then
                                            if 1 < ([(rY4 x32 x34).1, (rY4 x32 x34).2].length : Int) then
                                              if 0 ≤ (rI64 [(rY4 x32 x34).1, (rY4 x32 x34).2] 0) then
                                                if (rI64 [(rY4 x32 x34).1, (rY4 x32 x34).2] 0) < (xo2.length : Int) then
                                                  if 0 ≤ (rI64 [(rY4 x32 x34).1, (rY4 x32 x34).2] 1) then
                                                    if (rI64 [(rY4 x32 x34).1, (rY4 x32 x34).2] 1) < ((xo2.set (rI64 [(rY4 x32 x34).1, (rY4 x32 x34).2] 0).toNat x8).length : Int) then
                                                      graph_Parts.l12 k x1 x8 true x18 x19 x32 x33 (wrap64 (x34 + 1)) r2.2.1 r2.2.2.1 r2.2.2.2.1 r2.2.2.2.2.1 r2.2.2.2.2.2.1 r2.2.2.2.2.2.2 ((xo2.set (rI64 [(rY4 x32 x34).1, (rY4 x32 x34).2] 0).toNat x8).set (rI64 [(rY4 x32 x34).1, (rY4 x32 x34).2] 1).toNat x8)
                                                    else none
                                                  else none
                                                else none
                                              else none
                                            else none
                                          else none
                                        else none
                                      else none
                                    else none
                                  else none
                                else graph_Parts.l12 k x1 x8 x10 x18 x19 x32 x33 (wrap64 (x34 + 1)) r2.2.1 r2.2.2.1 r2.2.2.2.1 r2.2.2.2.2.1 r2.2.2.2.2.2.1 r2.2.2.2.2.2.2 xo2
                              else none
                            else none
                          else none
                        else none
                      else none
                    else none
                  else none
                else none
              else none
            else none
          else none
        else none
      else none
    else graph_Parts.l9 k x1 x8 x10 x18 x19 xo0_0 xo0_1 xo0_2 xo0_3 xo0_4 xo0_5 xo2 := rfl
def graph_Parts.f (k : Nat) (a0 : Int) (a1 : List (Int × Int)) (ao1_0 : List ByteArray) (ao1_1 : List (ByteArray × ByteArray × ByteArray × Bool × Bool)) (ao1_2 : List (ByteArray × ByteArray × ByteArray × Int × Int × Int × Int × Int × Int)) (ao1_3 : List (ByteArray × ByteArray × Int × Int × Int)) (ao1_4 : List (ByteArray × ByteArray × Int)) (ao1_5 : List (ByteArray × ByteArray × Int × Int × Int)) : Option (List Int × List ByteArray × (List (ByteArray × ByteArray × ByteArray × Bool × Bool)) × (List (ByteArray × ByteArray × ByteArray × Int × Int × Int × Int × Int × Int)) × (List (ByteArray × ByteArray × Int × Int × Int)) × (List (ByteArray × ByteArray × Int)) × List (ByteArray × ByteArray × Int × Int × Int)) :=
  (slices_Repeat_int.f k [(-1)] a0).bind fun r1 =>
  graph_Parts.l4 k a1 0 a0 0 ao1_0 ao1_1 ao1_2 ao1_3 ao1_4 ao1_5 r1
def station_Buses.f (k : Nat) (a0 : List ByteArray × (List (ByteArray × ByteArray × ByteArray × Bool × Bool)) × (List (ByteArray × ByteArray × ByteArray × Int × Int × Int × Int × Int × Int)) × (List (ByteArray × ByteArray × Int × Int × Int)) × (List (ByteArray × ByteArray × Int)) × List (ByteArray × ByteArray × Int × Int × Int)) : Option (List Int) :=
  (station_Edges.f k a0).bind fun r1 =>
  (graph_Parts.f k (a0.1.length : Int) r1 a0.1 a0.2.1 a0.2.2.1 a0.2.2.2.1 a0.2.2.2.2.1 a0.2.2.2.2.2).bind fun r2 =>
  some r2.1
def graph_Count.l3 : Nat → Int → List Int → Int → Int → Option Int
  | 0, _, _, _, _ => none
  | k + 1, x3, x6, x7, x8 => if x8 < x7 then
      if 0 ≤ x8 then
        if x8 < (x6.length : Int) then
          graph_Count.l3 k (mx x3 (wrap64 ((rI64 x6 x8) + 1))) x6 x7 (wrap64 (x8 + 1))
        else none
      else none
    else some x3
theorem graph_Count.l3_eq (k : Nat) (x3 : Int) (x6 : List Int) (x7 : Int) (x8 : Int) : graph_Count.l3 (k + 1) x3 x6 x7 x8 = if x8 < x7 then
      if 0 ≤ x8 then
        if x8 < (x6.length : Int) then
          graph_Count.l3 k (mx x3 (wrap64 ((rI64 x6 x8) + 1))) x6 x7 (wrap64 (x8 + 1))
        else none
      else none
    else some x3 := rfl
def graph_Count.f (k : Nat) (a0 : List Int) : Option Int :=
  graph_Count.l3 k 0 a0 (a0.length : Int) 0
def topology_Wires.l3 : Nat → List Int → (List (ByteArray × ByteArray × ByteArray × Int × Int × Int × Int × Int × Int)) → Int → Int → List ByteArray → (List (ByteArray × ByteArray × ByteArray × Bool × Bool)) → (List (ByteArray × ByteArray × ByteArray × Int × Int × Int × Int × Int × Int)) → (List (ByteArray × ByteArray × Int × Int × Int)) → (List (ByteArray × ByteArray × Int)) → (List (ByteArray × ByteArray × Int × Int × Int)) → (List (Int × Int)) → Option (List (Int × Int))
  | 0, _, _, _, _, _, _, _, _, _, _, _ => none
  | k + 1, x1, x9, x10, x11, xo0_0, xo0_1, xo0_2, xo0_3, xo0_4, xo0_5, xo1 => if x11 < x10 then
      if 0 ≤ x11 then
        if x11 < (x9.length : Int) then
          (slices_Index_string.f k xo0_0 (rY11 x9 x11).2.1).bind fun r1 =>
          if 0 ≤ r1 then
            if r1 < (x1.length : Int) then
              (slices_Index_string.f k xo0_0 (rY11 x9 x11).2.2.1).bind fun r2 =>
              if 0 ≤ r2 then
                if r2 < (x1.length : Int) then
                  if (xo1.length + [(rI64 x1 r1, rI64 x1 r2)].length) * 16 ≤ 140737488355328 then
                    topology_Wires.l3 k x1 x9 x10 (wrap64 (x11 + 1)) xo0_0 xo0_1 xo0_2 xo0_3 xo0_4 xo0_5 (xo1 ++ [(rI64 x1 r1, rI64 x1 r2)])
                  else none
                else none
              else none
            else none
          else none
        else none
      else none
    else some xo1
theorem topology_Wires.l3_eq (k : Nat) (x1 : List Int) (x9 : List (ByteArray × ByteArray × ByteArray × Int × Int × Int × Int × Int × Int)) (x10 : Int) (x11 : Int) (xo0_0 : List ByteArray) (xo0_1 : List (ByteArray × ByteArray × ByteArray × Bool × Bool)) (xo0_2 : List (ByteArray × ByteArray × ByteArray × Int × Int × Int × Int × Int × Int)) (xo0_3 : List (ByteArray × ByteArray × Int × Int × Int)) (xo0_4 : List (ByteArray × ByteArray × Int)) (xo0_5 : List (ByteArray × ByteArray × Int × Int × Int)) (xo1 : List (Int × Int)) : topology_Wires.l3 (k + 1) x1 x9 x10 x11 xo0_0 xo0_1 xo0_2 xo0_3 xo0_4 xo0_5 xo1 = if x11 < x10 then
      if 0 ≤ x11 then
        if x11 < (x9.length : Int) then
          (slices_Index_string.f k xo0_0 (rY11 x9 x11).2.1).bind fun r1 =>
          if 0 ≤ r1 then
            if r1 < (x1.length : Int) then
              (slices_Index_string.f k xo0_0 (rY11 x9 x11).2.2.1).bind fun r2 =>
              if 0 ≤ r2 then
                if r2 < (x1.length : Int) then
                  if (xo1.length + [(rI64 x1 r1, rI64 x1 r2)].length) * 16 ≤ 140737488355328 then
                    topology_Wires.l3 k x1 x9 x10 (wrap64 (x11 + 1)) xo0_0 xo0_1 xo0_2 xo0_3 xo0_4 xo0_5 (xo1 ++ [(rI64 x1 r1, rI64 x1 r2)])
                  else none
                else none
              else none
            else none
          else none
        else none
      else none
    else some xo1 := rfl
def topology_Wires.f (k : Nat) (a0 : List ByteArray × (List (ByteArray × ByteArray × ByteArray × Bool × Bool)) × (List (ByteArray × ByteArray × ByteArray × Int × Int × Int × Int × Int × Int)) × (List (ByteArray × ByteArray × Int × Int × Int)) × (List (ByteArray × ByteArray × Int)) × List (ByteArray × ByteArray × Int × Int × Int)) (a1 : List Int) : Option (List (Int × Int)) :=
  topology_Wires.l3 k a1 a0.2.2.1 (a0.2.2.1.length : Int) 0 a0.1 a0.2.1 a0.2.2.1 a0.2.2.2.1 a0.2.2.2.2.1 a0.2.2.2.2.2 []
def topology_Fresh_1.f (k : Nat) (a0 : Int) : Option Bool :=
  some true
mutual
def graph_Parts'.l4 : Nat → (List (Int × Int)) → Int → Int → Int → List Int → Option (List Int)
  | 0, _, _, _, _, _ => none
  | k + 1, x1, x8, x18, x19, xo0 => if x19 < x18 then
      if 0 ≤ x19 then
        if x19 < (xo0.length : Int) then
          if 0 ≤ (rI64 xo0 x19) then
            graph_Parts'.l4 k x1 x8 x18 (wrap64 (x19 + 1)) xo0
          else if 0 ≤ x19 then
            if x19 < (xo0.length : Int) then
              graph_Parts'.l9 k x1 x8 true x18 x19 (xo0.set x19.toNat x8)
            else none
          else none
        else none
      else none
    else some xo0
def graph_Parts'.l9 : Nat → (List (Int × Int)) → Int → Bool → Int → Int → List Int → Option (List Int)
  | 0, _, _, _, _, _, _ => none
  | k + 1, x1, x8, x10, x18, x19, xo0 => if x10 = true then
      graph_Parts'.l12 k x1 x8 false x18 x19 x1 (x1.length : Int) 0 xo0
    else graph_Parts'.l4 k x1 (wrap64 (x8 + 1)) x18 (wrap64 (x19 + 1)) xo0
def graph_Parts'.l12 : Nat → (List (Int × Int)) → Int → Bool → Int → Int → (List (Int × Int)) → Int → Int → List Int → Option (List Int)
  | 0, _, _, _, _, _, _, _, _, _ => none
  | k + 1, x1, x8, x10, x18, x19, x32, x33, x34, xo0 => if x34 < x33 then
      if 0 ≤ x34 then
        if x34 < (x32.length : Int) then
          if [0, 0].length = 2 then
            if (0 : Int) ≤ 0 then
              if (0 : Int) < 2 then
                if 0 < ([(rY4 x32 x34).1, (rY4 x32 x34).2].length : Int) then
                  if 0 ≤ (rI64 [(rY4 x32 x34).1, (rY4 x32 x34).2] 0) then
                    if (rI64 [(rY4 x32 x34).1, (rY4 x32 x34).2] 0) < (xo0.length : Int) then
                      if (0 : Int) ≤ 1 then
                        if (1 : Int) < 2 then
                          if 1 < ([(rY4 x32 x34).1, (rY4 x32 x34).2].length : Int) then
                            if 0 ≤ (rI64 [(rY4 x32 x34).1, (rY4 x32 x34).2] 1) then
                              if (rI64 [(rY4 x32 x34).1, (rY4 x32 x34).2] 1) < (xo0.length : Int) then
                                if (decide ((rI64 xo0 (rI64 [(rY4 x32 x34).1, (rY4 x32 x34).2] 0)) = x8)) = (decide ((rI64 xo0 (rI64 [(rY4 x32 x34).1, (rY4 x32 x34).2] 1)) = x8)) then
                                  graph_Parts'.l12 k x1 x8 x10 x18 x19 x32 x33 (wrap64 (x34 + 1)) xo0
                                else (topology_Fresh_1.f k x34).bind fun r2 =>
                                if r2 = true then
                                  if (0 : Int) ≤ 0 then
                                    if (0 : Int) < 2 then
                                      if 0 < ([(rY4 x32 x34).1, (rY4 x32 x34).2].length : Int) then
                                        if (0 : Int) ≤ 1 then
                                          if (1 : Int) < 2 then
                                            if 1 < ([(rY4 x32 x34).1, (rY4 x32 x34).2].length : Int) then
                                              if 0 ≤ (rI64 [(rY4 x32 x34).1, (rY4 x32 x34).2] 0) then
                                                if (rI64 [(rY4 x32 x34).1, (rY4 x32 x34).2] 0) < (xo0.length : Int) then
                                                  if 0 ≤ (rI64 [(rY4 x32 x34).1, (rY4 x32 x34).2] 1) then
                                                    if (rI64 [(rY4 x32 x34).1, (rY4 x32 x34).2] 1) < ((xo0.set (rI64 [(rY4 x32 x34).1, (rY4 x32 x34).2] 0).toNat x8).length : Int) then
                                                      graph_Parts'.l12 k x1 x8 true x18 x19 x32 x33 (wrap64 (x34 + 1)) ((xo0.set (rI64 [(rY4 x32 x34).1, (rY4 x32 x34).2] 0).toNat x8).set (rI64 [(rY4 x32 x34).1, (rY4 x32 x34).2] 1).toNat x8)
                                                    else none
                                                  else none
                                                else none
                                              else none
                                            else none
                                          else none
                                        else none
                                      else none
                                    else none
                                  else none
                                else graph_Parts'.l12 k x1 x8 x10 x18 x19 x32 x33 (wrap64 (x34 + 1)) xo0
                              else none
                            else none
                          else none
                        else none
                      else none
                    else none
                  else none
                else none
              else none
            else none
          else none
        else none
      else none
    else graph_Parts'.l9 k x1 x8 x10 x18 x19 xo0
end
theorem graph_Parts'.l4_eq (k : Nat) (x1 : List (Int × Int)) (x8 : Int) (x18 : Int) (x19 : Int) (xo0 : List Int) : graph_Parts'.l4 (k + 1) x1 x8 x18 x19 xo0 = if x19 < x18 then
      if 0 ≤ x19 then
        if x19 < (xo0.length : Int) then
          if 0 ≤ (rI64 xo0 x19) then
            graph_Parts'.l4 k x1 x8 x18 (wrap64 (x19 + 1)) xo0
          else if 0 ≤ x19 then
            if x19 < (xo0.length : Int) then
              graph_Parts'.l9 k x1 x8 true x18 x19 (xo0.set x19.toNat x8)
            else none
          else none
        else none
      else none
    else some xo0 := rfl
theorem graph_Parts'.l9_eq (k : Nat) (x1 : List (Int × Int)) (x8 : Int) (x10 : Bool) (x18 : Int) (x19 : Int) (xo0 : List Int) : graph_Parts'.l9 (k + 1) x1 x8 x10 x18 x19 xo0 = if x10 = true then
      graph_Parts'.l12 k x1 x8 false x18 x19 x1 (x1.length : Int) 0 xo0
    else graph_Parts'.l4 k x1 (wrap64 (x8 + 1)) x18 (wrap64 (x19 + 1)) xo0 := rfl
theorem graph_Parts'.l12_eq (k : Nat) (x1 : List (Int × Int)) (x8 : Int) (x10 : Bool) (x18 : Int) (x19 : Int) (x32 : List (Int × Int)) (x33 : Int) (x34 : Int) (xo0 : List Int) : graph_Parts'.l12 (k + 1) x1 x8 x10 x18 x19 x32 x33 x34 xo0 = if x34 < x33 then
      if 0 ≤ x34 then
        if x34 < (x32.length : Int) then
          if [0, 0].length = 2 then
            if (0 : Int) ≤ 0 then
              if (0 : Int) < 2 then
                if 0 < ([(rY4 x32 x34).1, (rY4 x32 x34).2].length : Int) then
                  if 0 ≤ (rI64 [(rY4 x32 x34).1, (rY4 x32 x34).2] 0) then
                    if (rI64 [(rY4 x32 x34).1, (rY4 x32 x34).2] 0) < (xo0.length : Int) then
                      if (0 : Int) ≤ 1 then
                        if (1 : Int) < 2 then
                          if 1 < ([(rY4 x32 x34).1, (rY4 x32 x34).2].length : Int) then
                            if 0 ≤ (rI64 [(rY4 x32 x34).1, (rY4 x32 x34).2] 1) then
                              if (rI64 [(rY4 x32 x34).1, (rY4 x32 x34).2] 1) < (xo0.length : Int) then
                                if (decide ((rI64 xo0 (rI64 [(rY4 x32 x34).1, (rY4 x32 x34).2] 0)) = x8)) = (decide ((rI64 xo0 (rI64 [(rY4 x32 x34).1, (rY4 x32 x34).2] 1)) = x8)) then
                                  graph_Parts'.l12 k x1 x8 x10 x18 x19 x32 x33 (wrap64 (x34 + 1)) xo0
                                else (topology_Fresh_1.f k x34).bind fun r2 =>
                                if r2 = true then
                                  if (0 : Int) ≤ 0 then
                                    if (0 : Int) < 2 then
                                      if 0 < ([(rY4 x32 x34).1, (rY4 x32 x34).2].length : Int) then
                                        if (0 : Int) ≤ 1 then
                                          if (1 : Int) < 2 then
                                            if 1 < ([(rY4 x32 x34).1, (rY4 x32 x34).2].length : Int) then
                                              if 0 ≤ (rI64 [(rY4 x32 x34).1, (rY4 x32 x34).2] 0) then
                                                if (rI64 [(rY4 x32 x34).1, (rY4 x32 x34).2] 0) < (xo0.length : Int) then
                                                  if 0 ≤ (rI64 [(rY4 x32 x34).1, (rY4 x32 x34).2] 1) then
                                                    if (rI64 [(rY4 x32 x34).1, (rY4 x32 x34).2] 1) < ((xo0.set (rI64 [(rY4 x32 x34).1, (rY4 x32 x34).2] 0).toNat x8).length : Int) then
                                                      graph_Parts'.l12 k x1 x8 true x18 x19 x32 x33 (wrap64 (x34 + 1)) ((xo0.set (rI64 [(rY4 x32 x34).1, (rY4 x32 x34).2] 0).toNat x8).set (rI64 [(rY4 x32 x34).1, (rY4 x32 x34).2] 1).toNat x8)
                                                    else none
                                                  else none
                                                else none
                                              else none
                                            else none
                                          else none
                                        else none
                                      else none
                                    else none
                                  else none
                                else graph_Parts'.l12 k x1 x8 x10 x18 x19 x32 x33 (wrap64 (x34 + 1)) xo0
                              else none
                            else none
                          else none
                        else none
                      else none
                    else none
                  else none
                else none
              else none
            else none
          else none
        else none
      else none
    else graph_Parts'.l9 k x1 x8 x10 x18 x19 xo0 := rfl
def graph_Parts'.f (k : Nat) (a0 : Int) (a1 : List (Int × Int)) : Option (List Int) :=
  (slices_Repeat_int.f k [(-1)] a0).bind fun r1 =>
  graph_Parts'.l4 k a1 0 a0 0 r1
def topology_Fresh.f (k : Nat) (a0 : List ByteArray × (List (ByteArray × ByteArray × ByteArray × Bool × Bool)) × (List (ByteArray × ByteArray × ByteArray × Int × Int × Int × Int × Int × Int)) × (List (ByteArray × ByteArray × Int × Int × Int)) × (List (ByteArray × ByteArray × Int)) × List (ByteArray × ByteArray × Int × Int × Int)) : Option (List Int × List Int) :=
  (station_Buses.f k a0).bind fun r1 =>
  (graph_Count.f k r1).bind fun r2 =>
  (topology_Wires.f k a0 r1).bind fun r3 =>
  (graph_Parts'.f k r2 r3).bind fun r4 =>
  some (r1, r4)
def topology_Of.f (k : Nat) (a0 : List ByteArray × (List (ByteArray × ByteArray × ByteArray × Bool × Bool)) × (List (ByteArray × ByteArray × ByteArray × Int × Int × Int × Int × Int × Int)) × (List (ByteArray × ByteArray × Int × Int × Int)) × (List (ByteArray × ByteArray × Int)) × List (ByteArray × ByteArray × Int × Int × Int)) : Option ((List Int × List Int) × Int) :=
  (netmodel_Check.f k a0).bind fun r1 =>
  if r1 = 0 then
    (topology_Fresh.f k a0).bind fun r2 =>
    some (r2, 0)
  else some (([], []), r1)
def stringslite_HasPrefix.f (k : Nat) (a0 : ByteArray) (a1 : ByteArray) : Option Bool :=
  if (a1.size : Int) ≤ (a0.size : Int) then
    if (a1.size : Int) ≤ (a0.size : Int) then
      if 0 ≤ (a1.size : Int) then
        some (decide ((a0.extract (Int.toNat 0) (Int.toNat (a1.size : Int))) = a1))
      else none
    else none
  else some false
def stringslite_CutPrefix.f (k : Nat) (a0 : ByteArray) (a1 : ByteArray) : Option (ByteArray × Bool) :=
  (stringslite_HasPrefix.f k a0 a1).bind fun r1 =>
  if r1 = true then
    if 0 ≤ (a1.size : Int) then
      if (a1.size : Int) ≤ (a0.size : Int) then
        some (a0.extract (Int.toNat (a1.size : Int)) (Int.toNat (a0.size : Int)), true)
      else none
    else none
  else some (a0, false)
def strings_CutPrefix.f (k : Nat) (a0 : ByteArray) (a1 : ByteArray) : Option (ByteArray × Bool) :=
  (stringslite_CutPrefix.f k a0 a1).bind fun r1 =>
  some r1
def stringslite_IndexByte.f (k : Nat) (a0 : ByteArray) (a1 : Int) : Option Int :=
  some (idxB a0 a1)
def stringslite_Index.f (k : Nat) (a0 : ByteArray) (a1 : ByteArray) : Option Int :=
  if (a1.size : Int) = 0 then
    some 0
  else if a1 = a0 then
    some 0
  else if (a1.size : Int) = 1 then
    if (0 : Int) ≤ 0 then
      if 0 < (a1.size : Int) then
        (stringslite_IndexByte.f k a0 (bt a1 0)).bind fun r1 =>
        some r1
      else none
    else none
  else if (a0.size : Int) ≤ (a1.size : Int) then
    some (-1)
  else none
def stringslite_Cut.f (k : Nat) (a0 : ByteArray) (a1 : ByteArray) : Option (ByteArray × ByteArray × Bool) :=
  (stringslite_Index.f k a0 a1).bind fun r1 =>
  if 0 ≤ r1 then
    if r1 ≤ (a0.size : Int) then
      if 0 ≤ r1 then
        if 0 ≤ (wrap64 (r1 + (a1.size : Int))) then
          if (wrap64 (r1 + (a1.size : Int))) ≤ (a0.size : Int) then
            some (a0.extract (Int.toNat 0) (Int.toNat r1), a0.extract (Int.toNat (wrap64 (r1 + (a1.size : Int)))) (Int.toNat (a0.size : Int)), true)
          else none
        else none
      else none
    else none
  else some (a0, ByteArray.empty, false)
def strings_Cut.f (k : Nat) (a0 : ByteArray) (a1 : ByteArray) : Option (ByteArray × ByteArray × Bool) :=
  (stringslite_Cut.f k a0 a1).bind fun r1 =>
  some r1
def nat_Check.l4 : Nat → ByteArray → List Int → Int → Int → Option Int
  | 0, _, _, _, _ => none
  | k + 1, x0, x18, x19, x20 => if x20 < x19 then
      if 0 ≤ x20 then
        if x20 < (x18.length : Int) then
          if (rU8 x18 x20) < 48 then
            some 5
          else if 57 < (rU8 x18 x20) then
            some 5
          else nat_Check.l4 k x0 x18 x19 (wrap64 (x20 + 1))
        else none
      else none
    else if 2000 < (x0.size : Int) then
      some 2
    else some 0
theorem nat_Check.l4_eq (k : Nat) (x0 : ByteArray) (x18 : List Int) (x19 : Int) (x20 : Int) : nat_Check.l4 (k + 1) x0 x18 x19 x20 = if x20 < x19 then
      if 0 ≤ x20 then
        if x20 < (x18.length : Int) then
          if (rU8 x18 x20) < 48 then
            some 5
          else if 57 < (rU8 x18 x20) then
            some 5
          else nat_Check.l4 k x0 x18 x19 (wrap64 (x20 + 1))
        else none
      else none
    else if 2000 < (x0.size : Int) then
      some 2
    else some 0 := rfl
def nat_Check.f (k : Nat) (a0 : ByteArray) : Option Int :=
  if a0 = ByteArray.empty then
    some 5
  else if (0 : Int) ≤ 0 then
    if 0 < (a0.size : Int) then
      if (bt a0 0) = 48 then
        if 1 < (a0.size : Int) then
          some 5
        else nat_Check.l4 k a0 (bytesL a0) ((bytesL a0).length : Int) 0
      else nat_Check.l4 k a0 (bytesL a0) ((bytesL a0).length : Int) 0
    else none
  else none
def nat_N_trim.l1 : Nat → List Int → Option (List Int)
  | 0, _ => none
  | k + 1, xo1 => if 0 < (xo1.length : Int) then
      if 0 ≤ (wrap64 ((xo1.length : Int) - 1)) then
        if (wrap64 ((xo1.length : Int) - 1)) < (xo1.length : Int) then
          if (rU32 xo1 (wrap64 ((xo1.length : Int) - 1))) = 0 then
            if (wrap64 ((xo1.length : Int) - 1)) ≤ (xo1.length : Int) then
              if 0 ≤ (wrap64 ((xo1.length : Int) - 1)) then
                nat_N_trim.l1 k (xo1.take ((Int.toNat (wrap64 ((xo1.length : Int) - 1))) - (Int.toNat 0)))
              else none
            else none
          else some xo1
        else none
      else none
    else some xo1
theorem nat_N_trim.l1_eq (k : Nat) (xo1 : List Int) : nat_N_trim.l1 (k + 1) xo1 = if 0 < (xo1.length : Int) then
      if 0 ≤ (wrap64 ((xo1.length : Int) - 1)) then
        if (wrap64 ((xo1.length : Int) - 1)) < (xo1.length : Int) then
          if (rU32 xo1 (wrap64 ((xo1.length : Int) - 1))) = 0 then
            if (wrap64 ((xo1.length : Int) - 1)) ≤ (xo1.length : Int) then
              if 0 ≤ (wrap64 ((xo1.length : Int) - 1)) then
                nat_N_trim.l1 k (xo1.take ((Int.toNat (wrap64 ((xo1.length : Int) - 1))) - (Int.toNat 0)))
              else none
            else none
          else some xo1
        else none
      else none
    else some xo1 := rfl
def nat_N_trim.f (k : Nat) (ao0 : List Int) : Option (List Int) :=
  nat_N_trim.l1 k ao0
mutual
def nat_Read.l3 : Nat → ByteArray → Int → List Int → Option (List Int)
  | 0, _, _, _ => none
  | k + 1, x0, x4, xo0 => if 0 < x4 then
      if x4 ≤ (x0.size : Int) then
        if 0 ≤ (mx 0 (wrap64 (x4 - 9))) then
          if (mx 0 (wrap64 (x4 - 9))) ≤ x4 then
            nat_Read.l7 k x0 x4 0 (bytesL (x0.extract (Int.toNat (mx 0 (wrap64 (x4 - 9)))) (Int.toNat x4))) ((bytesL (x0.extract (Int.toNat (mx 0 (wrap64 (x4 - 9)))) (Int.toNat x4))).length : Int) 0 xo0
          else none
        else none
      else none
    else (nat_N_trim.f k xo0).bind fun r1 =>
    some r1
def nat_Read.l7 : Nat → ByteArray → Int → Int → List Int → Int → Int → List Int → Option (List Int)
  | 0, _, _, _, _, _, _, _ => none
  | k + 1, x0, x4, x5, x20, x21, x22, xo0 => if x22 < x21 then
      if 0 ≤ x22 then
        if x22 < (x20.length : Int) then
          nat_Read.l7 k x0 x4 (IntKind.wrap .u32 ((IntKind.wrap .u32 (x5 * 10)) + (IntKind.wrap .u32 (IntKind.wrap .u8 ((rU8 x20 x22) - 48))))) x20 x21 (wrap64 (x22 + 1)) xo0
        else none
      else none
    else if (xo0.length + [x5].length) * 4 ≤ 140737488355328 then
      nat_Read.l3 k x0 (wrap64 (x4 - 9)) (xo0 ++ [x5])
    else none
end
theorem nat_Read.l3_eq (k : Nat) (x0 : ByteArray) (x4 : Int) (xo0 : List Int) : nat_Read.l3 (k + 1) x0 x4 xo0 = if 0 < x4 then
      if x4 ≤ (x0.size : Int) then
        if 0 ≤ (mx 0 (wrap64 (x4 - 9))) then
          if (mx 0 (wrap64 (x4 - 9))) ≤ x4 then
            nat_Read.l7 k x0 x4 0 (bytesL (x0.extract (Int.toNat (mx 0 (wrap64 (x4 - 9)))) (Int.toNat x4))) ((bytesL (x0.extract (Int.toNat (mx 0 (wrap64 (x4 - 9)))) (Int.toNat x4))).length : Int) 0 xo0
          else none
        else none
      else none
    else (nat_N_trim.f k xo0).bind fun r1 =>
    some r1 := rfl
theorem nat_Read.l7_eq (k : Nat) (x0 : ByteArray) (x4 : Int) (x5 : Int) (x20 : List Int) (x21 : Int) (x22 : Int) (xo0 : List Int) : nat_Read.l7 (k + 1) x0 x4 x5 x20 x21 x22 xo0 = if x22 < x21 then
      if 0 ≤ x22 then
        if x22 < (x20.length : Int) then
          nat_Read.l7 k x0 x4 (IntKind.wrap .u32 ((IntKind.wrap .u32 (x5 * 10)) + (IntKind.wrap .u32 (IntKind.wrap .u8 ((rU8 x20 x22) - 48))))) x20 x21 (wrap64 (x22 + 1)) xo0
        else none
      else none
    else if (xo0.length + [x5].length) * 4 ≤ 140737488355328 then
      nat_Read.l3 k x0 (wrap64 (x4 - 9)) (xo0 ++ [x5])
    else none := rfl
def nat_Read.f (k : Nat) (a0 : ByteArray) : Option (List Int) :=
  nat_Read.l3 k a0 (a0.size : Int) []
def nat_N_Cmp.l6 : Nat → List Int → List Int → Int → Option Int
  | 0, _, _, _ => none
  | k + 1, x0, x1, x5 => if 0 ≤ x5 then
      if 0 ≤ x5 then
        if x5 < (x0.length : Int) then
          if 0 ≤ x5 then
            if x5 < (x1.length : Int) then
              if (rU32 x0 x5) < (rU32 x1 x5) then
                some (-1)
              else if 0 ≤ x5 then
                if x5 < (x0.length : Int) then
                  if 0 ≤ x5 then
                    if x5 < (x1.length : Int) then
                      if (rU32 x1 x5) < (rU32 x0 x5) then
                        some 1
                      else nat_N_Cmp.l6 k x0 x1 (wrap64 (x5 - 1))
                    else none
                  else none
                else none
              else none
            else none
          else none
        else none
      else none
    else some 0
theorem nat_N_Cmp.l6_eq (k : Nat) (x0 : List Int) (x1 : List Int) (x5 : Int) : nat_N_Cmp.l6 (k + 1) x0 x1 x5 = if 0 ≤ x5 then
      if 0 ≤ x5 then
        if x5 < (x0.length : Int) then
          if 0 ≤ x5 then
            if x5 < (x1.length : Int) then
              if (rU32 x0 x5) < (rU32 x1 x5) then
                some (-1)
              else if 0 ≤ x5 then
                if x5 < (x0.length : Int) then
                  if 0 ≤ x5 then
                    if x5 < (x1.length : Int) then
                      if (rU32 x1 x5) < (rU32 x0 x5) then
                        some 1
                      else nat_N_Cmp.l6 k x0 x1 (wrap64 (x5 - 1))
                    else none
                  else none
                else none
              else none
            else none
          else none
        else none
      else none
    else some 0 := rfl
def nat_N_Cmp.f (k : Nat) (a0 : List Int) (a1 : List Int) : Option Int :=
  if (a0.length : Int) = (a1.length : Int) then
    nat_N_Cmp.l6 k a0 a1 (wrap64 ((a0.length : Int) - 1))
  else if (a0.length : Int) < (a1.length : Int) then
    some (-1)
  else some 1
def nat_N_short.l4 : Nat → List Int → Int → Int → Int → List Int → Option (List Int × List Int)
  | 0, _, _, _, _, _ => none
  | k + 1, x0, x1, x7, x8, xo0 => if 0 ≤ x8 then
      if 0 ≤ x8 then
        if x8 < (x0.length : Int) then
          if (IntKind.wrap .u64 (x1)) ≠ 0 then
            if 0 ≤ x8 then
              if x8 < (xo0.length : Int) then
                if (IntKind.wrap .u64 (x1)) ≠ 0 then
                  nat_N_short.l4 k x0 x1 (Int.tmod (IntKind.wrap .u64 ((IntKind.wrap .u64 (x7 * 1000000000)) + (IntKind.wrap .u64 (rU32 x0 x8)))) (IntKind.wrap .u64 (x1))) (wrap64 (x8 - 1)) (xo0.set x8.toNat (IntKind.wrap .u32 (IntKind.wrap .u64 (Int.tdiv (IntKind.wrap .u64 ((IntKind.wrap .u64 (x7 * 1000000000)) + (IntKind.wrap .u64 (rU32 x0 x8)))) (IntKind.wrap .u64 (x1))))))
                else none
              else none
            else none
          else none
        else none
      else none
    else (nat_N_trim.f k xo0).bind fun r1 =>
    (nat_N_trim.f k [IntKind.wrap .u32 (x7)]).bind fun r2 =>
    some (r1, r2)
theorem nat_N_short.l4_eq (k : Nat) (x0 : List Int) (x1 : Int) (x7 : Int) (x8 : Int) (xo0 : List Int) : nat_N_short.l4 (k + 1) x0 x1 x7 x8 xo0 = if 0 ≤ x8 then
      if 0 ≤ x8 then
        if x8 < (x0.length : Int) then
          if (IntKind.wrap .u64 (x1)) ≠ 0 then
            if 0 ≤ x8 then
              if x8 < (xo0.length : Int) then
                if (IntKind.wrap .u64 (x1)) ≠ 0 then
                  nat_N_short.l4 k x0 x1 (Int.tmod (IntKind.wrap .u64 ((IntKind.wrap .u64 (x7 * 1000000000)) + (IntKind.wrap .u64 (rU32 x0 x8)))) (IntKind.wrap .u64 (x1))) (wrap64 (x8 - 1)) (xo0.set x8.toNat (IntKind.wrap .u32 (IntKind.wrap .u64 (Int.tdiv (IntKind.wrap .u64 ((IntKind.wrap .u64 (x7 * 1000000000)) + (IntKind.wrap .u64 (rU32 x0 x8)))) (IntKind.wrap .u64 (x1))))))
                else none
              else none
            else none
          else none
        else none
      else none
    else (nat_N_trim.f k xo0).bind fun r1 =>
    (nat_N_trim.f k [IntKind.wrap .u32 (x7)]).bind fun r2 =>
    some (r1, r2) := rfl
def nat_N_short.l0 : Nat → List Int → Int → Option (List Int × List Int)
  | 0, _, _ => none
  | k + 1, x0, x1 => if 0 ≤ (x0.length : Int) then
      if (x0.length : Int) * 4 ≤ 140737488355328 then
        if (x0.length : Int) ≤ 140737488355328 then
          nat_N_short.l4 k x0 x1 0 (wrap64 ((x0.length : Int) - 1)) (List.replicate (x0.length : Int).toNat 0)
        else none
      else none
    else none
theorem nat_N_short.l0_eq (k : Nat) (x0 : List Int) (x1 : Int) : nat_N_short.l0 (k + 1) x0 x1 = if 0 ≤ (x0.length : Int) then
      if (x0.length : Int) * 4 ≤ 140737488355328 then
        if (x0.length : Int) ≤ 140737488355328 then
          nat_N_short.l4 k x0 x1 0 (wrap64 ((x0.length : Int) - 1)) (List.replicate (x0.length : Int).toNat 0)
        else none
      else none
    else none := rfl
def nat_N_short.f (k : Nat) (a0 : List Int) (a1 : Int) : Option (List Int × List Int) :=
  nat_N_short.l0 k a0 a1
mutual
def nat_N_Mul.l3 : Nat → List Int → List Int → Int → Int → List Int → Option (List Int)
  | 0, _, _, _, _, _ => none
  | k + 1, x1, x18, x19, x20, xo0 => if x20 < x19 then
      if 0 ≤ x20 then
        if x20 < (x18.length : Int) then
          nat_N_Mul.l7 k x1 x20 (rU32 x18 x20) 0 x18 x19 x20 x1 (x1.length : Int) 0 xo0
        else none
      else none
    else (nat_N_trim.f k xo0).bind fun r1 =>
    some r1
def nat_N_Mul.l7 : Nat → List Int → Int → Int → Int → List Int → Int → Int → List Int → Int → Int → List Int → Option (List Int)
  | 0, _, _, _, _, _, _, _, _, _, _, _ => none
  | k + 1, x1, x6, x7, x8, x18, x19, x20, x25, x26, x27, xo0 => if x27 < x26 then
      if 0 ≤ x27 then
        if x27 < (x25.length : Int) then
          if 0 ≤ (wrap64 (x6 + x27)) then
            if (wrap64 (x6 + x27)) < (xo0.length : Int) then
              if (1000000000 : Int) ≠ 0 then
                if 0 ≤ (wrap64 (x6 + x27)) then
                  if (wrap64 (x6 + x27)) < (xo0.length : Int) then
                    if (1000000000 : Int) ≠ 0 then
                      nat_N_Mul.l7 k x1 x6 x7 (IntKind.wrap .u64 (Int.tdiv (IntKind.wrap .u64 ((IntKind.wrap .u64 ((IntKind.wrap .u64 ((IntKind.wrap .u64 (x7)) * (IntKind.wrap .u64 (rU32 x25 x27)))) + (IntKind.wrap .u64 (rU32 xo0 (wrap64 (x6 + x27)))))) + x8)) 1000000000)) x18 x19 x20 x25 x26 (wrap64 (x27 + 1)) (xo0.set (wrap64 (x6 + x27)).toNat (IntKind.wrap .u32 (Int.tmod (IntKind.wrap .u64 ((IntKind.wrap .u64 ((IntKind.wrap .u64 ((IntKind.wrap .u64 (x7)) * (IntKind.wrap .u64 (rU32 x25 x27)))) + (IntKind.wrap .u64 (rU32 xo0 (wrap64 (x6 + x27)))))) + x8)) 1000000000)))
                    else none
                  else none
                else none
              else none
            else none
          else none
        else none
      else none
    else if 0 ≤ (wrap64 (x6 + (x1.length : Int))) then
      if (wrap64 (x6 + (x1.length : Int))) < (xo0.length : Int) then
        nat_N_Mul.l3 k x1 x18 x19 (wrap64 (x20 + 1)) (xo0.set (wrap64 (x6 + (x1.length : Int))).toNat (IntKind.wrap .u32 (x8)))
      else none
    else none
end
theorem nat_N_Mul.l3_eq (k : Nat) (x1 : List Int) (x18 : List Int) (x19 : Int) (x20 : Int) (xo0 : List Int) : nat_N_Mul.l3 (k + 1) x1 x18 x19 x20 xo0 = if x20 < x19 then
      if 0 ≤ x20 then
        if x20 < (x18.length : Int) then
          nat_N_Mul.l7 k x1 x20 (rU32 x18 x20) 0 x18 x19 x20 x1 (x1.length : Int) 0 xo0
        else none
      else none
    else (nat_N_trim.f k xo0).bind fun r1 =>
    some r1 := rfl
theorem nat_N_Mul.l7_eq (k : Nat) (x1 : List Int) (x6 : Int) (x7 : Int) (x8 : Int) (x18 : List Int) (x19 : Int) (x20 : Int) (x25 : List Int) (x26 : Int) (x27 : Int) (xo0 : List Int) : nat_N_Mul.l7 (k + 1) x1 x6 x7 x8 x18 x19 x20 x25 x26 x27 xo0 = if x27 < x26 then
      if 0 ≤ x27 then
        if x27 < (x25.length : Int) then
          if 0 ≤ (wrap64 (x6 + x27)) then
            if (wrap64 (x6 + x27)) < (xo0.length : Int) then
              if (1000000000 : Int) ≠ 0 then
                if 0 ≤ (wrap64 (x6 + x27)) then
                  if (wrap64 (x6 + x27)) < (xo0.length : Int) then
                    if (1000000000 : Int) ≠ 0 then
                      nat_N_Mul.l7 k x1 x6 x7 (IntKind.wrap .u64 (Int.tdiv (IntKind.wrap .u64 ((IntKind.wrap .u64 ((IntKind.wrap .u64 ((IntKind.wrap .u64 (x7)) * (IntKind.wrap .u64 (rU32 x25 x27)))) + (IntKind.wrap .u64 (rU32 xo0 (wrap64 (x6 + x27)))))) + x8)) 1000000000)) x18 x19 x20 x25 x26 (wrap64 (x27 + 1)) (xo0.set (wrap64 (x6 + x27)).toNat (IntKind.wrap .u32 (Int.tmod (IntKind.wrap .u64 ((IntKind.wrap .u64 ((IntKind.wrap .u64 ((IntKind.wrap .u64 (x7)) * (IntKind.wrap .u64 (rU32 x25 x27)))) + (IntKind.wrap .u64 (rU32 xo0 (wrap64 (x6 + x27)))))) + x8)) 1000000000)))
                    else none
                  else none
                else none
              else none
            else none
          else none
        else none
      else none
    else if 0 ≤ (wrap64 (x6 + (x1.length : Int))) then
      if (wrap64 (x6 + (x1.length : Int))) < (xo0.length : Int) then
        nat_N_Mul.l3 k x1 x18 x19 (wrap64 (x20 + 1)) (xo0.set (wrap64 (x6 + (x1.length : Int))).toNat (IntKind.wrap .u32 (x8)))
      else none
    else none := rfl
def nat_N_Mul.l0 : Nat → List Int → List Int → Option (List Int)
  | 0, _, _ => none
  | k + 1, x0, x1 => if 0 ≤ (wrap64 ((x0.length : Int) + (x1.length : Int))) then
      if (wrap64 ((x0.length : Int) + (x1.length : Int))) * 4 ≤ 140737488355328 then
        if (wrap64 ((x0.length : Int) + (x1.length : Int))) ≤ 140737488355328 then
          nat_N_Mul.l3 k x1 x0 (x0.length : Int) 0 (List.replicate (wrap64 ((x0.length : Int) + (x1.length : Int))).toNat 0)
        else none
      else none
    else none
theorem nat_N_Mul.l0_eq (k : Nat) (x0 : List Int) (x1 : List Int) : nat_N_Mul.l0 (k + 1) x0 x1 = if 0 ≤ (wrap64 ((x0.length : Int) + (x1.length : Int))) then
      if (wrap64 ((x0.length : Int) + (x1.length : Int))) * 4 ≤ 140737488355328 then
        if (wrap64 ((x0.length : Int) + (x1.length : Int))) ≤ 140737488355328 then
          nat_N_Mul.l3 k x1 x0 (x0.length : Int) 0 (List.replicate (wrap64 ((x0.length : Int) + (x1.length : Int))).toNat 0)
        else none
      else none
    else none := rfl
def nat_N_Mul.f (k : Nat) (a0 : List Int) (a1 : List Int) : Option (List Int) :=
  nat_N_Mul.l0 k a0 a1
mutual
def nat_N_minus.l4 : Nat → List Int → Int → Int → Int → Int → Int → List Int → Option (Bool × List Int)
  | 0, _, _, _, _, _, _, _ => none
  | k + 1, x1, x2, x3, x9, x10, x11, xo0 => if x11 ≤ (x1.length : Int) then
      if x11 < (x1.length : Int) then
        if 0 ≤ x11 then
          if x11 < (x1.length : Int) then
            nat_N_minus.l9 k x1 x2 x3 x9 x11 (IntKind.wrap .u64 (x10 + (IntKind.wrap .u64 (x3 * (IntKind.wrap .u64 (rU32 x1 x11)))))) xo0
          else none
        else none
      else nat_N_minus.l9 k x1 x2 x3 x9 x11 x10 xo0
    else some (decide (0 < x9), xo0)
def nat_N_minus.l9 : Nat → List Int → Int → Int → Int → Int → Int → List Int → Option (Bool × List Int)
  | 0, _, _, _, _, _, _, _ => none
  | k + 1, x1, x2, x3, x9, x11, x12, xo0 => if (1000000000 : Int) ≠ 0 then
      if 0 ≤ (wrap64 (x2 + x11)) then
        if (wrap64 (x2 + x11)) < (xo0.length : Int) then
          if (1000000000 : Int) ≠ 0 then
            if (wrap64 ((wrap64 ((wrap64 (rU32 xo0 (wrap64 (x2 + x11)))) - (wrap64 (Int.tmod x12 1000000000)))) - x9)) < 0 then
              if 0 ≤ (wrap64 (x2 + x11)) then
                if (wrap64 (x2 + x11)) < (xo0.length : Int) then
                  nat_N_minus.l4 k x1 x2 x3 1 (IntKind.wrap .u64 (Int.tdiv x12 1000000000)) (wrap64 (x11 + 1)) (xo0.set (wrap64 (x2 + x11)).toNat (IntKind.wrap .u32 (wrap64 ((wrap64 ((wrap64 ((wrap64 (rU32 xo0 (wrap64 (x2 + x11)))) - (wrap64 (Int.tmod x12 1000000000)))) - x9)) + 1000000000))))
                else none
              else none
            else if 0 ≤ (wrap64 (x2 + x11)) then
              if (wrap64 (x2 + x11)) < (xo0.length : Int) then
                nat_N_minus.l4 k x1 x2 x3 0 (IntKind.wrap .u64 (Int.tdiv x12 1000000000)) (wrap64 (x11 + 1)) (xo0.set (wrap64 (x2 + x11)).toNat (IntKind.wrap .u32 (wrap64 ((wrap64 ((wrap64 (rU32 xo0 (wrap64 (x2 + x11)))) - (wrap64 (Int.tmod x12 1000000000)))) - x9))))
              else none
            else none
          else none
        else none
      else none
    else none
end
theorem nat_N_minus.l4_eq (k : Nat) (x1 : List Int) (x2 : Int) (x3 : Int) (x9 : Int) (x10 : Int) (x11 : Int) (xo0 : List Int) : nat_N_minus.l4 (k + 1) x1 x2 x3 x9 x10 x11 xo0 = if x11 ≤ (x1.length : Int) then
      if x11 < (x1.length : Int) then
        if 0 ≤ x11 then
          if x11 < (x1.length : Int) then
            nat_N_minus.l9 k x1 x2 x3 x9 x11 (IntKind.wrap .u64 (x10 + (IntKind.wrap .u64 (x3 * (IntKind.wrap .u64 (rU32 x1 x11)))))) xo0
          else none
        else none
      else nat_N_minus.l9 k x1 x2 x3 x9 x11 x10 xo0
    else some (decide (0 < x9), xo0) := rfl
theorem nat_N_minus.l9_eq (k : Nat) (x1 : List Int) (x2 : Int) (x3 : Int) (x9 : Int) (x11 : Int) (x12 : Int) (xo0 : List Int) : nat_N_minus.l9 (k + 1) x1 x2 x3 x9 x11 x12 xo0 = if (1000000000 : Int) ≠ 0 then
      if 0 ≤ (wrap64 (x2 + x11)) then
        if (wrap64 (x2 + x11)) < (xo0.length : Int) then
          if (1000000000 : Int) ≠ 0 then
            if (wrap64 ((wrap64 ((wrap64 (rU32 xo0 (wrap64 (x2 + x11)))) - (wrap64 (Int.tmod x12 1000000000)))) - x9)) < 0 then
              if 0 ≤ (wrap64 (x2 + x11)) then
                if (wrap64 (x2 + x11)) < (xo0.length : Int) then
                  nat_N_minus.l4 k x1 x2 x3 1 (IntKind.wrap .u64 (Int.tdiv x12 1000000000)) (wrap64 (x11 + 1)) (xo0.set (wrap64 (x2 + x11)).toNat (IntKind.wrap .u32 (wrap64 ((wrap64 ((wrap64 ((wrap64 (rU32 xo0 (wrap64 (x2 + x11)))) - (wrap64 (Int.tmod x12 1000000000)))) - x9)) + 1000000000))))
                else none
              else none
            else if 0 ≤ (wrap64 (x2 + x11)) then
              if (wrap64 (x2 + x11)) < (xo0.length : Int) then
                nat_N_minus.l4 k x1 x2 x3 0 (IntKind.wrap .u64 (Int.tdiv x12 1000000000)) (wrap64 (x11 + 1)) (xo0.set (wrap64 (x2 + x11)).toNat (IntKind.wrap .u32 (wrap64 ((wrap64 ((wrap64 (rU32 xo0 (wrap64 (x2 + x11)))) - (wrap64 (Int.tmod x12 1000000000)))) - x9))))
              else none
            else none
          else none
        else none
      else none
    else none := rfl
def nat_N_minus.f (k : Nat) (a1 : List Int) (a2 : Int) (a3 : Int) (ao0 : List Int) : Option (Bool × List Int) :=
  nat_N_minus.l4 k a1 a2 a3 0 0 0 ao0
def nat_N_plus.l2 : Nat → List Int → Int → Int → Int → List Int → Option (List Int)
  | 0, _, _, _, _, _ => none
  | k + 1, x1, x2, x6, x7, xo0 => if x7 ≤ (x1.length : Int) then
      if 0 ≤ (wrap64 (x2 + x7)) then
        if (wrap64 (x2 + x7)) < (xo0.length : Int) then
          if x7 < (x1.length : Int) then
            if 0 ≤ x7 then
              if x7 < (x1.length : Int) then
                if (1000000000 : Int) ≠ 0 then
                  if (1000000000 : Int) ≠ 0 then
                    if 0 ≤ (wrap64 (x2 + x7)) then
                      if (wrap64 (x2 + x7)) < (xo0.length : Int) then
                        nat_N_plus.l2 k x1 x2 (IntKind.wrap .u32 (Int.tdiv (IntKind.wrap .u32 ((IntKind.wrap .u32 ((rU32 xo0 (wrap64 (x2 + x7))) + x6)) + (rU32 x1 x7))) 1000000000)) (wrap64 (x7 + 1)) (xo0.set (wrap64 (x2 + x7)).toNat (Int.tmod (IntKind.wrap .u32 ((IntKind.wrap .u32 ((rU32 xo0 (wrap64 (x2 + x7))) + x6)) + (rU32 x1 x7))) 1000000000))
                      else none
                    else none
                  else none
                else none
              else none
            else none
          else if (1000000000 : Int) ≠ 0 then
            if (1000000000 : Int) ≠ 0 then
              if 0 ≤ (wrap64 (x2 + x7)) then
                if (wrap64 (x2 + x7)) < (xo0.length : Int) then
                  nat_N_plus.l2 k x1 x2 (IntKind.wrap .u32 (Int.tdiv (IntKind.wrap .u32 ((rU32 xo0 (wrap64 (x2 + x7))) + x6)) 1000000000)) (wrap64 (x7 + 1)) (xo0.set (wrap64 (x2 + x7)).toNat (Int.tmod (IntKind.wrap .u32 ((rU32 xo0 (wrap64 (x2 + x7))) + x6)) 1000000000))
                else none
              else none
            else none
          else none
        else none
      else none
    else some xo0
theorem nat_N_plus.l2_eq (k : Nat) (x1 : List Int) (x2 : Int) (x6 : Int) (x7 : Int) (xo0 : List Int) : nat_N_plus.l2 (k + 1) x1 x2 x6 x7 xo0 = if x7 ≤ (x1.length : Int) then
      if 0 ≤ (wrap64 (x2 + x7)) then
        if (wrap64 (x2 + x7)) < (xo0.length : Int) then
          if x7 < (x1.length : Int) then
            if 0 ≤ x7 then
              if x7 < (x1.length : Int) then
                if (1000000000 : Int) ≠ 0 then
                  if (1000000000 : Int) ≠ 0 then
                    if 0 ≤ (wrap64 (x2 + x7)) then
                      if (wrap64 (x2 + x7)) < (xo0.length : Int) then
                        nat_N_plus.l2 k x1 x2 (IntKind.wrap .u32 (Int.tdiv (IntKind.wrap .u32 ((IntKind.wrap .u32 ((rU32 xo0 (wrap64 (x2 + x7))) + x6)) + (rU32 x1 x7))) 1000000000)) (wrap64 (x7 + 1)) (xo0.set (wrap64 (x2 + x7)).toNat (Int.tmod (IntKind.wrap .u32 ((IntKind.wrap .u32 ((rU32 xo0 (wrap64 (x2 + x7))) + x6)) + (rU32 x1 x7))) 1000000000))
                      else none
                    else none
                  else none
                else none
              else none
            else none
          else if (1000000000 : Int) ≠ 0 then
            if (1000000000 : Int) ≠ 0 then
              if 0 ≤ (wrap64 (x2 + x7)) then
                if (wrap64 (x2 + x7)) < (xo0.length : Int) then
                  nat_N_plus.l2 k x1 x2 (IntKind.wrap .u32 (Int.tdiv (IntKind.wrap .u32 ((rU32 xo0 (wrap64 (x2 + x7))) + x6)) 1000000000)) (wrap64 (x7 + 1)) (xo0.set (wrap64 (x2 + x7)).toNat (Int.tmod (IntKind.wrap .u32 ((rU32 xo0 (wrap64 (x2 + x7))) + x6)) 1000000000))
                else none
              else none
            else none
          else none
        else none
      else none
    else some xo0 := rfl
def nat_N_plus.f (k : Nat) (a1 : List Int) (a2 : Int) (ao0 : List Int) : Option (List Int) :=
  nat_N_plus.l2 k a1 a2 0 0 ao0
mutual
def nat_N_Div.l12 : Nat → Int → Int → Int → List Int → List Int → List Int → Option (List Int × List Int)
  | 0, _, _, _, _, _, _ => none
  | k + 1, x6, x9, x11, xo0, xo1, xo2 => if 0 ≤ x11 then
      if 0 ≤ (wrap64 (x11 + x9)) then
        if (wrap64 (x11 + x9)) < (xo0.length : Int) then
          if 0 ≤ (wrap64 ((wrap64 (x11 + x9)) - 1)) then
            if (wrap64 ((wrap64 (x11 + x9)) - 1)) < (xo0.length : Int) then
              if 0 ≤ (wrap64 (x9 - 1)) then
                if (wrap64 (x9 - 1)) < (xo1.length : Int) then
                  if (IntKind.wrap .u64 (rU32 xo1 (wrap64 (x9 - 1)))) ≠ 0 then
                    if 0 ≤ (wrap64 (x9 - 1)) then
                      if (wrap64 (x9 - 1)) < (xo1.length : Int) then
                        if (IntKind.wrap .u64 (rU32 xo1 (wrap64 (x9 - 1)))) ≠ 0 then
                          nat_N_Div.l16 k x6 x9 x11 (IntKind.wrap .u64 (Int.tdiv (IntKind.wrap .u64 ((IntKind.wrap .u64 ((IntKind.wrap .u64 (rU32 xo0 (wrap64 (x11 + x9)))) * 1000000000)) + (IntKind.wrap .u64 (rU32 xo0 (wrap64 ((wrap64 (x11 + x9)) - 1)))))) (IntKind.wrap .u64 (rU32 xo1 (wrap64 (x9 - 1)))))) (Int.tmod (IntKind.wrap .u64 ((IntKind.wrap .u64 ((IntKind.wrap .u64 (rU32 xo0 (wrap64 (x11 + x9)))) * 1000000000)) + (IntKind.wrap .u64 (rU32 xo0 (wrap64 ((wrap64 (x11 + x9)) - 1)))))) (IntKind.wrap .u64 (rU32 xo1 (wrap64 (x9 - 1))))) xo0 xo1 xo2
                        else none
                      else none
                    else none
                  else none
                else none
              else none
            else none
          else none
        else none
      else none
    else (nat_N_trim.f k xo0).bind fun r5 =>
    (nat_N_short.f k r5 x6).bind fun r6 =>
    (nat_N_trim.f k xo2).bind fun r7 =>
    some (r7, r6.1)
def nat_N_Div.l16 : Nat → Int → Int → Int → Int → Int → List Int → List Int → List Int → Option (List Int × List Int)
  | 0, _, _, _, _, _, _, _, _ => none
  | k + 1, x6, x9, x11, x13, x14, xo0, xo1, xo2 => if 1000000000 ≤ x13 then
      if 0 ≤ (wrap64 (x9 - 1)) then
        if (wrap64 (x9 - 1)) < (xo1.length : Int) then
          if 1000000000 ≤ (IntKind.wrap .u64 (x14 + (IntKind.wrap .u64 (rU32 xo1 (wrap64 (x9 - 1)))))) then
            (nat_N_minus.f k xo1 x11 (IntKind.wrap .u64 (x13 - 1)) xo0).bind fun r8 =>
            if r8.1 = true then
              (nat_N_plus.f k xo1 x11 r8.2).bind fun r9 =>
              if 0 ≤ x11 then
                if x11 < (xo2.length : Int) then
                  nat_N_Div.l12 k x6 x9 (wrap64 (x11 - 1)) r9 xo1 (xo2.set x11.toNat (IntKind.wrap .u32 (IntKind.wrap .u64 ((IntKind.wrap .u64 (x13 - 1)) - 1))))
                else none
              else none
            else if 0 ≤ x11 then
              if x11 < (xo2.length : Int) then
                nat_N_Div.l12 k x6 x9 (wrap64 (x11 - 1)) r8.2 xo1 (xo2.set x11.toNat (IntKind.wrap .u32 (IntKind.wrap .u64 (x13 - 1))))
              else none
            else none
          else nat_N_Div.l16 k x6 x9 x11 (IntKind.wrap .u64 (x13 - 1)) (IntKind.wrap .u64 (x14 + (IntKind.wrap .u64 (rU32 xo1 (wrap64 (x9 - 1)))))) xo0 xo1 xo2
        else none
      else none
    else if 0 ≤ (wrap64 (x9 - 2)) then
      if (wrap64 (x9 - 2)) < (xo1.length : Int) then
        if 0 ≤ (wrap64 ((wrap64 (x11 + x9)) - 2)) then
          if (wrap64 ((wrap64 (x11 + x9)) - 2)) < (xo0.length : Int) then
            if (IntKind.wrap .u64 ((IntKind.wrap .u64 (x14 * 1000000000)) + (IntKind.wrap .u64 (rU32 xo0 (wrap64 ((wrap64 (x11 + x9)) - 2)))))) < (IntKind.wrap .u64 (x13 * (IntKind.wrap .u64 (rU32 xo1 (wrap64 (x9 - 2)))))) then
              if 0 ≤ (wrap64 (x9 - 1)) then
                if (wrap64 (x9 - 1)) < (xo1.length : Int) then
                  if 1000000000 ≤ (IntKind.wrap .u64 (x14 + (IntKind.wrap .u64 (rU32 xo1 (wrap64 (x9 - 1)))))) then
                    (nat_N_minus.f k xo1 x11 (IntKind.wrap .u64 (x13 - 1)) xo0).bind fun r10 =>
                    if r10.1 = true then
                      (nat_N_plus.f k xo1 x11 r10.2).bind fun r11 =>
                      if 0 ≤ x11 then
                        if x11 < (xo2.length : Int) then
                          nat_N_Div.l12 k x6 x9 (wrap64 (x11 - 1)) r11 xo1 (xo2.set x11.toNat (IntKind.wrap .u32 (IntKind.wrap .u64 ((IntKind.wrap .u64 (x13 - 1)) - 1))))
                        else none
                      else none
                    else if 0 ≤ x11 then
                      if x11 < (xo2.length : Int) then
                        nat_N_Div.l12 k x6 x9 (wrap64 (x11 - 1)) r10.2 xo1 (xo2.set x11.toNat (IntKind.wrap .u32 (IntKind.wrap .u64 (x13 - 1))))
                      else none
                    else none
                  else nat_N_Div.l16 k x6 x9 x11 (IntKind.wrap .u64 (x13 - 1)) (IntKind.wrap .u64 (x14 + (IntKind.wrap .u64 (rU32 xo1 (wrap64 (x9 - 1)))))) xo0 xo1 xo2
                else none
              else none
            else (nat_N_minus.f k xo1 x11 x13 xo0).bind fun r12 =>
            if r12.1 = true then
              (nat_N_plus.f k xo1 x11 r12.2).bind fun r13 =>
              if 0 ≤ x11 then
                if x11 < (xo2.length : Int) then
                  nat_N_Div.l12 k x6 x9 (wrap64 (x11 - 1)) r13 xo1 (xo2.set x11.toNat (IntKind.wrap .u32 (IntKind.wrap .u64 (x13 - 1))))
                else none
              else none
            else if 0 ≤ x11 then
              if x11 < (xo2.length : Int) then
                nat_N_Div.l12 k x6 x9 (wrap64 (x11 - 1)) r12.2 xo1 (xo2.set x11.toNat (IntKind.wrap .u32 (x13)))
              else none
            else none
          else none
        else none
      else none
    else none
end
theorem nat_N_Div.l12_eq (k : Nat) (x6 : Int) (x9 : Int) (x11 : Int) (xo0 : List Int) (xo1 : List Int) (xo2 : List Int) : nat_N_Div.l12 (k + 1) x6 x9 x11 xo0 xo1 xo2 = if 0 ≤ x11 then
      if 0 ≤ (wrap64 (x11 + x9)) then
        if (wrap64 (x11 + x9)) < (xo0.length : Int) then
          if 0 ≤ (wrap64 ((wrap64 (x11 + x9)) - 1)) then
            if (wrap64 ((wrap64 (x11 + x9)) - 1)) < (xo0.length : Int) then
              if 0 ≤ (wrap64 (x9 - 1)) then
                if (wrap64 (x9 - 1)) < (xo1.length : Int) then
                  if (IntKind.wrap .u64 (rU32 xo1 (wrap64 (x9 - 1)))) ≠ 0 then
                    if 0 ≤ (wrap64 (x9 - 1)) then
                      if (wrap64 (x9 - 1)) < (xo1.length : Int) then
                        if (IntKind.wrap .u64 (rU32 xo1 (wrap64 (x9 - 1)))) ≠ 0 then
                          nat_N_Div.l16 k x6 x9 x11 (IntKind.wrap .u64 (Int.tdiv (IntKind.wrap .u64 ((IntKind.wrap .u64 ((IntKind.wrap .u64 (rU32 xo0 (wrap64 (x11 + x9)))) * 1000000000)) + (IntKind.wrap .u64 (rU32 xo0 (wrap64 ((wrap64 (x11 + x9)) - 1)))))) (IntKind.wrap .u64 (rU32 xo1 (wrap64 (x9 - 1)))))) (Int.tmod (IntKind.wrap .u64 ((IntKind.wrap .u64 ((IntKind.wrap .u64 (rU32 xo0 (wrap64 (x11 + x9)))) * 1000000000)) + (IntKind.wrap .u64 (rU32 xo0 (wrap64 ((wrap64 (x11 + x9)) - 1)))))) (IntKind.wrap .u64 (rU32 xo1 (wrap64 (x9 - 1))))) xo0 xo1 xo2
                        else none
                      else none
                    else none
                  else none
                else none
              else none
            else none
          else none
        else none
      else none
    else (nat_N_trim.f k xo0).bind fun r5 =>
    (nat_N_short.f k r5 x6).bind fun r6 =>
    (nat_N_trim.f k xo2).bind fun r7 =>
    some (r7, r6.1) := rfl
theorem nat_N_Div.l16_eq (k : Nat) (x6 : Int) (x9 : Int) (x11 : Int) (x13 : Int) (x14 : Int) (xo0 : List Int) (xo1 : List Int) (xo2 : List Int) : nat_N_Div.l16 (k + 1) x6 x9 x11 x13 x14 xo0 xo1 xo2 = if 1000000000 ≤ x13 then
      if 0 ≤ (wrap64 (x9 - 1)) then
        if (wrap64 (x9 - 1)) < (xo1.length : Int) then
          if 1000000000 ≤ (IntKind.wrap .u64 (x14 + (IntKind.wrap .u64 (rU32 xo1 (wrap64 (x9 - 1)))))) then
            (nat_N_minus.f k xo1 x11 (IntKind.wrap .u64 (x13 - 1)) xo0).bind fun r8 =>
            if r8.1 = true then
              (nat_N_plus.f k xo1 x11 r8.2).bind fun r9 =>
              if 0 ≤ x11 then
                if x11 < (xo2.length : Int) then
                  nat_N_Div.l12 k x6 x9 (wrap64 (x11 - 1)) r9 xo1 (xo2.set x11.toNat (IntKind.wrap .u32 (IntKind.wrap .u64 ((IntKind.wrap .u64 (x13 - 1)) - 1))))
                else none
              else none
            else if 0 ≤ x11 then
              if x11 < (xo2.length : Int) then
                nat_N_Div.l12 k x6 x9 (wrap64 (x11 - 1)) r8.2 xo1 (xo2.set x11.toNat (IntKind.wrap .u32 (IntKind.wrap .u64 (x13 - 1))))
              else none
            else none
          else nat_N_Div.l16 k x6 x9 x11 (IntKind.wrap .u64 (x13 - 1)) (IntKind.wrap .u64 (x14 + (IntKind.wrap .u64 (rU32 xo1 (wrap64 (x9 - 1)))))) xo0 xo1 xo2
        else none
      else none
    else if 0 ≤ (wrap64 (x9 - 2)) then
      if (wrap64 (x9 - 2)) < (xo1.length : Int) then
        if 0 ≤ (wrap64 ((wrap64 (x11 + x9)) - 2)) then
          if (wrap64 ((wrap64 (x11 + x9)) - 2)) < (xo0.length : Int) then
            if (IntKind.wrap .u64 ((IntKind.wrap .u64 (x14 * 1000000000)) + (IntKind.wrap .u64 (rU32 xo0 (wrap64 ((wrap64 (x11 + x9)) - 2)))))) < (IntKind.wrap .u64 (x13 * (IntKind.wrap .u64 (rU32 xo1 (wrap64 (x9 - 2)))))) then
              if 0 ≤ (wrap64 (x9 - 1)) then
                if (wrap64 (x9 - 1)) < (xo1.length : Int) then
                  if 1000000000 ≤ (IntKind.wrap .u64 (x14 + (IntKind.wrap .u64 (rU32 xo1 (wrap64 (x9 - 1)))))) then
                    (nat_N_minus.f k xo1 x11 (IntKind.wrap .u64 (x13 - 1)) xo0).bind fun r10 =>
                    if r10.1 = true then
                      (nat_N_plus.f k xo1 x11 r10.2).bind fun r11 =>
                      if 0 ≤ x11 then
                        if x11 < (xo2.length : Int) then
                          nat_N_Div.l12 k x6 x9 (wrap64 (x11 - 1)) r11 xo1 (xo2.set x11.toNat (IntKind.wrap .u32 (IntKind.wrap .u64 ((IntKind.wrap .u64 (x13 - 1)) - 1))))
                        else none
                      else none
                    else if 0 ≤ x11 then
                      if x11 < (xo2.length : Int) then
                        nat_N_Div.l12 k x6 x9 (wrap64 (x11 - 1)) r10.2 xo1 (xo2.set x11.toNat (IntKind.wrap .u32 (IntKind.wrap .u64 (x13 - 1))))
                      else none
                    else none
                  else nat_N_Div.l16 k x6 x9 x11 (IntKind.wrap .u64 (x13 - 1)) (IntKind.wrap .u64 (x14 + (IntKind.wrap .u64 (rU32 xo1 (wrap64 (x9 - 1)))))) xo0 xo1 xo2
                else none
              else none
            else (nat_N_minus.f k xo1 x11 x13 xo0).bind fun r12 =>
            if r12.1 = true then
              (nat_N_plus.f k xo1 x11 r12.2).bind fun r13 =>
              if 0 ≤ x11 then
                if x11 < (xo2.length : Int) then
                  nat_N_Div.l12 k x6 x9 (wrap64 (x11 - 1)) r13 xo1 (xo2.set x11.toNat (IntKind.wrap .u32 (IntKind.wrap .u64 (x13 - 1))))
                else none
              else none
            else if 0 ≤ x11 then
              if x11 < (xo2.length : Int) then
                nat_N_Div.l12 k x6 x9 (wrap64 (x11 - 1)) r12.2 xo1 (xo2.set x11.toNat (IntKind.wrap .u32 (x13)))
              else none
            else none
          else none
        else none
      else none
    else none := rfl
def nat_N_Div.l7 : Nat → List Int → Int → List Int → List Int → Option (List Int × List Int)
  | 0, _, _, _, _ => none
  | k + 1, x0, x6, xo0, xo1 => if (xo0.length : Int) ≤ (x0.length : Int) then
      if (xo0.length + [0].length) * 4 ≤ 140737488355328 then
        nat_N_Div.l7 k x0 x6 (xo0 ++ [0]) xo1
      else none
    else if 0 ≤ (wrap64 ((xo0.length : Int) - (xo1.length : Int))) then
      if (wrap64 ((xo0.length : Int) - (xo1.length : Int))) * 4 ≤ 140737488355328 then
        if (wrap64 ((xo0.length : Int) - (xo1.length : Int))) ≤ 140737488355328 then
          nat_N_Div.l12 k x6 (xo1.length : Int) (wrap64 ((wrap64 ((xo0.length : Int) - (xo1.length : Int))) - 1)) xo0 xo1 (List.replicate (wrap64 ((xo0.length : Int) - (xo1.length : Int))).toNat 0)
        else none
      else none
    else none
theorem nat_N_Div.l7_eq (k : Nat) (x0 : List Int) (x6 : Int) (xo0 : List Int) (xo1 : List Int) : nat_N_Div.l7 (k + 1) x0 x6 xo0 xo1 = if (xo0.length : Int) ≤ (x0.length : Int) then
      if (xo0.length + [0].length) * 4 ≤ 140737488355328 then
        nat_N_Div.l7 k x0 x6 (xo0 ++ [0]) xo1
      else none
    else if 0 ≤ (wrap64 ((xo0.length : Int) - (xo1.length : Int))) then
      if (wrap64 ((xo0.length : Int) - (xo1.length : Int))) * 4 ≤ 140737488355328 then
        if (wrap64 ((xo0.length : Int) - (xo1.length : Int))) ≤ 140737488355328 then
          nat_N_Div.l12 k x6 (xo1.length : Int) (wrap64 ((wrap64 ((xo0.length : Int) - (xo1.length : Int))) - 1)) xo0 xo1 (List.replicate (wrap64 ((xo0.length : Int) - (xo1.length : Int))).toNat 0)
        else none
      else none
    else none := rfl
def nat_N_Div.l0 : Nat → List Int → List Int → Option (List Int × List Int)
  | 0, _, _ => none
  | k + 1, x0, x1 => (nat_N_Cmp.f k x0 x1).bind fun r1 =>
    if r1 < 0 then
      some ([], x0)
    else if (x1.length : Int) = 1 then
      if (0 : Int) ≤ 0 then
        if 0 < (x1.length : Int) then
          (nat_N_short.f k x0 (rU32 x1 0)).bind fun r2 =>
          some r2
        else none
      else none
    else if 0 ≤ (wrap64 ((x1.length : Int) - 1)) then
      if (wrap64 ((x1.length : Int) - 1)) < (x1.length : Int) then
        if (IntKind.wrap .u64 ((IntKind.wrap .u64 (rU32 x1 (wrap64 ((x1.length : Int) - 1)))) + 1)) ≠ 0 then
          (nat_N_Mul.f k x0 [IntKind.wrap .u32 (IntKind.wrap .u64 (Int.tdiv 1000000000 (IntKind.wrap .u64 ((IntKind.wrap .u64 (rU32 x1 (wrap64 ((x1.length : Int) - 1)))) + 1))))]).bind fun r3 =>
          if (r3.length + [0].length) * 4 ≤ 140737488355328 then
            (nat_N_Mul.f k x1 [IntKind.wrap .u32 (IntKind.wrap .u64 (Int.tdiv 1000000000 (IntKind.wrap .u64 ((IntKind.wrap .u64 (rU32 x1 (wrap64 ((x1.length : Int) - 1)))) + 1))))]).bind fun r4 =>
            nat_N_Div.l7 k x0 (IntKind.wrap .u32 (IntKind.wrap .u64 (Int.tdiv 1000000000 (IntKind.wrap .u64 ((IntKind.wrap .u64 (rU32 x1 (wrap64 ((x1.length : Int) - 1)))) + 1))))) (r3 ++ [0]) r4
          else none
        else none
      else none
    else none
theorem nat_N_Div.l0_eq (k : Nat) (x0 : List Int) (x1 : List Int) : nat_N_Div.l0 (k + 1) x0 x1 = (nat_N_Cmp.f k x0 x1).bind fun r1 =>
    if r1 < 0 then
      some ([], x0)
    else if (x1.length : Int) = 1 then
      if (0 : Int) ≤ 0 then
        if 0 < (x1.length : Int) then
          (nat_N_short.f k x0 (rU32 x1 0)).bind fun r2 =>
          some r2
        else none
      else none
    else if 0 ≤ (wrap64 ((x1.length : Int) - 1)) then
      if (wrap64 ((x1.length : Int) - 1)) < (x1.length : Int) then
        if (IntKind.wrap .u64 ((IntKind.wrap .u64 (rU32 x1 (wrap64 ((x1.length : Int) - 1)))) + 1)) ≠ 0 then
          (nat_N_Mul.f k x0 [IntKind.wrap .u32 (IntKind.wrap .u64 (Int.tdiv 1000000000 (IntKind.wrap .u64 ((IntKind.wrap .u64 (rU32 x1 (wrap64 ((x1.length : Int) - 1)))) + 1))))]).bind fun r3 =>
          if (r3.length + [0].length) * 4 ≤ 140737488355328 then
            (nat_N_Mul.f k x1 [IntKind.wrap .u32 (IntKind.wrap .u64 (Int.tdiv 1000000000 (IntKind.wrap .u64 ((IntKind.wrap .u64 (rU32 x1 (wrap64 ((x1.length : Int) - 1)))) + 1))))]).bind fun r4 =>
            nat_N_Div.l7 k x0 (IntKind.wrap .u32 (IntKind.wrap .u64 (Int.tdiv 1000000000 (IntKind.wrap .u64 ((IntKind.wrap .u64 (rU32 x1 (wrap64 ((x1.length : Int) - 1)))) + 1))))) (r3 ++ [0]) r4
          else none
        else none
      else none
    else none := rfl
def nat_N_Div.f (k : Nat) (a0 : List Int) (a1 : List Int) : Option (List Int × List Int) :=
  nat_N_Div.l0 k a0 a1
def nat_N_Gcd.l1 : Nat → List Int → List Int → Option (List Int)
  | 0, _, _ => none
  | k + 1, x0, x1 => if 0 < (x1.length : Int) then
      (nat_N_Div.f k x0 x1).bind fun r1 =>
      nat_N_Gcd.l1 k x1 r1.2
    else some x0
theorem nat_N_Gcd.l1_eq (k : Nat) (x0 : List Int) (x1 : List Int) : nat_N_Gcd.l1 (k + 1) x0 x1 = if 0 < (x1.length : Int) then
      (nat_N_Div.f k x0 x1).bind fun r1 =>
      nat_N_Gcd.l1 k x1 r1.2
    else some x0 := rfl
def nat_N_Gcd.f (k : Nat) (a0 : List Int) (a1 : List Int) : Option (List Int) :=
  nat_N_Gcd.l1 k a0 a1
def nat_Of.l2 : Nat → Int → List Int → Option (List Int)
  | 0, _, _ => none
  | k + 1, x0, xo0 => if 0 < x0 then
      if (1000000000 : Int) ≠ 0 then
        if (xo0.length + [IntKind.wrap .u32 (Int.tmod x0 1000000000)].length) * 4 ≤ 140737488355328 then
          if (1000000000 : Int) ≠ 0 then
            nat_Of.l2 k (wrap64 (Int.tdiv x0 1000000000)) (xo0 ++ [IntKind.wrap .u32 (Int.tmod x0 1000000000)])
          else none
        else none
      else none
    else some xo0
theorem nat_Of.l2_eq (k : Nat) (x0 : Int) (xo0 : List Int) : nat_Of.l2 (k + 1) x0 xo0 = if 0 < x0 then
      if (1000000000 : Int) ≠ 0 then
        if (xo0.length + [IntKind.wrap .u32 (Int.tmod x0 1000000000)].length) * 4 ≤ 140737488355328 then
          if (1000000000 : Int) ≠ 0 then
            nat_Of.l2 k (wrap64 (Int.tdiv x0 1000000000)) (xo0 ++ [IntKind.wrap .u32 (Int.tmod x0 1000000000)])
          else none
        else none
      else none
    else some xo0 := rfl
def nat_Of.f (k : Nat) (a0 : Int) : Option (List Int) :=
  nat_Of.l2 k a0 []
def rat_Check.l6 : Nat → Bool → ByteArray → ByteArray → Bool → Int → Int → Option Int
  | 0, _, _, _, _, _, _ => none
  | k + 1, x4, x5, x6, x7, x8, x9 => if x8 = 5 then
      some 5
    else if x9 = 5 then
      some 5
    else if x4 = true then
      if x5 = (ByteArray.mk #[48]) then
        some 5
      else if x8 = 0 then
        if x9 = 0 then
          if x7 = true then
            if x6 = (ByteArray.mk #[48]) then
              some 3
            else if x6 = (ByteArray.mk #[49]) then
              some 3
            else (nat_Read.f k x5).bind fun r5 =>
            (nat_Read.f k x6).bind fun r6 =>
            (nat_N_Gcd.f k r5 r6).bind fun r7 =>
            (nat_Of.f k 1).bind fun r8 =>
            (nat_N_Cmp.f k r7 r8).bind fun r9 =>
            if r9 = 0 then
              some 0
            else some 3
          else some 0
        else some 2
      else some 2
    else if x8 = 0 then
      if x9 = 0 then
        if x7 = true then
          if x6 = (ByteArray.mk #[48]) then
            some 3
          else if x6 = (ByteArray.mk #[49]) then
            some 3
          else (nat_Read.f k x5).bind fun r10 =>
          (nat_Read.f k x6).bind fun r11 =>
          (nat_N_Gcd.f k r10 r11).bind fun r12 =>
          (nat_Of.f k 1).bind fun r13 =>
          (nat_N_Cmp.f k r12 r13).bind fun r14 =>
          if r14 = 0 then
            some 0
          else some 3
        else some 0
      else some 2
    else some 2
theorem rat_Check.l6_eq (k : Nat) (x4 : Bool) (x5 : ByteArray) (x6 : ByteArray) (x7 : Bool) (x8 : Int) (x9 : Int) : rat_Check.l6 (k + 1) x4 x5 x6 x7 x8 x9 = if x8 = 5 then
      some 5
    else if x9 = 5 then
      some 5
    else if x4 = true then
      if x5 = (ByteArray.mk #[48]) then
        some 5
      else if x8 = 0 then
        if x9 = 0 then
          if x7 = true then
            if x6 = (ByteArray.mk #[48]) then
              some 3
            else if x6 = (ByteArray.mk #[49]) then
              some 3
            else (nat_Read.f k x5).bind fun r5 =>
            (nat_Read.f k x6).bind fun r6 =>
            (nat_N_Gcd.f k r5 r6).bind fun r7 =>
            (nat_Of.f k 1).bind fun r8 =>
            (nat_N_Cmp.f k r7 r8).bind fun r9 =>
            if r9 = 0 then
              some 0
            else some 3
          else some 0
        else some 2
      else some 2
    else if x8 = 0 then
      if x9 = 0 then
        if x7 = true then
          if x6 = (ByteArray.mk #[48]) then
            some 3
          else if x6 = (ByteArray.mk #[49]) then
            some 3
          else (nat_Read.f k x5).bind fun r10 =>
          (nat_Read.f k x6).bind fun r11 =>
          (nat_N_Gcd.f k r10 r11).bind fun r12 =>
          (nat_Of.f k 1).bind fun r13 =>
          (nat_N_Cmp.f k r12 r13).bind fun r14 =>
          if r14 = 0 then
            some 0
          else some 3
        else some 0
      else some 2
    else some 2 := rfl
def rat_Check.f (k : Nat) (a0 : ByteArray) : Option Int :=
  (strings_CutPrefix.f k a0 (ByteArray.mk #[45])).bind fun r1 =>
  (strings_Cut.f k r1.1 (ByteArray.mk #[47])).bind fun r2 =>
  (nat_Check.f k r2.1).bind fun r3 =>
  if r2.2.2 = true then
    (nat_Check.f k r2.2.1).bind fun r4 =>
    rat_Check.l6 k r1.2 r2.1 r2.2.1 r2.2.2 r3 r4
  else rat_Check.l6 k r1.2 r2.1 r2.2.1 r2.2.2 r3 0
def rat_CheckAll.l2 : Nat → List ByteArray → Int → Int → Option Int
  | 0, _, _, _ => none
  | k + 1, x6, x7, x8 => if x8 < x7 then
      if 0 ≤ x8 then
        if x8 < (x6.length : Int) then
          (rat_Check.f k (rStr x6 x8)).bind fun r1 =>
          if r1 = 0 then
            rat_CheckAll.l2 k x6 x7 (wrap64 (x8 + 1))
          else some r1
        else none
      else none
    else some 0
theorem rat_CheckAll.l2_eq (k : Nat) (x6 : List ByteArray) (x7 : Int) (x8 : Int) : rat_CheckAll.l2 (k + 1) x6 x7 x8 = if x8 < x7 then
      if 0 ≤ x8 then
        if x8 < (x6.length : Int) then
          (rat_Check.f k (rStr x6 x8)).bind fun r1 =>
          if r1 = 0 then
            rat_CheckAll.l2 k x6 x7 (wrap64 (x8 + 1))
          else some r1
        else none
      else none
    else some 0 := rfl
def rat_CheckAll.f (k : Nat) (a0 : List ByteArray) : Option Int :=
  rat_CheckAll.l2 k a0 (a0.length : Int) 0
def rights_bus.f (k : Nat) (a0 : List ByteArray × (List (ByteArray × ByteArray × ByteArray × Bool × Bool)) × (List (ByteArray × ByteArray × ByteArray × Int × Int × Int × Int × Int × Int)) × (List (ByteArray × ByteArray × Int × Int × Int)) × (List (ByteArray × ByteArray × Int)) × List (ByteArray × ByteArray × Int × Int × Int)) (a1 : List Int × List Int) (a2 : ByteArray) : Option Int :=
  (netmodel_Node.f k a0 a2).bind fun r1 =>
  if 0 ≤ r1.1 then
    if r1.1 < (a1.1.length : Int) then
      some (rI64 a1.1 r1.1)
    else none
  else none
def rat_In.f (k : Nat) (a0 : ByteArray) : Option (Bool × List Int × List Int) :=
  (strings_CutPrefix.f k a0 (ByteArray.mk #[45])).bind fun r1 =>
  (strings_Cut.f k r1.1 (ByteArray.mk #[47])).bind fun r2 =>
  (nat_Read.f k r2.1).bind fun r3 =>
  (nat_Of.f k 1).bind fun r4 =>
  if r2.2.2 = true then
    (nat_Read.f k r2.2.1).bind fun r5 =>
    some (r1.2, r3, r5)
  else some (r1.2, r3, r4)
def rat_Q_Neg.f (k : Nat) (a0 : Bool × List Int × List Int) : Option (Bool × List Int × List Int) :=
  if (a0.2.1.length : Int) = 0 then
    some a0
  else some (!decide (a0.1 = true), a0.2)
def rat_Q_whole.f (k : Nat) (a0 : Bool × List Int × List Int) : Option (List Int) :=
  if (a0.2.2.length : Int) = 0 then
    (nat_Of.f k 1).bind fun r1 =>
    some r1
  else some a0.2.2
def nat_N_Add.l6 : Nat → List Int → Int → List Int → Int → Int → List Int → Option (List Int)
  | 0, _, _, _, _, _, _ => none
  | k + 1, x1, x6, x20, x21, x22, xo0 => if x22 < x21 then
      if 0 ≤ x22 then
        if x22 < (x20.length : Int) then
          if x22 < (x1.length : Int) then
            if 0 ≤ x22 then
              if x22 < (x1.length : Int) then
                if (1000000000 : Int) ≠ 0 then
                  if (1000000000 : Int) ≠ 0 then
                    if (xo0.length + [Int.tmod (IntKind.wrap .u32 ((IntKind.wrap .u32 ((rU32 x20 x22) + x6)) + (rU32 x1 x22))) 1000000000].length) * 4 ≤ 140737488355328 then
                      nat_N_Add.l6 k x1 (IntKind.wrap .u32 (Int.tdiv (IntKind.wrap .u32 ((IntKind.wrap .u32 ((rU32 x20 x22) + x6)) + (rU32 x1 x22))) 1000000000)) x20 x21 (wrap64 (x22 + 1)) (xo0 ++ [Int.tmod (IntKind.wrap .u32 ((IntKind.wrap .u32 ((rU32 x20 x22) + x6)) + (rU32 x1 x22))) 1000000000])
                    else none
                  else none
                else none
              else none
            else none
          else if (1000000000 : Int) ≠ 0 then
            if (1000000000 : Int) ≠ 0 then
              if (xo0.length + [Int.tmod (IntKind.wrap .u32 ((rU32 x20 x22) + x6)) 1000000000].length) * 4 ≤ 140737488355328 then
                nat_N_Add.l6 k x1 (IntKind.wrap .u32 (Int.tdiv (IntKind.wrap .u32 ((rU32 x20 x22) + x6)) 1000000000)) x20 x21 (wrap64 (x22 + 1)) (xo0 ++ [Int.tmod (IntKind.wrap .u32 ((rU32 x20 x22) + x6)) 1000000000])
              else none
            else none
          else none
        else none
      else none
    else if 0 < x6 then
      if (xo0.length + [x6].length) * 4 ≤ 140737488355328 then
        some (xo0 ++ [x6])
      else none
    else some xo0
theorem nat_N_Add.l6_eq (k : Nat) (x1 : List Int) (x6 : Int) (x20 : List Int) (x21 : Int) (x22 : Int) (xo0 : List Int) : nat_N_Add.l6 (k + 1) x1 x6 x20 x21 x22 xo0 = if x22 < x21 then
      if 0 ≤ x22 then
        if x22 < (x20.length : Int) then
          if x22 < (x1.length : Int) then
            if 0 ≤ x22 then
              if x22 < (x1.length : Int) then
                if (1000000000 : Int) ≠ 0 then
                  if (1000000000 : Int) ≠ 0 then
                    if (xo0.length + [Int.tmod (IntKind.wrap .u32 ((IntKind.wrap .u32 ((rU32 x20 x22) + x6)) + (rU32 x1 x22))) 1000000000].length) * 4 ≤ 140737488355328 then
                      nat_N_Add.l6 k x1 (IntKind.wrap .u32 (Int.tdiv (IntKind.wrap .u32 ((IntKind.wrap .u32 ((rU32 x20 x22) + x6)) + (rU32 x1 x22))) 1000000000)) x20 x21 (wrap64 (x22 + 1)) (xo0 ++ [Int.tmod (IntKind.wrap .u32 ((IntKind.wrap .u32 ((rU32 x20 x22) + x6)) + (rU32 x1 x22))) 1000000000])
                    else none
                  else none
                else none
              else none
            else none
          else if (1000000000 : Int) ≠ 0 then
            if (1000000000 : Int) ≠ 0 then
              if (xo0.length + [Int.tmod (IntKind.wrap .u32 ((rU32 x20 x22) + x6)) 1000000000].length) * 4 ≤ 140737488355328 then
                nat_N_Add.l6 k x1 (IntKind.wrap .u32 (Int.tdiv (IntKind.wrap .u32 ((rU32 x20 x22) + x6)) 1000000000)) x20 x21 (wrap64 (x22 + 1)) (xo0 ++ [Int.tmod (IntKind.wrap .u32 ((rU32 x20 x22) + x6)) 1000000000])
              else none
            else none
          else none
        else none
      else none
    else if 0 < x6 then
      if (xo0.length + [x6].length) * 4 ≤ 140737488355328 then
        some (xo0 ++ [x6])
      else none
    else some xo0 := rfl
def nat_N_Add.l3 : Nat → List Int → List Int → Option (List Int)
  | 0, _, _ => none
  | k + 1, x0, x1 => if (0 : Int) ≤ 0 then
      if 0 ≤ (wrap64 ((x0.length : Int) + 1)) then
        if (wrap64 ((x0.length : Int) + 1)) * 4 ≤ 140737488355328 then
          if (wrap64 ((x0.length : Int) + 1)) ≤ 140737488355328 then
            nat_N_Add.l6 k x1 0 x0 (x0.length : Int) 0 (List.replicate (Int.toNat 0) 0)
          else none
        else none
      else none
    else none
theorem nat_N_Add.l3_eq (k : Nat) (x0 : List Int) (x1 : List Int) : nat_N_Add.l3 (k + 1) x0 x1 = if (0 : Int) ≤ 0 then
      if 0 ≤ (wrap64 ((x0.length : Int) + 1)) then
        if (wrap64 ((x0.length : Int) + 1)) * 4 ≤ 140737488355328 then
          if (wrap64 ((x0.length : Int) + 1)) ≤ 140737488355328 then
            nat_N_Add.l6 k x1 0 x0 (x0.length : Int) 0 (List.replicate (Int.toNat 0) 0)
          else none
        else none
      else none
    else none := rfl
def nat_N_Add.l0 : Nat → List Int → List Int → Option (List Int)
  | 0, _, _ => none
  | k + 1, x0, x1 => if (x0.length : Int) < (x1.length : Int) then
      nat_N_Add.l3 k x1 x0
    else nat_N_Add.l3 k x0 x1
theorem nat_N_Add.l0_eq (k : Nat) (x0 : List Int) (x1 : List Int) : nat_N_Add.l0 (k + 1) x0 x1 = if (x0.length : Int) < (x1.length : Int) then
      nat_N_Add.l3 k x1 x0
    else nat_N_Add.l3 k x0 x1 := rfl
def nat_N_Add.f (k : Nat) (a0 : List Int) (a1 : List Int) : Option (List Int) :=
  nat_N_Add.l0 k a0 a1
def rat_low.f (k : Nat) (a0 : Bool) (a1 : List Int) (a2 : List Int) : Option (Bool × List Int × List Int) :=
  if (a1.length : Int) = 0 then
    some (false, [], [])
  else (nat_N_Gcd.f k a1 a2).bind fun r1 =>
  (nat_Of.f k 1).bind fun r2 =>
  (nat_N_Cmp.f k r1 r2).bind fun r3 =>
  if 0 < r3 then
    (nat_N_Div.f k a1 r1).bind fun r4 =>
    (nat_N_Div.f k a2 r1).bind fun r5 =>
    some (a0, r4.1, r5.1)
  else some (a0, a1, a2)
def nat_N_Sub.l4 : Nat → List Int → List Int → Int → Int → Int → List Int → Option (List Int)
  | 0, _, _, _, _, _, _ => none
  | k + 1, x0, x1, x6, x13, x14, xo0 => if x14 < x13 then
      if 0 ≤ x14 then
        if x14 < (x0.length : Int) then
          if x14 < (x1.length : Int) then
            if 0 ≤ x14 then
              if x14 < (x1.length : Int) then
                if (wrap64 ((wrap64 ((wrap64 (rU32 x0 x14)) - x6)) - (wrap64 (rU32 x1 x14)))) < 0 then
                  if 0 ≤ x14 then
                    if x14 < (xo0.length : Int) then
                      nat_N_Sub.l4 k x0 x1 1 x13 (wrap64 (x14 + 1)) (xo0.set x14.toNat (IntKind.wrap .u32 (wrap64 ((wrap64 ((wrap64 ((wrap64 (rU32 x0 x14)) - x6)) - (wrap64 (rU32 x1 x14)))) + 1000000000))))
                    else none
                  else none
                else if 0 ≤ x14 then
                  if x14 < (xo0.length : Int) then
                    nat_N_Sub.l4 k x0 x1 0 x13 (wrap64 (x14 + 1)) (xo0.set x14.toNat (IntKind.wrap .u32 (wrap64 ((wrap64 ((wrap64 (rU32 x0 x14)) - x6)) - (wrap64 (rU32 x1 x14))))))
                  else none
                else none
              else none
            else none
          else if (wrap64 ((wrap64 (rU32 x0 x14)) - x6)) < 0 then
            if 0 ≤ x14 then
              if x14 < (xo0.length : Int) then
                nat_N_Sub.l4 k x0 x1 1 x13 (wrap64 (x14 + 1)) (xo0.set x14.toNat (IntKind.wrap .u32 (wrap64 ((wrap64 ((wrap64 (rU32 x0 x14)) - x6)) + 1000000000))))
              else none
            else none
          else if 0 ≤ x14 then
            if x14 < (xo0.length : Int) then
              nat_N_Sub.l4 k x0 x1 0 x13 (wrap64 (x14 + 1)) (xo0.set x14.toNat (IntKind.wrap .u32 (wrap64 ((wrap64 (rU32 x0 x14)) - x6))))
            else none
          else none
        else none
      else none
    else (nat_N_trim.f k xo0).bind fun r1 =>
    some r1
theorem nat_N_Sub.l4_eq (k : Nat) (x0 : List Int) (x1 : List Int) (x6 : Int) (x13 : Int) (x14 : Int) (xo0 : List Int) : nat_N_Sub.l4 (k + 1) x0 x1 x6 x13 x14 xo0 = if x14 < x13 then
      if 0 ≤ x14 then
        if x14 < (x0.length : Int) then
          if x14 < (x1.length : Int) then
            if 0 ≤ x14 then
              if x14 < (x1.length : Int) then
                if (wrap64 ((wrap64 ((wrap64 (rU32 x0 x14)) - x6)) - (wrap64 (rU32 x1 x14)))) < 0 then
                  if 0 ≤ x14 then
                    if x14 < (xo0.length : Int) then
                      nat_N_Sub.l4 k x0 x1 1 x13 (wrap64 (x14 + 1)) (xo0.set x14.toNat (IntKind.wrap .u32 (wrap64 ((wrap64 ((wrap64 ((wrap64 (rU32 x0 x14)) - x6)) - (wrap64 (rU32 x1 x14)))) + 1000000000))))
                    else none
                  else none
                else if 0 ≤ x14 then
                  if x14 < (xo0.length : Int) then
                    nat_N_Sub.l4 k x0 x1 0 x13 (wrap64 (x14 + 1)) (xo0.set x14.toNat (IntKind.wrap .u32 (wrap64 ((wrap64 ((wrap64 (rU32 x0 x14)) - x6)) - (wrap64 (rU32 x1 x14))))))
                  else none
                else none
              else none
            else none
          else if (wrap64 ((wrap64 (rU32 x0 x14)) - x6)) < 0 then
            if 0 ≤ x14 then
              if x14 < (xo0.length : Int) then
                nat_N_Sub.l4 k x0 x1 1 x13 (wrap64 (x14 + 1)) (xo0.set x14.toNat (IntKind.wrap .u32 (wrap64 ((wrap64 ((wrap64 (rU32 x0 x14)) - x6)) + 1000000000))))
              else none
            else none
          else if 0 ≤ x14 then
            if x14 < (xo0.length : Int) then
              nat_N_Sub.l4 k x0 x1 0 x13 (wrap64 (x14 + 1)) (xo0.set x14.toNat (IntKind.wrap .u32 (wrap64 ((wrap64 (rU32 x0 x14)) - x6))))
            else none
          else none
        else none
      else none
    else (nat_N_trim.f k xo0).bind fun r1 =>
    some r1 := rfl
def nat_N_Sub.l0 : Nat → List Int → List Int → Option (List Int)
  | 0, _, _ => none
  | k + 1, x0, x1 => if 0 ≤ (x0.length : Int) then
      if (x0.length : Int) * 4 ≤ 140737488355328 then
        if (x0.length : Int) ≤ 140737488355328 then
          nat_N_Sub.l4 k x0 x1 0 (x0.length : Int) 0 (List.replicate (x0.length : Int).toNat 0)
        else none
      else none
    else none
theorem nat_N_Sub.l0_eq (k : Nat) (x0 : List Int) (x1 : List Int) : nat_N_Sub.l0 (k + 1) x0 x1 = if 0 ≤ (x0.length : Int) then
      if (x0.length : Int) * 4 ≤ 140737488355328 then
        if (x0.length : Int) ≤ 140737488355328 then
          nat_N_Sub.l4 k x0 x1 0 (x0.length : Int) 0 (List.replicate (x0.length : Int).toNat 0)
        else none
      else none
    else none := rfl
def nat_N_Sub.f (k : Nat) (a0 : List Int) (a1 : List Int) : Option (List Int) :=
  nat_N_Sub.l0 k a0 a1
def rat_Q_Add.f (k : Nat) (a0 : Bool × List Int × List Int) (a1 : Bool × List Int × List Int) : Option (Bool × List Int × List Int) :=
  if (a0.2.1.length : Int) = 0 then
    some a1
  else if (a1.2.1.length : Int) = 0 then
    some a0
  else (rat_Q_whole.f k a1).bind fun r1 =>
  (nat_N_Mul.f k a0.2.1 r1).bind fun r2 =>
  (rat_Q_whole.f k a0).bind fun r3 =>
  (nat_N_Mul.f k a1.2.1 r3).bind fun r4 =>
  (rat_Q_whole.f k a0).bind fun r5 =>
  (rat_Q_whole.f k a1).bind fun r6 =>
  (nat_N_Mul.f k r5 r6).bind fun r7 =>
  if a0.1 = a1.1 then
    (nat_N_Add.f k r2 r4).bind fun r8 =>
    (rat_low.f k a0.1 r8 r7).bind fun r9 =>
    some r9
  else (nat_N_Cmp.f k r2 r4).bind fun r10 =>
  if 0 ≤ r10 then
    (nat_N_Sub.f k r2 r4).bind fun r11 =>
    (rat_low.f k a0.1 r11 r7).bind fun r12 =>
    some r12
  else (nat_N_Sub.f k r4 r2).bind fun r13 =>
  (rat_low.f k a1.1 r13 r7).bind fun r14 =>
  some r14
def rat_Q_Sub.f (k : Nat) (a0 : Bool × List Int × List Int) (a1 : Bool × List Int × List Int) : Option (Bool × List Int × List Int) :=
  (rat_Q_Neg.f k a1).bind fun r1 =>
  (rat_Q_Add.f k a0 r1).bind fun r2 =>
  some r2
def rat_Int.f (k : Nat) (a0 : Int) : Option (Bool × List Int × List Int) :=
  if a0 < 0 then
    (nat_Of.f k (wrap64 (0 - a0))).bind fun r1 =>
    (nat_Of.f k 1).bind fun r2 =>
    some (true, r1, r2)
  else (nat_Of.f k a0).bind fun r3 =>
  (nat_Of.f k 1).bind fun r4 =>
  some (false, r3, r4)
def rat_Q_Mul.f (k : Nat) (a0 : Bool × List Int × List Int) (a1 : Bool × List Int × List Int) : Option (Bool × List Int × List Int) :=
  if (a0.2.1.length : Int) = 0 then
    some (false, [], [])
  else if (a1.2.1.length : Int) = 0 then
    some (false, [], [])
  else (nat_N_Mul.f k a0.2.1 a1.2.1).bind fun r1 =>
  (rat_Q_whole.f k a0).bind fun r2 =>
  (rat_Q_whole.f k a1).bind fun r3 =>
  (nat_N_Mul.f k r2 r3).bind fun r4 =>
  (rat_low.f k (!decide (a0.1 = a1.1)) r1 r4).bind fun r5 =>
  some r5
def strings_trimLeftByte.l1 : Nat → ByteArray → Int → Option ByteArray
  | 0, _, _ => none
  | k + 1, x0, x1 => if 0 < (x0.size : Int) then
      if (0 : Int) ≤ 0 then
        if 0 < (x0.size : Int) then
          if (bt x0 0) = x1 then
            if (0 : Int) ≤ 1 then
              if 1 ≤ (x0.size : Int) then
                strings_trimLeftByte.l1 k (x0.extract (Int.toNat 1) (Int.toNat (x0.size : Int))) x1
              else none
            else none
          else some x0
        else none
      else none
    else some x0
theorem strings_trimLeftByte.l1_eq (k : Nat) (x0 : ByteArray) (x1 : Int) : strings_trimLeftByte.l1 (k + 1) x0 x1 = if 0 < (x0.size : Int) then
      if (0 : Int) ≤ 0 then
        if 0 < (x0.size : Int) then
          if (bt x0 0) = x1 then
            if (0 : Int) ≤ 1 then
              if 1 ≤ (x0.size : Int) then
                strings_trimLeftByte.l1 k (x0.extract (Int.toNat 1) (Int.toNat (x0.size : Int))) x1
              else none
            else none
          else some x0
        else none
      else none
    else some x0 := rfl
def strings_trimLeftByte.f (k : Nat) (a0 : ByteArray) (a1 : Int) : Option ByteArray :=
  strings_trimLeftByte.l1 k a0 a1
def strings_TrimLeft.f (k : Nat) (a0 : ByteArray) (a1 : ByteArray) : Option ByteArray :=
  if a0 = ByteArray.empty then
    some a0
  else if a1 = ByteArray.empty then
    some a0
  else if (a1.size : Int) = 1 then
    if (0 : Int) ≤ 0 then
      if 0 < (a1.size : Int) then
        if (bt a1 0) < 128 then
          if (0 : Int) ≤ 0 then
            if 0 < (a1.size : Int) then
              (strings_trimLeftByte.f k a0 (bt a1 0)).bind fun r1 =>
              some r1
            else none
          else none
        else none
      else none
    else none
  else none
mutual
def nat_N_Text.l5 : Nat → List Int → Int → List Int → Option ByteArray
  | 0, _, _, _ => none
  | k + 1, x0, x4, xo0 => if 0 ≤ x4 then
      if 0 ≤ x4 then
        if x4 < (x0.length : Int) then
          nat_N_Text.l10 k x0 x4 (rU32 x0 x4) 8 xo0 [0, 0, 0, 0, 0, 0, 0, 0, 0]
        else none
      else none
    else (strings_TrimLeft.f k (ofBytes xo0) (ByteArray.mk #[48])).bind fun r1 =>
    some r1
def nat_N_Text.l10 : Nat → List Int → Int → Int → Int → List Int → List Int → Option ByteArray
  | 0, _, _, _, _, _, _ => none
  | k + 1, x0, x4, x5, x7, xo0, xo1 => if 0 ≤ x7 then
      if (10 : Int) ≠ 0 then
        if 0 ≤ x7 then
          if x7 < 9 then
            if x7 < (xo1.length : Int) then
              if (10 : Int) ≠ 0 then
                nat_N_Text.l10 k x0 x4 (IntKind.wrap .u32 (Int.tdiv x5 10)) (wrap64 (x7 - 1)) xo0 (xo1.set x7.toNat (IntKind.wrap .u8 (IntKind.wrap .u32 (48 + (Int.tmod x5 10)))))
              else none
            else none
          else none
        else none
      else none
    else if xo1.length = 9 then
      if (xo0.length + xo1.length) * 1 ≤ 140737488355328 then
        nat_N_Text.l5 k x0 (wrap64 (x4 - 1)) (xo0 ++ xo1)
      else none
    else none
end
theorem nat_N_Text.l5_eq (k : Nat) (x0 : List Int) (x4 : Int) (xo0 : List Int) : nat_N_Text.l5 (k + 1) x0 x4 xo0 = if 0 ≤ x4 then
      if 0 ≤ x4 then
        if x4 < (x0.length : Int) then
          nat_N_Text.l10 k x0 x4 (rU32 x0 x4) 8 xo0 [0, 0, 0, 0, 0, 0, 0, 0, 0]
        else none
      else none
    else (strings_TrimLeft.f k (ofBytes xo0) (ByteArray.mk #[48])).bind fun r1 =>
    some r1 := rfl
theorem nat_N_Text.l10_eq (k : Nat) (x0 : List Int) (x4 : Int) (x5 : Int) (x7 : Int) (xo0 : List Int) (xo1 : List Int) : nat_N_Text.l10 (k + 1) x0 x4 x5 x7 xo0 xo1 = if 0 ≤ x7 then
      if (10 : Int) ≠ 0 then
        if 0 ≤ x7 then
          if x7 < 9 then
            if x7 < (xo1.length : Int) then
              if (10 : Int) ≠ 0 then
                nat_N_Text.l10 k x0 x4 (IntKind.wrap .u32 (Int.tdiv x5 10)) (wrap64 (x7 - 1)) xo0 (xo1.set x7.toNat (IntKind.wrap .u8 (IntKind.wrap .u32 (48 + (Int.tmod x5 10)))))
              else none
            else none
          else none
        else none
      else none
    else if xo1.length = 9 then
      if (xo0.length + xo1.length) * 1 ≤ 140737488355328 then
        nat_N_Text.l5 k x0 (wrap64 (x4 - 1)) (xo0 ++ xo1)
      else none
    else none := rfl
def nat_N_Text.l0 : Nat → List Int → Option ByteArray
  | 0, _ => none
  | k + 1, x0 => if (x0.length : Int) = 0 then
      some (ByteArray.mk #[48])
    else if (0 : Int) ≤ 0 then
      if 0 ≤ (wrap64 (9 * (x0.length : Int))) then
        if (wrap64 (9 * (x0.length : Int))) * 1 ≤ 140737488355328 then
          if (wrap64 (9 * (x0.length : Int))) ≤ 140737488355328 then
            nat_N_Text.l5 k x0 (wrap64 ((x0.length : Int) - 1)) (List.replicate (Int.toNat 0) 0)
          else none
        else none
      else none
    else none
theorem nat_N_Text.l0_eq (k : Nat) (x0 : List Int) : nat_N_Text.l0 (k + 1) x0 = if (x0.length : Int) = 0 then
      some (ByteArray.mk #[48])
    else if (0 : Int) ≤ 0 then
      if 0 ≤ (wrap64 (9 * (x0.length : Int))) then
        if (wrap64 (9 * (x0.length : Int))) * 1 ≤ 140737488355328 then
          if (wrap64 (9 * (x0.length : Int))) ≤ 140737488355328 then
            nat_N_Text.l5 k x0 (wrap64 ((x0.length : Int) - 1)) (List.replicate (Int.toNat 0) 0)
          else none
        else none
      else none
    else none := rfl
def nat_N_Text.f (k : Nat) (a0 : List Int) : Option ByteArray :=
  nat_N_Text.l0 k a0
def nat_N_Digits.f (k : Nat) (a0 : List Int) : Option Int :=
  (nat_N_Text.f k a0).bind fun r1 =>
  some (r1.size : Int)
def rat_Fits.f (k : Nat) (a0 : Bool × List Int × List Int) : Option Int :=
  (nat_N_Digits.f k a0.2.1).bind fun r1 =>
  if 2000 < r1 then
    some 2
  else (nat_N_Digits.f k a0.2.2).bind fun r2 =>
  if 2000 < r2 then
    some 2
  else some 0
def rat_Q_Out.f (k : Nat) (a0 : Bool × List Int × List Int) : Option ByteArray :=
  if (a0.2.1.length : Int) = 0 then
    some (ByteArray.mk #[48])
  else (nat_N_Text.f k a0.2.1).bind fun r1 =>
  if a0.1 = true then
    if ((ByteArray.mk #[45]).size : Int) + (r1.size : Int) ≤ 9223372036854775807 then
      (rat_Q_whole.f k a0).bind fun r2 =>
      (nat_N_Text.f k r2).bind fun r3 =>
      if r3 = (ByteArray.mk #[49]) then
        some ((ByteArray.mk #[45]) ++ r1)
      else if ((ByteArray.mk #[47]).size : Int) + (r3.size : Int) ≤ 9223372036854775807 then
        if (((ByteArray.mk #[45]) ++ r1).size : Int) + (((ByteArray.mk #[47]) ++ r3).size : Int) ≤ 9223372036854775807 then
          some (((ByteArray.mk #[45]) ++ r1) ++ ((ByteArray.mk #[47]) ++ r3))
        else none
      else none
    else none
  else (rat_Q_whole.f k a0).bind fun r4 =>
  (nat_N_Text.f k r4).bind fun r5 =>
  if r5 = (ByteArray.mk #[49]) then
    some r1
  else if ((ByteArray.mk #[47]).size : Int) + (r5.size : Int) ≤ 9223372036854775807 then
    if (r1.size : Int) + (((ByteArray.mk #[47]) ++ r5).size : Int) ≤ 9223372036854775807 then
      some (r1 ++ ((ByteArray.mk #[47]) ++ r5))
    else none
  else none
def rights_Payout.l14 : Nat → List ByteArray → (List (ByteArray × ByteArray × Int)) → Int → Int → List ByteArray → (List (ByteArray × ByteArray × ByteArray × Bool × Bool)) → (List (ByteArray × ByteArray × ByteArray × Int × Int × Int × Int × Int × Int)) → (List (ByteArray × ByteArray × Int × Int × Int)) → (List (ByteArray × ByteArray × Int)) → (List (ByteArray × ByteArray × Int × Int × Int)) → List Int → List Int → List ByteArray → Option (List ByteArray × Int)
  | 0, _, _, _, _, _, _, _, _, _, _, _, _, _ => none
  | k + 1, x2, x41, x42, x43, xo0_0, xo0_1, xo0_2, xo0_3, xo0_4, xo0_5, xo1_0, xo1_1, xo2 => if x43 < x42 then
      if 0 ≤ x43 then
        if x43 < (x41.length : Int) then
          (rights_bus.f k (xo0_0, xo0_1, xo0_2, xo0_3, xo0_4, xo0_5) (xo1_0, xo1_1) (rY15 x41 x43).2.1).bind fun r4 =>
          if 0 ≤ r4 then
            if r4 < (x2.length : Int) then
              (rat_In.f k (rStr x2 r4)).bind fun r5 =>
              (rights_bus.f k (xo0_0, xo0_1, xo0_2, xo0_3, xo0_4, xo0_5) (xo1_0, xo1_1) (rY15 x41 x43).1).bind fun r6 =>
              if 0 ≤ r6 then
                if r6 < (x2.length : Int) then
                  (rat_In.f k (rStr x2 r6)).bind fun r7 =>
                  (rat_Q_Sub.f k r5 r7).bind fun r8 =>
                  (rat_Int.f k (rY15 x41 x43).2.2).bind fun r9 =>
                  (rat_Q_Mul.f k r8 r9).bind fun r10 =>
                  (rat_Fits.f k r10).bind fun r11 =>
                  if r11 = 0 then
                    (rat_Q_Out.f k r10).bind fun r12 =>
                    if (xo2.length + [r12].length) * 16 ≤ 140737488355328 then
                      rights_Payout.l14 k x2 x41 x42 (wrap64 (x43 + 1)) xo0_0 xo0_1 xo0_2 xo0_3 xo0_4 xo0_5 xo1_0 xo1_1 (xo2 ++ [r12])
                    else none
                  else some ([], 2)
                else none
              else none
            else none
          else none
        else none
      else none
    else some (xo2, 0)
theorem rights_Payout.l14_eq (k : Nat) (x2 : List ByteArray) (x41 : List (ByteArray × ByteArray × Int)) (x42 : Int) (x43 : Int) (xo0_0 : List ByteArray) (xo0_1 : List (ByteArray × ByteArray × ByteArray × Bool × Bool)) (xo0_2 : List (ByteArray × ByteArray × ByteArray × Int × Int × Int × Int × Int × Int)) (xo0_3 : List (ByteArray × ByteArray × Int × Int × Int)) (xo0_4 : List (ByteArray × ByteArray × Int)) (xo0_5 : List (ByteArray × ByteArray × Int × Int × Int)) (xo1_0 : List Int) (xo1_1 : List Int) (xo2 : List ByteArray) : rights_Payout.l14 (k + 1) x2 x41 x42 x43 xo0_0 xo0_1 xo0_2 xo0_3 xo0_4 xo0_5 xo1_0 xo1_1 xo2 = if x43 < x42 then
      if 0 ≤ x43 then
        if x43 < (x41.length : Int) then
          (rights_bus.f k (xo0_0, xo0_1, xo0_2, xo0_3, xo0_4, xo0_5) (xo1_0, xo1_1) (rY15 x41 x43).2.1).bind fun r4 =>
          if 0 ≤ r4 then
            if r4 < (x2.length : Int) then
              (rat_In.f k (rStr x2 r4)).bind fun r5 =>
              (rights_bus.f k (xo0_0, xo0_1, xo0_2, xo0_3, xo0_4, xo0_5) (xo1_0, xo1_1) (rY15 x41 x43).1).bind fun r6 =>
              if 0 ≤ r6 then
                if r6 < (x2.length : Int) then
                  (rat_In.f k (rStr x2 r6)).bind fun r7 =>
                  (rat_Q_Sub.f k r5 r7).bind fun r8 =>
                  (rat_Int.f k (rY15 x41 x43).2.2).bind fun r9 =>
                  (rat_Q_Mul.f k r8 r9).bind fun r10 =>
                  (rat_Fits.f k r10).bind fun r11 =>
                  if r11 = 0 then
                    (rat_Q_Out.f k r10).bind fun r12 =>
                    if (xo2.length + [r12].length) * 16 ≤ 140737488355328 then
                      rights_Payout.l14 k x2 x41 x42 (wrap64 (x43 + 1)) xo0_0 xo0_1 xo0_2 xo0_3 xo0_4 xo0_5 xo1_0 xo1_1 (xo2 ++ [r12])
                    else none
                  else some ([], 2)
                else none
              else none
            else none
          else none
        else none
      else none
    else some (xo2, 0) := rfl
def rights_Payout.f (k : Nat) (a0 : List ByteArray × (List (ByteArray × ByteArray × ByteArray × Bool × Bool)) × (List (ByteArray × ByteArray × ByteArray × Int × Int × Int × Int × Int × Int)) × (List (ByteArray × ByteArray × Int × Int × Int)) × (List (ByteArray × ByteArray × Int)) × List (ByteArray × ByteArray × Int × Int × Int)) (a1 : List (ByteArray × ByteArray × Int)) (a2 : List ByteArray) : Option (List ByteArray × Int) :=
  (rights_Check.f k a0 a1).bind fun r1 =>
  if r1 = 0 then
    (topology_Of.f k a0).bind fun r2 =>
    if r2.2 = 0 then
      if (a2.length : Int) = (r2.1.2.length : Int) then
        (rat_CheckAll.f k a2).bind fun r3 =>
        if r3 = 0 then
          rights_Payout.l14 k a2 a1 (a1.length : Int) 0 a0.1 a0.2.1 a0.2.2.1 a0.2.2.2.1 a0.2.2.2.2.1 a0.2.2.2.2.2 r2.1.1 r2.1.2 []
        else some ([], r3)
      else some ([], 3)
    else some ([], r2.2)
  else some ([], r1)
def slices_Equal_api_Rat.l4 : Nat → List ByteArray → List ByteArray → Int → Int → Option Bool
  | 0, _, _, _, _ => none
  | k + 1, x0, x1, x12, x13 => if x13 < x12 then
      if 0 ≤ x13 then
        if x13 < (x0.length : Int) then
          if 0 ≤ x13 then
            if x13 < (x1.length : Int) then
              if (rStr x0 x13) = (rStr x1 x13) then
                slices_Equal_api_Rat.l4 k x0 x1 x12 (wrap64 (x13 + 1))
              else some false
            else none
          else none
        else none
      else none
    else some true
theorem slices_Equal_api_Rat.l4_eq (k : Nat) (x0 : List ByteArray) (x1 : List ByteArray) (x12 : Int) (x13 : Int) : slices_Equal_api_Rat.l4 (k + 1) x0 x1 x12 x13 = if x13 < x12 then
      if 0 ≤ x13 then
        if x13 < (x0.length : Int) then
          if 0 ≤ x13 then
            if x13 < (x1.length : Int) then
              if (rStr x0 x13) = (rStr x1 x13) then
                slices_Equal_api_Rat.l4 k x0 x1 x12 (wrap64 (x13 + 1))
              else some false
            else none
          else none
        else none
      else none
    else some true := rfl
def slices_Equal_api_Rat.f (k : Nat) (a0 : List ByteArray) (a1 : List ByteArray) : Option Bool :=
  if (a0.length : Int) = (a1.length : Int) then
    slices_Equal_api_Rat.l4 k a0 a1 (a0.length : Int) 0
  else some false
def gridhallkeep3_within.f (k : Nat) (a0 : Int) (a1 : Int) (a2 : Int) : Option Int :=
  if (wrap64 ((wrap64 (a2 - a1)) + 1)) ≠ 0 then
    if (wrap64 ((wrap64 (a2 - a1)) + 1)) ≠ 0 then
      some (wrap64 (a1 + (Int.tmod (wrap64 ((Int.tmod a0 (wrap64 ((wrap64 (a2 - a1)) + 1))) + (wrap64 ((wrap64 (a2 - a1)) + 1)))) (wrap64 ((wrap64 (a2 - a1)) + 1)))))
    else none
  else none
def rat_told.f (k : Nat) (a0 : Bool × List Int × List Int) : Option (ByteArray × Int) :=
  (rat_Fits.f k a0).bind fun r1 =>
  if r1 = 0 then
    (rat_Q_Out.f k a0).bind fun r2 =>
    some (r2, 0)
  else some (ByteArray.empty, r1)
def rat_two.f (k : Nat) (a0 : ByteArray) (a1 : ByteArray) : Option (ByteArray × Int) :=
  (rat_CheckAll.f k [a0, a1]).bind fun r1 =>
  if r1 = 0 then
    (rat_In.f k a0).bind fun r2 =>
    (rat_In.f k a1).bind fun r3 =>
    (rat_Q_Add.f k r2 r3).bind fun r4 =>
    (rat_told.f k r4).bind fun r5 =>
    some r5
  else some (ByteArray.empty, r1)
def rat_Add.f (k : Nat) (a0 : ByteArray) (a1 : ByteArray) : Option (ByteArray × Int) :=
  (rat_two.f k a0 a1).bind fun r1 =>
  some r1
def gridhallkeep3_fine_1.f (k : Nat) (a0 : Int) : Option Bool :=
  some (!decide (a0 = 0))
def slices_IndexFunc_api_Errno.l2 : Nat → List Int → Int → Int → Option Int
  | 0, _, _, _ => none
  | k + 1, x0, x7, x8 => if x8 < x7 then
      if 0 ≤ x8 then
        if x8 < (x0.length : Int) then
          (gridhallkeep3_fine_1.f k (rI64 x0 x8)).bind fun r1 =>
          if r1 = true then
            some x8
          else slices_IndexFunc_api_Errno.l2 k x0 x7 (wrap64 (x8 + 1))
        else none
      else none
    else some (-1)
theorem slices_IndexFunc_api_Errno.l2_eq (k : Nat) (x0 : List Int) (x7 : Int) (x8 : Int) : slices_IndexFunc_api_Errno.l2 (k + 1) x0 x7 x8 = if x8 < x7 then
      if 0 ≤ x8 then
        if x8 < (x0.length : Int) then
          (gridhallkeep3_fine_1.f k (rI64 x0 x8)).bind fun r1 =>
          if r1 = true then
            some x8
          else slices_IndexFunc_api_Errno.l2 k x0 x7 (wrap64 (x8 + 1))
        else none
      else none
    else some (-1) := rfl
def slices_IndexFunc_api_Errno.f (k : Nat) (a0 : List Int) : Option Int :=
  slices_IndexFunc_api_Errno.l2 k a0 (a0.length : Int) 0
def slices_ContainsFunc_api_Errno.f (k : Nat) (a0 : List Int) : Option Bool :=
  (slices_IndexFunc_api_Errno.f k a0).bind fun r1 =>
  some (decide (0 ≤ r1))
def gridhallkeep3_fine.f (k : Nat) (a0 : List Int) : Option Bool :=
  (slices_ContainsFunc_api_Errno.f k a0).bind fun r1 =>
  some (!decide (r1 = true))
def gridhallkeep3_RightsPaid.f (k : Nat) (a0 : List ByteArray × (List (ByteArray × ByteArray × ByteArray × Bool × Bool)) × (List (ByteArray × ByteArray × ByteArray × Int × Int × Int × Int × Int × Int)) × (List (ByteArray × ByteArray × Int × Int × Int)) × (List (ByteArray × ByteArray × Int)) × List (ByteArray × ByteArray × Int × Int × Int)) (a1 : ByteArray × ByteArray × Int) (a2 : List ByteArray) (a3 : Int) : Option Bool :=
  (gridhallkeep3_ring.f k 10).bind fun r1 =>
  (rights_Payout.f k r1.1 [(ByteArray.mk #[78, 49], ByteArray.mk #[78, 50], 10)] [ByteArray.mk #[53], ByteArray.mk #[56]]).bind fun r2 =>
  if r2.2 = 0 then
    (slices_Equal_api_Rat.f k r2.1 [ByteArray.mk #[51, 48]]).bind fun r3 =>
    if r3 = true then
      (gridhallkeep3_within.f k a3 1 1000).bind fun r4 =>
      (gridhallkeep3_within.f k a1.2.2 1 1000).bind fun r5 =>
      (rights_Payout.f k a0 [(a1.1, a1.2.1, wrap64 ((wrap64 (r4 + r5)) - r4)), (a1.2.1, a1.1, wrap64 ((wrap64 (r4 + r5)) - r4)), (a1.1, a1.2.1, r4), (a1.1, a1.2.1, wrap64 (r4 + r5))] a2).bind fun r6 =>
      if r6.2 = 0 then
        if (r6.1.length : Int) = 4 then
          if (0 : Int) ≤ 0 then
            if 0 < (r6.1.length : Int) then
              if (0 : Int) ≤ 1 then
                if 1 < (r6.1.length : Int) then
                  (rat_Add.f k (rStr r6.1 0) (rStr r6.1 1)).bind fun r7 =>
                  if (0 : Int) ≤ 0 then
                    if 0 < (r6.1.length : Int) then
                      if (0 : Int) ≤ 2 then
                        if 2 < (r6.1.length : Int) then
                          (rat_Add.f k (rStr r6.1 0) (rStr r6.1 2)).bind fun r8 =>
                          (gridhallkeep3_fine.f k [r7.2, r8.2]).bind fun r9 =>
                          if r9 = true then
                            if r7.1 = (ByteArray.mk #[48]) then
                              if (0 : Int) ≤ 3 then
                                if 3 < (r6.1.length : Int) then
                                  some (decide (r8.1 = (rStr r6.1 3)))
                                else none
                              else none
                            else some false
                          else some true
                        else none
                      else none
                    else none
                  else none
                else none
              else none
            else none
          else none
        else if r6.2 = 0 then
          some false
        else some (decide ((r6.1.length : Int) = 0))
      else if r6.2 = 0 then
        some false
      else some (decide ((r6.1.length : Int) = 0))
    else some false
  else some false
def swing_Check.f (k : Nat) (a0 : Int × Int × Int × Int × ByteArray) : Option Int :=
  if a0.1 < 1 then
    some 4
  else if 1000 < a0.1 then
    some 4
  else if a0.2.1 < 0 then
    some 4
  else if a0.1 < a0.2.1 then
    some 4
  else if a0.2.2.1 < 0 then
    some 4
  else if 100000 < a0.2.2.1 then
    some 4
  else if a0.2.2.2.1 < 0 then
    some 4
  else if 100000 < a0.2.2.2.1 then
    some 4
  else (rat_Check.f k a0.2.2.2.2).bind fun r1 =>
  some r1
def swing_excess.f (k : Nat) (a0 : Int × Int × Int × Int × ByteArray) (a1 : Bool × List Int × List Int) : Option (Bool × List Int × List Int) :=
  (rat_Int.f k (wrap64 (a0.2.2.1 - a0.2.2.2.1))).bind fun r1 =>
  (rat_Int.f k a0.2.1).bind fun r2 =>
  (rat_Q_Mul.f k r2 a1).bind fun r3 =>
  (rat_Q_Sub.f k r1 r3).bind fun r4 =>
  some r4
def rat_Q_Quo.f (k : Nat) (a0 : Bool × List Int × List Int) (a1 : Bool × List Int × List Int) : Option (Bool × List Int × List Int) :=
  if (a0.2.1.length : Int) = 0 then
    some (false, [], [])
  else if (a1.2.1.length : Int) = 0 then
    some (false, [], [])
  else (rat_Q_whole.f k a1).bind fun r1 =>
  (nat_N_Mul.f k a0.2.1 r1).bind fun r2 =>
  (rat_Q_whole.f k a0).bind fun r3 =>
  (nat_N_Mul.f k r3 a1.2.1).bind fun r4 =>
  (rat_low.f k (!decide (a0.1 = a1.1)) r2 r4).bind fun r5 =>
  some r5
def swing_step.f (k : Nat) (a0 : Int × Int × Int × Int × ByteArray) (a1 : Bool × List Int × List Int) : Option (Bool × List Int × List Int) :=
  (swing_excess.f k a0 a1).bind fun r1 =>
  (rat_Int.f k a0.1).bind fun r2 =>
  (rat_Q_Quo.f k r1 r2).bind fun r3 =>
  (rat_Q_Add.f k a1 r3).bind fun r4 =>
  some r4
def swing_text.f (k : Nat) (a0 : Bool × List Int × List Int) : Option (ByteArray × Int) :=
  (rat_Fits.f k a0).bind fun r1 =>
  if r1 = 0 then
    (rat_Q_Out.f k a0).bind fun r2 =>
    some (r2, 0)
  else some (ByteArray.empty, r1)
def swing_Step.f (k : Nat) (a0 : Int × Int × Int × Int × ByteArray) : Option ((Int × Int × Int × Int × ByteArray) × Int) :=
  (swing_Check.f k a0).bind fun r1 =>
  if r1 = 0 then
    (rat_In.f k a0.2.2.2.2).bind fun r2 =>
    (swing_step.f k a0 r2).bind fun r3 =>
    (swing_text.f k r3).bind fun r4 =>
    if r4.2 = 0 then
      some ((a0.1, a0.2.1, a0.2.2.1, a0.2.2.2.1, r4.1), 0)
    else some ((0, 0, 0, 0, ByteArray.empty), r4.2)
  else some ((0, 0, 0, 0, ByteArray.empty), r1)
def islands_places.l4 : Nat → Int → List Int → Int → Int → List Int → List Int → List Int → Option (List Int × Int)
  | 0, _, _, _, _, _, _, _ => none
  | k + 1, x7, x20, x21, x22, xo0_0, xo0_1, xo1 => if x22 < x21 then
      if 0 ≤ x22 then
        if x22 < (x20.length : Int) then
          if 0 ≤ (rI64 x20 x22) then
            if (rI64 x20 x22) < (xo0_1.length : Int) then
              if 0 ≤ x22 then
                if x22 < (xo1.length : Int) then
                  if 0 ≤ x22 then
                    if x22 < ((xo1.set x22.toNat (rI64 xo0_1 (rI64 x20 x22))).length : Int) then
                      islands_places.l4 k (mx x7 (wrap64 ((rI64 (xo1.set x22.toNat (rI64 xo0_1 (rI64 x20 x22))) x22) + 1))) x20 x21 (wrap64 (x22 + 1)) xo0_0 xo0_1 (xo1.set x22.toNat (rI64 xo0_1 (rI64 x20 x22)))
                    else none
                  else none
                else none
              else none
            else none
          else none
        else none
      else none
    else some (xo1, x7)
theorem islands_places.l4_eq (k : Nat) (x7 : Int) (x20 : List Int) (x21 : Int) (x22 : Int) (xo0_0 : List Int) (xo0_1 : List Int) (xo1 : List Int) : islands_places.l4 (k + 1) x7 x20 x21 x22 xo0_0 xo0_1 xo1 = if x22 < x21 then
      if 0 ≤ x22 then
        if x22 < (x20.length : Int) then
          if 0 ≤ (rI64 x20 x22) then
            if (rI64 x20 x22) < (xo0_1.length : Int) then
              if 0 ≤ x22 then
                if x22 < (xo1.length : Int) then
                  if 0 ≤ x22 then
                    if x22 < ((xo1.set x22.toNat (rI64 xo0_1 (rI64 x20 x22))).length : Int) then
                      islands_places.l4 k (mx x7 (wrap64 ((rI64 (xo1.set x22.toNat (rI64 xo0_1 (rI64 x20 x22))) x22) + 1))) x20 x21 (wrap64 (x22 + 1)) xo0_0 xo0_1 (xo1.set x22.toNat (rI64 xo0_1 (rI64 x20 x22)))
                    else none
                  else none
                else none
              else none
            else none
          else none
        else none
      else none
    else some (xo1, x7) := rfl
def islands_places.f (k : Nat) (a0 : List ByteArray × (List (ByteArray × ByteArray × ByteArray × Bool × Bool)) × (List (ByteArray × ByteArray × ByteArray × Int × Int × Int × Int × Int × Int)) × (List (ByteArray × ByteArray × Int × Int × Int)) × (List (ByteArray × ByteArray × Int)) × List (ByteArray × ByteArray × Int × Int × Int)) : Option (List Int × Int) :=
  (topology_Of.f k a0).bind fun r1 =>
  if 0 ≤ (a0.1.length : Int) then
    if (a0.1.length : Int) * 8 ≤ 140737488355328 then
      if (a0.1.length : Int) ≤ 140737488355328 then
        islands_places.l4 k 0 r1.1.1 (r1.1.1.length : Int) 0 r1.1.1 r1.1.2 (List.replicate (a0.1.length : Int).toNat 0)
      else none
    else none
  else none
def islands_at.f (k : Nat) (a0 : List ByteArray × (List (ByteArray × ByteArray × ByteArray × Bool × Bool)) × (List (ByteArray × ByteArray × ByteArray × Int × Int × Int × Int × Int × Int)) × (List (ByteArray × ByteArray × Int × Int × Int)) × (List (ByteArray × ByteArray × Int)) × List (ByteArray × ByteArray × Int × Int × Int)) (a1 : List Int) (a2 : ByteArray) : Option Int :=
  (netmodel_Node.f k a0 a2).bind fun r1 =>
  if 0 ≤ r1.1 then
    if r1.1 < (a1.length : Int) then
      some (rI64 a1 r1.1)
    else none
  else none
def islands_Of.l14 : Nat → List Int → (List (ByteArray × ByteArray × Int)) → Int → Int → List ByteArray → (List (ByteArray × ByteArray × ByteArray × Bool × Bool)) → (List (ByteArray × ByteArray × ByteArray × Int × Int × Int × Int × Int × Int)) → (List (ByteArray × ByteArray × Int × Int × Int)) → (List (ByteArray × ByteArray × Int)) → (List (ByteArray × ByteArray × Int × Int × Int)) → (List (Int × Int × Int)) → Option ((List (Int × Int × Int)) × Int)
  | 0, _, _, _, _, _, _, _, _, _, _, _ => none
  | k + 1, x5, x59, x60, x61, xo0_0, xo0_1, xo0_2, xo0_3, xo0_4, xo0_5, xo1 => if x61 < x60 then
      if 0 ≤ x61 then
        if x61 < (x59.length : Int) then
          (islands_at.f k (xo0_0, xo0_1, xo0_2, xo0_3, xo0_4, xo0_5) x5 (rY15 x59 x61).2.1).bind fun r4 =>
          if 0 ≤ r4 then
            if r4 < (xo1.length : Int) then
              if 0 ≤ r4 then
                if r4 < (xo1.length : Int) then
                  islands_Of.l14 k x5 x59 x60 (wrap64 (x61 + 1)) xo0_0 xo0_1 xo0_2 xo0_3 xo0_4 xo0_5 (xo1.set r4.toNat ((rY5 xo1 r4).1, (rY5 xo1 r4).2.1, wrap64 ((rY5 xo1 r4).2.2 + (rY15 x59 x61).2.2)))
                else none
              else none
            else none
          else none
        else none
      else none
    else some (xo1, 0)
theorem islands_Of.l14_eq (k : Nat) (x5 : List Int) (x59 : List (ByteArray × ByteArray × Int)) (x60 : Int) (x61 : Int) (xo0_0 : List ByteArray) (xo0_1 : List (ByteArray × ByteArray × ByteArray × Bool × Bool)) (xo0_2 : List (ByteArray × ByteArray × ByteArray × Int × Int × Int × Int × Int × Int)) (xo0_3 : List (ByteArray × ByteArray × Int × Int × Int)) (xo0_4 : List (ByteArray × ByteArray × Int)) (xo0_5 : List (ByteArray × ByteArray × Int × Int × Int)) (xo1 : List (Int × Int × Int)) : islands_Of.l14 (k + 1) x5 x59 x60 x61 xo0_0 xo0_1 xo0_2 xo0_3 xo0_4 xo0_5 xo1 = if x61 < x60 then
      if 0 ≤ x61 then
        if x61 < (x59.length : Int) then
          (islands_at.f k (xo0_0, xo0_1, xo0_2, xo0_3, xo0_4, xo0_5) x5 (rY15 x59 x61).2.1).bind fun r4 =>
          if 0 ≤ r4 then
            if r4 < (xo1.length : Int) then
              if 0 ≤ r4 then
                if r4 < (xo1.length : Int) then
                  islands_Of.l14 k x5 x59 x60 (wrap64 (x61 + 1)) xo0_0 xo0_1 xo0_2 xo0_3 xo0_4 xo0_5 (xo1.set r4.toNat ((rY5 xo1 r4).1, (rY5 xo1 r4).2.1, wrap64 ((rY5 xo1 r4).2.2 + (rY15 x59 x61).2.2)))
                else none
              else none
            else none
          else none
        else none
      else none
    else some (xo1, 0) := rfl
def islands_Of.l7 : Nat → List Int → (List (ByteArray × ByteArray × Int × Int × Int)) → Int → Int → List ByteArray → (List (ByteArray × ByteArray × ByteArray × Bool × Bool)) → (List (ByteArray × ByteArray × ByteArray × Int × Int × Int × Int × Int × Int)) → (List (ByteArray × ByteArray × Int × Int × Int)) → (List (ByteArray × ByteArray × Int)) → (List (ByteArray × ByteArray × Int × Int × Int)) → (List (Int × Int × Int)) → Option ((List (Int × Int × Int)) × Int)
  | 0, _, _, _, _, _, _, _, _, _, _, _ => none
  | k + 1, x5, x26, x27, x28, xo0_0, xo0_1, xo0_2, xo0_3, xo0_4, xo0_5, xo1 => if x28 < x27 then
      if 0 ≤ x28 then
        if x28 < (x26.length : Int) then
          (islands_at.f k (xo0_0, xo0_1, xo0_2, xo0_3, xo0_4, xo0_5) x5 (rY13 x26 x28).2.1).bind fun r3 =>
          if 0 ≤ r3 then
            if r3 < (xo1.length : Int) then
              islands_Of.l7 k x5 x26 x27 (wrap64 (x28 + 1)) xo0_0 xo0_1 xo0_2 xo0_3 xo0_4 xo0_5 ((xo1.set r3.toNat (wrap64 ((rY5 xo1 r3).1 + (rY13 x26 x28).2.2.1), (rY5 xo1 r3).2)).set r3.toNat ((rY5 (xo1.set r3.toNat (wrap64 ((rY5 xo1 r3).1 + (rY13 x26 x28).2.2.1), (rY5 xo1 r3).2)) r3).1, wrap64 ((rY5 (xo1.set r3.toNat (wrap64 ((rY5 xo1 r3).1 + (rY13 x26 x28).2.2.1), (rY5 xo1 r3).2)) r3).2.1 + (rY13 x26 x28).2.2.2.1), (rY5 (xo1.set r3.toNat (wrap64 ((rY5 xo1 r3).1 + (rY13 x26 x28).2.2.1), (rY5 xo1 r3).2)) r3).2.2))
            else none
          else none
        else none
      else none
    else islands_Of.l14 k x5 xo0_4 (xo0_4.length : Int) 0 xo0_0 xo0_1 xo0_2 xo0_3 xo0_4 xo0_5 xo1
theorem islands_Of.l7_eq (k : Nat) (x5 : List Int) (x26 : List (ByteArray × ByteArray × Int × Int × Int)) (x27 : Int) (x28 : Int) (xo0_0 : List ByteArray) (xo0_1 : List (ByteArray × ByteArray × ByteArray × Bool × Bool)) (xo0_2 : List (ByteArray × ByteArray × ByteArray × Int × Int × Int × Int × Int × Int)) (xo0_3 : List (ByteArray × ByteArray × Int × Int × Int)) (xo0_4 : List (ByteArray × ByteArray × Int)) (xo0_5 : List (ByteArray × ByteArray × Int × Int × Int)) (xo1 : List (Int × Int × Int)) : islands_Of.l7 (k + 1) x5 x26 x27 x28 xo0_0 xo0_1 xo0_2 xo0_3 xo0_4 xo0_5 xo1 = if x28 < x27 then
      if 0 ≤ x28 then
        if x28 < (x26.length : Int) then
          (islands_at.f k (xo0_0, xo0_1, xo0_2, xo0_3, xo0_4, xo0_5) x5 (rY13 x26 x28).2.1).bind fun r3 =>
          if 0 ≤ r3 then
            if r3 < (xo1.length : Int) then
              islands_Of.l7 k x5 x26 x27 (wrap64 (x28 + 1)) xo0_0 xo0_1 xo0_2 xo0_3 xo0_4 xo0_5 ((xo1.set r3.toNat (wrap64 ((rY5 xo1 r3).1 + (rY13 x26 x28).2.2.1), (rY5 xo1 r3).2)).set r3.toNat ((rY5 (xo1.set r3.toNat (wrap64 ((rY5 xo1 r3).1 + (rY13 x26 x28).2.2.1), (rY5 xo1 r3).2)) r3).1, wrap64 ((rY5 (xo1.set r3.toNat (wrap64 ((rY5 xo1 r3).1 + (rY13 x26 x28).2.2.1), (rY5 xo1 r3).2)) r3).2.1 + (rY13 x26 x28).2.2.2.1), (rY5 (xo1.set r3.toNat (wrap64 ((rY5 xo1 r3).1 + (rY13 x26 x28).2.2.1), (rY5 xo1 r3).2)) r3).2.2))
            else none
          else none
        else none
      else none
    else islands_Of.l14 k x5 xo0_4 (xo0_4.length : Int) 0 xo0_0 xo0_1 xo0_2 xo0_3 xo0_4 xo0_5 xo1 := rfl
def islands_Of.f (k : Nat) (a0 : List ByteArray × (List (ByteArray × ByteArray × ByteArray × Bool × Bool)) × (List (ByteArray × ByteArray × ByteArray × Int × Int × Int × Int × Int × Int)) × (List (ByteArray × ByteArray × Int × Int × Int)) × (List (ByteArray × ByteArray × Int)) × List (ByteArray × ByteArray × Int × Int × Int)) : Option ((List (Int × Int × Int)) × Int) :=
  (netmodel_Check.f k a0).bind fun r1 =>
  if r1 = 0 then
    (islands_places.f k a0).bind fun r2 =>
    if 0 ≤ r2.2 then
      if r2.2 * 24 ≤ 140737488355328 then
        if r2.2 ≤ 140737488355328 then
          islands_Of.l7 k r2.1 a0.2.2.2.1 (a0.2.2.2.1.length : Int) 0 a0.1 a0.2.1 a0.2.2.1 a0.2.2.2.1 a0.2.2.2.2.1 a0.2.2.2.2.2 (List.replicate r2.2.toNat (0, 0, 0))
        else none
      else none
    else none
  else some ([], r1)
def islands_Places.f (k : Nat) (a0 : List ByteArray × (List (ByteArray × ByteArray × ByteArray × Bool × Bool)) × (List (ByteArray × ByteArray × ByteArray × Int × Int × Int × Int × Int × Int)) × (List (ByteArray × ByteArray × Int × Int × Int)) × (List (ByteArray × ByteArray × Int)) × List (ByteArray × ByteArray × Int × Int × Int)) : Option (List Int × Int) :=
  (netmodel_Check.f k a0).bind fun r1 =>
  if r1 = 0 then
    (islands_places.f k a0).bind fun r2 =>
    some (r2.1, 0)
  else some ([], r1)
def gridhallref4_Cut.f (k : Nat) (a0 : Int) (a1 : Int) (a2 : Int) : Option Int :=
  if (wrap64 ((wrap64 (a2 - a1)) + 1)) ≠ 0 then
    if (Int.tmod a0 (wrap64 ((wrap64 (a2 - a1)) + 1))) < 0 then
      some (wrap64 (a1 + (wrap64 ((Int.tmod a0 (wrap64 ((wrap64 (a2 - a1)) + 1))) + (wrap64 ((wrap64 (a2 - a1)) + 1))))))
    else some (wrap64 (a1 + (Int.tmod a0 (wrap64 ((wrap64 (a2 - a1)) + 1)))))
  else none
def swing_Momentum.f (k : Nat) (a0 : Int × Int × Int × Int × ByteArray) : Option (ByteArray × Int) :=
  (swing_Check.f k a0).bind fun r1 =>
  if r1 = 0 then
    (rat_Int.f k a0.1).bind fun r2 =>
    (rat_In.f k a0.2.2.2.2).bind fun r3 =>
    (rat_Q_Mul.f k r2 r3).bind fun r4 =>
    (swing_text.f k r4).bind fun r5 =>
    some r5
  else some (ByteArray.empty, r1)
def rat_size.f (k : Nat) (a0 : Int) : Option (List Int) :=
  if 0 ≤ a0 then
    (nat_Of.f k a0).bind fun r1 =>
    some r1
  else (nat_Of.f k (wrap64 (0 - (wrap64 (a0 + 1))))).bind fun r2 =>
  (nat_Of.f k 1).bind fun r3 =>
  (nat_N_Add.f k r2 r3).bind fun r4 =>
  some r4
def rat_Of.f (k : Nat) (a0 : Int) (a1 : Int) : Option (ByteArray × Int) :=
  if a1 = 0 then
    some (ByteArray.empty, 10)
  else (rat_size.f k a0).bind fun r1 =>
  (rat_size.f k a1).bind fun r2 =>
  (rat_low.f k (!decide ((decide (a0 < 0)) = (decide (a1 < 0)))) r1 r2).bind fun r3 =>
  (rat_told.f k r3).bind fun r4 =>
  some r4
def gridhalltop_TopEnergy.l35 : Nat → Int → Int → ByteArray → Int → Int → (List (Int × Int × Int × Int × ByteArray)) → Option Bool
  | 0, _, _, _, _, _, _ => none
  | k + 1, x14, x15, x22, x173, x174, xo0 => if x174 < x173 then
      if 0 ≤ x174 then
        if x174 < (xo0.length : Int) then
          (swing_Step.f k (rY19 xo0 x174)).bind fun r7 =>
          if r7.2 = 0 then
            (swing_Momentum.f k r7.1).bind fun r8 =>
            if r8.2 = 0 then
              (rat_Add.f k x22 r8.1).bind fun r9 =>
              if r9.2 = 0 then
                gridhalltop_TopEnergy.l35 k x14 x15 r9.1 x173 (wrap64 (x174 + 1)) xo0
              else some false
            else some false
          else (swing_Check.f k (rY19 xo0 x174)).bind fun r10 =>
          some (decide (r10 = r7.2))
        else none
      else none
    else (rat_Of.f k (wrap64 (x14 - x15)) 1).bind fun r11 =>
    if r11.2 = 0 then
      some (decide (x22 = r11.1))
    else some false
theorem gridhalltop_TopEnergy.l35_eq (k : Nat) (x14 : Int) (x15 : Int) (x22 : ByteArray) (x173 : Int) (x174 : Int) (xo0 : List (Int × Int × Int × Int × ByteArray)) : gridhalltop_TopEnergy.l35 (k + 1) x14 x15 x22 x173 x174 xo0 = if x174 < x173 then
      if 0 ≤ x174 then
        if x174 < (xo0.length : Int) then
          (swing_Step.f k (rY19 xo0 x174)).bind fun r7 =>
          if r7.2 = 0 then
            (swing_Momentum.f k r7.1).bind fun r8 =>
            if r8.2 = 0 then
              (rat_Add.f k x22 r8.1).bind fun r9 =>
              if r9.2 = 0 then
                gridhalltop_TopEnergy.l35 k x14 x15 r9.1 x173 (wrap64 (x174 + 1)) xo0
              else some false
            else some false
          else (swing_Check.f k (rY19 xo0 x174)).bind fun r10 =>
          some (decide (r10 = r7.2))
        else none
      else none
    else (rat_Of.f k (wrap64 (x14 - x15)) 1).bind fun r11 =>
    if r11.2 = 0 then
      some (decide (x22 = r11.1))
    else some false := rfl
mutual
def gridhalltop_TopEnergy.l22 : Nat → List Int → List Int → Int → Int → (List (ByteArray × ByteArray × Int × Int × Int)) → Int → Int → List ByteArray → (List (ByteArray × ByteArray × ByteArray × Bool × Bool)) → (List (ByteArray × ByteArray × ByteArray × Int × Int × Int × Int × Int × Int)) → (List (ByteArray × ByteArray × Int × Int × Int)) → (List (ByteArray × ByteArray × Int)) → (List (ByteArray × ByteArray × Int × Int × Int)) → (List (Int × Int × Int × Int × ByteArray)) → Option Bool
  | 0, _, _, _, _, _, _, _, _, _, _, _, _, _, _ => none
  | k + 1, x1, x11, x14, x15, x124, x125, x126, xo0_0, xo0_1, xo0_2, xo0_3, xo0_4, xo0_5, xo1 => if x126 < x125 then
      if 0 ≤ x126 then
        if x126 < (x124.length : Int) then
          if x126 < (x1.length : Int) then
            if 0 ≤ x126 then
              if x126 < (x1.length : Int) then
                (gridhallref4_Cut.f k (rI64 x1 x126) 0 200).bind fun r5 =>
                gridhalltop_TopEnergy.l27 k x1 x11 x14 x15 r5 x124 x125 x126 xo0_0 xo0_1 xo0_2 xo0_3 xo0_4 xo0_5 xo1 (rY13 x124 x126).1 (rY13 x124 x126).2.1 (rY13 x124 x126).2.2.1 (rY13 x124 x126).2.2.2.1 (rY13 x124 x126).2.2.2.2
              else none
            else none
          else gridhalltop_TopEnergy.l27 k x1 x11 x14 x15 0 x124 x125 x126 xo0_0 xo0_1 xo0_2 xo0_3 xo0_4 xo0_5 xo1 (rY13 x124 x126).1 (rY13 x124 x126).2.1 (rY13 x124 x126).2.2.1 (rY13 x124 x126).2.2.2.1 (rY13 x124 x126).2.2.2.2
        else none
      else none
    else gridhalltop_TopEnergy.l35 k x14 x15 (ByteArray.mk #[48]) (xo1.length : Int) 0 xo1
def gridhalltop_TopEnergy.l27 : Nat → List Int → List Int → Int → Int → Int → (List (ByteArray × ByteArray × Int × Int × Int)) → Int → Int → List ByteArray → (List (ByteArray × ByteArray × ByteArray × Bool × Bool)) → (List (ByteArray × ByteArray × ByteArray × Int × Int × Int × Int × Int × Int)) → (List (ByteArray × ByteArray × Int × Int × Int)) → (List (ByteArray × ByteArray × Int)) → (List (ByteArray × ByteArray × Int × Int × Int)) → (List (Int × Int × Int × Int × ByteArray)) → ByteArray → ByteArray → Int → Int → Int → Option Bool
  | 0, _, _, _, _, _, _, _, _, _, _, _, _, _, _, _, _, _, _, _, _ => none
  | k + 1, x1, x11, x14, x15, x20, x124, x125, x126, xo0_0, xo0_1, xo0_2, xo0_3, xo0_4, xo0_5, xo1, xo2_0, xo2_1, xo2_2, xo2_3, xo2_4 => (slices_Index_string.f k xo0_0 xo2_1).bind fun r6 =>
    if r6 < 0 then
      some false
    else if 0 ≤ r6 then
      if r6 < (x11.length : Int) then
        if (xo1.length : Int) ≤ (rI64 x11 r6) then
          some false
        else if 0 ≤ r6 then
          if r6 < (x11.length : Int) then
            if 0 ≤ (rI64 x11 r6) then
              if (rI64 x11 r6) < (xo1.length : Int) then
                if 0 ≤ (rI64 x11 r6) then
                  if (rI64 x11 r6) < (xo1.length : Int) then
                    gridhalltop_TopEnergy.l22 k x1 x11 (wrap64 (x14 + x20)) x15 x124 x125 (wrap64 (x126 + 1)) xo0_0 xo0_1 xo0_2 xo0_3 xo0_4 xo0_5 (xo1.set (rI64 x11 r6).toNat ((rY19 xo1 (rI64 x11 r6)).1, (rY19 xo1 (rI64 x11 r6)).2.1, wrap64 ((rY19 xo1 (rI64 x11 r6)).2.2.1 + x20), (rY19 xo1 (rI64 x11 r6)).2.2.2))
                  else none
                else none
              else none
            else none
          else none
        else none
      else none
    else none
end
theorem gridhalltop_TopEnergy.l22_eq (k : Nat) (x1 : List Int) (x11 : List Int) (x14 : Int) (x15 : Int) (x124 : List (ByteArray × ByteArray × Int × Int × Int)) (x125 : Int) (x126 : Int) (xo0_0 : List ByteArray) (xo0_1 : List (ByteArray × ByteArray × ByteArray × Bool × Bool)) (xo0_2 : List (ByteArray × ByteArray × ByteArray × Int × Int × Int × Int × Int × Int)) (xo0_3 : List (ByteArray × ByteArray × Int × Int × Int)) (xo0_4 : List (ByteArray × ByteArray × Int)) (xo0_5 : List (ByteArray × ByteArray × Int × Int × Int)) (xo1 : List (Int × Int × Int × Int × ByteArray)) : gridhalltop_TopEnergy.l22 (k + 1) x1 x11 x14 x15 x124 x125 x126 xo0_0 xo0_1 xo0_2 xo0_3 xo0_4 xo0_5 xo1 = if x126 < x125 then
      if 0 ≤ x126 then
        if x126 < (x124.length : Int) then
          if x126 < (x1.length : Int) then
            if 0 ≤ x126 then
              if x126 < (x1.length : Int) then
                (gridhallref4_Cut.f k (rI64 x1 x126) 0 200).bind fun r5 =>
                gridhalltop_TopEnergy.l27 k x1 x11 x14 x15 r5 x124 x125 x126 xo0_0 xo0_1 xo0_2 xo0_3 xo0_4 xo0_5 xo1 (rY13 x124 x126).1 (rY13 x124 x126).2.1 (rY13 x124 x126).2.2.1 (rY13 x124 x126).2.2.2.1 (rY13 x124 x126).2.2.2.2
              else none
            else none
          else gridhalltop_TopEnergy.l27 k x1 x11 x14 x15 0 x124 x125 x126 xo0_0 xo0_1 xo0_2 xo0_3 xo0_4 xo0_5 xo1 (rY13 x124 x126).1 (rY13 x124 x126).2.1 (rY13 x124 x126).2.2.1 (rY13 x124 x126).2.2.2.1 (rY13 x124 x126).2.2.2.2
        else none
      else none
    else gridhalltop_TopEnergy.l35 k x14 x15 (ByteArray.mk #[48]) (xo1.length : Int) 0 xo1 := rfl
theorem gridhalltop_TopEnergy.l27_eq (k : Nat) (x1 : List Int) (x11 : List Int) (x14 : Int) (x15 : Int) (x20 : Int) (x124 : List (ByteArray × ByteArray × Int × Int × Int)) (x125 : Int) (x126 : Int) (xo0_0 : List ByteArray) (xo0_1 : List (ByteArray × ByteArray × ByteArray × Bool × Bool)) (xo0_2 : List (ByteArray × ByteArray × ByteArray × Int × Int × Int × Int × Int × Int)) (xo0_3 : List (ByteArray × ByteArray × Int × Int × Int)) (xo0_4 : List (ByteArray × ByteArray × Int)) (xo0_5 : List (ByteArray × ByteArray × Int × Int × Int)) (xo1 : List (Int × Int × Int × Int × ByteArray)) (xo2_0 : ByteArray) (xo2_1 : ByteArray) (xo2_2 : Int) (xo2_3 : Int) (xo2_4 : Int) : gridhalltop_TopEnergy.l27 (k + 1) x1 x11 x14 x15 x20 x124 x125 x126 xo0_0 xo0_1 xo0_2 xo0_3 xo0_4 xo0_5 xo1 xo2_0 xo2_1 xo2_2 xo2_3 xo2_4 = (slices_Index_string.f k xo0_0 xo2_1).bind fun r6 =>
    if r6 < 0 then
      some false
    else if 0 ≤ r6 then
      if r6 < (x11.length : Int) then
        if (xo1.length : Int) ≤ (rI64 x11 r6) then
          some false
        else if 0 ≤ r6 then
          if r6 < (x11.length : Int) then
            if 0 ≤ (rI64 x11 r6) then
              if (rI64 x11 r6) < (xo1.length : Int) then
                if 0 ≤ (rI64 x11 r6) then
                  if (rI64 x11 r6) < (xo1.length : Int) then
                    gridhalltop_TopEnergy.l22 k x1 x11 (wrap64 (x14 + x20)) x15 x124 x125 (wrap64 (x126 + 1)) xo0_0 xo0_1 xo0_2 xo0_3 xo0_4 xo0_5 (xo1.set (rI64 x11 r6).toNat ((rY19 xo1 (rI64 x11 r6)).1, (rY19 xo1 (rI64 x11 r6)).2.1, wrap64 ((rY19 xo1 (rI64 x11 r6)).2.2.1 + x20), (rY19 xo1 (rI64 x11 r6)).2.2.2))
                  else none
                else none
              else none
            else none
          else none
        else none
      else none
    else none := rfl
def gridhalltop_TopEnergy.l14 : Nat → List Int → List Int → List Int → Int → Int → (List (Int × Int × Int)) → Int → Int → List ByteArray → (List (ByteArray × ByteArray × ByteArray × Bool × Bool)) → (List (ByteArray × ByteArray × ByteArray × Int × Int × Int × Int × Int × Int)) → (List (ByteArray × ByteArray × Int × Int × Int)) → (List (ByteArray × ByteArray × Int)) → (List (ByteArray × ByteArray × Int × Int × Int)) → (List (Int × Int × Int × Int × ByteArray)) → Option Bool
  | 0, _, _, _, _, _, _, _, _, _, _, _, _, _, _, _ => none
  | k + 1, x1, x2, x11, x14, x15, x92, x93, x94, xo0_0, xo0_1, xo0_2, xo0_3, xo0_4, xo0_5, xo1 => if x94 < x93 then
      if 0 ≤ x94 then
        if x94 < (x92.length : Int) then
          if 0 ≤ x94 then
            if x94 < (xo1.length : Int) then
              if x94 < (x2.length : Int) then
                if 0 ≤ x94 then
                  if x94 < (x2.length : Int) then
                    (gridhallref4_Cut.f k (rI64 x2 x94) 1 50).bind fun r4 =>
                    if 0 ≤ x94 then
                      if x94 < ((xo1.set x94.toNat (10, 0, 0, (rY5 x92 x94).2.2, ByteArray.mk #[48])).length : Int) then
                        gridhalltop_TopEnergy.l14 k x1 x2 x11 x14 (wrap64 (x15 + (rY5 x92 x94).2.2)) x92 x93 (wrap64 (x94 + 1)) xo0_0 xo0_1 xo0_2 xo0_3 xo0_4 xo0_5 ((xo1.set x94.toNat (10, 0, 0, (rY5 x92 x94).2.2, ByteArray.mk #[48])).set x94.toNat (r4, (rY19 (xo1.set x94.toNat (10, 0, 0, (rY5 x92 x94).2.2, ByteArray.mk #[48])) x94).2))
                      else none
                    else none
                  else none
                else none
              else gridhalltop_TopEnergy.l14 k x1 x2 x11 x14 (wrap64 (x15 + (rY5 x92 x94).2.2)) x92 x93 (wrap64 (x94 + 1)) xo0_0 xo0_1 xo0_2 xo0_3 xo0_4 xo0_5 (xo1.set x94.toNat (10, 0, 0, (rY5 x92 x94).2.2, ByteArray.mk #[48]))
            else none
          else none
        else none
      else none
    else gridhalltop_TopEnergy.l22 k x1 x11 x14 x15 xo0_3 (xo0_3.length : Int) 0 xo0_0 xo0_1 xo0_2 xo0_3 xo0_4 xo0_5 xo1
theorem gridhalltop_TopEnergy.l14_eq (k : Nat) (x1 : List Int) (x2 : List Int) (x11 : List Int) (x14 : Int) (x15 : Int) (x92 : List (Int × Int × Int)) (x93 : Int) (x94 : Int) (xo0_0 : List ByteArray) (xo0_1 : List (ByteArray × ByteArray × ByteArray × Bool × Bool)) (xo0_2 : List (ByteArray × ByteArray × ByteArray × Int × Int × Int × Int × Int × Int)) (xo0_3 : List (ByteArray × ByteArray × Int × Int × Int)) (xo0_4 : List (ByteArray × ByteArray × Int)) (xo0_5 : List (ByteArray × ByteArray × Int × Int × Int)) (xo1 : List (Int × Int × Int × Int × ByteArray)) : gridhalltop_TopEnergy.l14 (k + 1) x1 x2 x11 x14 x15 x92 x93 x94 xo0_0 xo0_1 xo0_2 xo0_3 xo0_4 xo0_5 xo1 = if x94 < x93 then
      if 0 ≤ x94 then
        if x94 < (x92.length : Int) then
          if 0 ≤ x94 then
            if x94 < (xo1.length : Int) then
              if x94 < (x2.length : Int) then
                if 0 ≤ x94 then
                  if x94 < (x2.length : Int) then
                    (gridhallref4_Cut.f k (rI64 x2 x94) 1 50).bind fun r4 =>
                    if 0 ≤ x94 then
                      if x94 < ((xo1.set x94.toNat (10, 0, 0, (rY5 x92 x94).2.2, ByteArray.mk #[48])).length : Int) then
                        gridhalltop_TopEnergy.l14 k x1 x2 x11 x14 (wrap64 (x15 + (rY5 x92 x94).2.2)) x92 x93 (wrap64 (x94 + 1)) xo0_0 xo0_1 xo0_2 xo0_3 xo0_4 xo0_5 ((xo1.set x94.toNat (10, 0, 0, (rY5 x92 x94).2.2, ByteArray.mk #[48])).set x94.toNat (r4, (rY19 (xo1.set x94.toNat (10, 0, 0, (rY5 x92 x94).2.2, ByteArray.mk #[48])) x94).2))
                      else none
                    else none
                  else none
                else none
              else gridhalltop_TopEnergy.l14 k x1 x2 x11 x14 (wrap64 (x15 + (rY5 x92 x94).2.2)) x92 x93 (wrap64 (x94 + 1)) xo0_0 xo0_1 xo0_2 xo0_3 xo0_4 xo0_5 (xo1.set x94.toNat (10, 0, 0, (rY5 x92 x94).2.2, ByteArray.mk #[48]))
            else none
          else none
        else none
      else none
    else gridhalltop_TopEnergy.l22 k x1 x11 x14 x15 xo0_3 (xo0_3.length : Int) 0 xo0_0 xo0_1 xo0_2 xo0_3 xo0_4 xo0_5 xo1 := rfl
def gridhalltop_TopEnergy.f (k : Nat) (a0 : List ByteArray × (List (ByteArray × ByteArray × ByteArray × Bool × Bool)) × (List (ByteArray × ByteArray × ByteArray × Int × Int × Int × Int × Int × Int)) × (List (ByteArray × ByteArray × Int × Int × Int)) × (List (ByteArray × ByteArray × Int)) × List (ByteArray × ByteArray × Int × Int × Int)) (a1 : List Int) (a2 : List Int) : Option Bool :=
  (swing_Step.f k (10, 0, 105, 100, ByteArray.mk #[48])).bind fun r1 =>
  if r1.2 = 0 then
    if r1.1.2.2.2.2 = (ByteArray.mk #[49, 47, 50]) then
      if (mn (a0.2.2.2.1.length : Int) 4) ≤ (a0.2.2.2.1.length : Int) then
        if 0 ≤ (mn (a0.2.2.2.1.length : Int) 4) then
          if (mn (a0.2.2.2.2.1.length : Int) 4) ≤ (a0.2.2.2.2.1.length : Int) then
            if 0 ≤ (mn (a0.2.2.2.2.1.length : Int) 4) then
              (islands_Of.f k (a0.1, a0.2.1, a0.2.2.1, a0.2.2.2.1.take (mn (a0.2.2.2.1.length : Int) 4).toNat, a0.2.2.2.2.1.take (mn (a0.2.2.2.2.1.length : Int) 4).toNat, a0.2.2.2.2.2)).bind fun r2 =>
              (islands_Places.f k (a0.1, a0.2.1, a0.2.2.1, a0.2.2.2.1.take (mn (a0.2.2.2.1.length : Int) 4).toNat, a0.2.2.2.2.1.take (mn (a0.2.2.2.2.1.length : Int) 4).toNat, a0.2.2.2.2.2)).bind fun r3 =>
              if r2.2 = 0 then
                if r3.2 = 0 then
                  if (r3.1.length : Int) = (a0.1.length : Int) then
                    if 0 ≤ (r2.1.length : Int) then
                      if (r2.1.length : Int) * 48 ≤ 140737488355328 then
                        if (r2.1.length : Int) ≤ 140737488355328 then
                          gridhalltop_TopEnergy.l14 k a1 a2 r3.1 0 0 r2.1 (r2.1.length : Int) 0 a0.1 a0.2.1 a0.2.2.1 (a0.2.2.2.1.take (mn (a0.2.2.2.1.length : Int) 4).toNat) (a0.2.2.2.2.1.take (mn (a0.2.2.2.2.1.length : Int) 4).toNat) a0.2.2.2.2.2 (List.replicate (r2.1.length : Int).toNat (0, 0, 0, 0, ByteArray.empty))
                        else none
                      else none
                    else none
                  else some false
                else some false
              else if r3.2 = r2.2 then
                some (decide ((r2.1.length : Int) = 0))
              else some false
            else none
          else none
        else none
      else none
    else some false
  else some false
def rat_Q_down.f (k : Nat) (a0 : Bool × List Int × List Int) : Option (Bool × List Int × List Int) :=
  (rat_Q_whole.f k a0).bind fun r1 =>
  (nat_N_Div.f k a0.2.1 r1).bind fun r2 =>
  if a0.1 = true then
    if 0 < (r2.2.length : Int) then
      (nat_Of.f k 1).bind fun r3 =>
      (nat_N_Add.f k r2.1 r3).bind fun r4 =>
      (nat_Of.f k 1).bind fun r5 =>
      (rat_low.f k a0.1 r4 r5).bind fun r6 =>
      some r6
    else (nat_Of.f k 1).bind fun r7 =>
    (rat_low.f k a0.1 r2.1 r7).bind fun r8 =>
    some r8
  else (nat_Of.f k 1).bind fun r9 =>
  (rat_low.f k a0.1 r2.1 r9).bind fun r10 =>
  some r10
def rat_Floor.f (k : Nat) (a0 : ByteArray) : Option (ByteArray × Int) :=
  (rat_Check.f k a0).bind fun r1 =>
  if r1 = 0 then
    (rat_In.f k a0).bind fun r2 =>
    (rat_Q_down.f k r2).bind fun r3 =>
    (rat_told.f k r3).bind fun r4 =>
    some r4
  else some (ByteArray.empty, r1)
def rat_Integer.l14 : Nat → Int → Int → Bool → List Int → List Int → Option (Int × Int)
  | 0, _, _, _, _, _ => none
  | k + 1, x7, x8, xo0_0, xo0_1, xo0_2 => if 0 ≤ x8 then
      if 0 ≤ x8 then
        if x8 < (xo0_1.length : Int) then
          rat_Integer.l14 k (wrap64 ((wrap64 (x7 * 1000000000)) + (wrap64 (rU32 xo0_1 x8)))) (wrap64 (x8 - 1)) xo0_0 xo0_1 xo0_2
        else none
      else none
    else if xo0_0 = true then
      some (wrap64 (0 - x7), 0)
    else some (x7, 0)
theorem rat_Integer.l14_eq (k : Nat) (x7 : Int) (x8 : Int) (xo0_0 : Bool) (xo0_1 : List Int) (xo0_2 : List Int) : rat_Integer.l14 (k + 1) x7 x8 xo0_0 xo0_1 xo0_2 = if 0 ≤ x8 then
      if 0 ≤ x8 then
        if x8 < (xo0_1.length : Int) then
          rat_Integer.l14 k (wrap64 ((wrap64 (x7 * 1000000000)) + (wrap64 (rU32 xo0_1 x8)))) (wrap64 (x8 - 1)) xo0_0 xo0_1 xo0_2
        else none
      else none
    else if xo0_0 = true then
      some (wrap64 (0 - x7), 0)
    else some (x7, 0) := rfl
def rat_Integer.f (k : Nat) (a0 : ByteArray) : Option (Int × Int) :=
  (rat_Check.f k a0).bind fun r1 =>
  if r1 = 0 then
    (rat_In.f k a0).bind fun r2 =>
    (rat_Q_whole.f k r2).bind fun r3 =>
    (nat_Of.f k 1).bind fun r4 =>
    (nat_N_Cmp.f k r3 r4).bind fun r5 =>
    if r5 = 0 then
      (nat_Of.f k 9223372036854775807).bind fun r6 =>
      if r2.1 = true then
        (nat_Of.f k 1).bind fun r7 =>
        (nat_N_Add.f k r6 r7).bind fun r8 =>
        (nat_N_Cmp.f k r2.2.1 r8).bind fun r9 =>
        if r9 = 0 then
          some ((-9223372036854775808), 0)
        else (nat_N_Cmp.f k r2.2.1 r6).bind fun r10 =>
        if 0 < r10 then
          some (0, 4)
        else rat_Integer.l14 k 0 (wrap64 ((r2.2.1.length : Int) - 1)) r2.1 r2.2.1 r2.2.2
      else (nat_N_Cmp.f k r2.2.1 r6).bind fun r11 =>
      if 0 < r11 then
        some (0, 4)
      else rat_Integer.l14 k 0 (wrap64 ((r2.2.1.length : Int) - 1)) r2.1 r2.2.1 r2.2.2
    else some (0, 3)
  else some (0, r1)
def rat_Q_Sign.f (k : Nat) (a0 : Bool × List Int × List Int) : Option Int :=
  if (a0.2.1.length : Int) = 0 then
    some 0
  else if a0.1 = true then
    some (-1)
  else some 1
def rat_Q_Cmp.f (k : Nat) (a0 : Bool × List Int × List Int) (a1 : Bool × List Int × List Int) : Option Int :=
  (rat_Q_Sub.f k a0 a1).bind fun r1 =>
  (rat_Q_Sign.f k r1).bind fun r2 =>
  some r2
def settle_Round_1.f (k : Nat) (a0 : Int) (a1 : Int) (ao1 : List (Bool × List Int × List Int)) : Option (Int × List (Bool × List Int × List Int)) :=
  if 0 ≤ a1 then
    if a1 < (ao1.length : Int) then
      if 0 ≤ a0 then
        if a0 < (ao1.length : Int) then
          (rat_Q_Cmp.f k (rY21 ao1 a1) (rY21 ao1 a0)).bind fun r1 =>
          some (r1, ao1)
        else none
      else none
    else none
  else none
mutual
def slices_insertionSortCmpFunc_int.l1 : Nat → Int → Int → Int → List Int → (List (Bool × List Int × List Int)) → Option (List Int × List (Bool × List Int × List Int))
  | 0, _, _, _, _, _ => none
  | k + 1, x1, x2, x8, xo0, xo2 => if x8 < x2 then
      slices_insertionSortCmpFunc_int.l4 k x1 x2 x8 x8 xo0 xo2
    else some (xo0, xo2)
def slices_insertionSortCmpFunc_int.l4 : Nat → Int → Int → Int → Int → List Int → (List (Bool × List Int × List Int)) → Option (List Int × List (Bool × List Int × List Int))
  | 0, _, _, _, _, _, _ => none
  | k + 1, x1, x2, x8, x9, xo0, xo2 => if x1 < x9 then
      if 0 ≤ x9 then
        if x9 < (xo0.length : Int) then
          if 0 ≤ (wrap64 (x9 - 1)) then
            if (wrap64 (x9 - 1)) < (xo0.length : Int) then
              (settle_Round_1.f k (rI64 xo0 x9) (rI64 xo0 (wrap64 (x9 - 1))) xo2).bind fun r1 =>
              if r1.1 < 0 then
                if 0 ≤ (wrap64 (x9 - 1)) then
                  if (wrap64 (x9 - 1)) < (xo0.length : Int) then
                    if 0 ≤ x9 then
                      if x9 < (xo0.length : Int) then
                        if 0 ≤ x9 then
                          if x9 < (xo0.length : Int) then
                            if 0 ≤ (wrap64 (x9 - 1)) then
                              if (wrap64 (x9 - 1)) < ((xo0.set x9.toNat (rI64 xo0 (wrap64 (x9 - 1)))).length : Int) then
                                slices_insertionSortCmpFunc_int.l4 k x1 x2 x8 (wrap64 (x9 - 1)) ((xo0.set x9.toNat (rI64 xo0 (wrap64 (x9 - 1)))).set (wrap64 (x9 - 1)).toNat (rI64 xo0 x9)) r1.2
                              else none
                            else none
                          else none
                        else none
                      else none
                    else none
                  else none
                else none
              else slices_insertionSortCmpFunc_int.l1 k x1 x2 (wrap64 (x8 + 1)) xo0 r1.2
            else none
          else none
        else none
      else none
    else slices_insertionSortCmpFunc_int.l1 k x1 x2 (wrap64 (x8 + 1)) xo0 xo2
end
theorem slices_insertionSortCmpFunc_int.l1_eq (k : Nat) (x1 : Int) (x2 : Int) (x8 : Int) (xo0 : List Int) (xo2 : List (Bool × List Int × List Int)) : slices_insertionSortCmpFunc_int.l1 (k + 1) x1 x2 x8 xo0 xo2 = if x8 < x2 then
      slices_insertionSortCmpFunc_int.l4 k x1 x2 x8 x8 xo0 xo2
    else some (xo0, xo2) := rfl
theorem slices_insertionSortCmpFunc_int.l4_eq (k : Nat) (x1 : Int) (x2 : Int) (x8 : Int) (x9 : Int) (xo0 : List Int) (xo2 : List (Bool × List Int × List Int)) : slices_insertionSortCmpFunc_int.l4 (k + 1) x1 x2 x8 x9 xo0 xo2 = if x1 < x9 then
      if 0 ≤ x9 then
        if x9 < (xo0.length : Int) then
          if 0 ≤ (wrap64 (x9 - 1)) then
            if (wrap64 (x9 - 1)) < (xo0.length : Int) then
              (settle_Round_1.f k (rI64 xo0 x9) (rI64 xo0 (wrap64 (x9 - 1))) xo2).bind fun r1 =>
              if r1.1 < 0 then
                if 0 ≤ (wrap64 (x9 - 1)) then
                  if (wrap64 (x9 - 1)) < (xo0.length : Int) then
                    if 0 ≤ x9 then
                      if x9 < (xo0.length : Int) then
                        if 0 ≤ x9 then
                          if x9 < (xo0.length : Int) then
                            if 0 ≤ (wrap64 (x9 - 1)) then
                              if (wrap64 (x9 - 1)) < ((xo0.set x9.toNat (rI64 xo0 (wrap64 (x9 - 1)))).length : Int) then
                                slices_insertionSortCmpFunc_int.l4 k x1 x2 x8 (wrap64 (x9 - 1)) ((xo0.set x9.toNat (rI64 xo0 (wrap64 (x9 - 1)))).set (wrap64 (x9 - 1)).toNat (rI64 xo0 x9)) r1.2
                              else none
                            else none
                          else none
                        else none
                      else none
                    else none
                  else none
                else none
              else slices_insertionSortCmpFunc_int.l1 k x1 x2 (wrap64 (x8 + 1)) xo0 r1.2
            else none
          else none
        else none
      else none
    else slices_insertionSortCmpFunc_int.l1 k x1 x2 (wrap64 (x8 + 1)) xo0 xo2 := rfl
def slices_insertionSortCmpFunc_int.f (k : Nat) (a1 : Int) (a2 : Int) (ao0 : List Int) (ao3 : List (Bool × List Int × List Int)) : Option (List Int × List (Bool × List Int × List Int)) :=
  slices_insertionSortCmpFunc_int.l1 k a1 a2 (wrap64 (a1 + 1)) ao0 ao3
def slices_swapRangeCmpFunc_int.l1 : Nat → Int → Int → Int → Int → List Int → (List (Bool × List Int × List Int)) → Option (List Int × List (Bool × List Int × List Int))
  | 0, _, _, _, _, _, _ => none
  | k + 1, x1, x2, x3, x10, xo0, xo2 => if x10 < x3 then
      if 0 ≤ (wrap64 (x2 + x10)) then
        if (wrap64 (x2 + x10)) < (xo0.length : Int) then
          if 0 ≤ (wrap64 (x1 + x10)) then
            if (wrap64 (x1 + x10)) < (xo0.length : Int) then
              if 0 ≤ (wrap64 (x1 + x10)) then
                if (wrap64 (x1 + x10)) < (xo0.length : Int) then
                  if 0 ≤ (wrap64 (x2 + x10)) then
                    if (wrap64 (x2 + x10)) < ((xo0.set (wrap64 (x1 + x10)).toNat (rI64 xo0 (wrap64 (x2 + x10)))).length : Int) then
                      slices_swapRangeCmpFunc_int.l1 k x1 x2 x3 (wrap64 (x10 + 1)) ((xo0.set (wrap64 (x1 + x10)).toNat (rI64 xo0 (wrap64 (x2 + x10)))).set (wrap64 (x2 + x10)).toNat (rI64 xo0 (wrap64 (x1 + x10)))) xo2
                    else none
                  else none
                else none
              else none
            else none
          else none
        else none
      else none
    else some (xo0, xo2)
theorem slices_swapRangeCmpFunc_int.l1_eq (k : Nat) (x1 : Int) (x2 : Int) (x3 : Int) (x10 : Int) (xo0 : List Int) (xo2 : List (Bool × List Int × List Int)) : slices_swapRangeCmpFunc_int.l1 (k + 1) x1 x2 x3 x10 xo0 xo2 = if x10 < x3 then
      if 0 ≤ (wrap64 (x2 + x10)) then
        if (wrap64 (x2 + x10)) < (xo0.length : Int) then
          if 0 ≤ (wrap64 (x1 + x10)) then
            if (wrap64 (x1 + x10)) < (xo0.length : Int) then
              if 0 ≤ (wrap64 (x1 + x10)) then
                if (wrap64 (x1 + x10)) < (xo0.length : Int) then
                  if 0 ≤ (wrap64 (x2 + x10)) then
                    if (wrap64 (x2 + x10)) < ((xo0.set (wrap64 (x1 + x10)).toNat (rI64 xo0 (wrap64 (x2 + x10)))).length : Int) then
                      slices_swapRangeCmpFunc_int.l1 k x1 x2 x3 (wrap64 (x10 + 1)) ((xo0.set (wrap64 (x1 + x10)).toNat (rI64 xo0 (wrap64 (x2 + x10)))).set (wrap64 (x2 + x10)).toNat (rI64 xo0 (wrap64 (x1 + x10)))) xo2
                    else none
                  else none
                else none
              else none
            else none
          else none
        else none
      else none
    else some (xo0, xo2) := rfl
def slices_swapRangeCmpFunc_int.f (k : Nat) (a1 : Int) (a2 : Int) (a3 : Int) (ao0 : List Int) (ao3 : List (Bool × List Int × List Int)) : Option (List Int × List (Bool × List Int × List Int)) :=
  slices_swapRangeCmpFunc_int.l1 k a1 a2 a3 0 ao0 ao3
def slices_rotateCmpFunc_int.l2 : Nat → Int → Int → Int → List Int → (List (Bool × List Int × List Int)) → Option (List Int × List (Bool × List Int × List Int))
  | 0, _, _, _, _, _ => none
  | k + 1, x2, x10, x11, xo0, xo2 => if x10 = x11 then
      (slices_swapRangeCmpFunc_int.f k (wrap64 (x2 - x10)) x2 x10 xo0 xo2).bind fun r1 =>
      some r1
    else if x11 < x10 then
      (slices_swapRangeCmpFunc_int.f k (wrap64 (x2 - x10)) x2 x11 xo0 xo2).bind fun r2 =>
      slices_rotateCmpFunc_int.l2 k x2 (wrap64 (x10 - x11)) x11 r2.1 r2.2
    else (slices_swapRangeCmpFunc_int.f k (wrap64 (x2 - x10)) (wrap64 ((wrap64 (x2 + x11)) - x10)) x10 xo0 xo2).bind fun r3 =>
    slices_rotateCmpFunc_int.l2 k x2 x10 (wrap64 (x11 - x10)) r3.1 r3.2
theorem slices_rotateCmpFunc_int.l2_eq (k : Nat) (x2 : Int) (x10 : Int) (x11 : Int) (xo0 : List Int) (xo2 : List (Bool × List Int × List Int)) : slices_rotateCmpFunc_int.l2 (k + 1) x2 x10 x11 xo0 xo2 = if x10 = x11 then
      (slices_swapRangeCmpFunc_int.f k (wrap64 (x2 - x10)) x2 x10 xo0 xo2).bind fun r1 =>
      some r1
    else if x11 < x10 then
      (slices_swapRangeCmpFunc_int.f k (wrap64 (x2 - x10)) x2 x11 xo0 xo2).bind fun r2 =>
      slices_rotateCmpFunc_int.l2 k x2 (wrap64 (x10 - x11)) x11 r2.1 r2.2
    else (slices_swapRangeCmpFunc_int.f k (wrap64 (x2 - x10)) (wrap64 ((wrap64 (x2 + x11)) - x10)) x10 xo0 xo2).bind fun r3 =>
    slices_rotateCmpFunc_int.l2 k x2 x10 (wrap64 (x11 - x10)) r3.1 r3.2 := rfl
def slices_rotateCmpFunc_int.f (k : Nat) (a1 : Int) (a2 : Int) (a3 : Int) (ao0 : List Int) (ao3 : List (Bool × List Int × List Int)) : Option (List Int × List (Bool × List Int × List Int)) :=
  slices_rotateCmpFunc_int.l2 k a2 (wrap64 (a2 - a1)) (wrap64 (a3 - a2)) ao0 ao3
def slices_symMergeCmpFunc_int.l9 : Nat → Int → Int → List Int → (List (Bool × List Int × List Int)) → Option (List Int × List (Bool × List Int × List Int))
  | 0, _, _, _, _ => none
  | k + 1, x10, x13, xo0, xo2 => if x13 < (wrap64 (x10 - 1)) then
      if 0 ≤ (wrap64 (x13 + 1)) then
        if (wrap64 (x13 + 1)) < (xo0.length : Int) then
          if 0 ≤ x13 then
            if x13 < (xo0.length : Int) then
              if 0 ≤ x13 then
                if x13 < (xo0.length : Int) then
                  if 0 ≤ (wrap64 (x13 + 1)) then
                    if (wrap64 (x13 + 1)) < ((xo0.set x13.toNat (rI64 xo0 (wrap64 (x13 + 1)))).length : Int) then
                      slices_symMergeCmpFunc_int.l9 k x10 (wrap64 (x13 + 1)) ((xo0.set x13.toNat (rI64 xo0 (wrap64 (x13 + 1)))).set (wrap64 (x13 + 1)).toNat (rI64 xo0 x13)) xo2
                    else none
                  else none
                else none
              else none
            else none
          else none
        else none
      else none
    else some (xo0, xo2)
theorem slices_symMergeCmpFunc_int.l9_eq (k : Nat) (x10 : Int) (x13 : Int) (xo0 : List Int) (xo2 : List (Bool × List Int × List Int)) : slices_symMergeCmpFunc_int.l9 (k + 1) x10 x13 xo0 xo2 = if x13 < (wrap64 (x10 - 1)) then
      if 0 ≤ (wrap64 (x13 + 1)) then
        if (wrap64 (x13 + 1)) < (xo0.length : Int) then
          if 0 ≤ x13 then
            if x13 < (xo0.length : Int) then
              if 0 ≤ x13 then
                if x13 < (xo0.length : Int) then
                  if 0 ≤ (wrap64 (x13 + 1)) then
                    if (wrap64 (x13 + 1)) < ((xo0.set x13.toNat (rI64 xo0 (wrap64 (x13 + 1)))).length : Int) then
                      slices_symMergeCmpFunc_int.l9 k x10 (wrap64 (x13 + 1)) ((xo0.set x13.toNat (rI64 xo0 (wrap64 (x13 + 1)))).set (wrap64 (x13 + 1)).toNat (rI64 xo0 x13)) xo2
                    else none
                  else none
                else none
              else none
            else none
          else none
        else none
      else none
    else some (xo0, xo2) := rfl
def slices_symMergeCmpFunc_int.l3 : Nat → Int → Int → Int → List Int → (List (Bool × List Int × List Int)) → Option (List Int × List (Bool × List Int × List Int))
  | 0, _, _, _, _, _ => none
  | k + 1, x1, x10, x11, xo0, xo2 => if x10 < x11 then
      if (0 : Int) ≤ 1 then
        if 0 ≤ (wrap64 (shrI .u64 (IntKind.wrap .u64 (wrap64 (x10 + x11))) 1)) then
          if (wrap64 (shrI .u64 (IntKind.wrap .u64 (wrap64 (x10 + x11))) 1)) < (xo0.length : Int) then
            if 0 ≤ x1 then
              if x1 < (xo0.length : Int) then
                (settle_Round_1.f k (rI64 xo0 (wrap64 (shrI .u64 (IntKind.wrap .u64 (wrap64 (x10 + x11))) 1))) (rI64 xo0 x1) xo2).bind fun r1 =>
                if r1.1 < 0 then
                  slices_symMergeCmpFunc_int.l3 k x1 (wrap64 ((wrap64 (shrI .u64 (IntKind.wrap .u64 (wrap64 (x10 + x11))) 1)) + 1)) x11 xo0 r1.2
                else slices_symMergeCmpFunc_int.l3 k x1 x10 (wrap64 (shrI .u64 (IntKind.wrap .u64 (wrap64 (x10 + x11))) 1)) xo0 r1.2
              else none
            else none
          else none
        else none
      else none
    else slices_symMergeCmpFunc_int.l9 k x10 x1 xo0 xo2
theorem slices_symMergeCmpFunc_int.l3_eq (k : Nat) (x1 : Int) (x10 : Int) (x11 : Int) (xo0 : List Int) (xo2 : List (Bool × List Int × List Int)) : slices_symMergeCmpFunc_int.l3 (k + 1) x1 x10 x11 xo0 xo2 = if x10 < x11 then
      if (0 : Int) ≤ 1 then
        if 0 ≤ (wrap64 (shrI .u64 (IntKind.wrap .u64 (wrap64 (x10 + x11))) 1)) then
          if (wrap64 (shrI .u64 (IntKind.wrap .u64 (wrap64 (x10 + x11))) 1)) < (xo0.length : Int) then
            if 0 ≤ x1 then
              if x1 < (xo0.length : Int) then
                (settle_Round_1.f k (rI64 xo0 (wrap64 (shrI .u64 (IntKind.wrap .u64 (wrap64 (x10 + x11))) 1))) (rI64 xo0 x1) xo2).bind fun r1 =>
                if r1.1 < 0 then
                  slices_symMergeCmpFunc_int.l3 k x1 (wrap64 ((wrap64 (shrI .u64 (IntKind.wrap .u64 (wrap64 (x10 + x11))) 1)) + 1)) x11 xo0 r1.2
                else slices_symMergeCmpFunc_int.l3 k x1 x10 (wrap64 (shrI .u64 (IntKind.wrap .u64 (wrap64 (x10 + x11))) 1)) xo0 r1.2
              else none
            else none
          else none
        else none
      else none
    else slices_symMergeCmpFunc_int.l9 k x10 x1 xo0 xo2 := rfl
def slices_symMergeCmpFunc_int.l21 : Nat → Int → Int → List Int → (List (Bool × List Int × List Int)) → Option (List Int × List (Bool × List Int × List Int))
  | 0, _, _, _, _ => none
  | k + 1, x14, x17, xo0, xo2 => if x14 < x17 then
      if 0 ≤ (wrap64 (x17 - 1)) then
        if (wrap64 (x17 - 1)) < (xo0.length : Int) then
          if 0 ≤ x17 then
            if x17 < (xo0.length : Int) then
              if 0 ≤ x17 then
                if x17 < (xo0.length : Int) then
                  if 0 ≤ (wrap64 (x17 - 1)) then
                    if (wrap64 (x17 - 1)) < ((xo0.set x17.toNat (rI64 xo0 (wrap64 (x17 - 1)))).length : Int) then
                      slices_symMergeCmpFunc_int.l21 k x14 (wrap64 (x17 - 1)) ((xo0.set x17.toNat (rI64 xo0 (wrap64 (x17 - 1)))).set (wrap64 (x17 - 1)).toNat (rI64 xo0 x17)) xo2
                    else none
                  else none
                else none
              else none
            else none
          else none
        else none
      else none
    else some (xo0, xo2)
theorem slices_symMergeCmpFunc_int.l21_eq (k : Nat) (x14 : Int) (x17 : Int) (xo0 : List Int) (xo2 : List (Bool × List Int × List Int)) : slices_symMergeCmpFunc_int.l21 (k + 1) x14 x17 xo0 xo2 = if x14 < x17 then
      if 0 ≤ (wrap64 (x17 - 1)) then
        if (wrap64 (x17 - 1)) < (xo0.length : Int) then
          if 0 ≤ x17 then
            if x17 < (xo0.length : Int) then
              if 0 ≤ x17 then
                if x17 < (xo0.length : Int) then
                  if 0 ≤ (wrap64 (x17 - 1)) then
                    if (wrap64 (x17 - 1)) < ((xo0.set x17.toNat (rI64 xo0 (wrap64 (x17 - 1)))).length : Int) then
                      slices_symMergeCmpFunc_int.l21 k x14 (wrap64 (x17 - 1)) ((xo0.set x17.toNat (rI64 xo0 (wrap64 (x17 - 1)))).set (wrap64 (x17 - 1)).toNat (rI64 xo0 x17)) xo2
                    else none
                  else none
                else none
              else none
            else none
          else none
        else none
      else none
    else some (xo0, xo2) := rfl
def slices_symMergeCmpFunc_int.l15 : Nat → Int → Int → Int → List Int → (List (Bool × List Int × List Int)) → Option (List Int × List (Bool × List Int × List Int))
  | 0, _, _, _, _, _ => none
  | k + 1, x2, x14, x15, xo0, xo2 => if x14 < x15 then
      if (0 : Int) ≤ 1 then
        if 0 ≤ x2 then
          if x2 < (xo0.length : Int) then
            if 0 ≤ (wrap64 (shrI .u64 (IntKind.wrap .u64 (wrap64 (x14 + x15))) 1)) then
              if (wrap64 (shrI .u64 (IntKind.wrap .u64 (wrap64 (x14 + x15))) 1)) < (xo0.length : Int) then
                (settle_Round_1.f k (rI64 xo0 x2) (rI64 xo0 (wrap64 (shrI .u64 (IntKind.wrap .u64 (wrap64 (x14 + x15))) 1))) xo2).bind fun r2 =>
                if r2.1 < 0 then
                  slices_symMergeCmpFunc_int.l15 k x2 x14 (wrap64 (shrI .u64 (IntKind.wrap .u64 (wrap64 (x14 + x15))) 1)) xo0 r2.2
                else slices_symMergeCmpFunc_int.l15 k x2 (wrap64 ((wrap64 (shrI .u64 (IntKind.wrap .u64 (wrap64 (x14 + x15))) 1)) + 1)) x15 xo0 r2.2
              else none
            else none
          else none
        else none
      else none
    else slices_symMergeCmpFunc_int.l21 k x14 x2 xo0 xo2
theorem slices_symMergeCmpFunc_int.l15_eq (k : Nat) (x2 : Int) (x14 : Int) (x15 : Int) (xo0 : List Int) (xo2 : List (Bool × List Int × List Int)) : slices_symMergeCmpFunc_int.l15 (k + 1) x2 x14 x15 xo0 xo2 = if x14 < x15 then
      if (0 : Int) ≤ 1 then
        if 0 ≤ x2 then
          if x2 < (xo0.length : Int) then
            if 0 ≤ (wrap64 (shrI .u64 (IntKind.wrap .u64 (wrap64 (x14 + x15))) 1)) then
              if (wrap64 (shrI .u64 (IntKind.wrap .u64 (wrap64 (x14 + x15))) 1)) < (xo0.length : Int) then
                (settle_Round_1.f k (rI64 xo0 x2) (rI64 xo0 (wrap64 (shrI .u64 (IntKind.wrap .u64 (wrap64 (x14 + x15))) 1))) xo2).bind fun r2 =>
                if r2.1 < 0 then
                  slices_symMergeCmpFunc_int.l15 k x2 x14 (wrap64 (shrI .u64 (IntKind.wrap .u64 (wrap64 (x14 + x15))) 1)) xo0 r2.2
                else slices_symMergeCmpFunc_int.l15 k x2 (wrap64 ((wrap64 (shrI .u64 (IntKind.wrap .u64 (wrap64 (x14 + x15))) 1)) + 1)) x15 xo0 r2.2
              else none
            else none
          else none
        else none
      else none
    else slices_symMergeCmpFunc_int.l21 k x14 x2 xo0 xo2 := rfl
mutual
def slices_symMergeCmpFunc_int.f : Nat → Int → Int → Int → List Int → (List (Bool × List Int × List Int)) → Option (List Int × List (Bool × List Int × List Int))
  | 0, _, _, _, _, _ => none
  | k + 1, a1, a2, a3, ao0, ao3 => if (wrap64 (a2 - a1)) = 1 then
      slices_symMergeCmpFunc_int.l3 k a1 a2 a3 ao0 ao3
    else if (wrap64 (a3 - a2)) = 1 then
      slices_symMergeCmpFunc_int.l15 k a2 a1 a2 ao0 ao3
    else if (0 : Int) ≤ 1 then
      if (wrap64 (shrI .u64 (IntKind.wrap .u64 (wrap64 (a1 + a3))) 1)) < a2 then
        slices_symMergeCmpFunc_int.l32 k a1 a2 a3 (wrap64 (shrI .u64 (IntKind.wrap .u64 (wrap64 (a1 + a3))) 1)) (wrap64 ((wrap64 (shrI .u64 (IntKind.wrap .u64 (wrap64 (a1 + a3))) 1)) + a2)) (wrap64 ((wrap64 ((wrap64 (shrI .u64 (IntKind.wrap .u64 (wrap64 (a1 + a3))) 1)) + a2)) - a3)) (wrap64 (shrI .u64 (IntKind.wrap .u64 (wrap64 (a1 + a3))) 1)) ao0 ao3
      else slices_symMergeCmpFunc_int.l32 k a1 a2 a3 (wrap64 (shrI .u64 (IntKind.wrap .u64 (wrap64 (a1 + a3))) 1)) (wrap64 ((wrap64 (shrI .u64 (IntKind.wrap .u64 (wrap64 (a1 + a3))) 1)) + a2)) a1 a2 ao0 ao3
    else none
def slices_symMergeCmpFunc_int.l32 : Nat → Int → Int → Int → Int → Int → Int → Int → List Int → (List (Bool × List Int × List Int)) → Option (List Int × List (Bool × List Int × List Int))
  | 0, _, _, _, _, _, _, _, _, _ => none
  | k + 1, x1, x2, x3, x18, x19, x20, x21, xo0, xo2 => slices_symMergeCmpFunc_int.l33 k x1 x2 x3 x18 x19 x20 x21 (wrap64 (x19 - 1)) xo0 xo2
def slices_symMergeCmpFunc_int.l33 : Nat → Int → Int → Int → Int → Int → Int → Int → Int → List Int → (List (Bool × List Int × List Int)) → Option (List Int × List (Bool × List Int × List Int))
  | 0, _, _, _, _, _, _, _, _, _, _ => none
  | k + 1, x1, x2, x3, x18, x19, x20, x21, x22, xo0, xo2 => if x20 < x21 then
      if (0 : Int) ≤ 1 then
        if 0 ≤ (wrap64 (x22 - (wrap64 (shrI .u64 (IntKind.wrap .u64 (wrap64 (x20 + x21))) 1)))) then
          if (wrap64 (x22 - (wrap64 (shrI .u64 (IntKind.wrap .u64 (wrap64 (x20 + x21))) 1)))) < (xo0.length : Int) then
            if 0 ≤ (wrap64 (shrI .u64 (IntKind.wrap .u64 (wrap64 (x20 + x21))) 1)) then
              if (wrap64 (shrI .u64 (IntKind.wrap .u64 (wrap64 (x20 + x21))) 1)) < (xo0.length : Int) then
                (settle_Round_1.f k (rI64 xo0 (wrap64 (x22 - (wrap64 (shrI .u64 (IntKind.wrap .u64 (wrap64 (x20 + x21))) 1))))) (rI64 xo0 (wrap64 (shrI .u64 (IntKind.wrap .u64 (wrap64 (x20 + x21))) 1))) xo2).bind fun r3 =>
                if r3.1 < 0 then
                  slices_symMergeCmpFunc_int.l33 k x1 x2 x3 x18 x19 x20 (wrap64 (shrI .u64 (IntKind.wrap .u64 (wrap64 (x20 + x21))) 1)) x22 xo0 r3.2
                else slices_symMergeCmpFunc_int.l33 k x1 x2 x3 x18 x19 (wrap64 ((wrap64 (shrI .u64 (IntKind.wrap .u64 (wrap64 (x20 + x21))) 1)) + 1)) x21 x22 xo0 r3.2
              else none
            else none
          else none
        else none
      else none
    else if x20 < x2 then
      if x2 < (wrap64 (x19 - x20)) then
        (slices_rotateCmpFunc_int.f k x20 x2 (wrap64 (x19 - x20)) xo0 xo2).bind fun r4 =>
        slices_symMergeCmpFunc_int.l41 k x1 x3 x18 x20 (wrap64 (x19 - x20)) r4.1 r4.2
      else slices_symMergeCmpFunc_int.l41 k x1 x3 x18 x20 (wrap64 (x19 - x20)) xo0 xo2
    else slices_symMergeCmpFunc_int.l41 k x1 x3 x18 x20 (wrap64 (x19 - x20)) xo0 xo2
def slices_symMergeCmpFunc_int.l41 : Nat → Int → Int → Int → Int → Int → List Int → (List (Bool × List Int × List Int)) → Option (List Int × List (Bool × List Int × List Int))
  | 0, _, _, _, _, _, _, _ => none
  | k + 1, x1, x3, x18, x20, x24, xo0, xo2 => if x1 < x20 then
      if x20 < x18 then
        (slices_symMergeCmpFunc_int.f k x1 x20 x18 xo0 xo2).bind fun r5 =>
        if x18 < x24 then
          if x24 < x3 then
            (slices_symMergeCmpFunc_int.f k x18 x24 x3 r5.1 r5.2).bind fun r6 =>
            some r6
          else some r5
        else some r5
      else if x18 < x24 then
        if x24 < x3 then
          (slices_symMergeCmpFunc_int.f k x18 x24 x3 xo0 xo2).bind fun r7 =>
          some r7
        else some (xo0, xo2)
      else some (xo0, xo2)
    else if x18 < x24 then
      if x24 < x3 then
        (slices_symMergeCmpFunc_int.f k x18 x24 x3 xo0 xo2).bind fun r8 =>
        some r8
      else some (xo0, xo2)
    else some (xo0, xo2)
end
theorem slices_symMergeCmpFunc_int.f_eq (k : Nat) (a1 : Int) (a2 : Int) (a3 : Int) (ao0 : List Int) (ao3 : List (Bool × List Int × List Int)) : slices_symMergeCmpFunc_int.f (k + 1) a1 a2 a3 ao0 ao3 = if (wrap64 (a2 - a1)) = 1 then
      slices_symMergeCmpFunc_int.l3 k a1 a2 a3 ao0 ao3
    else if (wrap64 (a3 - a2)) = 1 then
      slices_symMergeCmpFunc_int.l15 k a2 a1 a2 ao0 ao3
    else if (0 : Int) ≤ 1 then
      if (wrap64 (shrI .u64 (IntKind.wrap .u64 (wrap64 (a1 + a3))) 1)) < a2 then
        slices_symMergeCmpFunc_int.l32 k a1 a2 a3 (wrap64 (shrI .u64 (IntKind.wrap .u64 (wrap64 (a1 + a3))) 1)) (wrap64 ((wrap64 (shrI .u64 (IntKind.wrap .u64 (wrap64 (a1 + a3))) 1)) + a2)) (wrap64 ((wrap64 ((wrap64 (shrI .u64 (IntKind.wrap .u64 (wrap64 (a1 + a3))) 1)) + a2)) - a3)) (wrap64 (shrI .u64 (IntKind.wrap .u64 (wrap64 (a1 + a3))) 1)) ao0 ao3
      else slices_symMergeCmpFunc_int.l32 k a1 a2 a3 (wrap64 (shrI .u64 (IntKind.wrap .u64 (wrap64 (a1 + a3))) 1)) (wrap64 ((wrap64 (shrI .u64 (IntKind.wrap .u64 (wrap64 (a1 + a3))) 1)) + a2)) a1 a2 ao0 ao3
    else none := rfl
theorem slices_symMergeCmpFunc_int.l32_eq (k : Nat) (x1 : Int) (x2 : Int) (x3 : Int) (x18 : Int) (x19 : Int) (x20 : Int) (x21 : Int) (xo0 : List Int) (xo2 : List (Bool × List Int × List Int)) : slices_symMergeCmpFunc_int.l32 (k + 1) x1 x2 x3 x18 x19 x20 x21 xo0 xo2 = slices_symMergeCmpFunc_int.l33 k x1 x2 x3 x18 x19 x20 x21 (wrap64 (x19 - 1)) xo0 xo2 := rfl
theorem slices_symMergeCmpFunc_int.l33_eq (k : Nat) (x1 : Int) (x2 : Int) (x3 : Int) (x18 : Int) (x19 : Int) (x20 : Int) (x21 : Int) (x22 : Int) (xo0 : List Int) (xo2 : List (Bool × List Int × List Int)) : slices_symMergeCmpFunc_int.l33 (k + 1) x1 x2 x3 x18 x19 x20 x21 x22 xo0 xo2 = if x20 < x21 then
      if (0 : Int) ≤ 1 then
        if 0 ≤ (wrap64 (x22 - (wrap64 (shrI .u64 (IntKind.wrap .u64 (wrap64 (x20 + x21))) 1)))) then
          if (wrap64 (x22 - (wrap64 (shrI .u64 (IntKind.wrap .u64 (wrap64 (x20 + x21))) 1)))) < (xo0.length : Int) then
            if 0 ≤ (wrap64 (shrI .u64 (IntKind.wrap .u64 (wrap64 (x20 + x21))) 1)) then
              if (wrap64 (shrI .u64 (IntKind.wrap .u64 (wrap64 (x20 + x21))) 1)) < (xo0.length : Int) then
                (settle_Round_1.f k (rI64 xo0 (wrap64 (x22 - (wrap64 (shrI .u64 (IntKind.wrap .u64 (wrap64 (x20 + x21))) 1))))) (rI64 xo0 (wrap64 (shrI .u64 (IntKind.wrap .u64 (wrap64 (x20 + x21))) 1))) xo2).bind fun r3 =>
                if r3.1 < 0 then
                  slices_symMergeCmpFunc_int.l33 k x1 x2 x3 x18 x19 x20 (wrap64 (shrI .u64 (IntKind.wrap .u64 (wrap64 (x20 + x21))) 1)) x22 xo0 r3.2
                else slices_symMergeCmpFunc_int.l33 k x1 x2 x3 x18 x19 (wrap64 ((wrap64 (shrI .u64 (IntKind.wrap .u64 (wrap64 (x20 + x21))) 1)) + 1)) x21 x22 xo0 r3.2
              else none
            else none
          else none
        else none
      else none
    else if x20 < x2 then
      if x2 < (wrap64 (x19 - x20)) then
        (slices_rotateCmpFunc_int.f k x20 x2 (wrap64 (x19 - x20)) xo0 xo2).bind fun r4 =>
        slices_symMergeCmpFunc_int.l41 k x1 x3 x18 x20 (wrap64 (x19 - x20)) r4.1 r4.2
      else slices_symMergeCmpFunc_int.l41 k x1 x3 x18 x20 (wrap64 (x19 - x20)) xo0 xo2
    else slices_symMergeCmpFunc_int.l41 k x1 x3 x18 x20 (wrap64 (x19 - x20)) xo0 xo2 := rfl
theorem slices_symMergeCmpFunc_int.l41_eq (k : Nat) (x1 : Int) (x3 : Int) (x18 : Int) (x20 : Int) (x24 : Int) (xo0 : List Int) (xo2 : List (Bool × List Int × List Int)) : slices_symMergeCmpFunc_int.l41 (k + 1) x1 x3 x18 x20 x24 xo0 xo2 = if x1 < x20 then
      if x20 < x18 then
        (slices_symMergeCmpFunc_int.f k x1 x20 x18 xo0 xo2).bind fun r5 =>
        if x18 < x24 then
          if x24 < x3 then
            (slices_symMergeCmpFunc_int.f k x18 x24 x3 r5.1 r5.2).bind fun r6 =>
            some r6
          else some r5
        else some r5
      else if x18 < x24 then
        if x24 < x3 then
          (slices_symMergeCmpFunc_int.f k x18 x24 x3 xo0 xo2).bind fun r7 =>
          some r7
        else some (xo0, xo2)
      else some (xo0, xo2)
    else if x18 < x24 then
      if x24 < x3 then
        (slices_symMergeCmpFunc_int.f k x18 x24 x3 xo0 xo2).bind fun r8 =>
        some r8
      else some (xo0, xo2)
    else some (xo0, xo2) := rfl
mutual
def slices_stableCmpFunc_int.l7 : Nat → Int → Int → List Int → (List (Bool × List Int × List Int)) → Option (List Int × List (Bool × List Int × List Int))
  | 0, _, _, _, _ => none
  | k + 1, x1, x6, xo0, xo2 => if x6 < x1 then
      slices_stableCmpFunc_int.l9 k x1 x6 0 (wrap64 (2 * x6)) xo0 xo2
    else some (xo0, xo2)
def slices_stableCmpFunc_int.l9 : Nat → Int → Int → Int → Int → List Int → (List (Bool × List Int × List Int)) → Option (List Int × List (Bool × List Int × List Int))
  | 0, _, _, _, _, _, _ => none
  | k + 1, x1, x6, x7, x8, xo0, xo2 => if x8 ≤ x1 then
      (slices_symMergeCmpFunc_int.f k x7 (wrap64 (x7 + x6)) x8 xo0 xo2).bind fun r3 =>
      slices_stableCmpFunc_int.l9 k x1 x6 x8 (wrap64 (x8 + (wrap64 (2 * x6)))) r3.1 r3.2
    else if (wrap64 (x7 + x6)) < x1 then
      (slices_symMergeCmpFunc_int.f k x7 (wrap64 (x7 + x6)) x1 xo0 xo2).bind fun r4 =>
      slices_stableCmpFunc_int.l7 k x1 (wrap64 (x6 * 2)) r4.1 r4.2
    else slices_stableCmpFunc_int.l7 k x1 (wrap64 (x6 * 2)) xo0 xo2
end
theorem slices_stableCmpFunc_int.l7_eq (k : Nat) (x1 : Int) (x6 : Int) (xo0 : List Int) (xo2 : List (Bool × List Int × List Int)) : slices_stableCmpFunc_int.l7 (k + 1) x1 x6 xo0 xo2 = if x6 < x1 then
      slices_stableCmpFunc_int.l9 k x1 x6 0 (wrap64 (2 * x6)) xo0 xo2
    else some (xo0, xo2) := rfl
theorem slices_stableCmpFunc_int.l9_eq (k : Nat) (x1 : Int) (x6 : Int) (x7 : Int) (x8 : Int) (xo0 : List Int) (xo2 : List (Bool × List Int × List Int)) : slices_stableCmpFunc_int.l9 (k + 1) x1 x6 x7 x8 xo0 xo2 = if x8 ≤ x1 then
      (slices_symMergeCmpFunc_int.f k x7 (wrap64 (x7 + x6)) x8 xo0 xo2).bind fun r3 =>
      slices_stableCmpFunc_int.l9 k x1 x6 x8 (wrap64 (x8 + (wrap64 (2 * x6)))) r3.1 r3.2
    else if (wrap64 (x7 + x6)) < x1 then
      (slices_symMergeCmpFunc_int.f k x7 (wrap64 (x7 + x6)) x1 xo0 xo2).bind fun r4 =>
      slices_stableCmpFunc_int.l7 k x1 (wrap64 (x6 * 2)) r4.1 r4.2
    else slices_stableCmpFunc_int.l7 k x1 (wrap64 (x6 * 2)) xo0 xo2 := rfl
def slices_stableCmpFunc_int.l2 : Nat → Int → Int → Int → Int → List Int → (List (Bool × List Int × List Int)) → Option (List Int × List (Bool × List Int × List Int))
  | 0, _, _, _, _, _, _ => none
  | k + 1, x1, x6, x7, x8, xo0, xo2 => if x8 ≤ x1 then
      (slices_insertionSortCmpFunc_int.f k x7 x8 xo0 xo2).bind fun r1 =>
      slices_stableCmpFunc_int.l2 k x1 x6 x8 (wrap64 (x8 + x6)) r1.1 r1.2
    else (slices_insertionSortCmpFunc_int.f k x7 x1 xo0 xo2).bind fun r2 =>
    slices_stableCmpFunc_int.l7 k x1 x6 r2.1 r2.2
theorem slices_stableCmpFunc_int.l2_eq (k : Nat) (x1 : Int) (x6 : Int) (x7 : Int) (x8 : Int) (xo0 : List Int) (xo2 : List (Bool × List Int × List Int)) : slices_stableCmpFunc_int.l2 (k + 1) x1 x6 x7 x8 xo0 xo2 = if x8 ≤ x1 then
      (slices_insertionSortCmpFunc_int.f k x7 x8 xo0 xo2).bind fun r1 =>
      slices_stableCmpFunc_int.l2 k x1 x6 x8 (wrap64 (x8 + x6)) r1.1 r1.2
    else (slices_insertionSortCmpFunc_int.f k x7 x1 xo0 xo2).bind fun r2 =>
    slices_stableCmpFunc_int.l7 k x1 x6 r2.1 r2.2 := rfl
def slices_stableCmpFunc_int.f (k : Nat) (a1 : Int) (ao0 : List Int) (ao3 : List (Bool × List Int × List Int)) : Option (List Int × List (Bool × List Int × List Int)) :=
  slices_stableCmpFunc_int.l2 k a1 20 0 20 ao0 ao3
def slices_SortStableFunc_int.f (k : Nat) (ao0 : List Int) (ao3 : List (Bool × List Int × List Int)) : Option (List Int × List (Bool × List Int × List Int)) :=
  (slices_stableCmpFunc_int.f k (ao0.length : Int) ao0 ao3).bind fun r1 =>
  some r1
def settle_Round.l27 : Nat → List Int → Int → Int → List Int → Option (List Int × Int)
  | 0, _, _, _, _ => none
  | k + 1, x97, x98, x99, xo0 => if x99 < x98 then
      if 0 ≤ x99 then
        if x99 < (x97.length : Int) then
          if 0 ≤ (rI64 x97 x99) then
            if (rI64 x97 x99) < (xo0.length : Int) then
              if 0 ≤ (rI64 x97 x99) then
                if (rI64 x97 x99) < (xo0.length : Int) then
                  settle_Round.l27 k x97 x98 (wrap64 (x99 + 1)) (xo0.set (rI64 x97 x99).toNat (wrap64 ((rI64 xo0 (rI64 x97 x99)) + 1)))
                else none
              else none
            else none
          else none
        else none
      else none
    else some (xo0, 0)
theorem settle_Round.l27_eq (k : Nat) (x97 : List Int) (x98 : Int) (x99 : Int) (xo0 : List Int) : settle_Round.l27 (k + 1) x97 x98 x99 xo0 = if x99 < x98 then
      if 0 ≤ x99 then
        if x99 < (x97.length : Int) then
          if 0 ≤ (rI64 x97 x99) then
            if (rI64 x97 x99) < (xo0.length : Int) then
              if 0 ≤ (rI64 x97 x99) then
                if (rI64 x97 x99) < (xo0.length : Int) then
                  settle_Round.l27 k x97 x98 (wrap64 (x99 + 1)) (xo0.set (rI64 x97 x99).toNat (wrap64 ((rI64 xo0 (rI64 x97 x99)) + 1)))
                else none
              else none
            else none
          else none
        else none
      else none
    else some (xo0, 0) := rfl
def settle_Round.l11 : Nat → List ByteArray → Int → Int → Bool → List Int → List Int → List Int → List Int → Bool → List Int → List Int → (List (Bool × List Int × List Int)) → Option (List Int × Int)
  | 0, _, _, _, _, _, _, _, _, _, _, _, _ => none
  | k + 1, x32, x33, x34, xo0_0, xo0_1, xo0_2, xo1, xo2, xo4_0, xo4_1, xo4_2, xo5 => if x34 < x33 then
      if 0 ≤ x34 then
        if x34 < (x32.length : Int) then
          (rat_In.f k (rStr x32 x34)).bind fun r4 =>
          (rat_Q_Add.f k (xo0_0, xo0_1, xo0_2) r4).bind fun r5 =>
          (rat_Floor.f k (rStr x32 x34)).bind fun r6 =>
          (rat_Integer.f k r6.1).bind fun r7 =>
          if r7.2 = 0 then
            if r7.1 < (-1000000000000000) then
              some ([], 4)
            else if 1000000000000000 < r7.1 then
              some ([], 4)
            else (rat_Int.f k r7.1).bind fun r8 =>
            (rat_Q_Sub.f k r4 r8).bind fun r9 =>
            if (xo1.length + [r7.1].length) * 8 ≤ 140737488355328 then
              if (xo2.length + [x34].length) * 8 ≤ 140737488355328 then
                if (xo5.length + [r9].length) * 56 ≤ 140737488355328 then
                  (rat_Q_Add.f k (xo4_0, xo4_1, xo4_2) r9).bind fun r10 =>
                  settle_Round.l11 k x32 x33 (wrap64 (x34 + 1)) r5.1 r5.2.1 r5.2.2 (xo1 ++ [r7.1]) (xo2 ++ [x34]) r10.1 r10.2.1 r10.2.2 (xo5 ++ [r9])
                else none
              else none
            else none
          else some ([], 4)
        else none
      else none
    else (rat_Q_Out.f k (xo4_0, xo4_1, xo4_2)).bind fun r11 =>
    (rat_Integer.f k r11).bind fun r12 =>
    if r12.2 = 0 then
      (slices_SortStableFunc_int.f k xo2 xo5).bind fun r13 =>
      if r12.1 ≤ (r13.1.length : Int) then
        if 0 ≤ r12.1 then
          settle_Round.l27 k ((r13.1.drop (Int.toNat 0)).take ((Int.toNat r12.1) - (Int.toNat 0))) ((Int.toNat r12.1) - (Int.toNat 0) : Int) 0 xo1
        else none
      else none
    else some ([], 14)
theorem settle_Round.l11_eq (k : Nat) (x32 : List ByteArray) (x33 : Int) (x34 : Int) (xo0_0 : Bool) (xo0_1 : List Int) (xo0_2 : List Int) (xo1 : List Int) (xo2 : List Int) (xo4_0 : Bool) (xo4_1 : List Int) (xo4_2 : List Int) (xo5 : List (Bool × List Int × List Int)) : settle_Round.l11 (k + 1) x32 x33 x34 xo0_0 xo0_1 xo0_2 xo1 xo2 xo4_0 xo4_1 xo4_2 xo5 = if x34 < x33 then
      if 0 ≤ x34 then
        if x34 < (x32.length : Int) then
          (rat_In.f k (rStr x32 x34)).bind fun r4 =>
          (rat_Q_Add.f k (xo0_0, xo0_1, xo0_2) r4).bind fun r5 =>
          (rat_Floor.f k (rStr x32 x34)).bind fun r6 =>
          (rat_Integer.f k r6.1).bind fun r7 =>
          if r7.2 = 0 then
            if r7.1 < (-1000000000000000) then
              some ([], 4)
            else if 1000000000000000 < r7.1 then
              some ([], 4)
            else (rat_Int.f k r7.1).bind fun r8 =>
            (rat_Q_Sub.f k r4 r8).bind fun r9 =>
            if (xo1.length + [r7.1].length) * 8 ≤ 140737488355328 then
              if (xo2.length + [x34].length) * 8 ≤ 140737488355328 then
                if (xo5.length + [r9].length) * 56 ≤ 140737488355328 then
                  (rat_Q_Add.f k (xo4_0, xo4_1, xo4_2) r9).bind fun r10 =>
                  settle_Round.l11 k x32 x33 (wrap64 (x34 + 1)) r5.1 r5.2.1 r5.2.2 (xo1 ++ [r7.1]) (xo2 ++ [x34]) r10.1 r10.2.1 r10.2.2 (xo5 ++ [r9])
                else none
              else none
            else none
          else some ([], 4)
        else none
      else none
    else (rat_Q_Out.f k (xo4_0, xo4_1, xo4_2)).bind fun r11 =>
    (rat_Integer.f k r11).bind fun r12 =>
    if r12.2 = 0 then
      (slices_SortStableFunc_int.f k xo2 xo5).bind fun r13 =>
      if r12.1 ≤ (r13.1.length : Int) then
        if 0 ≤ r12.1 then
          settle_Round.l27 k ((r13.1.drop (Int.toNat 0)).take ((Int.toNat r12.1) - (Int.toNat 0))) ((Int.toNat r12.1) - (Int.toNat 0) : Int) 0 xo1
        else none
      else none
    else some ([], 14) := rfl
def settle_Round.f (k : Nat) (a0 : List ByteArray) : Option (List Int × Int) :=
  if 256 < (a0.length : Int) then
    some ([], 2)
  else (rat_CheckAll.f k a0).bind fun r1 =>
  if r1 = 0 then
    (rat_Int.f k 0).bind fun r2 =>
    (rat_Int.f k 0).bind fun r3 =>
    settle_Round.l11 k a0 (a0.length : Int) 0 r2.1 r2.2.1 r2.2.2 [] [] r3.1 r3.2.1 r3.2.2 []
  else some ([], r1)
def slices_Equal_int.l4 : Nat → List Int → List Int → Int → Int → Option Bool
  | 0, _, _, _, _ => none
  | k + 1, x0, x1, x12, x13 => if x13 < x12 then
      if 0 ≤ x13 then
        if x13 < (x0.length : Int) then
          if 0 ≤ x13 then
            if x13 < (x1.length : Int) then
              if (rI64 x0 x13) = (rI64 x1 x13) then
                slices_Equal_int.l4 k x0 x1 x12 (wrap64 (x13 + 1))
              else some false
            else none
          else none
        else none
      else none
    else some true
theorem slices_Equal_int.l4_eq (k : Nat) (x0 : List Int) (x1 : List Int) (x12 : Int) (x13 : Int) : slices_Equal_int.l4 (k + 1) x0 x1 x12 x13 = if x13 < x12 then
      if 0 ≤ x13 then
        if x13 < (x0.length : Int) then
          if 0 ≤ x13 then
            if x13 < (x1.length : Int) then
              if (rI64 x0 x13) = (rI64 x1 x13) then
                slices_Equal_int.l4 k x0 x1 x12 (wrap64 (x13 + 1))
              else some false
            else none
          else none
        else none
      else none
    else some true := rfl
def slices_Equal_int.f (k : Nat) (a0 : List Int) (a1 : List Int) : Option Bool :=
  if (a0.length : Int) = (a1.length : Int) then
    slices_Equal_int.l4 k a0 a1 (a0.length : Int) 0
  else some false
def rat_two'.f (k : Nat) (a0 : ByteArray) (a1 : ByteArray) : Option (ByteArray × Int) :=
  (rat_CheckAll.f k [a0, a1]).bind fun r1 =>
  if r1 = 0 then
    (rat_In.f k a0).bind fun r2 =>
    (rat_In.f k a1).bind fun r3 =>
    (rat_Q_Sub.f k r2 r3).bind fun r4 =>
    (rat_told.f k r4).bind fun r5 =>
    some r5
  else some (ByteArray.empty, r1)
def rat_Sub.f (k : Nat) (a0 : ByteArray) (a1 : ByteArray) : Option (ByteArray × Int) :=
  (rat_two'.f k a0 a1).bind fun r1 =>
  some r1
def rat_Compare.f (k : Nat) (a0 : ByteArray) (a1 : ByteArray) : Option (Int × Int) :=
  (rat_CheckAll.f k [a0, a1]).bind fun r1 =>
  if r1 = 0 then
    (rat_In.f k a0).bind fun r2 =>
    (rat_In.f k a1).bind fun r3 =>
    (rat_Q_Cmp.f k r2 r3).bind fun r4 =>
    some (r4, 0)
  else some (0, r1)
def gridhallkeep3_SettleKept.l9 : Nat → List ByteArray → List Int → ByteArray → List Int → Int → Int → Option Bool
  | 0, _, _, _, _, _, _ => none
  | k + 1, x0, x5, x7, x41, x42, x43 => if x43 < x42 then
      if 0 ≤ x43 then
        if x43 < (x41.length : Int) then
          (rat_Of.f k (rI64 x41 x43) 1).bind fun r4 =>
          if 0 ≤ x43 then
            if x43 < (x0.length : Int) then
              (rat_Sub.f k r4.1 (rStr x0 x43)).bind fun r5 =>
              (rat_Compare.f k r5.1 (ByteArray.mk #[45, 49])).bind fun r6 =>
              (rat_Compare.f k r5.1 (ByteArray.mk #[49])).bind fun r7 =>
              (gridhallkeep3_fine.f k [r4.2, r5.2, r6.2, r7.2]).bind fun r8 =>
              if r8 = true then
                if r6.1 ≤ 0 then
                  (gridhallkeep3_fine.f k [r4.2, r5.2]).bind fun r9 =>
                  some (!decide (r9 = true))
                else if 0 ≤ r7.1 then
                  (gridhallkeep3_fine.f k [r4.2, r5.2]).bind fun r10 =>
                  some (!decide (r10 = true))
                else (rat_Add.f k x7 r5.1).bind fun r11 =>
                if r11.2 = 0 then
                  gridhallkeep3_SettleKept.l9 k x0 x5 r11.1 x41 x42 (wrap64 (x43 + 1))
                else some (decide (r11.2 = 2))
              else (gridhallkeep3_fine.f k [r4.2, r5.2]).bind fun r12 =>
              some (!decide (r12 = true))
            else none
          else none
        else none
      else none
    else if x7 = (ByteArray.mk #[48]) then
      some (decide ((x5.length : Int) = (x0.length : Int)))
    else some false
theorem gridhallkeep3_SettleKept.l9_eq (k : Nat) (x0 : List ByteArray) (x5 : List Int) (x7 : ByteArray) (x41 : List Int) (x42 : Int) (x43 : Int) : gridhallkeep3_SettleKept.l9 (k + 1) x0 x5 x7 x41 x42 x43 = if x43 < x42 then
      if 0 ≤ x43 then
        if x43 < (x41.length : Int) then
          (rat_Of.f k (rI64 x41 x43) 1).bind fun r4 =>
          if 0 ≤ x43 then
            if x43 < (x0.length : Int) then
              (rat_Sub.f k r4.1 (rStr x0 x43)).bind fun r5 =>
              (rat_Compare.f k r5.1 (ByteArray.mk #[45, 49])).bind fun r6 =>
              (rat_Compare.f k r5.1 (ByteArray.mk #[49])).bind fun r7 =>
              (gridhallkeep3_fine.f k [r4.2, r5.2, r6.2, r7.2]).bind fun r8 =>
              if r8 = true then
                if r6.1 ≤ 0 then
                  (gridhallkeep3_fine.f k [r4.2, r5.2]).bind fun r9 =>
                  some (!decide (r9 = true))
                else if 0 ≤ r7.1 then
                  (gridhallkeep3_fine.f k [r4.2, r5.2]).bind fun r10 =>
                  some (!decide (r10 = true))
                else (rat_Add.f k x7 r5.1).bind fun r11 =>
                if r11.2 = 0 then
                  gridhallkeep3_SettleKept.l9 k x0 x5 r11.1 x41 x42 (wrap64 (x43 + 1))
                else some (decide (r11.2 = 2))
              else (gridhallkeep3_fine.f k [r4.2, r5.2]).bind fun r12 =>
              some (!decide (r12 = true))
            else none
          else none
        else none
      else none
    else if x7 = (ByteArray.mk #[48]) then
      some (decide ((x5.length : Int) = (x0.length : Int)))
    else some false := rfl
def gridhallkeep3_SettleKept.f (k : Nat) (a0 : List ByteArray) : Option Bool :=
  (settle_Round.f k [ByteArray.mk #[49, 47, 50], ByteArray.mk #[49, 47, 51], ByteArray.mk #[49, 47, 54]]).bind fun r1 =>
  if r1.2 = 0 then
    (slices_Equal_int.f k r1.1 [1, 0, 0]).bind fun r2 =>
    if r2 = true then
      (settle_Round.f k a0).bind fun r3 =>
      if r3.2 = 0 then
        gridhallkeep3_SettleKept.l9 k a0 r3.1 (ByteArray.mk #[48]) r3.1 (r3.1.length : Int) 0
      else some (decide ((r3.1.length : Int) = 0))
    else some false
  else some false
end Go.Proofs.YtamgbcgfjhpedaaDoor.VE
