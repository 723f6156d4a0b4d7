/- The stable sort's printed functions, with what the comparison captured, as the plain ones (lemmas; no statement is proved here). -/
import Derived.Test.YtamgbcgfjhpedaaDoorVpSortH
namespace Go.Proofs.YtamgbcgfjhpedaaDoor.Srt
open Go Go.RowKit Go.Proofs.YtamgbcgfjhpedaaDoor.VE
set_option linter.unusedVariables false
/-- The middle of two places, as it is printed. -/
abbrev halfN (a b : Int) : Int := wrap64 (shrI .u64 (IntKind.wrap .u64 (wrap64 (a + b))) 1)
theorem fdiv2 (y : Int) : y.fdiv (2 ^ 1) = y / 2 := Int.fdiv_eq_ediv_of_nonneg _ (by decide)
theorem shr1 (y : Int) : shrI .u64 y 1 = y / 2 := fdiv2 y
theorem halfN_eq (a b : Int) : halfN a b = half a b := by
  unfold halfN half
  rw [shr1]
/-- The printed functions. ρ: what they answer; σ: what was captured. -/
structure NSys (α σ ρ χ : Type) where
  z : α
  fst : ρ → List α
  snd : ρ → σ
  pk : List α → σ → ρ
  cf : χ → Int
  cs : χ → σ
  cmp : Nat → α → α → σ → Option χ
  il1 : Nat → Int → Int → Int → List α → σ → Option ρ
  il4 : Nat → Int → Int → Int → Int → List α → σ → Option ρ
  wl1 : Nat → Int → Int → Int → Int → List α → σ → Option ρ
  rl2 : Nat → Int → Int → Int → List α → σ → Option ρ
  ml9 : Nat → Int → Int → List α → σ → Option ρ
  ml3 : Nat → Int → Int → Int → List α → σ → Option ρ
  ml21 : Nat → Int → Int → List α → σ → Option ρ
  ml15 : Nat → Int → Int → Int → List α → σ → Option ρ
  mf : Nat → Int → Int → Int → List α → σ → Option ρ
  ml32 : Nat → Int → Int → Int → Int → Int → Int → Int → List α → σ → Option ρ
  ml33 : Nat → Int → Int → Int → Int → Int → Int → Int → Int → List α → σ → Option ρ
  ml41 : Nat → Int → Int → Int → Int → Int → List α → σ → Option ρ
  sl7 : Nat → Int → Int → List α → σ → Option ρ
  sl9 : Nat → Int → Int → Int → Int → List α → σ → Option ρ
  sl2 : Nat → Int → Int → Int → Int → List α → σ → Option ρ
def NSys.rd {α σ ρ χ : Type} (N : NSys α σ ρ χ) (xs : List α) (i : Int) : α := xs.getD i.toNat N.z
structure NEqs {α σ ρ χ : Type} (N : NSys α σ ρ χ) : Prop where
  e1 : ∀ x s, N.fst (N.pk x s) = x
  e2 : ∀ x s, N.snd (N.pk x s) = s
  i1z : ∀ x1 x2 x8 xs s, N.il1 0 x1 x2 x8 xs s = none
  i4z : ∀ x1 x2 x8 x9 xs s, N.il4 0 x1 x2 x8 x9 xs s = none
  w1z : ∀ x1 x2 x3 x10 xs s, N.wl1 0 x1 x2 x3 x10 xs s = none
  r2z : ∀ x2 x10 x11 xs s, N.rl2 0 x2 x10 x11 xs s = none
  m9z : ∀ x10 x13 xs s, N.ml9 0 x10 x13 xs s = none
  m3z : ∀ x1 x10 x11 xs s, N.ml3 0 x1 x10 x11 xs s = none
  m21z : ∀ x14 x17 xs s, N.ml21 0 x14 x17 xs s = none
  m15z : ∀ x2 x14 x15 xs s, N.ml15 0 x2 x14 x15 xs s = none
  mfz : ∀ x1 x2 x3 xs s, N.mf 0 x1 x2 x3 xs s = none
  m32z : ∀ x1 x2 x3 x18 x19 x20 x21 xs s, N.ml32 0 x1 x2 x3 x18 x19 x20 x21 xs s = none
  m33z : ∀ x1 x2 x3 x18 x19 x20 x21 x22 xs s, N.ml33 0 x1 x2 x3 x18 x19 x20 x21 x22 xs s = none
  m41z : ∀ x1 x3 x18 x20 x24 xs s, N.ml41 0 x1 x3 x18 x20 x24 xs s = none
  s7z : ∀ x1 x6 xs s, N.sl7 0 x1 x6 xs s = none
  s9z : ∀ x1 x6 x7 x8 xs s, N.sl9 0 x1 x6 x7 x8 xs s = none
  s2z : ∀ x1 x6 x7 x8 xs s, N.sl2 0 x1 x6 x7 x8 xs s = none
  il1 : ∀ k x1 x2 x8 xs s, N.il1 (k + 1) x1 x2 x8 xs s = if x8 < x2 then N.il4 k x1 x2 x8 x8 xs s else some (N.pk xs s)
  il4 : ∀ k x1 x2 x8 x9 xs s, N.il4 (k + 1) x1 x2 x8 x9 xs s = if x1 < x9 then (if 0 ≤ x9 then (if x9 < (xs.length : Int) then (if 0 ≤ wrap64 (x9 - 1) then (if wrap64 (x9 - 1) < (xs.length : Int) then ((N.cmp k (N.rd xs x9) (N.rd xs (wrap64 (x9 - 1))) s).bind fun r => if N.cf r < 0 then
    (if 0 ≤ wrap64 (x9 - 1) then (if wrap64 (x9 - 1) < (xs.length : Int) then (if 0 ≤ x9 then (if x9 < (xs.length : Int) then (if 0 ≤ x9 then (if x9 < (xs.length : Int) then (if 0 ≤ wrap64 (x9 - 1) then (if wrap64 (x9 - 1) < ((xs.set x9.toNat (N.rd xs (wrap64 (x9 - 1)))).length : Int) then
      N.il4 k x1 x2 x8 (wrap64 (x9 - 1)) ((xs.set x9.toNat (N.rd xs (wrap64 (x9 - 1)))).set (wrap64 (x9 - 1)).toNat (N.rd xs x9)) (N.cs r) else none) else none) else none) else none) else none) else none) else none) else none) else N.il1 k x1 x2 (wrap64 (x8 + 1)) xs (N.cs r)) else none) else none) else none) else none) else N.il1 k x1 x2 (wrap64 (x8 + 1)) xs s
  wl1 : ∀ k x1 x2 x3 x10 xs s, N.wl1 (k + 1) x1 x2 x3 x10 xs s = if x10 < x3 then (if 0 ≤ wrap64 (x2 + x10) then (if wrap64 (x2 + x10) < (xs.length : Int) then (if 0 ≤ wrap64 (x1 + x10) then (if wrap64 (x1 + x10) < (xs.length : Int) then (if 0 ≤ wrap64 (x1 + x10) then (if wrap64 (x1 + x10) < (xs.length : Int) then (if 0 ≤ wrap64 (x2 + x10) then (if wrap64 (x2 + x10) < ((xs.set (wrap64 (x1 + x10)).toNat (N.rd xs (wrap64 (x2 + x10)))).length : Int) then
    N.wl1 k x1 x2 x3 (wrap64 (x10 + 1)) ((xs.set (wrap64 (x1 + x10)).toNat (N.rd xs (wrap64 (x2 + x10)))).set (wrap64 (x2 + x10)).toNat (N.rd xs (wrap64 (x1 + x10)))) s else none) else none) else none) else none) else none) else none) else none) else none) else some (N.pk xs s)
  rl2 : ∀ k x2 x10 x11 xs s, N.rl2 (k + 1) x2 x10 x11 xs s = if x10 = x11 then ((N.wl1 k (wrap64 (x2 - x10)) x2 x10 0 xs s).bind fun r => some r) else if x11 < x10 then ((N.wl1 k (wrap64 (x2 - x10)) x2 x11 0 xs s).bind fun r => N.rl2 k x2 (wrap64 (x10 - x11)) x11 (N.fst r) (N.snd r)) else (N.wl1 k (wrap64 (x2 - x10)) (wrap64 (wrap64 (x2 + x11) - x10)) x10 0 xs s).bind fun r => N.rl2 k x2 x10 (wrap64 (x11 - x10)) (N.fst r) (N.snd r)
  ml9 : ∀ k x10 x13 xs s, N.ml9 (k + 1) x10 x13 xs s = if x13 < wrap64 (x10 - 1) then (if 0 ≤ wrap64 (x13 + 1) then (if wrap64 (x13 + 1) < (xs.length : Int) then (if 0 ≤ x13 then (if x13 < (xs.length : Int) then (if 0 ≤ x13 then (if x13 < (xs.length : Int) then (if 0 ≤ wrap64 (x13 + 1) then (if wrap64 (x13 + 1) < ((xs.set x13.toNat (N.rd xs (wrap64 (x13 + 1)))).length : Int) then
    N.ml9 k x10 (wrap64 (x13 + 1)) ((xs.set x13.toNat (N.rd xs (wrap64 (x13 + 1)))).set (wrap64 (x13 + 1)).toNat (N.rd xs x13)) s else none) else none) else none) else none) else none) else none) else none) else none) else some (N.pk xs s)
  ml3 : ∀ k x1 x10 x11 xs s, N.ml3 (k + 1) x1 x10 x11 xs s = if x10 < x11 then (if (0 : Int) ≤ 1 then (if 0 ≤ halfN x10 x11 then (if halfN x10 x11 < (xs.length : Int) then (if 0 ≤ x1 then (if x1 < (xs.length : Int) then ((N.cmp k (N.rd xs (halfN x10 x11)) (N.rd xs x1) s).bind fun r => if N.cf r < 0 then N.ml3 k x1 (wrap64 (halfN x10 x11 + 1)) x11 xs (N.cs r) else N.ml3 k x1 x10 (halfN x10 x11) xs (N.cs r)) else none) else none) else none) else none) else none) else N.ml9 k x10 x1 xs s
  ml21 : ∀ k x14 x17 xs s, N.ml21 (k + 1) x14 x17 xs s = if x14 < x17 then (if 0 ≤ wrap64 (x17 - 1) then (if wrap64 (x17 - 1) < (xs.length : Int) then (if 0 ≤ x17 then (if x17 < (xs.length : Int) then (if 0 ≤ x17 then (if x17 < (xs.length : Int) then (if 0 ≤ wrap64 (x17 - 1) then (if wrap64 (x17 - 1) < ((xs.set x17.toNat (N.rd xs (wrap64 (x17 - 1)))).length : Int) then
    N.ml21 k x14 (wrap64 (x17 - 1)) ((xs.set x17.toNat (N.rd xs (wrap64 (x17 - 1)))).set (wrap64 (x17 - 1)).toNat (N.rd xs x17)) s else none) else none) else none) else none) else none) else none) else none) else none) else some (N.pk xs s)
  ml15 : ∀ k x2 x14 x15 xs s, N.ml15 (k + 1) x2 x14 x15 xs s = if x14 < x15 then (if (0 : Int) ≤ 1 then (if 0 ≤ x2 then (if x2 < (xs.length : Int) then (if 0 ≤ halfN x14 x15 then (if halfN x14 x15 < (xs.length : Int) then ((N.cmp k (N.rd xs x2) (N.rd xs (halfN x14 x15)) s).bind fun r => if N.cf r < 0 then N.ml15 k x2 x14 (halfN x14 x15) xs (N.cs r) else N.ml15 k x2 (wrap64 (halfN x14 x15 + 1)) x15 xs (N.cs r)) else none) else none) else none) else none) else none) else N.ml21 k x14 x2 xs s
  mf : ∀ k a1 a2 a3 xs s, N.mf (k + 1) a1 a2 a3 xs s = if wrap64 (a2 - a1) = 1 then N.ml3 k a1 a2 a3 xs s else if wrap64 (a3 - a2) = 1 then N.ml15 k a2 a1 a2 xs s else if (0 : Int) ≤ 1 then (if halfN a1 a3 < a2 then N.ml32 k a1 a2 a3 (halfN a1 a3) (wrap64 (halfN a1 a3 + a2)) (wrap64 (wrap64 (halfN a1 a3 + a2) - a3)) (halfN a1 a3) xs s else N.ml32 k a1 a2 a3 (halfN a1 a3) (wrap64 (halfN a1 a3 + a2)) a1 a2 xs s) else none
  ml32 : ∀ k x1 x2 x3 x18 x19 x20 x21 xs s, N.ml32 (k + 1) x1 x2 x3 x18 x19 x20 x21 xs s = N.ml33 k x1 x2 x3 x18 x19 x20 x21 (wrap64 (x19 - 1)) xs s
  ml33 : ∀ k x1 x2 x3 x18 x19 x20 x21 x22 xs s, N.ml33 (k + 1) x1 x2 x3 x18 x19 x20 x21 x22 xs s = if x20 < x21 then (if (0 : Int) ≤ 1 then (if 0 ≤ wrap64 (x22 - halfN x20 x21) then (if wrap64 (x22 - halfN x20 x21) < (xs.length : Int) then (if 0 ≤ halfN x20 x21 then (if halfN x20 x21 < (xs.length : Int) then ((N.cmp k (N.rd xs (wrap64 (x22 - halfN x20 x21))) (N.rd xs (halfN x20 x21)) s).bind fun r => if N.cf r < 0 then N.ml33 k x1 x2 x3 x18 x19 x20 (halfN x20 x21) x22 xs (N.cs r) else N.ml33 k x1 x2 x3 x18 x19 (wrap64 (halfN x20 x21 + 1)) x21 x22 xs (N.cs r)) else none) else none) else none) else none) else none)
    else if x20 < x2 then (if x2 < wrap64 (x19 - x20) then ((N.rl2 k x2 (wrap64 (x2 - x20)) (wrap64 (wrap64 (x19 - x20) - x2)) xs s).bind fun r => N.ml41 k x1 x3 x18 x20 (wrap64 (x19 - x20)) (N.fst r) (N.snd r)) else N.ml41 k x1 x3 x18 x20 (wrap64 (x19 - x20)) xs s) else N.ml41 k x1 x3 x18 x20 (wrap64 (x19 - x20)) xs s
  ml41 : ∀ k x1 x3 x18 x20 x24 xs s, N.ml41 (k + 1) x1 x3 x18 x20 x24 xs s = if x1 < x20 then (if x20 < x18 then ((N.mf k x1 x20 x18 xs s).bind fun r => if x18 < x24 then (if x24 < x3 then ((N.mf k x18 x24 x3 (N.fst r) (N.snd r)).bind fun u => some u) else some r) else some r) else if x18 < x24 then (if x24 < x3 then ((N.mf k x18 x24 x3 xs s).bind fun u => some u) else some (N.pk xs s)) else some (N.pk xs s))
    else if x18 < x24 then (if x24 < x3 then ((N.mf k x18 x24 x3 xs s).bind fun u => some u) else some (N.pk xs s)) else some (N.pk xs s)
  sl7 : ∀ k x1 x6 xs s, N.sl7 (k + 1) x1 x6 xs s = if x6 < x1 then N.sl9 k x1 x6 0 (wrap64 (2 * x6)) xs s else some (N.pk xs s)
  sl9 : ∀ k x1 x6 x7 x8 xs s, N.sl9 (k + 1) x1 x6 x7 x8 xs s = if x8 ≤ x1 then ((N.mf k x7 (wrap64 (x7 + x6)) x8 xs s).bind fun r => N.sl9 k x1 x6 x8 (wrap64 (x8 + wrap64 (2 * x6))) (N.fst r) (N.snd r)) else if wrap64 (x7 + x6) < x1 then ((N.mf k x7 (wrap64 (x7 + x6)) x1 xs s).bind fun r => N.sl7 k x1 (wrap64 (x6 * 2)) (N.fst r) (N.snd r)) else N.sl7 k x1 (wrap64 (x6 * 2)) xs s
  sl2 : ∀ k x1 x6 x7 x8 xs s, N.sl2 (k + 1) x1 x6 x7 x8 xs s = if x8 ≤ x1 then ((N.il1 k x7 x8 (wrap64 (x7 + 1)) xs s).bind fun r => N.sl2 k x1 x6 x8 (wrap64 (x8 + x6)) (N.fst r) (N.snd r)) else (N.il1 k x7 x1 (wrap64 (x7 + 1)) xs s).bind fun r => N.sl7 k x1 x6 (N.fst r) (N.snd r)
section
variable {α σ ρ χ : Type} {N : NSys α σ ρ χ} {s : σ}
attribute [local irreducible] wrap64
/-- What was captured stays. -/
structure Stays (N : NSys α σ ρ χ) (s : σ) (k : Nat) : Prop where
  il1 : ∀ x1 x2 x8 xs r, N.il1 k x1 x2 x8 xs s = some r → N.snd r = s
  il4 : ∀ x1 x2 x8 x9 xs r, N.il4 k x1 x2 x8 x9 xs s = some r → N.snd r = s
  wl1 : ∀ x1 x2 x3 x10 xs r, N.wl1 k x1 x2 x3 x10 xs s = some r → N.snd r = s
  rl2 : ∀ x2 x10 x11 xs r, N.rl2 k x2 x10 x11 xs s = some r → N.snd r = s
  ml9 : ∀ x10 x13 xs r, N.ml9 k x10 x13 xs s = some r → N.snd r = s
  ml3 : ∀ x1 x10 x11 xs r, N.ml3 k x1 x10 x11 xs s = some r → N.snd r = s
  ml21 : ∀ x14 x17 xs r, N.ml21 k x14 x17 xs s = some r → N.snd r = s
  ml15 : ∀ x2 x14 x15 xs r, N.ml15 k x2 x14 x15 xs s = some r → N.snd r = s
  mf : ∀ x1 x2 x3 xs r, N.mf k x1 x2 x3 xs s = some r → N.snd r = s
  ml32 : ∀ x1 x2 x3 x18 x19 x20 x21 xs r, N.ml32 k x1 x2 x3 x18 x19 x20 x21 xs s = some r → N.snd r = s
  ml33 : ∀ x1 x2 x3 x18 x19 x20 x21 x22 xs r, N.ml33 k x1 x2 x3 x18 x19 x20 x21 x22 xs s = some r → N.snd r = s
  ml41 : ∀ x1 x3 x18 x20 x24 xs r, N.ml41 k x1 x3 x18 x20 x24 xs s = some r → N.snd r = s
  sl7 : ∀ x1 x6 xs r, N.sl7 k x1 x6 xs s = some r → N.snd r = s
  sl9 : ∀ x1 x6 x7 x8 xs r, N.sl9 k x1 x6 x7 x8 xs s = some r → N.snd r = s
  sl2 : ∀ x1 x6 x7 x8 xs r, N.sl2 k x1 x6 x7 x8 xs s = some r → N.snd r = s
theorem some_ite {β : Type} {c : Prop} [Decidable c] {a b : Option β} {r : β} {Q : Prop} (h : (if c then a else b) = some r) (h1 : c → a = some r → Q) (h2 : ¬c → b = some r → Q) : Q := by
  by_cases hc : c
  · rw [if_pos hc] at h; exact h1 hc h
  · rw [if_neg hc] at h; exact h2 hc h
set_option maxHeartbeats 1000000 in
theorem stays (E : NEqs N) (hc : ∀ k a b r, N.cmp k a b s = some r → N.cs r = s) : ∀ k, Stays N s k
  | 0 => by
    constructor
    · intro y0 y1 y2 y3 r h; rw [E.i1z] at h; cases h
    · intro y0 y1 y2 y3 y4 r h; rw [E.i4z] at h; cases h
    · intro y0 y1 y2 y3 y4 r h; rw [E.w1z] at h; cases h
    · intro y0 y1 y2 y3 r h; rw [E.r2z] at h; cases h
    · intro y0 y1 y2 r h; rw [E.m9z] at h; cases h
    · intro y0 y1 y2 y3 r h; rw [E.m3z] at h; cases h
    · intro y0 y1 y2 r h; rw [E.m21z] at h; cases h
    · intro y0 y1 y2 y3 r h; rw [E.m15z] at h; cases h
    · intro y0 y1 y2 y3 r h; rw [E.mfz] at h; cases h
    · intro y0 y1 y2 y3 y4 y5 y6 y7 r h; rw [E.m32z] at h; cases h
    · intro y0 y1 y2 y3 y4 y5 y6 y7 y8 r h; rw [E.m33z] at h; cases h
    · intro y0 y1 y2 y3 y4 y5 r h; rw [E.m41z] at h; cases h
    · intro y0 y1 y2 r h; rw [E.s7z] at h; cases h
    · intro y0 y1 y2 y3 y4 r h; rw [E.s9z] at h; cases h
    · intro y0 y1 y2 y3 y4 r h; rw [E.s2z] at h; cases h
  | k + 1 => by
    obtain ⟨q1, q2, q3, q4, q5, q6, q7, q8, q9, q10, q11, q12, q13, q14, q15⟩ := stays E hc k
    have hn : ∀ {β : Type} {r : β} {Q : Prop}, (none : Option β) = some r → Q := fun h => by cases h
    have e2 := E.e2
    constructor
    · intro y0 y1 y2 y3 r h; rw [E.il1] at h; clear E
      repeat' first
        | split at h
        | with_reducible exact hn h
        | (first | with_reducible exact q1 _ _ _ _ _  h | with_reducible exact q2 _ _ _ _ _ _  h | with_reducible exact q3 _ _ _ _ _ _  h | with_reducible exact q4 _ _ _ _ _  h | with_reducible exact q5 _ _ _ _  h | with_reducible exact q6 _ _ _ _ _  h | with_reducible exact q7 _ _ _ _  h | with_reducible exact q8 _ _ _ _ _  h | with_reducible exact q9 _ _ _ _ _  h | with_reducible exact q10 _ _ _ _ _ _ _ _ _  h | with_reducible exact q11 _ _ _ _ _ _ _ _ _ _  h | with_reducible exact q12 _ _ _ _ _ _ _  h | with_reducible exact q13 _ _ _ _  h | with_reducible exact q14 _ _ _ _ _ _  h | with_reducible exact q15 _ _ _ _ _ _  h)
        | (injection h with h; subst h; with_reducible exact e2 _ _)
        | (obtain ⟨a, ha, h⟩ := Option.bind_eq_some_iff.1 h; first | rw [hc _ _ _ _ ha] at h | (rw [show N.snd a = s from (by first | with_reducible exact q1 _ _ _ _ _  ha | with_reducible exact q2 _ _ _ _ _ _  ha | with_reducible exact q3 _ _ _ _ _ _  ha | with_reducible exact q4 _ _ _ _ _  ha | with_reducible exact q5 _ _ _ _  ha | with_reducible exact q6 _ _ _ _ _  ha | with_reducible exact q7 _ _ _ _  ha | with_reducible exact q8 _ _ _ _ _  ha | with_reducible exact q9 _ _ _ _ _  ha | with_reducible exact q10 _ _ _ _ _ _ _ _ _  ha | with_reducible exact q11 _ _ _ _ _ _ _ _ _ _  ha | with_reducible exact q12 _ _ _ _ _ _ _  ha | with_reducible exact q13 _ _ _ _  ha | with_reducible exact q14 _ _ _ _ _ _  ha | with_reducible exact q15 _ _ _ _ _ _  ha)] at h) | (injection h with h; subst h; first | with_reducible exact q1 _ _ _ _ _  ha | with_reducible exact q2 _ _ _ _ _ _  ha | with_reducible exact q3 _ _ _ _ _ _  ha | with_reducible exact q4 _ _ _ _ _  ha | with_reducible exact q5 _ _ _ _  ha | with_reducible exact q6 _ _ _ _ _  ha | with_reducible exact q7 _ _ _ _  ha | with_reducible exact q8 _ _ _ _ _  ha | with_reducible exact q9 _ _ _ _ _  ha | with_reducible exact q10 _ _ _ _ _ _ _ _ _  ha | with_reducible exact q11 _ _ _ _ _ _ _ _ _ _  ha | with_reducible exact q12 _ _ _ _ _ _ _  ha | with_reducible exact q13 _ _ _ _  ha | with_reducible exact q14 _ _ _ _ _ _  ha | with_reducible exact q15 _ _ _ _ _ _  ha) | skip)
        | (injection h with h; subst h; first | with_reducible exact q1 _ _ _ _ _  ha | with_reducible exact q2 _ _ _ _ _ _  ha | with_reducible exact q3 _ _ _ _ _ _  ha | with_reducible exact q4 _ _ _ _ _  ha | with_reducible exact q5 _ _ _ _  ha | with_reducible exact q6 _ _ _ _ _  ha | with_reducible exact q7 _ _ _ _  ha | with_reducible exact q8 _ _ _ _ _  ha | with_reducible exact q9 _ _ _ _ _  ha | with_reducible exact q10 _ _ _ _ _ _ _ _ _  ha | with_reducible exact q11 _ _ _ _ _ _ _ _ _ _  ha | with_reducible exact q12 _ _ _ _ _ _ _  ha | with_reducible exact q13 _ _ _ _  ha | with_reducible exact q14 _ _ _ _ _ _  ha | with_reducible exact q15 _ _ _ _ _ _  ha)
    · intro y0 y1 y2 y3 y4 r h; rw [E.il4] at h; clear E
      by_cases c1 : y0 < y3
      · by_cases c2 : 0 ≤ y3
        · by_cases c3 : y3 < (y4.length : Int)
          · by_cases c4 : 0 ≤ wrap64 (y3 - 1)
            · by_cases c5 : wrap64 (y3 - 1) < (y4.length : Int)
              · simp only [c1, c2, c3, c4, c5, if_true, List.length_set] at h
                obtain ⟨a, ha, h⟩ := Option.bind_eq_some_iff.1 h
                rw [hc _ _ _ _ ha] at h
                split at h
                · exact q2 _ _ _ _ _ _ h
                · exact q1 _ _ _ _ _ h
              · simp only [c1, c2, c3, c4, c5, if_true, if_false] at h; cases h
            · simp only [c1, c2, c3, c4, if_true, if_false] at h; cases h
          · simp only [c1, c2, c3, if_true, if_false] at h; cases h
        · simp only [c1, c2, if_true, if_false] at h; cases h
      · simp only [c1, if_false] at h; exact q1 _ _ _ _ _ h
    · intro y0 y1 y2 y3 y4 r h; rw [E.wl1] at h; clear E
      repeat' first
        | split at h
        | with_reducible exact hn h
        | (first | with_reducible exact q1 _ _ _ _ _  h | with_reducible exact q2 _ _ _ _ _ _  h | with_reducible exact q3 _ _ _ _ _ _  h | with_reducible exact q4 _ _ _ _ _  h | with_reducible exact q5 _ _ _ _  h | with_reducible exact q6 _ _ _ _ _  h | with_reducible exact q7 _ _ _ _  h | with_reducible exact q8 _ _ _ _ _  h | with_reducible exact q9 _ _ _ _ _  h | with_reducible exact q10 _ _ _ _ _ _ _ _ _  h | with_reducible exact q11 _ _ _ _ _ _ _ _ _ _  h | with_reducible exact q12 _ _ _ _ _ _ _  h | with_reducible exact q13 _ _ _ _  h | with_reducible exact q14 _ _ _ _ _ _  h | with_reducible exact q15 _ _ _ _ _ _  h)
        | (injection h with h; subst h; with_reducible exact e2 _ _)
        | (obtain ⟨a, ha, h⟩ := Option.bind_eq_some_iff.1 h; first | rw [hc _ _ _ _ ha] at h | (rw [show N.snd a = s from (by first | with_reducible exact q1 _ _ _ _ _  ha | with_reducible exact q2 _ _ _ _ _ _  ha | with_reducible exact q3 _ _ _ _ _ _  ha | with_reducible exact q4 _ _ _ _ _  ha | with_reducible exact q5 _ _ _ _  ha | with_reducible exact q6 _ _ _ _ _  ha | with_reducible exact q7 _ _ _ _  ha | with_reducible exact q8 _ _ _ _ _  ha | with_reducible exact q9 _ _ _ _ _  ha | with_reducible exact q10 _ _ _ _ _ _ _ _ _  ha | with_reducible exact q11 _ _ _ _ _ _ _ _ _ _  ha | with_reducible exact q12 _ _ _ _ _ _ _  ha | with_reducible exact q13 _ _ _ _  ha | with_reducible exact q14 _ _ _ _ _ _  ha | with_reducible exact q15 _ _ _ _ _ _  ha)] at h) | (injection h with h; subst h; first | with_reducible exact q1 _ _ _ _ _  ha | with_reducible exact q2 _ _ _ _ _ _  ha | with_reducible exact q3 _ _ _ _ _ _  ha | with_reducible exact q4 _ _ _ _ _  ha | with_reducible exact q5 _ _ _ _  ha | with_reducible exact q6 _ _ _ _ _  ha | with_reducible exact q7 _ _ _ _  ha | with_reducible exact q8 _ _ _ _ _  ha | with_reducible exact q9 _ _ _ _ _  ha | with_reducible exact q10 _ _ _ _ _ _ _ _ _  ha | with_reducible exact q11 _ _ _ _ _ _ _ _ _ _  ha | with_reducible exact q12 _ _ _ _ _ _ _  ha | with_reducible exact q13 _ _ _ _  ha | with_reducible exact q14 _ _ _ _ _ _  ha | with_reducible exact q15 _ _ _ _ _ _  ha) | skip)
        | (injection h with h; subst h; first | with_reducible exact q1 _ _ _ _ _  ha | with_reducible exact q2 _ _ _ _ _ _  ha | with_reducible exact q3 _ _ _ _ _ _  ha | with_reducible exact q4 _ _ _ _ _  ha | with_reducible exact q5 _ _ _ _  ha | with_reducible exact q6 _ _ _ _ _  ha | with_reducible exact q7 _ _ _ _  ha | with_reducible exact q8 _ _ _ _ _  ha | with_reducible exact q9 _ _ _ _ _  ha | with_reducible exact q10 _ _ _ _ _ _ _ _ _  ha | with_reducible exact q11 _ _ _ _ _ _ _ _ _ _  ha | with_reducible exact q12 _ _ _ _ _ _ _  ha | with_reducible exact q13 _ _ _ _  ha | with_reducible exact q14 _ _ _ _ _ _  ha | with_reducible exact q15 _ _ _ _ _ _  ha)
    · intro y0 y1 y2 y3 r h; rw [E.rl2] at h; clear E
      repeat' first
        | split at h
        | with_reducible exact hn h
        | (first | with_reducible exact q1 _ _ _ _ _  h | with_reducible exact q2 _ _ _ _ _ _  h | with_reducible exact q3 _ _ _ _ _ _  h | with_reducible exact q4 _ _ _ _ _  h | with_reducible exact q5 _ _ _ _  h | with_reducible exact q6 _ _ _ _ _  h | with_reducible exact q7 _ _ _ _  h | with_reducible exact q8 _ _ _ _ _  h | with_reducible exact q9 _ _ _ _ _  h | with_reducible exact q10 _ _ _ _ _ _ _ _ _  h | with_reducible exact q11 _ _ _ _ _ _ _ _ _ _  h | with_reducible exact q12 _ _ _ _ _ _ _  h | with_reducible exact q13 _ _ _ _  h | with_reducible exact q14 _ _ _ _ _ _  h | with_reducible exact q15 _ _ _ _ _ _  h)
        | (injection h with h; subst h; with_reducible exact e2 _ _)
        | (obtain ⟨a, ha, h⟩ := Option.bind_eq_some_iff.1 h; first | rw [hc _ _ _ _ ha] at h | (rw [show N.snd a = s from (by first | with_reducible exact q1 _ _ _ _ _  ha | with_reducible exact q2 _ _ _ _ _ _  ha | with_reducible exact q3 _ _ _ _ _ _  ha | with_reducible exact q4 _ _ _ _ _  ha | with_reducible exact q5 _ _ _ _  ha | with_reducible exact q6 _ _ _ _ _  ha | with_reducible exact q7 _ _ _ _  ha | with_reducible exact q8 _ _ _ _ _  ha | with_reducible exact q9 _ _ _ _ _  ha | with_reducible exact q10 _ _ _ _ _ _ _ _ _  ha | with_reducible exact q11 _ _ _ _ _ _ _ _ _ _  ha | with_reducible exact q12 _ _ _ _ _ _ _  ha | with_reducible exact q13 _ _ _ _  ha | with_reducible exact q14 _ _ _ _ _ _  ha | with_reducible exact q15 _ _ _ _ _ _  ha)] at h) | (injection h with h; subst h; first | with_reducible exact q1 _ _ _ _ _  ha | with_reducible exact q2 _ _ _ _ _ _  ha | with_reducible exact q3 _ _ _ _ _ _  ha | with_reducible exact q4 _ _ _ _ _  ha | with_reducible exact q5 _ _ _ _  ha | with_reducible exact q6 _ _ _ _ _  ha | with_reducible exact q7 _ _ _ _  ha | with_reducible exact q8 _ _ _ _ _  ha | with_reducible exact q9 _ _ _ _ _  ha | with_reducible exact q10 _ _ _ _ _ _ _ _ _  ha | with_reducible exact q11 _ _ _ _ _ _ _ _ _ _  ha | with_reducible exact q12 _ _ _ _ _ _ _  ha | with_reducible exact q13 _ _ _ _  ha | with_reducible exact q14 _ _ _ _ _ _  ha | with_reducible exact q15 _ _ _ _ _ _  ha) | skip)
        | (injection h with h; subst h; first | with_reducible exact q1 _ _ _ _ _  ha | with_reducible exact q2 _ _ _ _ _ _  ha | with_reducible exact q3 _ _ _ _ _ _  ha | with_reducible exact q4 _ _ _ _ _  ha | with_reducible exact q5 _ _ _ _  ha | with_reducible exact q6 _ _ _ _ _  ha | with_reducible exact q7 _ _ _ _  ha | with_reducible exact q8 _ _ _ _ _  ha | with_reducible exact q9 _ _ _ _ _  ha | with_reducible exact q10 _ _ _ _ _ _ _ _ _  ha | with_reducible exact q11 _ _ _ _ _ _ _ _ _ _  ha | with_reducible exact q12 _ _ _ _ _ _ _  ha | with_reducible exact q13 _ _ _ _  ha | with_reducible exact q14 _ _ _ _ _ _  ha | with_reducible exact q15 _ _ _ _ _ _  ha)
    · intro y0 y1 y2 r h; rw [E.ml9] at h; clear E
      repeat' first
        | split at h
        | with_reducible exact hn h
        | (first | with_reducible exact q1 _ _ _ _ _  h | with_reducible exact q2 _ _ _ _ _ _  h | with_reducible exact q3 _ _ _ _ _ _  h | with_reducible exact q4 _ _ _ _ _  h | with_reducible exact q5 _ _ _ _  h | with_reducible exact q6 _ _ _ _ _  h | with_reducible exact q7 _ _ _ _  h | with_reducible exact q8 _ _ _ _ _  h | with_reducible exact q9 _ _ _ _ _  h | with_reducible exact q10 _ _ _ _ _ _ _ _ _  h | with_reducible exact q11 _ _ _ _ _ _ _ _ _ _  h | with_reducible exact q12 _ _ _ _ _ _ _  h | with_reducible exact q13 _ _ _ _  h | with_reducible exact q14 _ _ _ _ _ _  h | with_reducible exact q15 _ _ _ _ _ _  h)
        | (injection h with h; subst h; with_reducible exact e2 _ _)
        | (obtain ⟨a, ha, h⟩ := Option.bind_eq_some_iff.1 h; first | rw [hc _ _ _ _ ha] at h | (rw [show N.snd a = s from (by first | with_reducible exact q1 _ _ _ _ _  ha | with_reducible exact q2 _ _ _ _ _ _  ha | with_reducible exact q3 _ _ _ _ _ _  ha | with_reducible exact q4 _ _ _ _ _  ha | with_reducible exact q5 _ _ _ _  ha | with_reducible exact q6 _ _ _ _ _  ha | with_reducible exact q7 _ _ _ _  ha | with_reducible exact q8 _ _ _ _ _  ha | with_reducible exact q9 _ _ _ _ _  ha | with_reducible exact q10 _ _ _ _ _ _ _ _ _  ha | with_reducible exact q11 _ _ _ _ _ _ _ _ _ _  ha | with_reducible exact q12 _ _ _ _ _ _ _  ha | with_reducible exact q13 _ _ _ _  ha | with_reducible exact q14 _ _ _ _ _ _  ha | with_reducible exact q15 _ _ _ _ _ _  ha)] at h) | (injection h with h; subst h; first | with_reducible exact q1 _ _ _ _ _  ha | with_reducible exact q2 _ _ _ _ _ _  ha | with_reducible exact q3 _ _ _ _ _ _  ha | with_reducible exact q4 _ _ _ _ _  ha | with_reducible exact q5 _ _ _ _  ha | with_reducible exact q6 _ _ _ _ _  ha | with_reducible exact q7 _ _ _ _  ha | with_reducible exact q8 _ _ _ _ _  ha | with_reducible exact q9 _ _ _ _ _  ha | with_reducible exact q10 _ _ _ _ _ _ _ _ _  ha | with_reducible exact q11 _ _ _ _ _ _ _ _ _ _  ha | with_reducible exact q12 _ _ _ _ _ _ _  ha | with_reducible exact q13 _ _ _ _  ha | with_reducible exact q14 _ _ _ _ _ _  ha | with_reducible exact q15 _ _ _ _ _ _  ha) | skip)
        | (injection h with h; subst h; first | with_reducible exact q1 _ _ _ _ _  ha | with_reducible exact q2 _ _ _ _ _ _  ha | with_reducible exact q3 _ _ _ _ _ _  ha | with_reducible exact q4 _ _ _ _ _  ha | with_reducible exact q5 _ _ _ _  ha | with_reducible exact q6 _ _ _ _ _  ha | with_reducible exact q7 _ _ _ _  ha | with_reducible exact q8 _ _ _ _ _  ha | with_reducible exact q9 _ _ _ _ _  ha | with_reducible exact q10 _ _ _ _ _ _ _ _ _  ha | with_reducible exact q11 _ _ _ _ _ _ _ _ _ _  ha | with_reducible exact q12 _ _ _ _ _ _ _  ha | with_reducible exact q13 _ _ _ _  ha | with_reducible exact q14 _ _ _ _ _ _  ha | with_reducible exact q15 _ _ _ _ _ _  ha)
    · intro y0 y1 y2 y3 r h; rw [E.ml3] at h; clear E
      repeat' first
        | split at h
        | with_reducible exact hn h
        | (first | with_reducible exact q1 _ _ _ _ _  h | with_reducible exact q2 _ _ _ _ _ _  h | with_reducible exact q3 _ _ _ _ _ _  h | with_reducible exact q4 _ _ _ _ _  h | with_reducible exact q5 _ _ _ _  h | with_reducible exact q6 _ _ _ _ _  h | with_reducible exact q7 _ _ _ _  h | with_reducible exact q8 _ _ _ _ _  h | with_reducible exact q9 _ _ _ _ _  h | with_reducible exact q10 _ _ _ _ _ _ _ _ _  h | with_reducible exact q11 _ _ _ _ _ _ _ _ _ _  h | with_reducible exact q12 _ _ _ _ _ _ _  h | with_reducible exact q13 _ _ _ _  h | with_reducible exact q14 _ _ _ _ _ _  h | with_reducible exact q15 _ _ _ _ _ _  h)
        | (injection h with h; subst h; with_reducible exact e2 _ _)
        | (obtain ⟨a, ha, h⟩ := Option.bind_eq_some_iff.1 h; first | rw [hc _ _ _ _ ha] at h | (rw [show N.snd a = s from (by first | with_reducible exact q1 _ _ _ _ _  ha | with_reducible exact q2 _ _ _ _ _ _  ha | with_reducible exact q3 _ _ _ _ _ _  ha | with_reducible exact q4 _ _ _ _ _  ha | with_reducible exact q5 _ _ _ _  ha | with_reducible exact q6 _ _ _ _ _  ha | with_reducible exact q7 _ _ _ _  ha | with_reducible exact q8 _ _ _ _ _  ha | with_reducible exact q9 _ _ _ _ _  ha | with_reducible exact q10 _ _ _ _ _ _ _ _ _  ha | with_reducible exact q11 _ _ _ _ _ _ _ _ _ _  ha | with_reducible exact q12 _ _ _ _ _ _ _  ha | with_reducible exact q13 _ _ _ _  ha | with_reducible exact q14 _ _ _ _ _ _  ha | with_reducible exact q15 _ _ _ _ _ _  ha)] at h) | (injection h with h; subst h; first | with_reducible exact q1 _ _ _ _ _  ha | with_reducible exact q2 _ _ _ _ _ _  ha | with_reducible exact q3 _ _ _ _ _ _  ha | with_reducible exact q4 _ _ _ _ _  ha | with_reducible exact q5 _ _ _ _  ha | with_reducible exact q6 _ _ _ _ _  ha | with_reducible exact q7 _ _ _ _  ha | with_reducible exact q8 _ _ _ _ _  ha | with_reducible exact q9 _ _ _ _ _  ha | with_reducible exact q10 _ _ _ _ _ _ _ _ _  ha | with_reducible exact q11 _ _ _ _ _ _ _ _ _ _  ha | with_reducible exact q12 _ _ _ _ _ _ _  ha | with_reducible exact q13 _ _ _ _  ha | with_reducible exact q14 _ _ _ _ _ _  ha | with_reducible exact q15 _ _ _ _ _ _  ha) | skip)
        | (injection h with h; subst h; first | with_reducible exact q1 _ _ _ _ _  ha | with_reducible exact q2 _ _ _ _ _ _  ha | with_reducible exact q3 _ _ _ _ _ _  ha | with_reducible exact q4 _ _ _ _ _  ha | with_reducible exact q5 _ _ _ _  ha | with_reducible exact q6 _ _ _ _ _  ha | with_reducible exact q7 _ _ _ _  ha | with_reducible exact q8 _ _ _ _ _  ha | with_reducible exact q9 _ _ _ _ _  ha | with_reducible exact q10 _ _ _ _ _ _ _ _ _  ha | with_reducible exact q11 _ _ _ _ _ _ _ _ _ _  ha | with_reducible exact q12 _ _ _ _ _ _ _  ha | with_reducible exact q13 _ _ _ _  ha | with_reducible exact q14 _ _ _ _ _ _  ha | with_reducible exact q15 _ _ _ _ _ _  ha)
    · intro y0 y1 y2 r h; rw [E.ml21] at h; clear E
      repeat' first
        | split at h
        | with_reducible exact hn h
        | (first | with_reducible exact q1 _ _ _ _ _  h | with_reducible exact q2 _ _ _ _ _ _  h | with_reducible exact q3 _ _ _ _ _ _  h | with_reducible exact q4 _ _ _ _ _  h | with_reducible exact q5 _ _ _ _  h | with_reducible exact q6 _ _ _ _ _  h | with_reducible exact q7 _ _ _ _  h | with_reducible exact q8 _ _ _ _ _  h | with_reducible exact q9 _ _ _ _ _  h | with_reducible exact q10 _ _ _ _ _ _ _ _ _  h | with_reducible exact q11 _ _ _ _ _ _ _ _ _ _  h | with_reducible exact q12 _ _ _ _ _ _ _  h | with_reducible exact q13 _ _ _ _  h | with_reducible exact q14 _ _ _ _ _ _  h | with_reducible exact q15 _ _ _ _ _ _  h)
        | (injection h with h; subst h; with_reducible exact e2 _ _)
        | (obtain ⟨a, ha, h⟩ := Option.bind_eq_some_iff.1 h; first | rw [hc _ _ _ _ ha] at h | (rw [show N.snd a = s from (by first | with_reducible exact q1 _ _ _ _ _  ha | with_reducible exact q2 _ _ _ _ _ _  ha | with_reducible exact q3 _ _ _ _ _ _  ha | with_reducible exact q4 _ _ _ _ _  ha | with_reducible exact q5 _ _ _ _  ha | with_reducible exact q6 _ _ _ _ _  ha | with_reducible exact q7 _ _ _ _  ha | with_reducible exact q8 _ _ _ _ _  ha | with_reducible exact q9 _ _ _ _ _  ha | with_reducible exact q10 _ _ _ _ _ _ _ _ _  ha | with_reducible exact q11 _ _ _ _ _ _ _ _ _ _  ha | with_reducible exact q12 _ _ _ _ _ _ _  ha | with_reducible exact q13 _ _ _ _  ha | with_reducible exact q14 _ _ _ _ _ _  ha | with_reducible exact q15 _ _ _ _ _ _  ha)] at h) | (injection h with h; subst h; first | with_reducible exact q1 _ _ _ _ _  ha | with_reducible exact q2 _ _ _ _ _ _  ha | with_reducible exact q3 _ _ _ _ _ _  ha | with_reducible exact q4 _ _ _ _ _  ha | with_reducible exact q5 _ _ _ _  ha | with_reducible exact q6 _ _ _ _ _  ha | with_reducible exact q7 _ _ _ _  ha | with_reducible exact q8 _ _ _ _ _  ha | with_reducible exact q9 _ _ _ _ _  ha | with_reducible exact q10 _ _ _ _ _ _ _ _ _  ha | with_reducible exact q11 _ _ _ _ _ _ _ _ _ _  ha | with_reducible exact q12 _ _ _ _ _ _ _  ha | with_reducible exact q13 _ _ _ _  ha | with_reducible exact q14 _ _ _ _ _ _  ha | with_reducible exact q15 _ _ _ _ _ _  ha) | skip)
        | (injection h with h; subst h; first | with_reducible exact q1 _ _ _ _ _  ha | with_reducible exact q2 _ _ _ _ _ _  ha | with_reducible exact q3 _ _ _ _ _ _  ha | with_reducible exact q4 _ _ _ _ _  ha | with_reducible exact q5 _ _ _ _  ha | with_reducible exact q6 _ _ _ _ _  ha | with_reducible exact q7 _ _ _ _  ha | with_reducible exact q8 _ _ _ _ _  ha | with_reducible exact q9 _ _ _ _ _  ha | with_reducible exact q10 _ _ _ _ _ _ _ _ _  ha | with_reducible exact q11 _ _ _ _ _ _ _ _ _ _  ha | with_reducible exact q12 _ _ _ _ _ _ _  ha | with_reducible exact q13 _ _ _ _  ha | with_reducible exact q14 _ _ _ _ _ _  ha | with_reducible exact q15 _ _ _ _ _ _  ha)
    · intro y0 y1 y2 y3 r h; rw [E.ml15] at h; clear E
      repeat' first
        | split at h
        | with_reducible exact hn h
        | (first | with_reducible exact q1 _ _ _ _ _  h | with_reducible exact q2 _ _ _ _ _ _  h | with_reducible exact q3 _ _ _ _ _ _  h | with_reducible exact q4 _ _ _ _ _  h | with_reducible exact q5 _ _ _ _  h | with_reducible exact q6 _ _ _ _ _  h | with_reducible exact q7 _ _ _ _  h | with_reducible exact q8 _ _ _ _ _  h | with_reducible exact q9 _ _ _ _ _  h | with_reducible exact q10 _ _ _ _ _ _ _ _ _  h | with_reducible exact q11 _ _ _ _ _ _ _ _ _ _  h | with_reducible exact q12 _ _ _ _ _ _ _  h | with_reducible exact q13 _ _ _ _  h | with_reducible exact q14 _ _ _ _ _ _  h | with_reducible exact q15 _ _ _ _ _ _  h)
        | (injection h with h; subst h; with_reducible exact e2 _ _)
        | (obtain ⟨a, ha, h⟩ := Option.bind_eq_some_iff.1 h; first | rw [hc _ _ _ _ ha] at h | (rw [show N.snd a = s from (by first | with_reducible exact q1 _ _ _ _ _  ha | with_reducible exact q2 _ _ _ _ _ _  ha | with_reducible exact q3 _ _ _ _ _ _  ha | with_reducible exact q4 _ _ _ _ _  ha | with_reducible exact q5 _ _ _ _  ha | with_reducible exact q6 _ _ _ _ _  ha | with_reducible exact q7 _ _ _ _  ha | with_reducible exact q8 _ _ _ _ _  ha | with_reducible exact q9 _ _ _ _ _  ha | with_reducible exact q10 _ _ _ _ _ _ _ _ _  ha | with_reducible exact q11 _ _ _ _ _ _ _ _ _ _  ha | with_reducible exact q12 _ _ _ _ _ _ _  ha | with_reducible exact q13 _ _ _ _  ha | with_reducible exact q14 _ _ _ _ _ _  ha | with_reducible exact q15 _ _ _ _ _ _  ha)] at h) | (injection h with h; subst h; first | with_reducible exact q1 _ _ _ _ _  ha | with_reducible exact q2 _ _ _ _ _ _  ha | with_reducible exact q3 _ _ _ _ _ _  ha | with_reducible exact q4 _ _ _ _ _  ha | with_reducible exact q5 _ _ _ _  ha | with_reducible exact q6 _ _ _ _ _  ha | with_reducible exact q7 _ _ _ _  ha | with_reducible exact q8 _ _ _ _ _  ha | with_reducible exact q9 _ _ _ _ _  ha | with_reducible exact q10 _ _ _ _ _ _ _ _ _  ha | with_reducible exact q11 _ _ _ _ _ _ _ _ _ _  ha | with_reducible exact q12 _ _ _ _ _ _ _  ha | with_reducible exact q13 _ _ _ _  ha | with_reducible exact q14 _ _ _ _ _ _  ha | with_reducible exact q15 _ _ _ _ _ _  ha) | skip)
        | (injection h with h; subst h; first | with_reducible exact q1 _ _ _ _ _  ha | with_reducible exact q2 _ _ _ _ _ _  ha | with_reducible exact q3 _ _ _ _ _ _  ha | with_reducible exact q4 _ _ _ _ _  ha | with_reducible exact q5 _ _ _ _  ha | with_reducible exact q6 _ _ _ _ _  ha | with_reducible exact q7 _ _ _ _  ha | with_reducible exact q8 _ _ _ _ _  ha | with_reducible exact q9 _ _ _ _ _  ha | with_reducible exact q10 _ _ _ _ _ _ _ _ _  ha | with_reducible exact q11 _ _ _ _ _ _ _ _ _ _  ha | with_reducible exact q12 _ _ _ _ _ _ _  ha | with_reducible exact q13 _ _ _ _  ha | with_reducible exact q14 _ _ _ _ _ _  ha | with_reducible exact q15 _ _ _ _ _ _  ha)
    · intro y0 y1 y2 y3 r h; rw [E.mf] at h; clear E
      repeat' first
        | split at h
        | with_reducible exact hn h
        | (first | with_reducible exact q1 _ _ _ _ _  h | with_reducible exact q2 _ _ _ _ _ _  h | with_reducible exact q3 _ _ _ _ _ _  h | with_reducible exact q4 _ _ _ _ _  h | with_reducible exact q5 _ _ _ _  h | with_reducible exact q6 _ _ _ _ _  h | with_reducible exact q7 _ _ _ _  h | with_reducible exact q8 _ _ _ _ _  h | with_reducible exact q9 _ _ _ _ _  h | with_reducible exact q10 _ _ _ _ _ _ _ _ _  h | with_reducible exact q11 _ _ _ _ _ _ _ _ _ _  h | with_reducible exact q12 _ _ _ _ _ _ _  h | with_reducible exact q13 _ _ _ _  h | with_reducible exact q14 _ _ _ _ _ _  h | with_reducible exact q15 _ _ _ _ _ _  h)
        | (injection h with h; subst h; with_reducible exact e2 _ _)
        | (obtain ⟨a, ha, h⟩ := Option.bind_eq_some_iff.1 h; first | rw [hc _ _ _ _ ha] at h | (rw [show N.snd a = s from (by first | with_reducible exact q1 _ _ _ _ _  ha | with_reducible exact q2 _ _ _ _ _ _  ha | with_reducible exact q3 _ _ _ _ _ _  ha | with_reducible exact q4 _ _ _ _ _  ha | with_reducible exact q5 _ _ _ _  ha | with_reducible exact q6 _ _ _ _ _  ha | with_reducible exact q7 _ _ _ _  ha | with_reducible exact q8 _ _ _ _ _  ha | with_reducible exact q9 _ _ _ _ _  ha | with_reducible exact q10 _ _ _ _ _ _ _ _ _  ha | with_reducible exact q11 _ _ _ _ _ _ _ _ _ _  ha | with_reducible exact q12 _ _ _ _ _ _ _  ha | with_reducible exact q13 _ _ _ _  ha | with_reducible exact q14 _ _ _ _ _ _  ha | with_reducible exact q15 _ _ _ _ _ _  ha)] at h) | (injection h with h; subst h; first | with_reducible exact q1 _ _ _ _ _  ha | with_reducible exact q2 _ _ _ _ _ _  ha | with_reducible exact q3 _ _ _ _ _ _  ha | with_reducible exact q4 _ _ _ _ _  ha | with_reducible exact q5 _ _ _ _  ha | with_reducible exact q6 _ _ _ _ _  ha | with_reducible exact q7 _ _ _ _  ha | with_reducible exact q8 _ _ _ _ _  ha | with_reducible exact q9 _ _ _ _ _  ha | with_reducible exact q10 _ _ _ _ _ _ _ _ _  ha | with_reducible exact q11 _ _ _ _ _ _ _ _ _ _  ha | with_reducible exact q12 _ _ _ _ _ _ _  ha | with_reducible exact q13 _ _ _ _  ha | with_reducible exact q14 _ _ _ _ _ _  ha | with_reducible exact q15 _ _ _ _ _ _  ha) | skip)
        | (injection h with h; subst h; first | with_reducible exact q1 _ _ _ _ _  ha | with_reducible exact q2 _ _ _ _ _ _  ha | with_reducible exact q3 _ _ _ _ _ _  ha | with_reducible exact q4 _ _ _ _ _  ha | with_reducible exact q5 _ _ _ _  ha | with_reducible exact q6 _ _ _ _ _  ha | with_reducible exact q7 _ _ _ _  ha | with_reducible exact q8 _ _ _ _ _  ha | with_reducible exact q9 _ _ _ _ _  ha | with_reducible exact q10 _ _ _ _ _ _ _ _ _  ha | with_reducible exact q11 _ _ _ _ _ _ _ _ _ _  ha | with_reducible exact q12 _ _ _ _ _ _ _  ha | with_reducible exact q13 _ _ _ _  ha | with_reducible exact q14 _ _ _ _ _ _  ha | with_reducible exact q15 _ _ _ _ _ _  ha)
    · intro y0 y1 y2 y3 y4 y5 y6 y7 r h; rw [E.ml32] at h; clear E
      repeat' first
        | split at h
        | with_reducible exact hn h
        | (first | with_reducible exact q1 _ _ _ _ _  h | with_reducible exact q2 _ _ _ _ _ _  h | with_reducible exact q3 _ _ _ _ _ _  h | with_reducible exact q4 _ _ _ _ _  h | with_reducible exact q5 _ _ _ _  h | with_reducible exact q6 _ _ _ _ _  h | with_reducible exact q7 _ _ _ _  h | with_reducible exact q8 _ _ _ _ _  h | with_reducible exact q9 _ _ _ _ _  h | with_reducible exact q10 _ _ _ _ _ _ _ _ _  h | with_reducible exact q11 _ _ _ _ _ _ _ _ _ _  h | with_reducible exact q12 _ _ _ _ _ _ _  h | with_reducible exact q13 _ _ _ _  h | with_reducible exact q14 _ _ _ _ _ _  h | with_reducible exact q15 _ _ _ _ _ _  h)
        | (injection h with h; subst h; with_reducible exact e2 _ _)
        | (obtain ⟨a, ha, h⟩ := Option.bind_eq_some_iff.1 h; first | rw [hc _ _ _ _ ha] at h | (rw [show N.snd a = s from (by first | with_reducible exact q1 _ _ _ _ _  ha | with_reducible exact q2 _ _ _ _ _ _  ha | with_reducible exact q3 _ _ _ _ _ _  ha | with_reducible exact q4 _ _ _ _ _  ha | with_reducible exact q5 _ _ _ _  ha | with_reducible exact q6 _ _ _ _ _  ha | with_reducible exact q7 _ _ _ _  ha | with_reducible exact q8 _ _ _ _ _  ha | with_reducible exact q9 _ _ _ _ _  ha | with_reducible exact q10 _ _ _ _ _ _ _ _ _  ha | with_reducible exact q11 _ _ _ _ _ _ _ _ _ _  ha | with_reducible exact q12 _ _ _ _ _ _ _  ha | with_reducible exact q13 _ _ _ _  ha | with_reducible exact q14 _ _ _ _ _ _  ha | with_reducible exact q15 _ _ _ _ _ _  ha)] at h) | (injection h with h; subst h; first | with_reducible exact q1 _ _ _ _ _  ha | with_reducible exact q2 _ _ _ _ _ _  ha | with_reducible exact q3 _ _ _ _ _ _  ha | with_reducible exact q4 _ _ _ _ _  ha | with_reducible exact q5 _ _ _ _  ha | with_reducible exact q6 _ _ _ _ _  ha | with_reducible exact q7 _ _ _ _  ha | with_reducible exact q8 _ _ _ _ _  ha | with_reducible exact q9 _ _ _ _ _  ha | with_reducible exact q10 _ _ _ _ _ _ _ _ _  ha | with_reducible exact q11 _ _ _ _ _ _ _ _ _ _  ha | with_reducible exact q12 _ _ _ _ _ _ _  ha | with_reducible exact q13 _ _ _ _  ha | with_reducible exact q14 _ _ _ _ _ _  ha | with_reducible exact q15 _ _ _ _ _ _  ha) | skip)
        | (injection h with h; subst h; first | with_reducible exact q1 _ _ _ _ _  ha | with_reducible exact q2 _ _ _ _ _ _  ha | with_reducible exact q3 _ _ _ _ _ _  ha | with_reducible exact q4 _ _ _ _ _  ha | with_reducible exact q5 _ _ _ _  ha | with_reducible exact q6 _ _ _ _ _  ha | with_reducible exact q7 _ _ _ _  ha | with_reducible exact q8 _ _ _ _ _  ha | with_reducible exact q9 _ _ _ _ _  ha | with_reducible exact q10 _ _ _ _ _ _ _ _ _  ha | with_reducible exact q11 _ _ _ _ _ _ _ _ _ _  ha | with_reducible exact q12 _ _ _ _ _ _ _  ha | with_reducible exact q13 _ _ _ _  ha | with_reducible exact q14 _ _ _ _ _ _  ha | with_reducible exact q15 _ _ _ _ _ _  ha)
    · intro y0 y1 y2 y3 y4 y5 y6 y7 y8 r h; rw [E.ml33] at h; clear E
      repeat' first
        | split at h
        | with_reducible exact hn h
        | (first | with_reducible exact q1 _ _ _ _ _  h | with_reducible exact q2 _ _ _ _ _ _  h | with_reducible exact q3 _ _ _ _ _ _  h | with_reducible exact q4 _ _ _ _ _  h | with_reducible exact q5 _ _ _ _  h | with_reducible exact q6 _ _ _ _ _  h | with_reducible exact q7 _ _ _ _  h | with_reducible exact q8 _ _ _ _ _  h | with_reducible exact q9 _ _ _ _ _  h | with_reducible exact q10 _ _ _ _ _ _ _ _ _  h | with_reducible exact q11 _ _ _ _ _ _ _ _ _ _  h | with_reducible exact q12 _ _ _ _ _ _ _  h | with_reducible exact q13 _ _ _ _  h | with_reducible exact q14 _ _ _ _ _ _  h | with_reducible exact q15 _ _ _ _ _ _  h)
        | (injection h with h; subst h; with_reducible exact e2 _ _)
        | (obtain ⟨a, ha, h⟩ := Option.bind_eq_some_iff.1 h; first | rw [hc _ _ _ _ ha] at h | (rw [show N.snd a = s from (by first | with_reducible exact q1 _ _ _ _ _  ha | with_reducible exact q2 _ _ _ _ _ _  ha | with_reducible exact q3 _ _ _ _ _ _  ha | with_reducible exact q4 _ _ _ _ _  ha | with_reducible exact q5 _ _ _ _  ha | with_reducible exact q6 _ _ _ _ _  ha | with_reducible exact q7 _ _ _ _  ha | with_reducible exact q8 _ _ _ _ _  ha | with_reducible exact q9 _ _ _ _ _  ha | with_reducible exact q10 _ _ _ _ _ _ _ _ _  ha | with_reducible exact q11 _ _ _ _ _ _ _ _ _ _  ha | with_reducible exact q12 _ _ _ _ _ _ _  ha | with_reducible exact q13 _ _ _ _  ha | with_reducible exact q14 _ _ _ _ _ _  ha | with_reducible exact q15 _ _ _ _ _ _  ha)] at h) | (injection h with h; subst h; first | with_reducible exact q1 _ _ _ _ _  ha | with_reducible exact q2 _ _ _ _ _ _  ha | with_reducible exact q3 _ _ _ _ _ _  ha | with_reducible exact q4 _ _ _ _ _  ha | with_reducible exact q5 _ _ _ _  ha | with_reducible exact q6 _ _ _ _ _  ha | with_reducible exact q7 _ _ _ _  ha | with_reducible exact q8 _ _ _ _ _  ha | with_reducible exact q9 _ _ _ _ _  ha | with_reducible exact q10 _ _ _ _ _ _ _ _ _  ha | with_reducible exact q11 _ _ _ _ _ _ _ _ _ _  ha | with_reducible exact q12 _ _ _ _ _ _ _  ha | with_reducible exact q13 _ _ _ _  ha | with_reducible exact q14 _ _ _ _ _ _  ha | with_reducible exact q15 _ _ _ _ _ _  ha) | skip)
        | (injection h with h; subst h; first | with_reducible exact q1 _ _ _ _ _  ha | with_reducible exact q2 _ _ _ _ _ _  ha | with_reducible exact q3 _ _ _ _ _ _  ha | with_reducible exact q4 _ _ _ _ _  ha | with_reducible exact q5 _ _ _ _  ha | with_reducible exact q6 _ _ _ _ _  ha | with_reducible exact q7 _ _ _ _  ha | with_reducible exact q8 _ _ _ _ _  ha | with_reducible exact q9 _ _ _ _ _  ha | with_reducible exact q10 _ _ _ _ _ _ _ _ _  ha | with_reducible exact q11 _ _ _ _ _ _ _ _ _ _  ha | with_reducible exact q12 _ _ _ _ _ _ _  ha | with_reducible exact q13 _ _ _ _  ha | with_reducible exact q14 _ _ _ _ _ _  ha | with_reducible exact q15 _ _ _ _ _ _  ha)
    · intro y0 y1 y2 y3 y4 y5 r h; rw [E.ml41] at h; clear E
      repeat' first
        | split at h
        | with_reducible exact hn h
        | (first | with_reducible exact q1 _ _ _ _ _  h | with_reducible exact q2 _ _ _ _ _ _  h | with_reducible exact q3 _ _ _ _ _ _  h | with_reducible exact q4 _ _ _ _ _  h | with_reducible exact q5 _ _ _ _  h | with_reducible exact q6 _ _ _ _ _  h | with_reducible exact q7 _ _ _ _  h | with_reducible exact q8 _ _ _ _ _  h | with_reducible exact q9 _ _ _ _ _  h | with_reducible exact q10 _ _ _ _ _ _ _ _ _  h | with_reducible exact q11 _ _ _ _ _ _ _ _ _ _  h | with_reducible exact q12 _ _ _ _ _ _ _  h | with_reducible exact q13 _ _ _ _  h | with_reducible exact q14 _ _ _ _ _ _  h | with_reducible exact q15 _ _ _ _ _ _  h)
        | (injection h with h; subst h; with_reducible exact e2 _ _)
        | (obtain ⟨a, ha, h⟩ := Option.bind_eq_some_iff.1 h; first | rw [hc _ _ _ _ ha] at h | (rw [show N.snd a = s from (by first | with_reducible exact q1 _ _ _ _ _  ha | with_reducible exact q2 _ _ _ _ _ _  ha | with_reducible exact q3 _ _ _ _ _ _  ha | with_reducible exact q4 _ _ _ _ _  ha | with_reducible exact q5 _ _ _ _  ha | with_reducible exact q6 _ _ _ _ _  ha | with_reducible exact q7 _ _ _ _  ha | with_reducible exact q8 _ _ _ _ _  ha | with_reducible exact q9 _ _ _ _ _  ha | with_reducible exact q10 _ _ _ _ _ _ _ _ _  ha | with_reducible exact q11 _ _ _ _ _ _ _ _ _ _  ha | with_reducible exact q12 _ _ _ _ _ _ _  ha | with_reducible exact q13 _ _ _ _  ha | with_reducible exact q14 _ _ _ _ _ _  ha | with_reducible exact q15 _ _ _ _ _ _  ha)] at h) | (injection h with h; subst h; first | with_reducible exact q1 _ _ _ _ _  ha | with_reducible exact q2 _ _ _ _ _ _  ha | with_reducible exact q3 _ _ _ _ _ _  ha | with_reducible exact q4 _ _ _ _ _  ha | with_reducible exact q5 _ _ _ _  ha | with_reducible exact q6 _ _ _ _ _  ha | with_reducible exact q7 _ _ _ _  ha | with_reducible exact q8 _ _ _ _ _  ha | with_reducible exact q9 _ _ _ _ _  ha | with_reducible exact q10 _ _ _ _ _ _ _ _ _  ha | with_reducible exact q11 _ _ _ _ _ _ _ _ _ _  ha | with_reducible exact q12 _ _ _ _ _ _ _  ha | with_reducible exact q13 _ _ _ _  ha | with_reducible exact q14 _ _ _ _ _ _  ha | with_reducible exact q15 _ _ _ _ _ _  ha) | skip)
        | (injection h with h; subst h; first | with_reducible exact q1 _ _ _ _ _  ha | with_reducible exact q2 _ _ _ _ _ _  ha | with_reducible exact q3 _ _ _ _ _ _  ha | with_reducible exact q4 _ _ _ _ _  ha | with_reducible exact q5 _ _ _ _  ha | with_reducible exact q6 _ _ _ _ _  ha | with_reducible exact q7 _ _ _ _  ha | with_reducible exact q8 _ _ _ _ _  ha | with_reducible exact q9 _ _ _ _ _  ha | with_reducible exact q10 _ _ _ _ _ _ _ _ _  ha | with_reducible exact q11 _ _ _ _ _ _ _ _ _ _  ha | with_reducible exact q12 _ _ _ _ _ _ _  ha | with_reducible exact q13 _ _ _ _  ha | with_reducible exact q14 _ _ _ _ _ _  ha | with_reducible exact q15 _ _ _ _ _ _  ha)
    · intro y0 y1 y2 r h; rw [E.sl7] at h; clear E
      repeat' first
        | split at h
        | with_reducible exact hn h
        | (first | with_reducible exact q1 _ _ _ _ _  h | with_reducible exact q2 _ _ _ _ _ _  h | with_reducible exact q3 _ _ _ _ _ _  h | with_reducible exact q4 _ _ _ _ _  h | with_reducible exact q5 _ _ _ _  h | with_reducible exact q6 _ _ _ _ _  h | with_reducible exact q7 _ _ _ _  h | with_reducible exact q8 _ _ _ _ _  h | with_reducible exact q9 _ _ _ _ _  h | with_reducible exact q10 _ _ _ _ _ _ _ _ _  h | with_reducible exact q11 _ _ _ _ _ _ _ _ _ _  h | with_reducible exact q12 _ _ _ _ _ _ _  h | with_reducible exact q13 _ _ _ _  h | with_reducible exact q14 _ _ _ _ _ _  h | with_reducible exact q15 _ _ _ _ _ _  h)
        | (injection h with h; subst h; with_reducible exact e2 _ _)
        | (obtain ⟨a, ha, h⟩ := Option.bind_eq_some_iff.1 h; first | rw [hc _ _ _ _ ha] at h | (rw [show N.snd a = s from (by first | with_reducible exact q1 _ _ _ _ _  ha | with_reducible exact q2 _ _ _ _ _ _  ha | with_reducible exact q3 _ _ _ _ _ _  ha | with_reducible exact q4 _ _ _ _ _  ha | with_reducible exact q5 _ _ _ _  ha | with_reducible exact q6 _ _ _ _ _  ha | with_reducible exact q7 _ _ _ _  ha | with_reducible exact q8 _ _ _ _ _  ha | with_reducible exact q9 _ _ _ _ _  ha | with_reducible exact q10 _ _ _ _ _ _ _ _ _  ha | with_reducible exact q11 _ _ _ _ _ _ _ _ _ _  ha | with_reducible exact q12 _ _ _ _ _ _ _  ha | with_reducible exact q13 _ _ _ _  ha | with_reducible exact q14 _ _ _ _ _ _  ha | with_reducible exact q15 _ _ _ _ _ _  ha)] at h) | (injection h with h; subst h; first | with_reducible exact q1 _ _ _ _ _  ha | with_reducible exact q2 _ _ _ _ _ _  ha | with_reducible exact q3 _ _ _ _ _ _  ha | with_reducible exact q4 _ _ _ _ _  ha | with_reducible exact q5 _ _ _ _  ha | with_reducible exact q6 _ _ _ _ _  ha | with_reducible exact q7 _ _ _ _  ha | with_reducible exact q8 _ _ _ _ _  ha | with_reducible exact q9 _ _ _ _ _  ha | with_reducible exact q10 _ _ _ _ _ _ _ _ _  ha | with_reducible exact q11 _ _ _ _ _ _ _ _ _ _  ha | with_reducible exact q12 _ _ _ _ _ _ _  ha | with_reducible exact q13 _ _ _ _  ha | with_reducible exact q14 _ _ _ _ _ _  ha | with_reducible exact q15 _ _ _ _ _ _  ha) | skip)
        | (injection h with h; subst h; first | with_reducible exact q1 _ _ _ _ _  ha | with_reducible exact q2 _ _ _ _ _ _  ha | with_reducible exact q3 _ _ _ _ _ _  ha | with_reducible exact q4 _ _ _ _ _  ha | with_reducible exact q5 _ _ _ _  ha | with_reducible exact q6 _ _ _ _ _  ha | with_reducible exact q7 _ _ _ _  ha | with_reducible exact q8 _ _ _ _ _  ha | with_reducible exact q9 _ _ _ _ _  ha | with_reducible exact q10 _ _ _ _ _ _ _ _ _  ha | with_reducible exact q11 _ _ _ _ _ _ _ _ _ _  ha | with_reducible exact q12 _ _ _ _ _ _ _  ha | with_reducible exact q13 _ _ _ _  ha | with_reducible exact q14 _ _ _ _ _ _  ha | with_reducible exact q15 _ _ _ _ _ _  ha)
    · intro y0 y1 y2 y3 y4 r h; rw [E.sl9] at h; clear E
      repeat' first
        | split at h
        | with_reducible exact hn h
        | (first | with_reducible exact q1 _ _ _ _ _  h | with_reducible exact q2 _ _ _ _ _ _  h | with_reducible exact q3 _ _ _ _ _ _  h | with_reducible exact q4 _ _ _ _ _  h | with_reducible exact q5 _ _ _ _  h | with_reducible exact q6 _ _ _ _ _  h | with_reducible exact q7 _ _ _ _  h | with_reducible exact q8 _ _ _ _ _  h | with_reducible exact q9 _ _ _ _ _  h | with_reducible exact q10 _ _ _ _ _ _ _ _ _  h | with_reducible exact q11 _ _ _ _ _ _ _ _ _ _  h | with_reducible exact q12 _ _ _ _ _ _ _  h | with_reducible exact q13 _ _ _ _  h | with_reducible exact q14 _ _ _ _ _ _  h | with_reducible exact q15 _ _ _ _ _ _  h)
        | (injection h with h; subst h; with_reducible exact e2 _ _)
        | (obtain ⟨a, ha, h⟩ := Option.bind_eq_some_iff.1 h; first | rw [hc _ _ _ _ ha] at h | (rw [show N.snd a = s from (by first | with_reducible exact q1 _ _ _ _ _  ha | with_reducible exact q2 _ _ _ _ _ _  ha | with_reducible exact q3 _ _ _ _ _ _  ha | with_reducible exact q4 _ _ _ _ _  ha | with_reducible exact q5 _ _ _ _  ha | with_reducible exact q6 _ _ _ _ _  ha | with_reducible exact q7 _ _ _ _  ha | with_reducible exact q8 _ _ _ _ _  ha | with_reducible exact q9 _ _ _ _ _  ha | with_reducible exact q10 _ _ _ _ _ _ _ _ _  ha | with_reducible exact q11 _ _ _ _ _ _ _ _ _ _  ha | with_reducible exact q12 _ _ _ _ _ _ _  ha | with_reducible exact q13 _ _ _ _  ha | with_reducible exact q14 _ _ _ _ _ _  ha | with_reducible exact q15 _ _ _ _ _ _  ha)] at h) | (injection h with h; subst h; first | with_reducible exact q1 _ _ _ _ _  ha | with_reducible exact q2 _ _ _ _ _ _  ha | with_reducible exact q3 _ _ _ _ _ _  ha | with_reducible exact q4 _ _ _ _ _  ha | with_reducible exact q5 _ _ _ _  ha | with_reducible exact q6 _ _ _ _ _  ha | with_reducible exact q7 _ _ _ _  ha | with_reducible exact q8 _ _ _ _ _  ha | with_reducible exact q9 _ _ _ _ _  ha | with_reducible exact q10 _ _ _ _ _ _ _ _ _  ha | with_reducible exact q11 _ _ _ _ _ _ _ _ _ _  ha | with_reducible exact q12 _ _ _ _ _ _ _  ha | with_reducible exact q13 _ _ _ _  ha | with_reducible exact q14 _ _ _ _ _ _  ha | with_reducible exact q15 _ _ _ _ _ _  ha) | skip)
        | (injection h with h; subst h; first | with_reducible exact q1 _ _ _ _ _  ha | with_reducible exact q2 _ _ _ _ _ _  ha | with_reducible exact q3 _ _ _ _ _ _  ha | with_reducible exact q4 _ _ _ _ _  ha | with_reducible exact q5 _ _ _ _  ha | with_reducible exact q6 _ _ _ _ _  ha | with_reducible exact q7 _ _ _ _  ha | with_reducible exact q8 _ _ _ _ _  ha | with_reducible exact q9 _ _ _ _ _  ha | with_reducible exact q10 _ _ _ _ _ _ _ _ _  ha | with_reducible exact q11 _ _ _ _ _ _ _ _ _ _  ha | with_reducible exact q12 _ _ _ _ _ _ _  ha | with_reducible exact q13 _ _ _ _  ha | with_reducible exact q14 _ _ _ _ _ _  ha | with_reducible exact q15 _ _ _ _ _ _  ha)
    · intro y0 y1 y2 y3 y4 r h; rw [E.sl2] at h; clear E
      repeat' first
        | split at h
        | with_reducible exact hn h
        | (first | with_reducible exact q1 _ _ _ _ _  h | with_reducible exact q2 _ _ _ _ _ _  h | with_reducible exact q3 _ _ _ _ _ _  h | with_reducible exact q4 _ _ _ _ _  h | with_reducible exact q5 _ _ _ _  h | with_reducible exact q6 _ _ _ _ _  h | with_reducible exact q7 _ _ _ _  h | with_reducible exact q8 _ _ _ _ _  h | with_reducible exact q9 _ _ _ _ _  h | with_reducible exact q10 _ _ _ _ _ _ _ _ _  h | with_reducible exact q11 _ _ _ _ _ _ _ _ _ _  h | with_reducible exact q12 _ _ _ _ _ _ _  h | with_reducible exact q13 _ _ _ _  h | with_reducible exact q14 _ _ _ _ _ _  h | with_reducible exact q15 _ _ _ _ _ _  h)
        | (injection h with h; subst h; with_reducible exact e2 _ _)
        | (obtain ⟨a, ha, h⟩ := Option.bind_eq_some_iff.1 h; first | rw [hc _ _ _ _ ha] at h | (rw [show N.snd a = s from (by first | with_reducible exact q1 _ _ _ _ _  ha | with_reducible exact q2 _ _ _ _ _ _  ha | with_reducible exact q3 _ _ _ _ _ _  ha | with_reducible exact q4 _ _ _ _ _  ha | with_reducible exact q5 _ _ _ _  ha | with_reducible exact q6 _ _ _ _ _  ha | with_reducible exact q7 _ _ _ _  ha | with_reducible exact q8 _ _ _ _ _  ha | with_reducible exact q9 _ _ _ _ _  ha | with_reducible exact q10 _ _ _ _ _ _ _ _ _  ha | with_reducible exact q11 _ _ _ _ _ _ _ _ _ _  ha | with_reducible exact q12 _ _ _ _ _ _ _  ha | with_reducible exact q13 _ _ _ _  ha | with_reducible exact q14 _ _ _ _ _ _  ha | with_reducible exact q15 _ _ _ _ _ _  ha)] at h) | (injection h with h; subst h; first | with_reducible exact q1 _ _ _ _ _  ha | with_reducible exact q2 _ _ _ _ _ _  ha | with_reducible exact q3 _ _ _ _ _ _  ha | with_reducible exact q4 _ _ _ _ _  ha | with_reducible exact q5 _ _ _ _  ha | with_reducible exact q6 _ _ _ _ _  ha | with_reducible exact q7 _ _ _ _  ha | with_reducible exact q8 _ _ _ _ _  ha | with_reducible exact q9 _ _ _ _ _  ha | with_reducible exact q10 _ _ _ _ _ _ _ _ _  ha | with_reducible exact q11 _ _ _ _ _ _ _ _ _ _  ha | with_reducible exact q12 _ _ _ _ _ _ _  ha | with_reducible exact q13 _ _ _ _  ha | with_reducible exact q14 _ _ _ _ _ _  ha | with_reducible exact q15 _ _ _ _ _ _  ha) | skip)
        | (injection h with h; subst h; first | with_reducible exact q1 _ _ _ _ _  ha | with_reducible exact q2 _ _ _ _ _ _  ha | with_reducible exact q3 _ _ _ _ _ _  ha | with_reducible exact q4 _ _ _ _ _  ha | with_reducible exact q5 _ _ _ _  ha | with_reducible exact q6 _ _ _ _ _  ha | with_reducible exact q7 _ _ _ _  ha | with_reducible exact q8 _ _ _ _ _  ha | with_reducible exact q9 _ _ _ _ _  ha | with_reducible exact q10 _ _ _ _ _ _ _ _ _  ha | with_reducible exact q11 _ _ _ _ _ _ _ _ _ _  ha | with_reducible exact q12 _ _ _ _ _ _ _  ha | with_reducible exact q13 _ _ _ _  ha | with_reducible exact q14 _ _ _ _ _ _  ha | with_reducible exact q15 _ _ _ _ _ _  ha)
/-- The plain functions. -/
def NSys.at (N : NSys α σ ρ χ) (s : σ) : Sys α where
  z := N.z
  cmp := fun k a b => (N.cmp k a b s).map N.cf
  i0 := fun k xs x1 x2 x8 => (N.il1 k x1 x2 x8 xs s).map N.fst
  i1 := fun k xs x1 x2 x8 x9 => (N.il4 k x1 x2 x8 x9 xs s).map N.fst
  w0 := fun k xs x1 x2 x3 x10 => (N.wl1 k x1 x2 x3 x10 xs s).map N.fst
  r0 := fun k xs x2 x10 x11 => (N.rl2 k x2 x10 x11 xs s).map N.fst
  m0 := fun k xs x1 x10 x11 => (N.ml3 k x1 x10 x11 xs s).map N.fst
  m1 := fun k xs x10 x13 => (N.ml9 k x10 x13 xs s).map N.fst
  m2 := fun k xs x2 x14 x15 => (N.ml15 k x2 x14 x15 xs s).map N.fst
  m3 := fun k xs x14 x17 => (N.ml21 k x14 x17 xs s).map N.fst
  j4 := fun k xs x1 x2 x3 x18 x19 x20 x21 => (N.ml32 k x1 x2 x3 x18 x19 x20 x21 xs s).map N.fst
  l4 := fun k xs x1 x2 x3 x18 x19 x20 x21 x22 => (N.ml33 k x1 x2 x3 x18 x19 x20 x21 x22 xs s).map N.fst
  j7 := fun k xs x1 x3 x18 x20 x24 => (N.ml41 k x1 x3 x18 x20 x24 xs s).map N.fst
  mf := fun k xs a1 a2 a3 => (N.mf k a1 a2 a3 xs s).map N.fst
  s0 := fun k xs x1 x6 x7 x8 => (N.sl2 k x1 x6 x7 x8 xs s).map N.fst
  s1 := fun k xs x1 x6 => (N.sl7 k x1 x6 xs s).map N.fst
  s2 := fun k xs x1 x6 x7 x8 => (N.sl9 k x1 x6 x7 x8 xs s).map N.fst
theorem map_ite' {β γ : Type} {c : Prop} [Decidable c] {a b : Option β} {f : β → γ} : (if c then a else b).map f = if c then a.map f else b.map f := by
  split <;> rfl
/-- A call, then what follows. -/
theorem map_bind_st {β γ δ : Type} {x : Option β} {g : β → Option γ} {f : γ → δ} {p : β → δ} {q : β → σ} {g' : δ → Option δ} (hq : ∀ r, x = some r → q r = s) (hg : ∀ r, q r = s → (g r).map f = g' (p r)) : (x.bind g).map f = (x.map p).bind g' := by
  cases hx : x with
  | none => rfl
  | some r => simp only [Option.bind_some, Option.map_some]; exact hg r (hq r hx)
theorem map_bind_c {β γ δ : Type} {x : Option β} {g : β → Option γ} {f : γ → δ} {p : β → Int} {q : β → σ} {g' : Int → Option δ} (hq : ∀ r, x = some r → q r = s) (hg : ∀ r, q r = s → (g r).map f = g' (p r)) : (x.bind g).map f = (x.map p).bind g' := by
  cases hx : x with
  | none => rfl
  | some r => simp only [Option.bind_some, Option.map_some]; exact hg r (hq r hx)
theorem ite_both {β : Type} {c : Prop} [Decidable c] {a a' b b' : β} (h1 : c → a = a') (h2 : ¬c → b = b') : (if c then a else b) = if c then a' else b' := by
  split
  · exact h1 ‹_›
  · exact h2 ‹_›
theorem ite_again {β : Type} {c d : Prop} [Decidable c] [Decidable d] {a a' b b' : β} (hc : c) (h1 : a = a') : (if c then a else b) = a' := by
  rw [if_pos hc]; exact h1
end
end Go.Proofs.YtamgbcgfjhpedaaDoor.Srt
