import Derived.Test.YtodagcbcdkfniaaVpC1
namespace Go.Proofs.Ytodagcbcdkfniaa.VE
open Go Go.RowKit
set_option linter.unusedVariables false
attribute [local irreducible] wrap64
/-! ### commitments: columns of powers, joint runs (no statement is proved here) -/
/-- Permitted powers of a period. -/
def ColOk : List Un → List Bool → List Int → Prop
  | [], [], [] => True
  | u :: l, b :: on, x :: xs => (if b = true then u.1.2.1 ≤ x ∧ x ≤ u.1.2.2.1 else x = -1) ∧ ColOk l on xs
  | _, _, _ => False
def colSum : List Int → Int
  | [] => 0
  | x :: xs => mx x 0 + colSum xs
def colCost : List Un → List Int → Int
  | u :: l, x :: xs => vAt u.2.1.2 (mx x 0) + colCost l xs
  | _, _ => 0
structure ServeP (l : List Un) (on : List Bool) (d : Int) (r : List Int × Int × Bool) : Prop where
  fit : r.2.2 = true → ColOk l on r.1 ∧ colSum r.1 = d ∧ r.2.1 = colCost l r.1
  best : ∀ xs, ColOk l on xs → colSum xs = d → r.2.2 = true ∧ r.2.1 ≤ colCost l xs
  bad : r.2.2 = false → r.1 = [] ∧ r.2.1 = 0
def rests : List Un → List Bool → List (List Pc)
  | u :: l, b :: on => (if b = true then restP u.1.2.1 u.2.1.2 else []) :: rests l on
  | _, _ => []
def leastSum : List Un → List Bool → Int
  | u :: l, b :: on => (if b = true then u.1.2.1 else 0) + leastSum l on
  | _, _ => 0
def leastCost : List Un → List Bool → Int
  | u :: l, b :: on => (if b = true then vAt u.2.1.2 u.1.2.1 else 0) + leastCost l on
  | _, _ => 0
/-- The powers above the least ones. -/
def offs : List Un → List Bool → List Int → List Int
  | u :: l, b :: on, x :: xs => (if b = true then x - u.1.2.1 else 0) :: offs l on xs
  | _, _, _ => []
def backs : List Un → List Bool → List Int → List Int
  | u :: l, b :: on, y :: ys => (if b = true then u.1.2.1 + y else -1) :: backs l on ys
  | _, _, _ => []
def UnitsOk (l : List Un) : Prop := ∀ u ∈ l, UnitOk u
theorem UnitsOk.tail {u : Un} {l : List Un} (h : UnitsOk (u :: l)) : UnitsOk l := fun v hv => h v (by simp [hv])
theorem mx_nn {a : Int} (h : 0 ≤ a) : mx a 0 = a := by unfold mx; split <;> omega
theorem mx_off : mx (-1) 0 = 0 := rfl
theorem rests_ok : ∀ (l : List Un) (on : List Bool), UnitsOk l → ∀ ps ∈ rests l on, Nn ps ∧ Sorted ps
  | [], _, _, ps, h => by cases h
  | _ :: _, [], _, ps, h => by cases h
  | u :: l, b :: on, hU, ps, h => by
    rcases List.mem_cons.1 h with rfl | h
    · split
      · exact ⟨restP_nn _ _, restP_sorted _ _ (hU u (by simp)).oo.srt⟩
      · exact ⟨(fun p hp => by cases hp), List.Pairwise.nil⟩
    · exact rests_ok l on hU.tail ps h
theorem col_offs : ∀ (l : List Un) (on : List Bool) (xs : List Int), UnitsOk l → ColOk l on xs → FitR (rests l on) (offs l on xs) ∧ colSum xs = leastSum l on + (offs l on xs).sum ∧ colCost l xs = leastCost l on + costR (rests l on) (offs l on xs)
  | [], [], [], _, _ => ⟨trivial, rfl, rfl⟩
  | u :: l, b :: on, x :: xs, hU, h => by
    obtain ⟨i1, i2, i3⟩ := col_offs l on xs hU.tail h.2
    have hu := hU u (by simp)
    have hb := h.1
    have l0 := hu.rule.le0; have l1 := hu.rule.le1; have hm := hu.most
    cases b with
    | true =>
      rw [if_pos rfl] at hb
      have ht := restP_total u.2.1.2 u.1.2.1 hu.oo.nn l0 (by omega)
      have hc := restP_cost u.2.1.2 u.1.2.1 (x - u.1.2.1) hu.oo.nn l0 (by omega)
      rw [show u.1.2.1 + (x - u.1.2.1) = x by omega] at hc
      refine ⟨⟨?_, i1⟩, ?_, ?_⟩
      · show 0 ≤ x - u.1.2.1 ∧ x - u.1.2.1 ≤ total (restP u.1.2.1 u.2.1.2)
        omega
      · show mx x 0 + colSum xs = u.1.2.1 + leastSum l on + ((x - u.1.2.1) :: offs l on xs).sum
        rw [List.sum_cons, i2, mx_nn (by omega)]; omega
      · show vAt u.2.1.2 (mx x 0) + colCost l xs = vAt u.2.1.2 u.1.2.1 + leastCost l on + (vAt (restP u.1.2.1 u.2.1.2) (x - u.1.2.1) + costR (rests l on) (offs l on xs))
        rw [i3, mx_nn (by omega), hc]; omega
    | false =>
      rw [if_neg (by simp)] at hb
      subst hb
      refine ⟨⟨⟨Int.le_refl _, Int.le_refl _⟩, i1⟩, ?_, ?_⟩
      · show mx (-1) 0 + colSum xs = 0 + leastSum l on + (0 :: offs l on xs).sum
        rw [List.sum_cons, i2, mx_off]; omega
      · show vAt u.2.1.2 (mx (-1) 0) + colCost l xs = 0 + leastCost l on + (vAt [] 0 + costR (rests l on) (offs l on xs))
        rw [i3, mx_off, vAt_none _ hu.oo.nn]
        show _ = _ + ((0 : Int) + _)
        omega
  | [], [], _ :: _, _, h => h.elim
  | [], _ :: _, _, _, h => h.elim
  | _ :: _, [], _, _, h => h.elim
  | _ :: _, _ :: _, [], _, h => h.elim
theorem col_backs : ∀ (l : List Un) (on : List Bool) (ys : List Int), UnitsOk l → on.length = l.length → FitR (rests l on) ys → ColOk l on (backs l on ys) ∧ colSum (backs l on ys) = leastSum l on + ys.sum ∧ colCost l (backs l on ys) = leastCost l on + costR (rests l on) ys
  | [], [], [], _, _, _ => ⟨trivial, rfl, rfl⟩
  | u :: l, b :: on, y :: ys, hU, hl, h => by
    obtain ⟨i1, i2, i3⟩ := col_backs l on ys hU.tail (by simpa using hl) h.2
    have hu := hU u (by simp)
    have hb := h.1
    have l0 := hu.rule.le0; have l1 := hu.rule.le1; have hm := hu.most
    cases b with
    | true =>
      rw [if_pos rfl] at hb
      have ht := restP_total u.2.1.2 u.1.2.1 hu.oo.nn l0 (by omega)
      have hc := restP_cost u.2.1.2 u.1.2.1 y hu.oo.nn l0 (by omega)
      refine ⟨⟨?_, i1⟩, ?_, ?_⟩
      · show u.1.2.1 ≤ u.1.2.1 + y ∧ u.1.2.1 + y ≤ u.1.2.2.1
        omega
      · show mx (u.1.2.1 + y) 0 + colSum (backs l on ys) = u.1.2.1 + leastSum l on + (y :: ys).sum
        rw [List.sum_cons, i2, mx_nn (by omega)]; omega
      · show vAt u.2.1.2 (mx (u.1.2.1 + y) 0) + colCost l (backs l on ys) = vAt u.2.1.2 u.1.2.1 + leastCost l on + (vAt (restP u.1.2.1 u.2.1.2) y + costR (rests l on) ys)
        rw [i3, mx_nn (by omega), hc]; omega
    | false =>
      rw [if_neg (by simp), total_nil] at hb
      obtain rfl : y = 0 := by omega
      refine ⟨⟨rfl, i1⟩, ?_, ?_⟩
      · show mx (-1) 0 + colSum (backs l on ys) = 0 + leastSum l on + (0 :: ys).sum
        rw [List.sum_cons, i2, mx_off]; omega
      · show vAt u.2.1.2 (mx (-1) 0) + colCost l (backs l on ys) = 0 + leastCost l on + (vAt [] 0 + costR (rests l on) ys)
        rw [i3, mx_off, vAt_none _ hu.oo.nn]
        show _ = _ + ((0 : Int) + _)
        omega
  | [], _ :: _, _, _, hl, _ => by simp at hl
  | _ :: _, [], _, _, hl, _ => by simp at hl
  | [], [], _ :: _, _, _, h => h.elim
  | _ :: _, _ :: _, [], _, _, h => h.elim
theorem serve_good {l : List Un} {on : List Bool} (hU : UnitsOk l) (hl : on.length = l.length) {d : Int} {ys : List Int} (hg : GreedyP (rests l on) (d - leastSum l on) ys) {c : Int} (hc : c = colCost l (backs l on ys)) : ServeP l on d (backs l on ys, c, true) := by
  obtain ⟨b1, b2, b3⟩ := col_backs l on ys hU hl hg.fit
  refine ⟨fun _ => ⟨b1, by show colSum (backs l on ys) = d; rw [b2, hg.sum]; omega, hc⟩, fun xs hx hs => ⟨rfl, ?_⟩, fun h => by cases h⟩
  obtain ⟨o1, o2, o3⟩ := col_offs l on xs hU hx
  have := hg.best _ o1 (by omega)
  show c ≤ _
  rw [hc, b3, o3]; omega
theorem serve_none {l : List Un} {on : List Bool} (hU : UnitsOk l) {d : Int} (h : d < leastSum l on ∨ leastSum l on + total (rests l on).flatten < d) : ServeP l on d ([], 0, false) := by
  refine ⟨(fun h => by cases h), fun xs hx hs => ?_, fun _ => ⟨rfl, rfl⟩⟩
  obtain ⟨o1, o2, o3⟩ := col_offs l on xs hU hx
  have := fitR_sum _ _ o1
  omega
/-! joint runs -/
def nextL : List Un → List Us → List Int → Option (List Us × Int)
  | [], [], [] => some ([], 0)
  | u :: l, s :: ss, x :: xs => if (nextU u.1 s x).2.2 = 0 then (nextL l ss xs).map fun q => ((nextU u.1 s x).1 :: q.1, (nextU u.1 s x).2.1 + q.2) else none
  | _, _, _ => none
def RunsL : List Un → List (List Int) → List Us → Int → Prop
  | [], [], [], c => c = 0
  | u :: l, p :: s, q :: f, c => ∃ c1 c2, runF u.1 u.2.2 p = some (q, c1) ∧ RunsL l s f c2 ∧ c = c1 + c2
  | _, _, _, _ => False
def snocs : List (List Int) → List Int → List (List Int)
  | p :: s, x :: xs => (p ++ [x]) :: snocs s xs
  | _, _ => []
def SamesL : List Un → List Us → List Us → Prop
  | [], [], [] => True
  | u :: l, a :: as, b :: bs => SameS u.1 a b ∧ SamesL l as bs
  | _, _, _ => False
def StatesOk : List Un → List Us → Prop
  | [], [] => True
  | u :: l, a :: as => StateOk u.1 a ∧ StatesOk l as
  | _, _ => False
def PatL : List Un → List Int → List Int → Prop
  | [], [], [] => True
  | u :: l, x :: xs, y :: ys => (if x = -1 then y = -1 else u.1.2.1 ≤ y ∧ y ≤ u.1.2.2.1) ∧ PatL l xs ys
  | _, _, _ => False
theorem SameS.symm {r : Rl} {a b : Us} (h : SameS r a b) : SameS r b a := ⟨h.1.symm, h.2.symm⟩
theorem SamesL.trans : ∀ {l : List Un} {a b c : List Us}, SamesL l a b → SamesL l b c → SamesL l a c
  | [], [], [], [], _, _ => trivial
  | _ :: _, _ :: _, _ :: _, _ :: _, h, k => ⟨h.1.trans k.1, h.2.trans k.2⟩
theorem SamesL.symm : ∀ {l : List Un} {a b : List Us}, SamesL l a b → SamesL l b a
  | [], [], [], _ => trivial
  | _ :: _, _ :: _, _ :: _, h => ⟨h.1.symm, h.2.symm⟩
theorem StatesOk.len : ∀ {l : List Un} {a : List Us}, StatesOk l a → a.length = l.length
  | [], [], _ => rfl
  | _ :: _, _ :: _, h => by simp [h.2.len]
theorem nextL_ok : ∀ (l : List Un) (a : List Us) (xs : List Int) (a2 : List Us) (c : Int), UnitsOk l → StatesOk l a → nextL l a xs = some (a2, c) → StatesOk l a2 ∧ 0 ≤ c ∧ c ≤ 1000000 * l.length
  | [], [], [], a2, c, _, _, h => by
    simp only [nextL, Option.some.injEq, Prod.mk.injEq] at h
    obtain ⟨rfl, rfl⟩ := h
    exact ⟨trivial, by simp, by simp⟩
  | u :: l, s :: ss, x :: xs, a2, c, hU, hs, h => by
    unfold nextL at h
    split at h
    · rename_i e
      cases hq : nextL l ss xs with
      | none => rw [hq] at h; cases h
      | some q =>
        obtain ⟨q1, q2⟩ := q
        rw [hq] at h
        simp only [Option.map_some, Option.some.injEq, Prod.mk.injEq] at h
        obtain ⟨rfl, rfl⟩ := h
        obtain ⟨i1, i2, i3⟩ := nextL_ok l ss xs q1 q2 hU.tail hs.2 hq
        have := next_ok (hU u (by simp)).rule hs.1 e
        exact ⟨⟨this.1, i1⟩, by omega, by rw [List.length_cons]; omega⟩
    · cases h
  | [], [], _ :: _, _, _, _, _, h => by cases h
  | [], _ :: _, _, _, _, _, h, _ => h.elim
  | _ :: _, [], _, _, _, _, h, _ => h.elim
  | _ :: _, _ :: _, [], _, _, _, _, h => by cases h
/-- What is permitted jointly is permitted in like states, with the same cost. -/
theorem next_simL : ∀ (l : List Un) (a b : List Us) (xs ys : List Int) (a2 : List Us) (c : Int), UnitsOk l → StatesOk l a → StatesOk l b → SamesL l b a → PatL l xs ys → nextL l a xs = some (a2, c) → ∃ b2, nextL l b ys = some (b2, c) ∧ SamesL l b2 a2
  | [], [], [], [], [], a2, c, _, _, _, _, _, h => by
    simp only [nextL, Option.some.injEq, Prod.mk.injEq] at h
    obtain ⟨rfl, rfl⟩ := h
    exact ⟨[], rfl, trivial⟩
  | u :: l, s :: ss, t :: ts, x :: xs, y :: ys, a2, c, hU, hs, ht, hsm, hp, h => by
    unfold nextL at h
    split at h
    · rename_i e
      cases hq : nextL l ss xs with
      | none => rw [hq] at h; cases h
      | some q =>
        obtain ⟨q1, q2⟩ := q
        rw [hq] at h
        simp only [Option.map_some, Option.some.injEq, Prod.mk.injEq] at h
        obtain ⟨rfl, rfl⟩ := h
        obtain ⟨b2, i1, i2⟩ := next_simL l ss ts xs ys q1 q2 hU.tail hs.2 ht.2 hsm.2 hp.2 hq
        have hu := hU u (by simp)
        have l1 := hu.rule.le1
        have hpp := hp.1
        have key : (if x = -1 then (-1 : Int) else (if x = -1 then u.1.2.1 else y)) = y := by
          split at hpp
          · rename_i hx
            rw [if_pos hx]; exact hpp.symm
          · rename_i hx
            rw [if_neg hx, if_neg hx]
        have k := next_sim hu hs.1 ht.1 hsm.1 (p := x) (n := if x = -1 then u.1.2.1 else y) (by
          split at hpp
          · rename_i hx; rw [if_pos hx]; omega
          · rename_i hx; rw [if_neg hx]; exact hpp) e
        rw [key] at k
        refine ⟨(nextU u.1 t y).1 :: b2, ?_, k.2.2, i2⟩
        unfold nextL
        rw [if_pos k.1, i1, k.2.1]
        rfl
    · cases h
  | [], _ :: _, _, _, _, _, _, _, h, _, _, _, _ => h.elim
  | _ :: _, [], _, _, _, _, _, _, h, _, _, _, _ => h.elim
  | [], [], _ :: _, _, _, _, _, _, _, h, _, _, _ => h.elim
  | _ :: _, _ :: _, [], _, _, _, _, _, _, h, _, _, _ => h.elim
  | [], [], [], [], _ :: _, _, _, _, _, _, _, h, _ => h.elim
  | [], [], [], _ :: _, [], _, _, _, _, _, _, h, _ => h.elim
  | [], [], [], _ :: _, _ :: _, _, _, _, _, _, _, h, _ => h.elim
  | _ :: _, _ :: _, _ :: _, [], _, _, _, _, _, _, _, h, _ => h.elim
  | _ :: _, _ :: _, _ :: _, _ :: _, [], _, _, _, _, _, _, h, _ => h.elim
end Go.Proofs.Ytodagcbcdkfniaa.VE
