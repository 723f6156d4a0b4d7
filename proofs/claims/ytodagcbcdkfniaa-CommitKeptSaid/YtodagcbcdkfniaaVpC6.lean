import Derived.Test.YtodagcbcdkfniaaVpC5
namespace Go.Proofs.Ytodagcbcdkfniaa.VE
open Go Go.RowKit
set_option linter.unusedVariables false
attribute [local irreducible] wrap64
/-! ### schedules of all generators (no statement is proved here) -/
def rowCost (u : Un) (p : List Int) : Int := (p.map fun x => vAt u.2.1.2 (mx x 0)).sum
def pcostL : List Un → List (List Int) → Int
  | u :: l, p :: s => rowCost u p + pcostL l s
  | _, _ => 0
def colAt (s : List (List Int)) (t : Nat) : List Int := s.map fun p => p.getD t 0
def Served (s : List (List Int)) (dm : List Int) : Prop := ∀ (t : Nat) x, dm[t]? = some x → colSum (colAt s t) = x
structure Sched (l : List Un) (dm : List Int) (s : List (List Int)) (c : Int) : Prop where
  len : s.length = l.length
  rows : ∀ p ∈ s, p.length = dm.length
  run : ∃ f c', RunsL l s f c' ∧ c = c' + pcostL l s
  sums : Served s dm
def RowsLen (s : List (List Int)) (t : Nat) : Prop := ∀ p ∈ s, p.length = t
theorem RowsLen.tail {p : List Int} {s : List (List Int)} {t : Nat} (h : RowsLen (p :: s) t) : RowsLen s t := fun q hq => h q (by simp [hq])
theorem rowCost_snoc (u : Un) (p : List Int) (x : Int) : rowCost u (p ++ [x]) = rowCost u p + vAt u.2.1.2 (mx x 0) := by
  unfold rowCost
  rw [List.map_append, List.sum_append]
  simp
theorem snocs_len : ∀ (s : List (List Int)) (col : List Int), col.length = s.length → (snocs s col).length = s.length
  | [], [], _ => rfl
  | p :: s, x :: col, h => by
    show (snocs s col).length + 1 = s.length + 1
    rw [snocs_len s col (by simpa using h)]
  | [], _ :: _, h => by simp at h
  | _ :: _, [], h => by simp at h
theorem snocs_rows : ∀ (s : List (List Int)) (col : List Int) (t : Nat), RowsLen s t → RowsLen (snocs s col) (t + 1)
  | [], _, _, _ => fun p hp => by cases hp
  | _ :: _, [], _, _ => fun p hp => by cases hp
  | p :: s, x :: col, t, h => fun q hq => by
    rcases List.mem_cons.1 hq with rfl | hq
    · rw [List.length_append, List.length_singleton, h p (by simp)]
    · exact snocs_rows s col t h.tail q hq
theorem snocs_cost : ∀ (l : List Un) (s : List (List Int)) (col : List Int), s.length = l.length → col.length = l.length → pcostL l (snocs s col) = pcostL l s + colCost l col
  | [], [], [], _, _ => rfl
  | u :: l, p :: s, x :: col, h1, h2 => by
    show rowCost u (p ++ [x]) + pcostL l (snocs s col) = rowCost u p + pcostL l s + (vAt u.2.1.2 (mx x 0) + colCost l col)
    rw [rowCost_snoc, snocs_cost l s col (by simpa using h1) (by simpa using h2)]
    omega
  | [], _ :: _, _, h, _ => by simp at h
  | _ :: _, [], _, h, _ => by simp at h
  | [], [], _ :: _, _, h => by simp at h
  | _ :: _, _ :: _, [], _, h => by simp at h
theorem snocs_colAt : ∀ (s : List (List Int)) (col : List Int) (t : Nat), RowsLen s t → col.length = s.length → colAt (snocs s col) t = col ∧ ∀ t', t' < t → colAt (snocs s col) t' = colAt s t'
  | [], [], _, _, _ => ⟨rfl, fun _ _ => rfl⟩
  | p :: s, x :: col, t, h, hl => by
    obtain ⟨i1, i2⟩ := snocs_colAt s col t h.tail (by simpa using hl)
    have hp := h p (by simp)
    constructor
    · show (p ++ [x]).getD t 0 :: colAt (snocs s col) t = x :: col
      rw [i1, getD_snoc, if_neg (by omega), if_pos (by omega)]
    · intro t' ht
      show (p ++ [x]).getD t' 0 :: colAt (snocs s col) t' = p.getD t' 0 :: colAt s t'
      rw [i2 t' ht, getD_snoc, if_pos (by omega)]
  | [], _ :: _, _, _, h => by simp at h
  | _ :: _, [], _, _, h => by simp at h
theorem runsL_len : ∀ {l : List Un} {s : List (List Int)} {f : List Us} {c : Int}, RunsL l s f c → s.length = l.length ∧ f.length = l.length
  | [], [], [], _, _ => ⟨rfl, rfl⟩
  | u :: l, p :: s, q :: f, c, h => by
    obtain ⟨c1, c2, h1, h2, h3⟩ := h
    obtain ⟨a, b⟩ := runsL_len h2
    exact ⟨by simp [a], by simp [b]⟩
  | [], [], _ :: _, _, h => h.elim
  | [], _ :: _, _, _, h => h.elim
  | _ :: _, [], _, _, h => h.elim
  | _ :: _, _ :: _, [], _, h => h.elim
theorem runsL_split : ∀ (l : List Un) (s : List (List Int)) (f : List Us) (c : Int) (t : Nat), RowsLen s (t + 1) → RunsL l s f c → ∃ s' col f' c' sc, s = snocs s' col ∧ RowsLen s' t ∧ s'.length = l.length ∧ col.length = l.length ∧ RunsL l s' f' c' ∧ nextL l f' col = some (f, sc) ∧ c = c' + sc
  | [], [], [], c, t, _, h => ⟨[], [], [], 0, 0, rfl, (fun p hp => by cases hp), rfl, rfl, rfl, rfl, by have h : c = 0 := h; omega⟩
  | u :: l, p :: s, q :: f, c, t, hr, h => by
    obtain ⟨c1, c2, h1, h2, h3⟩ := h
    obtain ⟨s', col, f', c', sc, e, r1, r2, r3, r4, r5, r6⟩ := runsL_split l s f c2 t hr.tail h2
    obtain ⟨p', x, rfl, hp'⟩ := snoc_of (hr p (by simp))
    obtain ⟨q', d', g1, g2, rfl, rfl⟩ := runF_some h1
    refine ⟨p' :: s', x :: col, q' :: f', d' + c', (nextU u.1 q' x).2.1 + sc, by rw [e]; rfl, fun y hy => ?_, by simp [r2], by simp [r3], ⟨d', c', g1, r4, rfl⟩, ?_, by omega⟩
    · rcases List.mem_cons.1 hy with rfl | hy
      · exact hp'
      · exact r1 y hy
    · show (if (nextU u.1 q' x).2.2 = 0 then (nextL l f' col).map fun q => ((nextU u.1 q' x).1 :: q.1, (nextU u.1 q' x).2.1 + q.2) else none) = _
      rw [if_pos g2, r5]
      rfl
  | [], [], _ :: _, _, _, _, h => h.elim
  | [], _ :: _, _, _, _, _, h => h.elim
  | _ :: _, [], _, _, _, _, h => h.elim
  | _ :: _, _ :: _, [], _, _, _, h => h.elim
theorem runsL_join : ∀ (l : List Un) (s : List (List Int)) (col : List Int) (f' f : List Us) (c' sc : Int), RunsL l s f' c' → nextL l f' col = some (f, sc) → RunsL l (snocs s col) f (c' + sc)
  | [], [], [], [], f, c', sc, h, hn => by
    simp only [nextL, Option.some.injEq, Prod.mk.injEq] at hn
    obtain ⟨rfl, rfl⟩ := hn
    have h : c' = 0 := h
    show c' + 0 = 0
    omega
  | u :: l, p :: s, x :: col, q :: f', f, c', sc, h, hn => by
    obtain ⟨c1, c2, h1, h2, h3⟩ := h
    unfold nextL at hn
    split at hn
    · rename_i e
      cases hq : nextL l f' col with
      | none => rw [hq] at hn; cases hn
      | some z =>
        obtain ⟨z1, z2⟩ := z
        rw [hq] at hn
        simp only [Option.map_some, Option.some.injEq, Prod.mk.injEq] at hn
        obtain ⟨rfl, rfl⟩ := hn
        have ih := runsL_join l s col f' z1 c2 z2 h2 hq
        refine ⟨c1 + (nextU u.1 q x).2.1, c2 + z2, ?_, ih, by omega⟩
        rw [runF_snoc, h1, Option.bind_some, if_pos e]
    · cases hn
  | [], [], _ :: _, [], _, _, _, _, hn => by cases hn
  | [], [], _, _ :: _, _, _, _, h, _ => h.elim
  | [], _ :: _, _, _, _, _, _, h, _ => h.elim
  | _ :: _, [], _, _, _, _, _, h, _ => h.elim
  | _ :: _, _ :: _, _, [], _, _, _, h, _ => h.elim
  | _ :: _, _ :: _, [], _ :: _, _, _, _, _, hn => by cases hn
theorem runsL_states : ∀ (l : List Un) (s : List (List Int)) (f : List Us) (c : Int) (t : Nat), UnitsOk l → RowsLen s t → RunsL l s f c → StatesOk l f ∧ 0 ≤ c
  | [], [], [], c, _, _, _, h => ⟨trivial, by have h : c = 0 := h; omega⟩
  | u :: l, p :: s, q :: f, c, t, hU, hr, h => by
    obtain ⟨c1, c2, h1, h2, h3⟩ := h
    obtain ⟨i1, i2⟩ := runsL_states l s f c2 t hU.tail hr.tail h2
    have hu := hU u (by simp)
    have k := run_ok hu.rule t p (hr p (by simp)) hu.st q c1 h1
    exact ⟨⟨k.1, i1⟩, by omega⟩
  | [], [], _ :: _, _, _, _, _, h => h.elim
  | [], _ :: _, _, _, _, _, _, h => h.elim
  | _ :: _, [], _, _, _, _, _, h => h.elim
  | _ :: _, _ :: _, [], _, _, _, _, h => h.elim
/-- Which are on. -/
def onOf (col : List Int) : List Bool := col.map fun x => !decide (x = -1)
theorem nextL_col : ∀ (l : List Un) (f : List Us) (col : List Int) (q : List Us × Int), UnitsOk l → StatesOk l f → nextL l f col = some q → ColOk l (onOf col) col ∧ PatL l col (bases l (onOf col))
  | [], [], [], q, _, _, _ => ⟨trivial, trivial⟩
  | u :: l, s :: f, x :: col, q, hU, hs, h => by
    unfold nextL at h
    split at h
    · rename_i e
      cases hq : nextL l f col with
      | none => rw [hq] at h; cases h
      | some z =>
        obtain ⟨i1, i2⟩ := nextL_col l f col z hU.tail hs.2 hq
        have hu := hU u (by simp)
        have k := (next_ok hu.rule hs.1 e).2.2.1
        have l1 := hu.rule.le1
        refine ⟨⟨?_, i1⟩, ?_, i2⟩
        · show if (!decide (x = -1)) = true then u.1.2.1 ≤ x ∧ x ≤ u.1.2.2.1 else x = -1
          by_cases hx : x = -1
          · rw [if_neg (by simp [hx])]; exact hx
          · rw [if_pos (by simp [hx])]; omega
        · show if x = -1 then (if (!decide (x = -1)) = true then u.1.2.1 else -1) = -1 else u.1.2.1 ≤ (if (!decide (x = -1)) = true then u.1.2.1 else -1) ∧ (if (!decide (x = -1)) = true then u.1.2.1 else -1) ≤ u.1.2.2.1
          by_cases hx : x = -1
          · rw [if_pos hx, if_neg (by simp [hx])]
          · rw [if_neg hx, if_pos (by simp [hx])]; omega
    · cases h
  | [], [], _ :: _, _, _, _, h => by cases h
  | [], _ :: _, _, _, _, h, _ => h.elim
  | _ :: _, [], _, _, _, h, _ => h.elim
  | _ :: _, _ :: _, [], _, _, _, h => by cases h
theorem ColOk.pat : ∀ {l : List Un} {on : List Bool} {xs : List Int}, UnitsOk l → ColOk l on xs → PatL l (bases l on) xs ∧ on = xs.map fun x => decide (0 ≤ x)
  | [], [], [], _, _ => ⟨trivial, rfl⟩
  | u :: l, b :: on, x :: xs, hU, h => by
    obtain ⟨i1, i2⟩ := ColOk.pat hU.tail h.2
    have hu := hU u (by simp)
    have l0 := hu.rule.le0
    have h1 := h.1
    cases b with
    | true =>
      rw [if_pos rfl] at h1
      refine ⟨⟨?_, i1⟩, ?_⟩
      · show if u.1.2.1 = -1 then x = -1 else u.1.2.1 ≤ x ∧ x ≤ u.1.2.2.1
        rw [if_neg (by omega)]; exact h1
      · rw [List.map_cons, ← i2, decide_eq_true (by omega)]
    | false =>
      rw [if_neg (by simp)] at h1
      refine ⟨⟨h1, i1⟩, ?_⟩
      rw [List.map_cons, ← i2, decide_eq_false (by omega)]
  | [], [], _ :: _, _, h => h.elim
  | [], _ :: _, _, _, h => h.elim
  | _ :: _, [], _, _, h => h.elim
  | _ :: _, _ :: _, [], _, h => h.elim
/-! rows of joint states -/
structure RowJ (l : List Un) (dm : List Int) (t : Nat) (row : List Jt) : Prop where
  ne : 0 < row.length
  len : row.length ≤ 8 ^ t
  ok : ∀ c ∈ row, JOk l (4000000000000 * (t : Int)) c
  cov : ∀ s f c, RowsLen s t → RunsL l s f c → Served s (dm.take t) → CovJ l row f (c + pcostL l s)
structure RowsJ (l : List Un) (dm : List Int) (rows : List (List Jt)) : Prop where
  ne : 0 < rows.length
  row : ∀ t : Nat, t < rows.length → RowJ l dm t (rows.getD t [])
  made : ∀ t : Nat, t + 1 < rows.length → ∀ c ∈ rows.getD (t + 1) [], MadeJ l (rI64 dm (t : Int)) (rows.getD t []) c
theorem Served.of_snocs {s : List (List Int)} {col : List Int} {dm : List Int} {t : Nat} (ht : t < dm.length) (hr : RowsLen s t) (hl : col.length = s.length) : Served (snocs s col) (dm.take (t + 1)) ↔ Served s (dm.take t) ∧ colSum col = rI64 dm (t : Int) := by
  obtain ⟨a1, a2⟩ := snocs_colAt s col t hr hl
  have hg : (dm.take (t + 1))[t]? = some (rI64 dm (t : Int)) := by
    rw [List.getElem?_take, if_pos (by omega)]
    have := rI64_some (xs := dm) (i := (t : Int)) (by omega) (by omega)
    rwa [show ((t : Int)).toNat = t by omega] at this
  constructor
  · intro h
    refine ⟨fun t' x hx => ?_, ?_⟩
    · have hlt : t' < t := by
        apply Classical.byContradiction
        intro hc
        rw [List.getElem?_take, if_neg hc] at hx
        cases hx
      rw [List.getElem?_take, if_pos hlt] at hx
      rw [← a2 t' hlt]
      exact h t' x (by rw [List.getElem?_take, if_pos (by omega)]; exact hx)
    · rw [← a1]
      exact h t _ hg
  · rintro ⟨h1, h2⟩ t' x hx
    by_cases e : t' = t
    · subst e
      rw [hg] at hx
      rw [a1, h2]
      exact Option.some.inj hx
    · have hlt : t' < t := by
        apply Classical.byContradiction
        intro hc
        rw [List.getElem?_take, if_neg (by omega)] at hx
        cases hx
      rw [a2 t' hlt]
      refine h1 t' x ?_
      rw [List.getElem?_take, if_pos (by omega)] at hx
      rw [List.getElem?_take, if_pos hlt]
      exact hx
section
variable {l : List Un} {dm : List Int}
theorem row_cov (hU : UnitsOk l) (hl : l.length ≤ 3) {t : Nat} (ht : t < dm.length) (hd : 0 ≤ rI64 dm (t : Int) ∧ rI64 dm (t : Int) ≤ 1000000) {prev : List Jt} (hr : RowJ l dm t prev) {B : Int} {next : List Jt} (hN : PerP l (rI64 dm (t : Int)) prev B next) : ∀ s f c, RowsLen s (t + 1) → RunsL l s f c → Served s (dm.take (t + 1)) → CovJ l next f (c + pcostL l s) := by
  intro s f c hrl hrun hsv
  obtain ⟨s', col, f', c', sc, rfl, r1, r2, r3, r4, r5, rfl⟩ := runsL_split l s f c t hrl hrun
  obtain ⟨v1, v2⟩ := (Served.of_snocs ht r1 (by omega)).1 hsv
  obtain ⟨y, hy, y1, y2⟩ := hr.cov s' f' c' r1 r4 v1
  obtain ⟨sf, _⟩ := runsL_states l s' f' c' t hU r1 r4
  obtain ⟨k1, k2⟩ := nextL_col l f' col _ hU sf r5
  have hon := k1.len.2
  obtain ⟨n, ⟨n0, n1⟩, n2⟩ := bits_some (onOf col) (by omega)
  rw [hon] at n1 n2
  obtain ⟨r, hr1, hr2⟩ := serve_ev l hU hl (onOf col) hon _ hd
  obtain ⟨g1, g2⟩ := hr2.best col k1 v2
  have hyok := hr.ok y hy
  obtain ⟨b2, m1, m2⟩ := next_simL l f' y.1 col (bases l (onOf col)) f sc hU sf hyok.1 y1 k2 r5
  obtain ⟨m, hm⟩ := List.mem_iff_getElem?.1 hy
  have hml : m < prev.length := by
    apply Classical.byContradiction
    intro hc
    rw [List.getElem?_eq_none (by omega)] at hm
    cases hm
  have := hN.cov n n0 n1 r (by unfold Sv; rw [n2]; exact hr1) g1 m y (by omega) hm b2 sc (by rw [n2]; exact m1)
  obtain ⟨z, hz, z1, z2⟩ := this
  refine ⟨z, hz, z1.trans m2, ?_⟩
  rw [snocs_cost l s' col r2 r3]
  omega
/-- Schedules begin with schedules. -/
theorem sched_begin : ∀ (k t : Nat) (s : List (List Int)) (f : List Us) (c : Int), t + k ≤ dm.length → RowsLen s (t + k) → RunsL l s f c → Served s (dm.take (t + k)) → ∃ s' f' c', RowsLen s' t ∧ RunsL l s' f' c' ∧ Served s' (dm.take t)
  | 0, t, s, f, c, _, h1, h2, h3 => ⟨s, f, c, h1, h2, h3⟩
  | k + 1, t, s, f, c, h0, h1, h2, h3 => by
    obtain ⟨s', col, f', c', sc, rfl, r1, r2, r3, r4, r5, rfl⟩ := runsL_split l s f c (t + k) h1 h2
    obtain ⟨v1, v2⟩ := (Served.of_snocs (by omega) r1 (by omega)).1 h3
    exact sched_begin k t s' f' c' (by omega) r1 r4 v1
end
end Go.Proofs.Ytodagcbcdkfniaa.VE
