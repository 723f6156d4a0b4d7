import Derived.Test.YtodagcbcdkfniaaVpC7
namespace Go.Proofs.Ytodagcbcdkfniaa.VE
open Go Go.RowKit
set_option linter.unusedVariables false
attribute [local irreducible] wrap64
/-! ### package commit: Best, the whole (no statement is proved here) -/
structure BestJ (l : List Un) (dm : List Int) (r : BsR) : Prop where
  bad : r.2.2 ≠ 0 → r.1 = [] ∧ r.2.1 = 0
  all : r.2.2 = 0 → AllU l dm
  good : r.2.2 = 0 → Sched l dm r.1 r.2.1
  cols : r.2.2 = 0 → ColsServed l r.1 dm
  min : AllU l dm → ∀ s c, Sched l dm s c → r.2.2 = 0 ∧ r.2.1 ≤ c
section
variable {l : List Un} {dm : List Int}
theorem best_l30 (hl : l.length ≤ 3) (hdl : dm.length ≤ 8) (b v : Int) (rows : List (List Jt)) (R : BsR → Prop) (cont : EvP (fun k => commit_Best.l35 k l dm b v (dm.length : Int) rows (List.replicate l.length (List.replicate dm.length 0))) R) : ∀ (n i : Nat), l.length - i = n → i ≤ l.length → EvP (fun k => commit_Best.l30 k l dm b v (l.length : Int) (i : Int) rows (List.replicate i (List.replicate dm.length 0) ++ List.replicate (l.length - i) [])) R := by
  intro n
  induction n with
  | zero =>
    intro i hn hi
    obtain rfl : i = l.length := by omega
    rw [Nat.sub_self]
    refine EvP.step (fun k => commit_Best.l30_eq k _ _ _ _ _ _ _ _) (EvP.neg (by omega) ?_)
    rw [show List.replicate 0 ([] : List Int) = [] from rfl, List.append_nil]
    exact cont
  | succ n ih =>
    intro i hn hi
    have e1 : l.length - i = (l.length - (i + 1)) + 1 := by omega
    have hol : (List.replicate i (List.replicate dm.length (0 : Int)) ++ List.replicate (l.length - i) []).length = l.length := by simp; omega
    have hrd : rd (.list 3 (.int .i64)) (List.replicate i (List.replicate dm.length (0 : Int)) ++ List.replicate (l.length - i) []) (i : Int) = [] := by
      refine rd_get (t := .list 3 (.int .i64)) _ i [] ?_
      rw [e1, List.getElem?_append_right (by simp)]
      simp
    have hset : (List.replicate i (List.replicate dm.length (0 : Int)) ++ List.replicate (l.length - i) []).set i (List.replicate dm.length 0) = List.replicate (i + 1) (List.replicate dm.length (0 : Int)) ++ List.replicate (l.length - (i + 1)) [] := by
      rw [List.set_append_right _ _ (by simp), List.length_replicate, Nat.sub_self, e1, List.replicate_succ (n := l.length - (i + 1))]
      show List.replicate i (List.replicate dm.length (0 : Int)) ++ (List.replicate dm.length (0 : Int) :: List.replicate (l.length - (i + 1)) []) = _
      rw [List.replicate_succ' (n := i), List.append_assoc]
      rfl
    refine EvP.step (fun k => commit_Best.l30_eq k _ _ _ _ _ _ _ _) (EvP.pos (by omega) (EvP.pos (by omega) (EvP.pos (by omega) (EvP.pos (by omega) (EvP.pos (by omega) (EvP.pos (by rw [hol]; omega) (EvP.pos (by rw [hrd]; rfl) ?_)))))))
    rw [w64 (x := (i : Int) + 1) (by omega) (by omega), show ((i : Int)).toNat = i by omega, show ((dm.length : Int)).toNat = dm.length by omega, hset]
    exact ih (i + 1) (by omega) (by omega)
theorem best_l22 (hA : AllU l dm) {rows : List (List Jt)} (hR : RowsJ l dm rows) (h0 : rows.getD 0 [] = [(cutL l (starts l), 0, 0, 0)]) (hrl : rows.length = dm.length + 1) (last : List Jt) (hlast : rows.getD dm.length [] = last) : ∀ (n : Nat) (x b : Int), 0 ≤ x → (last.length : Int) - x = n → 0 ≤ b → b < (last.length : Int) → (∀ (m : Nat) c, (m : Int) < x → last[m]? = some c → (rY12 last b).2.1 ≤ c.2.1) → EvP (fun k => commit_Best.l22 k l dm last b last (last.length : Int) x rows) (BestJ l dm) := by
  have hU : UnitsOk l := hA.ok
  have hl := hA.len
  have hdl := hA.dlen
  have hrow := hR.row dm.length (by omega)
  rw [hlast] at hrow
  have hlen := hrow.len
  have h8 : (8 : Nat) ^ dm.length ≤ 8 ^ 8 := Nat.pow_le_pow_right (by omega) hdl
  have h8' : (8 : Nat) ^ 8 = 16777216 := by decide
  intro n
  induction n with
  | zero =>
    intro x b x0 hx b0 b1 hb
    have hbs := rY12_some b0 b1
    obtain ⟨S, k1, k2⟩ := chain_some hU hl hR h0 dm.length b _ (by omega) (Nat.le_refl _) b0 (by rw [hlast]; exact hbs)
    have k3 := k2.cols
    have k4 := k2.sums
    rw [List.take_length] at k3 k4
    obtain ⟨f, c', q1, q2, q3⟩ := k2.run
    have fin : EvP (fun k => commit_Best.l30 k l dm b (rY12 last b).2.1 (l.length : Int) (0 : Int) rows (List.replicate l.length [])) (fun r => r = (S, (rY12 last b).2.1, 0)) := by
      have := best_l30 hl hdl b (rY12 last b).2.1 rows (fun r => r = (S, (rY12 last b).2.1, 0)) ?_ l.length 0 (by omega) (by omega)
      · rw [Nat.sub_zero] at this
        exact this
      · refine EvP.of (best_l35 hl hdl _ rows hrl S k2.len k2.rows (fun t c r ht hc hr => ?_) dm.length b S _ (Nat.le_refl _) k1 k2.len k2.rows (by simp) (fun p hp => by rw [List.eq_of_mem_replicate hp]; simp) (fun m p q hp hq => ?_)) rfl
        · obtain ⟨_, j, f, sc, r', _, m2, m3, m4, _⟩ := hR.made t (by omega) c hc
          obtain rfl := Ev.det hr m2
          exact (m3.fit m4).1.len.1
        · have hm := List.eq_of_mem_replicate (List.mem_of_getElem? hq)
          rw [hm, List.drop_eq_nil_of_le (by simp), List.append_nil]
          exact hp
    obtain ⟨r, hr, rfl⟩ := fin
    refine EvP.step (fun k => commit_Best.l22_eq k _ _ _ _ _ _ _ _) (EvP.neg (by omega) (EvP.pos b0 (EvP.pos b1 (EvP.pos (by omega) (EvP.pos (by omega) (EvP.pos (by omega) ?_))))))
    rw [List.length_replicate, show ((l.length : Int)).toNat = l.length by omega]
    refine EvP.of hr ⟨fun h => absurd rfl h, fun _ => hA, fun _ => ⟨k2.len, k2.rows, ⟨f, c', q1, q3⟩, k4⟩, fun _ => k3, fun _ s c hs => ⟨rfl, ?_⟩⟩
    obtain ⟨f2, c2, s1, s2⟩ := hs.run
    have hsm := hs.sums
    obtain ⟨y, hy, y1, y2⟩ := hrow.cov s f2 c2 hs.rows s1 (by rw [List.take_length]; exact hsm)
    obtain ⟨m, hm⟩ := List.mem_iff_getElem?.1 hy
    have hml : m < last.length := by
      apply Classical.byContradiction
      intro hn
      rw [List.getElem?_eq_none (by omega)] at hm
      cases hm
    have := hb m y (by omega) hm
    show (rY12 last b).2.1 ≤ c
    omega
  | succ n ih =>
    intro x b x0 hx b0 b1 hb
    have hlt : x < (last.length : Int) := by omega
    have hxs := rY12_some x0 hlt
    refine EvP.step (fun k => commit_Best.l22_eq k _ _ _ _ _ _ _ _) (EvP.pos hlt (EvP.pos x0 (EvP.pos hlt (EvP.pos b0 (EvP.pos b1 ?_)))))
    rw [w64 (x := x + 1) (by omega) (by omega)]
    refine EvP.ite (fun h => ih (x + 1) x (by omega) (by omega) x0 hlt (fun m c hm hc => ?_)) (fun h => ih (x + 1) b (by omega) (by omega) b0 b1 (fun m c hm hc => ?_))
    · by_cases e : (m : Int) = x
      · rw [show x.toNat = m by omega, hc] at hxs
        rw [Option.some.inj hxs]
        exact Int.le_refl _
      · have := hb m c (by omega) hc
        omega
    · by_cases e : (m : Int) = x
      · rw [show x.toNat = m by omega, hc] at hxs
        rw [Option.some.inj hxs]
        omega
      · exact hb m c (by omega) hc
theorem getD_app {α : Type} (a : List (List α)) (x : List α) (t : Nat) (h : t < a.length) : (a ++ [x]).getD t [] = a.getD t [] := by
  rw [getD_snoc, if_pos h]
theorem RowsJ.snoc {rows : List (List Jt)} (hR : RowsJ l dm rows) {t : Nat} (hl : rows.length = t + 1) {next : List Jt} (hrow : RowJ l dm (t + 1) next) (hm : ∀ c ∈ next, MadeJ l (rI64 dm (t : Int)) (rows.getD t []) c) : RowsJ l dm (rows ++ [next]) := by
  refine ⟨by simp, fun t' ht' => ?_, fun t' ht' => ?_⟩
  · rw [List.length_append, List.length_singleton] at ht'
    by_cases e : t' < rows.length
    · rw [getD_app _ _ _ e]; exact hR.row t' e
    · obtain rfl : t' = t + 1 := by omega
      rw [getD_snoc, if_neg (by omega), if_pos (by omega)]
      exact hrow
  · rw [List.length_append, List.length_singleton] at ht'
    by_cases e : t' + 1 < rows.length
    · rw [getD_app _ _ _ e, getD_app _ _ _ (by omega)]; exact hR.made t' e
    · obtain rfl : t' = t := by omega
      rw [getD_snoc rows next [] (t' + 1), if_neg (by omega), if_pos (by omega), getD_app rows next t' (by omega)]
      exact hm
theorem best_l12 (hA : AllU l dm) : ∀ (n t : Nat) (rows : List (List Jt)), dm.length - t = n → t ≤ dm.length → RowsJ l dm rows → rows.length = t + 1 → rows.getD 0 [] = [(cutL l (starts l), 0, 0, 0)] → EvP (fun k => commit_Best.l12 k l dm dm (dm.length : Int) (t : Int) rows) (BestJ l dm) := by
  have hU : UnitsOk l := hA.ok
  have hl := hA.len
  have hdl := hA.dlen
  intro n
  induction n with
  | zero =>
    intro t rows hn ht hR hrl h0
    obtain rfl : t = dm.length := by omega
    have w1 : wrap64 ((rows.length : Int) - 1) = (dm.length : Int) := by rw [w64 (by omega) (by omega)]; omega
    refine EvP.step (fun k => commit_Best.l12_eq k _ _ _ _ _ _) (EvP.neg (by omega) ?_)
    rw [w1]
    refine EvP.pos (by omega) (EvP.pos (by omega) ?_)
    have er : rd (.list 96 Y12) rows (dm.length : Int) = rows.getD dm.length [] := rfl
    rw [er]
    have hne := (hR.row dm.length (by omega)).ne
    exact best_l22 hA hR h0 hrl _ rfl _ 0 0 (by omega) (by rw [Int.sub_zero]) (by omega) (by omega) (fun m c hm _ => by omega)
  | succ n ih =>
    intro t rows hn ht hR hrl h0
    have htd : t < dm.length := by omega
    have hdd := hA.dms _ (rI64_mem (xs := dm) (i := (t : Int)) (by omega) (by omega))
    have w1 : wrap64 ((rows.length : Int) - 1) = (t : Int) := by rw [w64 (by omega) (by omega)]; omega
    refine EvP.step (fun k => commit_Best.l12_eq k _ _ _ _ _ _) (EvP.pos (by omega) (EvP.pos (by omega) (EvP.pos (by omega) ?_)))
    rw [w1]
    refine EvP.pos (by omega) (EvP.pos (by omega) ?_)
    have er : rd (.list 96 Y12) rows (t : Int) = rows.getD t [] := rfl
    rw [er]
    have hrow := hR.row t (by omega)
    have hlen := hrow.len
    have h8 : (8 : Nat) ^ t ≤ 8 ^ 8 := Nat.pow_le_pow_right (by omega) (by omega)
    have h8' : (8 : Nat) ^ 8 = 16777216 := by decide
    refine EvP.bind (period_ev (B := 4000000000000 * (t : Int)) hU hl hdd (by omega) hrow.ok (by omega)) (fun next hN => ?_)
    have hcov := row_cov hU hl htd hdd hrow hN
    refine EvP.ite (fun hz => EvP.ret ⟨fun _ => ⟨rfl, rfl⟩, fun h => absurd h (by decide), fun h => absurd h (by decide), fun h => absurd h (by decide), fun _ s c hs => ?_⟩) (fun hz => ?_)
    · exfalso
      obtain ⟨f, c2, s1, s2⟩ := hs.run
      have hsm := hs.sums
      obtain ⟨s', f', c', a1, a2, a3⟩ := sched_begin (dm := dm) (dm.length - (t + 1)) (t + 1) s f c2 (by omega) (by rw [show t + 1 + (dm.length - (t + 1)) = dm.length by omega]; exact hs.rows) s1 (by rw [show t + 1 + (dm.length - (t + 1)) = dm.length by omega, List.take_length]; exact hsm)
      obtain ⟨y, hy, _⟩ := hcov s' f' c' a1 a2 a3
      have : next = [] := List.eq_nil_of_length_eq_zero (by omega)
      rw [this] at hy
      cases hy
    · have hnl := hN.len
      refine EvP.pos (by rw [List.length_singleton]; omega) ?_
      rw [w64 (x := (t : Int) + 1) (by omega) (by omega), show (t : Int) + 1 = ((t + 1 : Nat) : Int) by omega]
      have hp8 : (8 : Nat) ^ (t + 1) = 8 ^ t * 8 := Nat.pow_succ ..
      refine ih (t + 1) _ (by omega) (by omega) (hR.snoc hrl ⟨by omega, by omega, fun c hc => ?_, hcov⟩ (fun c hc => (hN.ok c hc).1)) (by rw [List.length_append, List.length_singleton]; omega) (by rw [getD_app _ _ _ (by omega)]; exact h0)
      have := (hN.ok c hc).2
      rw [show (4000000000000 : Int) * ((t + 1 : Nat) : Int) = 4000000000000 * (t : Int) + 4000000000000 by omega]
      exact this
theorem best_l6 (hA : AllU l dm) (R : BsR → Prop) (cont : EvP (fun k => commit_Best.l12 k l dm dm (dm.length : Int) 0 [[(cutL l (starts l), 0, 0, 0)]]) R) : ∀ (n : Nat) (i : Int) (acc : List Us), 0 ≤ i → (l.length : Int) - i = n → acc.length ≤ i.toNat → acc ++ cutL (l.drop i.toNat) (starts (l.drop i.toNat)) = cutL l (starts l) → EvP (fun k => commit_Best.l6 k l dm l (l.length : Int) i 0 0 0 acc) R := by
  have hl := hA.len
  intro n
  induction n with
  | zero =>
    intro i acc h0 h1 ha he
    rw [drop_end (by omega)] at he
    have he : acc ++ [] = cutL l (starts l) := he
    rw [List.append_nil] at he
    refine EvP.step (fun k => commit_Best.l6_eq k _ _ _ _ _ _ _ _ _) (EvP.neg (by omega) ?_)
    rw [he]
    exact cont
  | succ n ih =>
    intro i acc h0 h1 ha he
    have hlt : i < (l.length : Int) := by omega
    rw [rY10_drop h0 hlt] at he
    refine EvP.step (fun k => commit_Best.l6_eq k _ _ _ _ _ _ _ _ _) (EvP.pos hlt (EvP.pos h0 (EvP.pos hlt ?_)))
    refine EvP.bindE (cutc_ev _ _) (EvP.pos (by rw [List.length_singleton]; omega) ?_)
    rw [w64 (x := i + 1) (by omega) (by omega)]
    refine ih (i + 1) _ (by omega) (by omega) (by rw [List.length_append, List.length_singleton]; omega) ?_
    rw [List.append_assoc]
    exact he
theorem best_row0 (hA : AllU l dm) : RowsJ l dm [[(cutL l (starts l), 0, 0, 0)]] := by
  have hU : UnitsOk l := hA.ok
  have k := cutL_ok l (starts l) hU (starts_ok l hU)
  refine ⟨by simp, fun t ht => ?_, fun t ht => ?_⟩
  · have ht : t < 1 := ht
    obtain rfl : t = 0 := by omega
    show RowJ l dm 0 [(cutL l (starts l), 0, 0, 0)]
    refine ⟨by simp, by simp, fun c hc => ?_, fun s f c h1 h2 _ => ?_⟩
    · rw [List.mem_singleton.1 hc]
      exact ⟨k.1, k.2.1, by show -(4000000000000 * ((0 : Nat) : Int)) ≤ 0; omega, by show (0 : Int) ≤ 4000000000000 * ((0 : Nat) : Int); omega⟩
    · obtain ⟨e1, e2, e3⟩ := runs_zero l s f c h1 h2
      refine ⟨_, List.mem_singleton.2 rfl, by rw [e1]; exact k.2.2, ?_⟩
      show (0 : Int) ≤ _
      omega
  · have ht : t + 1 < 1 := ht
    omega
theorem cbest_ev (l : List Un) (hs : SzL l) (dm : List Int) : EvP (fun k => commit_Best.f k l dm) (BestJ l dm) := by
  unfold commit_Best.f
  refine EvP.bind (P := fun e => (e = 0 → AllU l dm) ∧ Ev (fun k => dual_CheckAll.f k l dm) e) ?_ (fun e he => EvP.ite (fun hz => ?_) (fun hz => EvP.ret ⟨fun _ => ⟨rfl, rfl⟩, fun h => absurd h hz, fun h => absurd h hz, fun h => absurd h hz, fun hA => ?_⟩))
  · obtain ⟨e, he, hp⟩ := all_ev l hs dm
    exact ⟨e, he, hp, he⟩
  · have hA := he.1 hz
    refine best_l6 hA _ ?_ l.length 0 [] (by omega) (by omega) (by simp) rfl
    exact best_l12 hA dm.length 0 _ (by omega) (by omega) (best_row0 hA) rfl rfl
  · exact absurd (Ev.det he.2 (hA.any dm hA.dlen hA.dms)) hz
end
end Go.Proofs.Ytodagcbcdkfniaa.VE
