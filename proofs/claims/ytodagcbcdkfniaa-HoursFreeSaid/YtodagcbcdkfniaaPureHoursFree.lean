/- The pure statement of the law HoursFree; what its row says is proved behind it. -/
import Derived.Test.YtodagcbcdkfniaaVpHours
namespace Go.Proofs.Ytodagcbcdkfniaa.VE
open Go Go.RowKit
set_option linter.unusedVariables false
attribute [local irreducible] wrap64
/-- The row's pure statement. -/
def HoursFree.Pure : Prop := ∀ (a0 : List (ByteArray × List (Int × Int))) (a1 : List Int) (a2 : Int), OkV BY (.list 28 (.pair .str (.list 72 (.pair (.int .i64) (.int .i64))))) a0 → OkV BY (.list 3 (.int .i64)) a1 → OkV BY (.int .i64) a2 → ∃ k, gridhallkeep3_HoursFree.f k a0 a1 a2 = some true
/-- A plan that fits to the offers. -/
def PlanOk (l : List Ofr) (ps : List Int) : Prop := ps.length = l.length ∧ ∀ (n : Nat) o p, l[n]? = some o → ps[n]? = some p → 0 ≤ p ∧ p ≤ total o.2
theorem PlanOk.tail {o : Ofr} {p : Int} {l : List Ofr} {ps : List Int} (h : PlanOk (o :: l) (p :: ps)) : PlanOk l ps := ⟨by simpa using h.1, fun n o' p' a b => h.2 (n + 1) o' p' (by simpa using a) (by simpa using b)⟩
theorem costSum_rng : ∀ (l : List Ofr) (xs : List Int), OffOk l → -(1200000000000 * (l.length : Int)) ≤ costSum l xs ∧ costSum l xs ≤ 1200000000000 * (l.length : Int)
  | [], xs, _ => by simp [costSum]
  | o :: l, [], _ => by simp [costSum]; omega
  | o :: l, x :: xs, h => by
    have := costSum_rng l xs h.tail
    have ho := (h o (by simp)).2
    rw [List.length_cons]
    show -(1200000000000 * _) ≤ (if 0 ≤ x ∧ x ≤ total o.2 then vAt o.2 x else 0) + costSum l xs ∧ (if 0 ≤ x ∧ x ≤ total o.2 then vAt o.2 x else 0) + costSum l xs ≤ _
    split
    · rename_i hx
      have := ho.cost_rng hx.1
      omega
    · omega
theorem l45_loop (l : List Ofr) (hO : OffOk l) (hl : l.length ≤ 10) (plan ys : List Int) (hp : PlanOk l plan) (hy : PlanOk l ys) (z : List Int) (c0 : Int) : ∀ (n : Nat) (i v : Int) (w : List Int), 0 ≤ i → (l.length : Int) - i = n → w.length = l.length → -(2400000000000 * i) ≤ v → v ≤ 2400000000000 * i → EvP (fun k => hours_Change.l45 k plan l (l.length : Int) i c0 ys v w) (fun r => r.2 = 0 ∧ r.1.2 = v + costSum (l.drop i.toNat) (ys.drop i.toNat) - costSum (l.drop i.toNat) (plan.drop i.toNat)) := by
  have hpl := hp.1
  have hyl := hy.1
  intro n
  induction n with
  | zero =>
    intro i v w h0 h1 hw v0 v1
    rw [drop_end (xs := l) (by omega)]
    refine EvP.step (fun k => hours_Change.l45_eq k _ _ _ _ _ _ _ _) (EvP.neg (by omega) (EvP.ret ⟨rfl, ?_⟩))
    show v = v + 0 - 0
    omega
  | succ n ih =>
    intro i v w h0 h1 hw v0 v1
    have hlt : i < (l.length : Int) := by omega
    have hlp : i < (plan.length : Int) := by omega
    have hly : i < (ys.length : Int) := by omega
    obtain ⟨hc, ho⟩ := hO _ (rY1_mem h0 hlt)
    have kp := hp.2 _ _ _ (rY1_some h0 hlt) (rI64_some h0 hlp)
    have ky := hy.2 _ _ _ (rY1_some h0 hlt) (rI64_some h0 hly)
    have r1 := ho.cost_rng kp.1
    have r2 := ho.cost_rng ky.1
    have ht := ho.top
    rw [rY1_drop h0 hlt, rI64_drop h0 hlp, rI64_drop h0 hly]
    have c1 := cost_ev' hc ho (rI64 plan i)
    have c2 := cost_ev' hc ho (rI64 ys i)
    rw [if_pos kp] at c1
    rw [if_pos ky] at c2
    refine EvP.step (fun k => hours_Change.l45_eq k _ _ _ _ _ _ _ _) (EvP.pos hlt (EvP.pos h0 (EvP.pos hlt (EvP.pos h0 (EvP.pos hlp (EvP.bindE c1 (EvP.pos h0 (EvP.pos hly (EvP.bindE c2 ?_)))))))))
    refine EvP.pos h0 (EvP.pos hly (EvP.pos h0 (EvP.pos hlp (EvP.pos h0 (EvP.pos (by omega) ?_)))))
    show EvP (fun k => hours_Change.l45 k plan l (l.length : Int) (wrap64 (i + 1)) c0 ys (wrap64 (wrap64 (v + vAt (rY1 l i).2 (rI64 ys i)) - vAt (rY1 l i).2 (rI64 plan i))) _) _
    rw [w64 (x := i + 1) (by omega) (by omega), w64 (x := v + vAt _ _) (by omega) (by omega), w64 (x := v + vAt _ _ - vAt _ _) (by omega) (by omega)]
    refine (ih (i + 1) _ _ (by omega) (by omega) (by rw [List.length_set]; exact hw) (by omega) (by omega)).mono (fun r hr => ⟨hr.1, ?_⟩)
    rw [hr.2]
    show _ = v + ((if 0 ≤ rI64 ys i ∧ rI64 ys i ≤ total (rY1 l i).2 then vAt (rY1 l i).2 (rI64 ys i) else 0) + costSum (l.drop (i + 1).toNat) (ys.drop (i + 1).toNat)) - ((if 0 ≤ rI64 plan i ∧ rI64 plan i ≤ total (rY1 l i).2 then vAt (rY1 l i).2 (rI64 plan i) else 0) + costSum (l.drop (i + 1).toNat) (plan.drop (i + 1).toNat))
    rw [if_pos kp, if_pos ky]; omega
/-- The greedy loop. -/
theorem l36_loop (l : List Ofr) (hl : l.length ≤ 10) (plan : List Int) (c0 : Int) (T : List St3) (hT : T.length ≤ 1000) (hm : ∀ t ∈ T, (0 ≤ t.2.1 ∧ t.2.1 ≤ 100000) ∧ 0 ≤ t.1 ∧ t.1 < (l.length : Int)) (R : (List Int × Int) × Int → Prop) : ∀ (n : Nat) (i D : Int) (xs : List Int), 0 ≤ i → (T.length : Int) - i = n → 0 ≤ D → D ≤ 1000000000 → xs.length = l.length → (∀ x ∈ xs, 0 ≤ x ∧ x ≤ 100000 * i) → (∀ ys : List Int, ys.length = l.length → (∀ (m : Nat) x y, xs[m]? = some x → ys[m]? = some y → y = x + gU (m : Int) (T.drop i.toNat) D) → EvP (fun k => if 0 < D - mn (total (untag (T.drop i.toNat))) D then some (([], 0), 8) else if 0 ≤ (l.length : Int) then if (l.length : Int) * 8 ≤ 140737488355328 then if (l.length : Int) ≤ 140737488355328 then hours_Change.l45 k plan l (l.length : Int) 0 c0 ys 0 (List.replicate (l.length : Int).toNat 0) else none else none else none) R) → EvP (fun k => hours_Change.l36 k l plan D (T.length : Int) i c0 xs T) R := by
  intro n
  induction n with
  | zero =>
    intro i D xs h0 h1 d0 d1 hx hxr hk
    have := hk xs hx (fun m x y a b => by
      rw [a] at b; cases b
      rw [drop_end (by omega)]
      show x = x + 0
      omega)
    rw [drop_end (by omega)] at this
    have e : D - mn (total (untag [])) D = D := by
      show D - mn 0 D = D
      rw [mn_of_le d0]; omega
    rw [e] at this
    exact EvP.step (fun k => hours_Change.l36_eq k _ _ _ _ _ _ _ _) (EvP.neg (by omega) this)
  | succ n ih =>
    intro i D xs h0 h1 d0 d1 hx hxr hk
    have hlt : i < (T.length : Int) := by omega
    obtain ⟨⟨a0, a1⟩, b0, b1⟩ := hm _ (rY2_mem h0 hlt)
    have hmn := mn_le (rY2 T i).2.1 D
    have hbx : (rY2 T i).1 < (xs.length : Int) := by omega
    have hxi := hxr _ (rI64_mem b0 hbx)
    rw [rY2_drop h0 hlt] at hk
    refine EvP.step (fun k => hours_Change.l36_eq k _ _ _ _ _ _ _ _) (EvP.pos hlt (EvP.pos h0 (EvP.pos hlt (EvP.pos b0 (EvP.pos hbx (EvP.pos b0 (EvP.pos hbx ?_)))))))
    rw [w64 (x := i + 1) (by omega) (by omega), w64 (x := D - _) (by omega) (by omega), w64 (x := rI64 xs _ + _) (by omega) (by omega)]
    generalize hu : rY2 T i = t at *
    refine ih (i + 1) _ _ (by omega) (by omega) (by omega) (by omega) (by rw [List.length_set]; exact hx) (fun x hx' => ?_) (fun ys hyl hys => ?_)
    · rcases List.mem_or_eq_of_mem_set hx' with hx' | rfl
      · have := hxr x hx'; omega
      · omega
    · have := hk ys hyl (fun m x y hxm hym => ?_)
      · have e : D - mn (total (untag (t :: T.drop (i + 1).toNat))) D = D - mn t.2.1 D - mn (total (untag (T.drop (i + 1).toNat))) (D - mn t.2.1 D) := by
          have hnn : Nn (untag (T.drop (i + 1).toNat)) := fun p hp => by
            obtain ⟨q, hq, rfl⟩ := List.mem_map.1 hp
            exact (hm q (List.mem_of_mem_drop hq)).1.1
          have ht := total_nonneg _ hnn
          show D - mn (t.2.1 + total (untag (T.drop (i + 1).toNat))) D = _
          unfold mn; split <;> split <;> split <;> omega
        rw [e] at this
        exact this
      · show y = x + ((if t.1 = (m : Int) then mn t.2.1 D else 0) + gU (m : Int) (T.drop (i + 1).toNat) (D - mn t.2.1 D))
        by_cases hme : t.1 = (m : Int)
        · rw [if_pos hme]
          have e1 : (xs.set t.1.toNat (rI64 xs t.1 + mn t.2.1 D))[m]? = some (rI64 xs t.1 + mn t.2.1 D) := by
            rw [show t.1.toNat = m by omega, List.getElem?_set_self (by omega)]
          have := hys m _ y e1 hym
          have e2 : rI64 xs t.1 = x := by rw [hme]; exact rI64_get xs m x hxm
          rw [e2] at this
          omega
        · rw [if_neg hme]
          have e1 : (xs.set t.1.toNat (rI64 xs t.1 + mn t.2.1 D))[m]? = some x := by
            rw [List.getElem?_set_ne (by omega)]; exact hxm
          have := hys m x y e1 hym
          omega
theorem l24_loop (l : List Ofr) (plan : List Int) (mo left : Int) (i : Int) (h0 : 0 ≤ i) (hi : i < 1000) (L : Int) (s : List Pc) (hs : s.length ≤ 12) (hp : ∀ q ∈ s, 1 ≤ q.1 ∧ q.1 ≤ 100000) (top : Int) (ht : total s = top) (htop : top ≤ 100000) (c0 : Int) (zs : List Int) (R : (List Int × Int) × Int → Prop) : ∀ (n : Nat) (j at' : Int) (U : List St3), 0 ≤ j → (s.length : Int) - j = n → 0 ≤ at' → at' + total (s.drop j.toNat) = top → (U.length : Int) ≤ 12 * i + j → EvP (fun k => hours_Change.l17 k l plan mo left l L (i + 1) c0 (U ++ (s.drop j.toNat).map (fun p => (i, p.1, p.2))) zs) R → EvP (fun k => hours_Change.l24 k l plan mo left i 0 top at' l L i s (s.length : Int) j c0 U zs) R := by
  intro n
  induction n with
  | zero =>
    intro j at' U h1 h2 ha hat hU hk
    rw [drop_end (by omega)] at hk
    refine EvP.step (fun k => hours_Change.l24_eq k _ _ _ _ _ _ _ _ _ _ _ _ _ _ _ _ _) (EvP.neg (by omega) ?_)
    rw [w64 (x := i + 1) (by omega) (by omega)]
    rw [List.map_nil, List.append_nil] at hk
    exact hk
  | succ n ih =>
    intro j at' U h1 h2 ha hat hU hk
    have hlt : j < (s.length : Int) := by omega
    obtain ⟨p0, p1⟩ := hp _ (rY0_mem h1 hlt)
    rw [rY0_drop h1 hlt, total_cons] at hat
    rw [rY0_drop h1 hlt, List.map_cons] at hk
    have htn := total_nonneg (s.drop (j + 1).toNat) (fun q hq => by have := hp q (List.mem_of_mem_drop hq); omega)
    have e1 : mx at' 0 = at' := by have := mx_ge at' 0; omega
    refine EvP.step (fun k => hours_Change.l24_eq k _ _ _ _ _ _ _ _ _ _ _ _ _ _ _ _ _) (EvP.pos hlt (EvP.pos h1 (EvP.pos hlt ?_)))
    rw [w64 (x := j + 1) (by omega) (by omega), w64 (x := at' + (rY0 s j).1) (by omega) (by omega), e1, mn_of_le (a := at' + (rY0 s j).1) (b := top) (by omega), w64 (x := at' + (rY0 s j).1 - at') (by omega) (by omega)]
    refine EvP.pos (by omega) (EvP.pos (by rw [List.length_singleton]; omega) ?_)
    rw [show at' + (rY0 s j).1 - at' = (rY0 s j).1 by omega]
    refine ih (j + 1) _ _ (by omega) (by omega) (by omega) (by omega) (by rw [List.length_append, List.length_singleton]; omega) ?_
    rw [List.append_assoc]
    exact hk
theorem l17_loop (l : List Ofr) (hO : OffOk l) (hl : l.length ≤ 10) (plan : List Int) (hp : PlanOk l plan) (D : Int) (hD : 0 ≤ D) (c0 : Int) (R : (List Int × Int) × Int → Prop) (hk : EvP (fun k => (slices_SortStableFunc_hours_step.f k (tags 0 l)).bind fun r4 => hours_Change.l36 k l plan D (r4.length : Int) 0 c0 (List.replicate l.length 0) r4) R) : ∀ (n : Nat) (i : Int) (U : List St3), 0 ≤ i → (l.length : Int) - i = n → (U.length : Int) ≤ 12 * i → U ++ tags i (l.drop i.toNat) = tags 0 l → D ≤ 1000000 → EvP (fun k => hours_Change.l17 k l plan 100000 D l (l.length : Int) i c0 U (List.replicate l.length 0)) R := by
  have hpl := hp.1
  intro n
  induction n with
  | zero =>
    intro i U h0 h1 hU he hD'
    rw [drop_end (by omega)] at he
    have he : U ++ [] = tags 0 l := he
    rw [List.append_nil] at he
    subst he
    exact EvP.step (fun k => hours_Change.l17_eq k _ _ _ _ _ _ _ _ _ _) (EvP.neg (by omega) (EvP.neg (by omega) hk))
  | succ n ih =>
    intro i U h0 h1 hU he hD'
    have hlt : i < (l.length : Int) := by omega
    have hlp : i < (plan.length : Int) := by omega
    obtain ⟨hc, ho⟩ := hO _ (rY1_mem h0 hlt)
    have kp := hp.2 _ _ _ (rY1_some h0 hlt) (rI64_some h0 hlp)
    have ht := ho.top
    rw [rY1_drop h0 hlt] at he
    have he : U ++ ((rY1 l i).2.map (fun p => (i, p.1, p.2)) ++ tags (i + 1) (l.drop (i + 1).toNat)) = tags 0 l := he
    have e1 : mx 0 (rI64 plan i - 100000) = 0 := by have := mx_ge 0 (rI64 plan i - 100000); omega
    have e3 : (List.replicate l.length (0 : Int)).set i.toNat 0 = List.replicate l.length 0 := by simp
    refine EvP.step (fun k => hours_Change.l17_eq k _ _ _ _ _ _ _ _ _ _) (EvP.pos hlt (EvP.pos h0 (EvP.pos hlt (EvP.pos h0 (EvP.pos hlp (EvP.bindE (most_ev' ho) (EvP.pos h0 (EvP.pos hlp (EvP.pos h0 (EvP.pos (by rw [List.length_replicate]; omega) ?_))))))))))
    rw [w64 (x := rI64 plan i - 100000) (by omega) (by omega), w64 (x := rI64 plan i + 100000) (by omega) (by omega), e1, e3, mn_of_le (a := total (rY1 l i).2) (b := rI64 plan i + 100000) (by omega), w64 (x := D - 0) (by omega) (by omega), Int.sub_zero]
    refine l24_loop l plan 100000 D i h0 (by omega) (l.length : Int) (rY1 l i).2 ho.len ho.pw (total (rY1 l i).2) rfl ht c0 _ R (rY1 l i).2.length 0 0 U (by omega) (by omega) (by omega) ?_ (by omega) ?_
    · rw [show (0 : Int).toNat = 0 from rfl, List.drop_zero]; omega
    · rw [show (0 : Int).toNat = 0 from rfl, List.drop_zero]
      exact ih (i + 1) _ (by omega) (by omega) (by rw [List.length_append, List.length_map]; have := ho.len; omega) (by rw [List.append_assoc]; exact he) hD'
theorem tags_len : ∀ (l : List Ofr) (i : Int), OffOk l → (tags i l).length ≤ 12 * l.length
  | [], _, _ => by simp [tags]
  | o :: l, i, h => by
    have := tags_len l (i + 1) h.tail
    have := (h o (by simp)).2.len
    show (o.2.map (fun p => (i, p.1, p.2)) ++ tags (i + 1) l).length ≤ _
    rw [List.length_append, List.length_map, List.length_cons]; omega
theorem tags_mem : ∀ (l : List Ofr) (j : Int), OffOk l → ∀ t ∈ tags j l, j ≤ t.1 ∧ t.1 < j + (l.length : Int) ∧ (1 ≤ t.2.1 ∧ t.2.1 ≤ 100000)
  | [], _, _, t, ht => by cases ht
  | o :: l, j, h, t, ht => by
    have ht : t ∈ o.2.map (fun p => (j, p.1, p.2)) ++ tags (j + 1) l := ht
    rw [List.length_cons]
    rcases List.mem_append.1 ht with ht | ht
    · obtain ⟨p, hp, rfl⟩ := List.mem_map.1 ht
      exact ⟨Int.le_refl _, by show j < _; omega, (h o (by simp)).2.pw p hp⟩
    · have := tags_mem l (j + 1) h.tail t ht
      exact ⟨by omega, by omega, this.2.2⟩
theorem untag_tags : ∀ (l : List Ofr) (j : Int), untag (tags j l) = steps l
  | [], _ => rfl
  | o :: l, j => by
    show untag (o.2.map (fun p => (j, p.1, p.2)) ++ tags (j + 1) l) = o.2 ++ steps l
    have : untag (o.2.map (fun p => (j, p.1, p.2)) ++ tags (j + 1) l) = untag (o.2.map (fun p => (j, p.1, p.2))) ++ untag (tags (j + 1) l) := by unfold untag; rw [List.map_append]
    rw [this, untag_tags l (j + 1)]
    congr 1
    unfold untag
    rw [List.map_map]
    conv => rhs; rw [← List.map_id o.2]
    rfl
inductive HC (l : List Ofr) (plan : List Int) (d : Int) : (List Int × Int) × Int → Prop where
  | bad (e : Int) (he : e ≠ 0) (hn : ¬ (OffOk l ∧ l.length ≤ 10 ∧ PlanOk l plan ∧ 0 ≤ d ∧ d ≤ 1000000 ∧ d ≤ total (steps l)) ∨ ¬ Ev (fun k => offer_CheckAll.f k l) 0) : HC l plan d (([], 0), e)
  | ok (ws ys : List Int) (c : Int) (T : List St3) (hO : OffOk l) (hl : l.length ≤ 10) (hp : PlanOk l plan) (hd : 0 ≤ d ∧ d ≤ 1000000 ∧ d ≤ total (steps l)) (hT : T.Perm (tags 0 l)) (hs : (untag T).Pairwise fun x y => x.2 ≤ y.2) (hyl : ys.length = l.length) (hy : ∀ (n : Nat) x, ys[n]? = some x → x = gU (n : Int) T d) (hc : c = costSum l ys - costSum l plan) : HC l plan d ((ws, c), 0)
theorem change_main (l : List Ofr) (hO : OffOk l) (hl : l.length ≤ 10) (plan : List Int) (hp : PlanOk l plan) (d : Int) (hd : 0 ≤ d ∧ d ≤ 1000000) (c0 : Int) : EvP (fun k => hours_Change.l17 k l plan 100000 d l (l.length : Int) 0 c0 [] (List.replicate l.length 0)) (HC l plan d) := by
  refine l17_loop l hO hl plan hp d hd.1 c0 _ ?_ l.length 0 [] (by omega) (by omega) (by simp) rfl hd.2
  have htl := tags_len l 0 hO
  refine EvP.bindE (ssteps_ev (tags 0 l) (by omega)) ?_
  have hperm := Srt.ssort_perm byPrice_swo (tags 0 l)
  have hsrt := Srt.ssort_sorted byPrice_swo _ (tags 0 l) rfl
  have hTl : (Srt.ssort byPrice (tags 0 l)).length ≤ 1000 := by rw [hperm.length_eq]; omega
  have hTm : ∀ t ∈ Srt.ssort byPrice (tags 0 l), (0 ≤ t.2.1 ∧ t.2.1 ≤ 100000) ∧ 0 ≤ t.1 ∧ t.1 < (l.length : Int) := fun t ht => by
    have := tags_mem l 0 hO t (hperm.mem_iff.1 ht)
    omega
  generalize Srt.ssort byPrice (tags 0 l) = T at *
  have hs : (untag T).Pairwise fun x y => x.2 ≤ y.2 := by
    unfold untag
    rw [List.pairwise_map]
    unfold Srt.Srtd at hsrt
    refine hsrt.imp (fun {a b} h => ?_)
    unfold byPrice at h
    simpa using h
  have hpu : (untag T).Perm (steps l) := by
    rw [← untag_tags l 0]
    exact hperm.map _
  have htot : total (untag T) = total (steps l) := by rw [← lin_one, ← lin_one, lin_perm _ hpu]
  refine l36_loop l hl plan c0 T hTl hTm _ T.length 0 d (List.replicate l.length 0) (by omega) (by omega) hd.1 (by omega) (by simp) (fun x hx => by have := List.eq_of_mem_replicate hx; omega) (fun ys hyl hys => ?_)
  rw [show (0 : Int).toNat = 0 from rfl, List.drop_zero, htot]
  rw [show (0 : Int).toNat = 0 from rfl, List.drop_zero] at hys
  have hm := mn_le (total (steps l)) d
  refine EvP.ite (fun hc => EvP.ret (.bad 8 (by decide) (Or.inl (fun h => by have := h.2.2.2; omega)))) (fun hc => EvP.pos (by omega) (EvP.pos (by omega) (EvP.pos (by omega) ?_)))
  have hy : ∀ (n : Nat) x, ys[n]? = some x → x = gU (n : Int) T d := fun n x hn => by
    have hlt := (List.getElem?_eq_some_iff.1 hn).1
    have := hys n 0 x (by rw [List.getElem?_replicate, if_pos (by omega)]) hn
    omega
  have hyp : PlanOk l ys := ⟨hyl, fun n o x ho hx => by
    have e := hy n x hx
    have hr := gU_rng (n : Int) T d (fun t ht => (hTm t ht).1.1) hd.1
    rw [linU_perm _ _ hperm] at hr
    have := linU_tags (fun _ => 1) l 0 n o ho
    rw [Int.zero_add] at this
    rw [this, lin_one, ← e] at hr
    exact hr⟩
  have := l45_loop l hO hl plan ys hp hyp [] c0 l.length 0 0 (List.replicate (l.length : Int).toNat 0) (by omega) (by omega) (by simp) (by omega) (by omega)
  refine this.mono (fun r hr => ?_)
  rw [show (0 : Int).toNat = 0 from rfl, List.drop_zero, List.drop_zero, List.drop_zero, Int.zero_add] at hr
  obtain ⟨⟨ws, c⟩, e⟩ := r
  obtain ⟨r1, r2⟩ := hr
  have r1 : e = 0 := r1
  have r2 : c = costSum l ys - costSum l plan := r2
  subst r1
  exact .ok ws ys c T hO hl hp ⟨hd.1, hd.2, by omega⟩ hperm hs hyl hy r2
theorem l7_loop (l : List Ofr) (hO : OffOk l) (hl : l.length ≤ 10) (plan : List Int) (hpl : plan.length = l.length) (d : Int) (c0 : Int) : ∀ (n : Nat) (i : Int), 0 ≤ i → (l.length : Int) - i = n → (∀ (m : Nat) o p, (m : Int) < i → l[m]? = some o → plan[m]? = some p → 0 ≤ p ∧ p ≤ total o.2) → EvP (fun k => hours_Change.l7 k l plan d 100000 l (l.length : Int) i c0) (HC l plan d) := by
  intro n
  induction n with
  | zero =>
    intro i h0 h1 hm
    have hp : PlanOk l plan := ⟨hpl, fun m o p ho hp => hm m o p (by have := (List.getElem?_eq_some_iff.1 ho).1; omega) ho hp⟩
    refine EvP.step (fun k => hours_Change.l7_eq k _ _ _ _ _ _ _ _) (EvP.neg (by omega) ?_)
    refine EvP.ite (fun c => EvP.ret (.bad 1 (by decide) (Or.inl (fun h => by have := h.2.2.2; omega)))) (fun c1 => ?_)
    refine EvP.ite (fun c => EvP.ret (.bad 1 (by decide) (Or.inl (fun h => by have := h.2.2.2; omega)))) (fun c2 => ?_)
    refine EvP.neg (by omega) (EvP.neg (by omega) (EvP.pos (by omega) (EvP.pos (by omega) (EvP.pos (by omega) ?_))))
    rw [show (l.length : Int).toNat = l.length by omega]
    exact change_main l hO hl plan hp d (by omega) c0
  | succ n ih =>
    intro i h0 h1 hm
    have hlt : i < (l.length : Int) := by omega
    have hlp : i < (plan.length : Int) := by omega
    obtain ⟨hc, ho⟩ := hO _ (rY1_mem h0 hlt)
    refine EvP.step (fun k => hours_Change.l7_eq k _ _ _ _ _ _ _ _) (EvP.pos hlt (EvP.pos h0 (EvP.pos hlt (EvP.pos h0 (EvP.pos hlp ?_)))))
    refine EvP.ite (fun c => EvP.ret (.bad 4 (by decide) (Or.inl (fun h => by have := h.2.2.1.2 _ _ _ (rY1_some h0 hlt) (rI64_some h0 hlp); omega)))) (fun c1 => EvP.pos h0 (EvP.pos hlp (EvP.bindE (most_ev' ho) ?_)))
    refine EvP.ite (fun c => EvP.ret (.bad 4 (by decide) (Or.inl (fun h => by have := h.2.2.1.2 _ _ _ (rY1_some h0 hlt) (rI64_some h0 hlp); omega)))) (fun c2 => ?_)
    rw [w64 (x := i + 1) (by omega) (by omega)]
    refine ih (i + 1) (by omega) (by omega) (fun m o p hmi ho' hp' => ?_)
    by_cases hmi' : (m : Int) < i
    · exact hm m o p hmi' ho' hp'
    · have : m = i.toNat := by omega
      subst this
      rw [rY1_some h0 hlt] at ho'
      rw [rI64_some h0 hlp] at hp'
      cases ho'
      cases hp'
      omega
theorem dcost_loop (l : List Ofr) (hO : OffOk l) (hl : l.length ≤ 10) (xs : List Int) (hx : xs.length = l.length) : ∀ (n : Nat) (i v s : Int), 0 ≤ i → (l.length : Int) - i = n → -(1200000000000 * i) ≤ v → v ≤ 1200000000000 * i → 0 ≤ s → s ≤ 100000 * i → EvP (fun k => dispatch_Cost.l8 k xs v s l (l.length : Int) i) (fun r => (r.2.2 = 0 ↔ ∀ (m : Nat) o p, i ≤ (m : Int) → l[m]? = some o → xs[m]? = some p → 0 ≤ p ∧ p ≤ total o.2) ∧ (r.2.2 = 0 → r.1 = v + costSum (l.drop i.toNat) (xs.drop i.toNat))) := by
  intro n
  induction n with
  | zero =>
    intro i v s h0 h1 v0 v1 s0 s1
    rw [drop_end (xs := l) (by omega)]
    refine EvP.step (fun k => dispatch_Cost.l8_eq k _ _ _ _ _ _) (EvP.neg (by omega) (EvP.ret ⟨⟨fun _ m o p hm ho => ?_, fun _ => rfl⟩, fun _ => ?_⟩))
    · have := (List.getElem?_eq_some_iff.1 ho).1; omega
    · show v = v + 0
      omega
  | succ n ih =>
    intro i v s h0 h1 v0 v1 s0 s1
    have hlt : i < (l.length : Int) := by omega
    have hlx : i < (xs.length : Int) := by omega
    obtain ⟨hc, ho⟩ := hO _ (rY1_mem h0 hlt)
    have ht := ho.top
    have c1 := cost_ev' hc ho (rI64 xs i)
    rw [rY1_drop h0 hlt, rI64_drop h0 hlx]
    refine EvP.step (fun k => dispatch_Cost.l8_eq k _ _ _ _ _ _) (EvP.pos hlt (EvP.pos h0 (EvP.pos hlt (EvP.pos h0 (EvP.pos hlx (EvP.bindE c1 ?_))))))
    by_cases hh : 0 ≤ rI64 xs i ∧ rI64 xs i ≤ total (rY1 l i).2
    · have hr := ho.cost_rng hh.1
      rw [if_pos hh]
      refine EvP.pos rfl (EvP.pos h0 (EvP.pos hlx ?_))
      show EvP (fun k => dispatch_Cost.l8 k xs (wrap64 (v + vAt (rY1 l i).2 (rI64 xs i))) (wrap64 (s + rI64 xs i)) l (l.length : Int) (wrap64 (i + 1))) _
      rw [w64 (x := v + _) (by omega) (by omega), w64 (x := s + _) (by omega) (by omega), w64 (x := i + 1) (by omega) (by omega)]
      refine (ih (i + 1) _ _ (by omega) (by omega) (by omega) (by omega) (by omega) (by omega)).mono (fun r hr => ⟨hr.1.trans ⟨fun h m o p hm ho' hp' => ?_, fun h m o p hm => h m o p (by omega)⟩, fun hz => ?_⟩)
      · by_cases hmi : i + 1 ≤ (m : Int)
        · exact h m o p hmi ho' hp'
        · have : m = i.toNat := by omega
          subst this
          rw [rY1_some h0 hlt] at ho'
          rw [rI64_some h0 hlx] at hp'
          cases ho'
          cases hp'
          exact hh
      · rw [hr.2 hz]
        show v + vAt (rY1 l i).2 (rI64 xs i) + costSum (l.drop (i + 1).toNat) (xs.drop (i + 1).toNat) = v + ((if 0 ≤ rI64 xs i ∧ rI64 xs i ≤ total (rY1 l i).2 then vAt (rY1 l i).2 (rI64 xs i) else 0) + costSum (l.drop (i + 1).toNat) (xs.drop (i + 1).toNat))
        rw [if_pos hh]; omega
    · rw [if_neg hh]
      refine EvP.neg (by decide) (EvP.ret ⟨⟨fun h => absurd h (by decide), fun h => absurd (h _ _ _ (by omega) (rY1_some h0 hlt) (rI64_some h0 hlx)) hh⟩, fun h => absurd h (by decide)⟩)
theorem Pure.HoursFree : HoursFree.Pure := by
  intro l plan d h0 h1 h2
  have hn : NamedO l := fun o ho => (h0.2 o ho).1
  apply EvP.rounds
  unfold gridhallkeep3_HoursFree.f
  refine EvP.bindE (a := (ByteArray.mk #[65], [(10, 5), (10, 8)])) (Ev.now _) (EvP.bindE (a := (ByteArray.mk #[66], [(10, 5), (10, 8)])) (Ev.now _) ?_)
  obtain ⟨⟨⟨w1, c1⟩, e1⟩, hE1, hc1⟩ : ∃ r, Ev (fun k => hours_Change.f k [(ByteArray.mk #[65], [(10, 5), (10, 8)]), (ByteArray.mk #[66], [(10, 5), (10, 8)])] [10, 10] 22 2) r ∧ r.2 = 0 ∧ r.1.2 = 16 := ⟨(([2, 0], 16), 0), Ev.far 100 (fun k => by kernel_rfl), rfl, rfl⟩
  refine EvP.bindE hE1 (EvP.pos hc1.1 (EvP.pos hc1.2 (EvP.bindE (a := (ByteArray.mk #[65], [(10, 5), (10, 8)])) (Ev.now _) (EvP.bindE (a := ([12], 66, 0)) (Ev.far 100 (fun k => by kernel_rfl)) (EvP.pos rfl (EvP.pos rfl ?_))))))
  obtain ⟨ea, hea, hea'⟩ := all_ev l hn
  -- Change
  have hchange : EvP (fun k => hours_Change.f k l plan d 100000) (fun r => HC l plan d r ∧ (r.2 = 0 → Ev (fun k => offer_CheckAll.f k l) 0)) := by
    unfold hours_Change.f
    refine EvP.bindE hea (EvP.ite (fun hz => ?_) (fun hz => EvP.ret ⟨.bad ea hz (Or.inr (fun h => hz (Ev.det hea h))), fun h => absurd h hz⟩))
    obtain ⟨hO, hl⟩ := hea'.1 hz
    refine EvP.ite (fun hpl => ?_) (fun hpl => EvP.ret ⟨.bad 3 (by decide) (Or.inl (fun h => hpl (by have := h.2.2.1.1; omega))), fun h => absurd h (by show ¬ (3 : Int) = 0; decide)⟩)
    exact (l7_loop l hO hl plan (by omega) d 0 l.length 0 (by omega) (by omega) (fun m o p hm => by omega)).mono (fun r hr => ⟨hr, fun _ => by rw [hz] at hea; exact hea⟩)
  have hcost : EvP (fun k => dispatch_Cost.f k l plan) (fun r => (r.2.2 = 0 → Ev (fun k => offer_CheckAll.f k l) 0 ∧ OffOk l ∧ l.length ≤ 10 ∧ PlanOk l plan) ∧ (Ev (fun k => offer_CheckAll.f k l) 0 → PlanOk l plan → r.2.2 = 0 ∧ r.1 = costSum l plan)) := by
    unfold dispatch_Cost.f
    refine EvP.bindE hea (EvP.ite (fun hz => ?_) (fun hz => EvP.ret ⟨fun h => absurd h hz, fun h => absurd (Ev.det hea h) hz⟩))
    obtain ⟨hO, hl⟩ := hea'.1 hz
    refine EvP.ite (fun hpl => ?_) (fun hpl => EvP.ret ⟨fun h => absurd h (by show ¬ (3 : Int) = 0; decide), fun _ h => absurd (by have := h.1; omega) hpl⟩)
    refine (dcost_loop l hO hl plan (by omega) l.length 0 0 0 (by omega) (by omega) (by omega) (by omega) (by omega) (by omega)).mono (fun r hr => ⟨fun h => ⟨by rw [hz] at hea; exact hea, hO, hl, by omega, fun m o p ho hp => hr.1.1 h m o p (by omega) ho hp⟩, fun _ hp => ?_⟩)
    have h0 := hr.1.2 (fun m o p _ ho hp' => hp.2 m o p ho hp')
    refine ⟨h0, ?_⟩
    have := hr.2 h0
    rw [show (0 : Int).toNat = 0 from rfl, List.drop_zero, List.drop_zero, Int.zero_add] at this
    exact this
  refine EvP.bind hchange (fun r hr' => EvP.bind hcost (fun c hc => EvP.bind (best_ev' l hn d) (fun b hb => ?_)))
  obtain ⟨hr, hr2⟩ := hr'
  cases hr with
  | bad e he hno =>
    refine EvP.neg he (EvP.pos rfl (EvP.ite (fun hz => EvP.ret ?_) (fun _ => EvP.ret rfl)))
    obtain ⟨g1, g2, g3, g4⟩ := hc.1 hz
    have hbz : ¬ b.2.2 = 0 := fun hbz => by
      cases hb with
      | bad _ he' _ _ => exact he' hbz
      | ok p xs hO hl hd _ _ _ =>
        rcases hno with hno | hno
        · exact hno ⟨hO, hl, g4, hd⟩
        · exact hno g1
    simp [hbz]
  | ok ws ys cc T hO hl hp hd hT hs hyl hy hcc =>
    have hca := hr2 rfl
    obtain ⟨c1, c2⟩ := hc.2 hca hp
    refine EvP.pos rfl ?_
    cases hb with
    | bad e' he' hck _ => exact absurd (Ev.det hck (dcheck_yes hca hO hl hd)) he'
    | ok p xs _ _ _ h1 h2 hx =>
      have key := greedy_best hO hT hs hd.1 hd.2.2 h1 h2 hyl hy
      have rg := costSum_rng l ys hO
      have rg2 := costSum_rng l plan hO
      refine EvP.bindE (fine_ev [c.2.2, 0] (by simp)) (EvP.pos (by simp [c1]) (EvP.ret (decide_eq_true ?_)))
      rw [c2]
      show wrap64 (costSum l plan + cc) = _
      rw [hcc, w64 (by omega) (by omega), ← key]
      show _ = costSum l ys
      omega
end Go.Proofs.Ytodagcbcdkfniaa.VE
