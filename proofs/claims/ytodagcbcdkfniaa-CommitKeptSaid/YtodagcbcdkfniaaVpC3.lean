import Derived.Test.YtodagcbcdkfniaaVpC2
namespace Go.Proofs.Ytodagcbcdkfniaa.VE
open Go Go.RowKit
set_option linter.unusedVariables false
attribute [local irreducible] wrap64
def commit_pieceSrt : Srt.NSys (Ty.T Y1) (Unit) (List (Ty.T Y1)) (Int) where
  z := Ty.dflt Y1
  fst := fun r => r
  snd := fun _ => ()
  pk := fun x _ => x
  cf := fun r => r
  cs := fun _ => ()
  cmp := fun k a b s => commit_serve_1.f k a b 
  il1 := fun k y0 y1 y2 xs s => slices_insertionSortCmpFunc_commit_piece.l1 k y0 y1 y2 xs 
  il4 := fun k y0 y1 y2 y3 xs s => slices_insertionSortCmpFunc_commit_piece.l4 k y0 y1 y2 y3 xs 
  wl1 := fun k y0 y1 y2 y3 xs s => slices_swapRangeCmpFunc_commit_piece.l1 k y0 y1 y2 y3 xs 
  rl2 := fun k y0 y1 y2 xs s => slices_rotateCmpFunc_commit_piece.l2 k y0 y1 y2 xs 
  ml9 := fun k y0 y1 xs s => slices_symMergeCmpFunc_commit_piece.l9 k y0 y1 xs 
  ml3 := fun k y0 y1 y2 xs s => slices_symMergeCmpFunc_commit_piece.l3 k y0 y1 y2 xs 
  ml21 := fun k y0 y1 xs s => slices_symMergeCmpFunc_commit_piece.l21 k y0 y1 xs 
  ml15 := fun k y0 y1 y2 xs s => slices_symMergeCmpFunc_commit_piece.l15 k y0 y1 y2 xs 
  mf := fun k y0 y1 y2 xs s => slices_symMergeCmpFunc_commit_piece.f k y0 y1 y2 xs 
  ml32 := fun k y0 y1 y2 y3 y4 y5 y6 xs s => slices_symMergeCmpFunc_commit_piece.l32 k y0 y1 y2 y3 y4 y5 y6 xs 
  ml33 := fun k y0 y1 y2 y3 y4 y5 y6 y7 xs s => slices_symMergeCmpFunc_commit_piece.l33 k y0 y1 y2 y3 y4 y5 y6 y7 xs 
  ml41 := fun k y0 y1 y2 y3 y4 xs s => slices_symMergeCmpFunc_commit_piece.l41 k y0 y1 y2 y3 y4 xs 
  sl7 := fun k y0 y1 xs s => slices_stableCmpFunc_commit_piece.l7 k y0 y1 xs 
  sl9 := fun k y0 y1 y2 y3 xs s => slices_stableCmpFunc_commit_piece.l9 k y0 y1 y2 y3 xs 
  sl2 := fun k y0 y1 y2 y3 xs s => slices_stableCmpFunc_commit_piece.l2 k y0 y1 y2 y3 xs 
theorem commit_pieceSrt_eqs : Srt.NEqs commit_pieceSrt where
  e1 := fun _ _ => rfl
  e2 := fun _ _ => rfl
  i1z := fun _ _ _ _ _ => rfl
  i4z := fun _ _ _ _ _ _ => rfl
  w1z := fun _ _ _ _ _ _ => rfl
  r2z := fun _ _ _ _ _ => rfl
  m9z := fun _ _ _ _ => rfl
  m3z := fun _ _ _ _ _ => rfl
  m21z := fun _ _ _ _ => rfl
  m15z := fun _ _ _ _ _ => rfl
  mfz := fun _ _ _ _ _ => rfl
  m32z := fun _ _ _ _ _ _ _ _ _ => rfl
  m33z := fun _ _ _ _ _ _ _ _ _ _ => rfl
  m41z := fun _ _ _ _ _ _ _ => rfl
  s7z := fun _ _ _ _ => rfl
  s9z := fun _ _ _ _ _ _ => rfl
  s2z := fun _ _ _ _ _ _ => rfl
  il1 := fun _ _ _ _ _ _ => rfl
  il4 := fun _ _ _ _ _ _ _ => rfl
  wl1 := fun _ _ _ _ _ _ _ => rfl
  rl2 := fun _ _ _ _ _ _ => rfl
  ml9 := fun _ _ _ _ _ => rfl
  ml3 := fun _ _ _ _ _ _ => rfl
  ml21 := fun _ _ _ _ _ => rfl
  ml15 := fun _ _ _ _ _ _ => rfl
  mf := fun _ _ _ _ _ _ => rfl
  ml32 := fun _ _ _ _ _ _ _ _ _ _ => rfl
  ml33 := fun _ _ _ _ _ _ _ _ _ _ _ => rfl
  ml41 := fun _ _ _ _ _ _ _ _ => rfl
  sl7 := fun _ _ _ _ _ => rfl
  sl9 := fun _ _ _ _ _ _ _ => rfl
  sl2 := fun _ _ _ _ _ _ _ => rfl
/-! ### package commit: serve (no statement is proved here) -/
theorem compare_ev2 (p q : Int) : ∃ c, Ev (fun k => cmp_Compare_int.f k p q) c ∧ (c < 0 ↔ p < q) ∧ (c = 0 ↔ p = q) := by
  have hn : ∀ (x : Int), Ev (fun k => cmp_isNaN_int.f k x) false := fun x => by
    unfold cmp_isNaN_int.f
    rw [show (!decide (x = x)) = false by simp]
    exact Ev.now _
  unfold cmp_Compare_int.f
  by_cases h1 : p < q
  · exact ⟨-1, Ev.bind (hn p) (Ev.bind (hn q) (Ev.neg (by simp) (Ev.neg (by simp) (Ev.pos h1 (Ev.now _))))), by omega, by omega⟩
  · by_cases h2 : q < p
    · exact ⟨1, Ev.bind (hn p) (Ev.bind (hn q) (Ev.neg (by simp) (Ev.neg (by simp) (Ev.neg h1 (Ev.pos h2 (Ev.now _)))))), by omega, by omega⟩
    · exact ⟨0, Ev.bind (hn p) (Ev.bind (hn q) (Ev.neg (by simp) (Ev.neg (by simp) (Ev.neg h1 (Ev.neg h2 (Ev.now _)))))), by omega, by omega⟩
def byPU (x y : St3) : Bool := decide (x.2.2 < y.2.2 ∨ x.2.2 = y.2.2 ∧ x.1 < y.1)
theorem byPU_swo : Srt.SWO byPU := Srt.swo_key2 (fun x : St3 => x.2.2) (fun x : St3 => x.1)
theorem or_ev (a b : Int) : Ev (fun k => cmp_Or_int.f k [a, b]) (if a = 0 then b else a) := by
  unfold cmp_Or_int.f
  have r0 : rI64 [a, b] 0 = a := rfl
  have r1 : rI64 [a, b] 1 = b := rfl
  have l2 : (([a, b] : List Int).length : Int) = 2 := rfl
  rw [l2]
  refine Ev.step (fun k => cmp_Or_int.l3_eq k _ _ _ _) (Ev.pos (by omega) (Ev.pos (by omega) (Ev.pos (by rw [l2]; omega) ?_)))
  rw [r0]
  refine Ev.ite (fun h => ?_) (fun h => ?_)
  · rw [if_pos h, w64 (x := 0 + 1) (by omega) (by omega)]
    refine Ev.step (fun k => cmp_Or_int.l3_eq k _ _ _ _) (Ev.pos (by omega) (Ev.pos (by omega) (Ev.pos (by rw [l2]; omega) ?_)))
    rw [show (0 : Int) + 1 = 1 from rfl, r1]
    refine Ev.ite (fun h2 => ?_) (fun _ => Ev.now _)
    rw [w64 (x := 1 + 1) (by omega) (by omega), h2]
    exact Ev.step (fun k => cmp_Or_int.l3_eq k _ _ _ _) (Ev.neg (by omega) (Ev.now _))
  · rw [if_neg h]
    exact Ev.now _
theorem pieces_cmp : Srt.Cmp (commit_pieceSrt.at ()) byPU (fun _ => True) := by
  intro x y _ _
  obtain ⟨c, h1, i1, z1⟩ := compare_ev2 x.2.2 y.2.2
  obtain ⟨c', h2, i2, z2⟩ := compare_ev2 x.1 y.1
  have h3 : Ev (fun k => commit_serve_1.f k x y) (if c = 0 then c' else c) := by
    unfold commit_serve_1.f
    exact Ev.bind h1 (Ev.bind h2 (Ev.bind (or_ev c c') (Ev.now _)))
  have h4 : Ev (fun k => (commit_serve_1.f k x y).map (fun r => r)) (if c = 0 then c' else c) := by
    obtain ⟨K, hK⟩ := h3
    refine ⟨K, fun k hk => ?_⟩
    have : commit_serve_1.f k x y = some (if c = 0 then c' else c) := hK k hk
    show (commit_serve_1.f k x y).map (fun r => r) = _
    rw [this]; rfl
  refine ⟨if c = 0 then c' else c, h4, ?_⟩
  unfold byPU
  rw [decide_eq_true_iff]
  split <;> omega
theorem spieces_ev (l : List St3) (hl : l.length ≤ 1000000) : Ev (fun k => slices_SortStableFunc_commit_piece.f k l) (Srt.ssort byPU l) := by
  have := Srt.nstable (N := commit_pieceSrt) (s := ()) commit_pieceSrt_eqs (fun _ _ _ _ _ => rfl) (fun r => rfl) byPU_swo pieces_cmp l (fun _ _ => trivial) (by omega)
  unfold slices_SortStableFunc_commit_piece.f slices_stableCmpFunc_commit_piece.f
  exact Ev.bind this (Ev.now _)
theorem spieces_sorted (l : List St3) : Sorted (untag (Srt.ssort byPU l)) := by
  have h := Srt.ssort_sorted byPU_swo l.length l rfl
  unfold Sorted untag
  rw [List.pairwise_map]
  refine List.Pairwise.imp ?_ h
  intro x y hxy
  have hxy : byPU y x = false := hxy
  unfold byPU at hxy
  rw [decide_eq_false_iff_not] at hxy
  show x.2.2 ≤ y.2.2
  omega
/-- The powers at first. -/
def bases : List Un → List Bool → List Int
  | u :: l, b :: on => (if b = true then u.1.2.1 else -1) :: bases l on
  | _, _ => []
theorem bases_len : ∀ (l : List Un) (on : List Bool), on.length = l.length → (bases l on).length = l.length
  | [], [], _ => rfl
  | u :: l, b :: on, h => by
    show (bases l on).length + 1 = l.length + 1
    rw [bases_len l on (by simpa using h)]
  | [], _ :: _, h => by simp at h
  | _ :: _, [], h => by simp at h
theorem rests_len : ∀ (l : List Un) (on : List Bool), on.length = l.length → (rests l on).length = l.length
  | [], [], _ => rfl
  | u :: l, b :: on, h => by
    show (rests l on).length + 1 = l.length + 1
    rw [rests_len l on (by simpa using h)]
  | [], _ :: _, h => by simp at h
  | _ :: _, [], h => by simp at h
theorem backs_of : ∀ (l : List Un) (on : List Bool) (zs ys : List Int), on.length = l.length → zs.length = l.length → FitR (rests l on) ys → (∀ (m : Nat) x b y, zs[m]? = some x → (bases l on)[m]? = some b → ys[m]? = some y → x = b + y) → zs = backs l on ys
  | [], [], [], [], _, _, _, _ => rfl
  | u :: l, b :: on, z :: zs, y :: ys, h1, h2, h3, h4 => by
    have ih := backs_of l on zs ys (by simpa using h1) (by simpa using h2) h3.2 (fun m x c y a1 a2 a3 => h4 (m + 1) x c y (by simpa using a1) (by simpa [bases] using a2) (by simpa using a3))
    have e := h4 0 z _ y rfl rfl rfl
    have hy := h3.1
    show z :: zs = (if b = true then u.1.2.1 + y else -1) :: backs l on ys
    rw [← ih, e]
    cases b with
    | true => rfl
    | false =>
      rw [if_neg (by simp), total_nil] at hy
      obtain rfl : y = 0 := by omega
      rfl
  | [], _ :: _, _, _, h, _, _, _ => by simp at h
  | _ :: _, [], _, _, h, _, _, _ => by simp at h
  | [], [], _ :: _, _, _, h, _, _ => by simp at h
  | _ :: _, _ :: _, [], _, _, h, _, _ => by simp at h
  | [], [], [], _ :: _, _, _, h, _ => h.elim
  | _ :: _, _ :: _, _ :: _, [], _, _, h, _ => h.elim
abbrev SvR := List Int × Int × Bool
theorem serve_l13 (l : List Un) (on : List Bool) (left i L : Int) (h0 : 0 ≤ i) (hi : i < 1000) (s : List Pc) (hs : s.length ≤ 12) (hp : ∀ q ∈ s, 1 ≤ q.1 ∧ q.1 ≤ 100000) (out : List Int) (R : SvR → Prop) : ∀ (n : Nat) (j skip : Int) (U : List St3), 0 ≤ j → (s.length : Int) - j = n → 0 ≤ skip → skip ≤ 100000 → (U.length : Int) ≤ 12 * i + j → EvP (fun k => commit_serve.l5 k l on left l L (i + 1) out (U ++ (restP skip (s.drop j.toNat)).map (fun p => (i, p.1, p.2)))) R → EvP (fun k => commit_serve.l13 k l on left i skip l L i s (s.length : Int) j out U) R := by
  intro n
  induction n with
  | zero =>
    intro j skip U h1 h2 h3 h4 h5 hk
    rw [drop_end (by omega)] at hk
    refine EvP.step (fun k => commit_serve.l13_eq k _ _ _ _ _ _ _ _ _ _ _ _ _) (EvP.neg (by omega) ?_)
    rw [w64 (x := i + 1) (by omega) (by omega)]
    rw [show restP skip [] = [] from rfl, List.map_nil, List.append_nil] at hk
    exact hk
  | succ n ih =>
    intro j skip U h1 h2 h3 h4 h5 hk
    have hlt : j < (s.length : Int) := by omega
    obtain ⟨p0, p1⟩ := hp _ (rY0_mem h1 hlt)
    rw [rY0_drop h1 hlt] at hk
    generalize hq : rY0 s j = q at *
    have hm := mn_le skip q.1
    refine EvP.step (fun k => commit_serve.l13_eq k _ _ _ _ _ _ _ _ _ _ _ _ _) (EvP.pos hlt (EvP.pos h1 (EvP.pos hlt ?_)))
    rw [hq, w64 (x := j + 1) (by omega) (by omega), w64 (x := skip - mn skip q.1) (by omega) (by omega), w64 (x := q.1 - mn skip q.1) (by omega) (by omega)]
    unfold restP at hk
    refine EvP.ite (fun c => ?_) (fun c => ?_)
    · rw [if_pos c, List.map_cons] at hk
      refine EvP.pos (by rw [List.length_singleton]; omega) ?_
      refine ih (j + 1) _ _ (by omega) (by omega) (by omega) (by omega) (by rw [List.length_append, List.length_singleton]; omega) ?_
      rw [List.append_assoc]
      exact hk
    · rw [if_neg c] at hk
      exact ih (j + 1) _ _ (by omega) (by omega) (by omega) (by omega) (by omega) hk
theorem serve_l5 (l : List Un) (hU : UnitsOk l) (hl : l.length ≤ 3) (on : List Bool) (hon : on.length = l.length) (R : SvR → Prop) : ∀ (n : Nat) (i left : Int) (out : List Int) (U : List St3), 0 ≤ i → (l.length : Int) - i = n → -(100000 * i) ≤ left → left ≤ 1000000 → out.length = l.length → (U.length : Int) ≤ 12 * i → EvP (fun k => if left - leastSum (l.drop i.toNat) (on.drop i.toNat) < 0 then some ([], 0, false) else (slices_SortStableFunc_commit_piece.f k (U ++ tags i (rests (l.drop i.toNat) (on.drop i.toNat)))).bind fun r1 => commit_serve.l25 k l (left - leastSum (l.drop i.toNat) (on.drop i.toNat)) (r1.length : Int) 0 (out.take i.toNat ++ bases (l.drop i.toNat) (on.drop i.toNat)) r1) R → EvP (fun k => commit_serve.l5 k l on left l (l.length : Int) i out U) R := by
  intro n
  induction n with
  | zero =>
    intro i left out U h0 h1 a0 a1 ho hU' hk
    rw [drop_end (xs := l) (by omega), drop_end (xs := on) (by omega)] at hk
    have e1 : leastSum [] [] = 0 := rfl
    have e2 : tags i (rests [] []) = [] := rfl
    have e3 : bases [] [] = [] := rfl
    rw [e1, e2, e3, Int.sub_zero, List.append_nil, List.append_nil, List.take_of_length_le (by omega)] at hk
    exact EvP.step (fun k => commit_serve.l5_eq k _ _ _ _ _ _ _ _) (EvP.neg (by omega) hk)
  | succ n ih =>
    intro i left out U h0 h1 a0 a1 ho hU' hk
    have hlt : i < (l.length : Int) := by omega
    have hlo : i < (on.length : Int) := by omega
    have hlx : i < (out.length : Int) := by omega
    have hu := hU _ (rY10_mem h0 hlt)
    rw [rY10_drop h0 hlt, rBool_drop h0 hlo] at hk
    have l0 := hu.rule.le0; have l1 := hu.rule.le1; have l2 := hu.rule.mo
    have hsl := hu.oo.len
    have hpw := hu.oo.pw
    have tk : ∀ v : Int, ((out.set i.toNat v)).take (i + 1).toNat = out.take i.toNat ++ [v] := fun v => by
      have hil : i.toNat < (out.set i.toNat v).length := by rw [List.length_set]; omega
      rw [show (i + 1).toNat = i.toNat + 1 by omega, List.take_succ_eq_append_getElem hil, List.getElem_set_self, List.take_set_of_le (Nat.le_refl _)]
    refine EvP.step (fun k => commit_serve.l5_eq k _ _ _ _ _ _ _ _) (EvP.pos hlt (EvP.pos h0 (EvP.pos hlt (EvP.pos h0 (EvP.pos hlx (EvP.pos h0 (EvP.pos hlo ?_)))))))
    generalize rY10 l i = u at *
    generalize rBool on i = b at *
    refine EvP.ite (fun hb => ?_) (fun hb => ?_)
    · subst hb
      refine EvP.pos h0 (EvP.pos (by rw [List.length_set]; exact hlx) ?_)
      rw [List.set_set, w64 (x := left - _) (by omega) (by omega)]
      have e1 : leastSum (u :: l.drop (i + 1).toNat) (true :: on.drop (i + 1).toNat) = u.1.2.1 + leastSum (l.drop (i + 1).toNat) (on.drop (i + 1).toNat) := rfl
      have e2 : tags i (rests (u :: l.drop (i + 1).toNat) (true :: on.drop (i + 1).toNat)) = (restP u.1.2.1 u.2.1.2).map (fun p => (i, p.1, p.2)) ++ tags (i + 1) (rests (l.drop (i + 1).toNat) (on.drop (i + 1).toNat)) := rfl
      have e3 : bases (u :: l.drop (i + 1).toNat) (true :: on.drop (i + 1).toNat) = u.1.2.1 :: bases (l.drop (i + 1).toNat) (on.drop (i + 1).toNat) := rfl
      rw [e1, e2, e3] at hk
      have hrl := restP_len u.2.1.2 u.1.2.1
      refine serve_l13 l on _ i _ h0 (by omega) u.2.1.2 hsl hpw _ R u.2.1.2.length 0 u.1.2.1 U (by omega) (by omega) l0 (by omega) (by omega) ?_
      rw [show (0 : Int).toNat = 0 from rfl, List.drop_zero]
      refine ih (i + 1) _ _ _ (by omega) (by omega) (by omega) (by omega) (by rw [List.length_set]; exact ho) (by rw [List.length_append, List.length_map]; omega) ?_
      rw [tk, Int.sub_sub, List.append_assoc, List.append_assoc, List.singleton_append]
      exact hk
    · have hb : b = false := by cases b; rfl; exact absurd rfl hb
      subst hb
      rw [w64 (x := i + 1) (by omega) (by omega)]
      have e1 : leastSum (u :: l.drop (i + 1).toNat) (false :: on.drop (i + 1).toNat) = 0 + leastSum (l.drop (i + 1).toNat) (on.drop (i + 1).toNat) := rfl
      have e2 : tags i (rests (u :: l.drop (i + 1).toNat) (false :: on.drop (i + 1).toNat)) = tags (i + 1) (rests (l.drop (i + 1).toNat) (on.drop (i + 1).toNat)) := rfl
      have e3 : bases (u :: l.drop (i + 1).toNat) (false :: on.drop (i + 1).toNat) = -1 :: bases (l.drop (i + 1).toNat) (on.drop (i + 1).toNat) := rfl
      rw [e1, e2, e3, Int.zero_add] at hk
      refine ih (i + 1) _ _ _ (by omega) (by omega) (by omega) (by omega) (by rw [List.length_set]; exact ho) (by omega) ?_
      rw [tk, List.append_assoc, List.singleton_append]
      exact hk
/-- The greedy loop. -/
theorem serve_l25 (l : List Un) (hl : l.length ≤ 3) (T : List St3) (hT : T.length ≤ 1000) (hm : ∀ t ∈ T, (0 ≤ t.2.1 ∧ t.2.1 ≤ 100000) ∧ 0 ≤ t.1 ∧ t.1 < (l.length : Int)) (R : SvR → Prop) : ∀ (n : Nat) (i D : Int) (xs : List Int), 0 ≤ i → (T.length : Int) - i = n → 0 ≤ D → D ≤ 1000000000 → xs.length = l.length → (∀ x ∈ xs, -1 ≤ x ∧ x ≤ 100000 * (i + 1)) → (∀ ys : List Int, ys.length = l.length → (∀ (m : Nat) x y, xs[m]? = some x → ys[m]? = some y → y = x + gU (m : Int) (T.drop i.toNat) D) → EvP (fun k => if 0 < D - mn (total (untag (T.drop i.toNat))) D then some ([], 0, false) else commit_serve.l34 k 0 l (l.length : Int) 0 ys) R) → EvP (fun k => commit_serve.l25 k l D (T.length : Int) i xs T) R := by
  intro n
  induction n with
  | zero =>
    intro i D xs h0 h1 d0 d1 hx hxr hk
    have := hk xs hx (fun m x y a b => by
      rw [a] at b; cases b
      rw [drop_end (by omega)]
      show x = x + 0
      omega)
    rw [drop_end (by omega)] at this
    have e : D - mn (total (untag [])) D = D := by
      show D - mn 0 D = D
      rw [mn_of_le d0]; omega
    rw [e] at this
    exact EvP.step (fun k => commit_serve.l25_eq k _ _ _ _ _ _) (EvP.neg (by omega) this)
  | succ n ih =>
    intro i D xs h0 h1 d0 d1 hx hxr hk
    have hlt : i < (T.length : Int) := by omega
    obtain ⟨⟨a0, a1⟩, b0, b1⟩ := hm _ (rY1_mem h0 hlt)
    have hmn := mn_le (rY1 T i).2.1 D
    have hbx : (rY1 T i).1 < (xs.length : Int) := by omega
    have hxi := hxr _ (rI64_mem b0 hbx)
    rw [rY1_drop h0 hlt] at hk
    refine EvP.step (fun k => commit_serve.l25_eq k _ _ _ _ _ _) (EvP.pos hlt (EvP.pos h0 (EvP.pos hlt (EvP.pos b0 (EvP.pos hbx (EvP.pos b0 (EvP.pos hbx ?_)))))))
    rw [w64 (x := i + 1) (by omega) (by omega), w64 (x := D - _) (by omega) (by omega), w64 (x := rI64 xs _ + _) (by omega) (by omega)]
    generalize hu : rY1 T i = t at *
    refine ih (i + 1) _ _ (by omega) (by omega) (by omega) (by omega) (by rw [List.length_set]; exact hx) (fun x hx' => ?_) (fun ys hyl hys => ?_)
    · rcases List.mem_or_eq_of_mem_set hx' with hx' | rfl
      · have := hxr x hx'; omega
      · omega
    · have := hk ys hyl (fun m x y hxm hym => ?_)
      · have e : D - mn (total (untag (t :: T.drop (i + 1).toNat))) D = D - mn t.2.1 D - mn (total (untag (T.drop (i + 1).toNat))) (D - mn t.2.1 D) := by
          have hnn : Nn (untag (T.drop (i + 1).toNat)) := fun p hp => by
            obtain ⟨q, hq, rfl⟩ := List.mem_map.1 hp
            exact (hm q (List.mem_of_mem_drop hq)).1.1
          have ht := total_nonneg _ hnn
          show D - mn (t.2.1 + total (untag (T.drop (i + 1).toNat))) D = _
          unfold mn; split <;> split <;> split <;> omega
        rw [e] at this
        exact this
      · show y = x + ((if t.1 = (m : Int) then mn t.2.1 D else 0) + gU (m : Int) (T.drop (i + 1).toNat) (D - mn t.2.1 D))
        by_cases hme : t.1 = (m : Int)
        · rw [if_pos hme]
          have e1 : (xs.set t.1.toNat (rI64 xs t.1 + mn t.2.1 D))[m]? = some (rI64 xs t.1 + mn t.2.1 D) := by
            rw [show t.1.toNat = m by omega, List.getElem?_set_self (by omega)]
          have := hys m _ y e1 hym
          have e2 : rI64 xs t.1 = x := by rw [hme]; exact rI64_get xs m x hxm
          rw [e2] at this
          omega
        · rw [if_neg hme]
          have e1 : (xs.set t.1.toNat (rI64 xs t.1 + mn t.2.1 D))[m]? = some x := by
            rw [List.getElem?_set_ne (by omega)]; exact hxm
          have := hys m x y e1 hym
          omega
theorem ColOk.get : ∀ {l : List Un} {on : List Bool} {xs : List Int}, UnitsOk l → ColOk l on xs → ∀ (m : Nat) u x, l[m]? = some u → xs[m]? = some x → x = -1 ∨ u.1.2.1 ≤ x ∧ x ≤ u.1.2.2.1
  | [], [], [], _, _, m, u, x, h, _ => by simp at h
  | u :: l, b :: on, x :: xs, hU, h, m, v, y, h1, h2 => by
    cases m with
    | zero =>
      simp only [List.getElem?_cons_zero, Option.some.injEq] at h1 h2
      subst h1 h2
      have := h.1
      split at this
      · exact Or.inr this
      · exact Or.inl this
    | succ m => exact ColOk.get hU.tail h.2 m v y (by simpa using h1) (by simpa using h2)
  | [], [], _ :: _, _, h, _, _, _, _, _ => h.elim
  | [], _ :: _, _, _, h, _, _, _, _, _ => h.elim
  | _ :: _, [], _, _, h, _, _, _, _, _ => h.elim
  | _ :: _, _ :: _, [], _, h, _, _, _, _, _ => h.elim
theorem ColOk.len : ∀ {l : List Un} {on : List Bool} {xs : List Int}, ColOk l on xs → xs.length = l.length ∧ on.length = l.length
  | [], [], [], _ => ⟨rfl, rfl⟩
  | u :: l, b :: on, x :: xs, h => by
    obtain ⟨h1, h2⟩ := ColOk.len h.2
    exact ⟨by simp [h1], by simp [h2]⟩
  | [], [], _ :: _, h => h.elim
  | [], _ :: _, _, h => h.elim
  | _ :: _, [], _, h => h.elim
  | _ :: _, _ :: _, [], h => h.elim
theorem mx_rng {u : Un} (hu : UnitOk u) {x : Int} (h : x = -1 ∨ u.1.2.1 ≤ x ∧ x ≤ u.1.2.2.1) : 0 ≤ mx x 0 ∧ mx x 0 ≤ total u.2.1.2 ∧ total u.2.1.2 ≤ 100000 := by
  have l0 := hu.rule.le0; have l1 := hu.rule.le1; have l2 := hu.rule.mo; have hm := hu.most
  unfold mx
  split <;> omega
theorem serve_l34 (l : List Un) (hU : UnitsOk l) (hl : l.length ≤ 3) (on : List Bool) (xs : List Int) (hc : ColOk l on xs) : ∀ (n : Nat) (i a : Int), 0 ≤ i → (l.length : Int) - i = n → -(1200000000000 * i) ≤ a → a ≤ 1200000000000 * i → Ev (fun k => commit_serve.l34 k a l (l.length : Int) i xs) (xs, a + colCost (l.drop i.toNat) (xs.drop i.toNat), true) := by
  have hxl := hc.len.1
  intro n
  induction n with
  | zero =>
    intro i a h0 h1 a0 a1
    rw [drop_end (xs := l) (by omega), drop_end (xs := xs) (by omega), show colCost [] [] = 0 from rfl, Int.add_zero]
    exact Ev.step (fun k => commit_serve.l34_eq k _ _ _ _ _) (Ev.neg (by omega) (Ev.now _))
  | succ n ih =>
    intro i a h0 h1 a0 a1
    have hlt : i < (l.length : Int) := by omega
    have hlx : i < (xs.length : Int) := by omega
    have hu := hU _ (rY10_mem h0 hlt)
    have hr := mx_rng hu (hc.get hU _ _ _ (rY10_some h0 hlt) (rI64_some h0 hlx))
    have c1 := cost_ev' hu.oc hu.oo (mx (rI64 xs i) 0)
    rw [if_pos ⟨hr.1, hr.2.1⟩] at c1
    have c2 := hu.oo.cost_rng hr.1
    rw [rY10_drop h0 hlt, rI64_drop h0 hlx]
    refine Ev.step (fun k => commit_serve.l34_eq k _ _ _ _ _) (Ev.pos hlt (Ev.pos h0 (Ev.pos hlt (Ev.pos h0 (Ev.pos hlx (Ev.bind c1 ?_))))))
    rw [w64 (x := i + 1) (by omega) (by omega), w64 (x := a + _) (by omega) (by omega)]
    have := ih (i + 1) (a + vAt (rY10 l i).2.1.2 (mx (rI64 xs i) 0)) (by omega) (by omega) (by omega) (by omega)
    rw [Int.add_assoc] at this
    exact this
theorem rests_flat (l : List Un) (on : List Bool) (hU : UnitsOk l) : ∀ p ∈ (rests l on).flatten, 0 ≤ p.1 ∧ p.1 ≤ 100000 := by
  induction l generalizing on with
  | nil => intro p h; cases h
  | cons u l ih =>
    intro p h
    cases on with
    | nil => cases h
    | cons b on =>
      have h : p ∈ (if b = true then restP u.1.2.1 u.2.1.2 else []) ++ (rests l on).flatten := h
      rcases List.mem_append.1 h with h | h
      · split at h
        · have hu := hU u (by simp)
          obtain ⟨q, hq, e1, e2⟩ := restP_le _ _ hu.rule.le0 hu.oo.nn p h
          have := restP_nn _ _ p h
          have := hu.oo.pw q hq
          omega
        · cases h
      · exact ih on hU.tail p h
theorem rests_flen (l : List Un) (on : List Bool) (hU : UnitsOk l) : (rests l on).flatten.length ≤ 12 * l.length := by
  induction l generalizing on with
  | nil => exact Nat.zero_le _
  | cons u l ih =>
    cases on with
    | nil => exact Nat.zero_le _
    | cons b on =>
      have := ih on hU.tail
      have h2 := restP_len u.2.1.2 u.1.2.1
      have h3 := (hU u (by simp)).oo.len
      show ((if b = true then restP u.1.2.1 u.2.1.2 else []) ++ (rests l on).flatten).length ≤ _
      rw [List.length_append, List.length_cons]
      split
      · omega
      · rw [List.length_nil]; omega
theorem bases_rng (l : List Un) (on : List Bool) (hU : UnitsOk l) : ∀ x ∈ bases l on, -1 ≤ x ∧ x ≤ 100000 := by
  induction l generalizing on with
  | nil => intro x h; cases h
  | cons u l ih =>
    intro x h
    cases on with
    | nil => cases h
    | cons b on =>
      rcases List.mem_cons.1 h with rfl | h
      · have hu := hU u (by simp)
        have l0 := hu.rule.le0; have l1 := hu.rule.le1; have l2 := hu.rule.mo
        split <;> omega
      · exact ih on hU.tail x h
theorem leastSum_rng (l : List Un) (on : List Bool) (hU : UnitsOk l) : 0 ≤ leastSum l on ∧ leastSum l on ≤ 100000 * l.length := by
  induction l generalizing on with
  | nil => exact ⟨Int.le_refl _, Int.le_refl _⟩
  | cons u l ih =>
    cases on with
    | nil => exact ⟨Int.le_refl _, by show (0 : Int) ≤ _; omega⟩
    | cons b on =>
      have := ih on hU.tail
      have hu := hU u (by simp)
      have l0 := hu.rule.le0; have l1 := hu.rule.le1; have l2 := hu.rule.mo
      show 0 ≤ (if b = true then u.1.2.1 else 0) + leastSum l on ∧ (if b = true then u.1.2.1 else 0) + leastSum l on ≤ _
      rw [List.length_cons]
      split <;> omega
theorem serve_ev (l : List Un) (hU : UnitsOk l) (hl : l.length ≤ 3) (on : List Bool) (hon : on.length = l.length) (d : Int) (hd : 0 ≤ d ∧ d ≤ 1000000) : EvP (fun k => commit_serve.f k l on d) (ServeP l on d) := by
  have hls := leastSum_rng l on hU
  have hfl := rests_flen l on hU
  unfold commit_serve.f
  refine EvP.pos (by omega) (EvP.pos (by omega) (EvP.pos (by omega) ?_))
  refine serve_l5 l hU hl on hon _ l.length 0 d _ [] (by omega) (by omega) (by omega) (by omega) (by simp) (by simp) ?_
  rw [show (0 : Int).toNat = 0 from rfl, List.drop_zero, List.drop_zero, List.take_zero, List.nil_append, List.nil_append]
  refine EvP.ite (fun h => EvP.ret (serve_none hU (Or.inl (by omega)))) (fun h => ?_)
  have htl := tags_len (rests l on) 0
  refine EvP.bindE (spieces_ev _ (by omega)) ?_
  have hp := Srt.ssort_perm byPU_swo (tags 0 (rests l on))
  have hs := spieces_sorted (tags 0 (rests l on))
  generalize Srt.ssort byPU (tags 0 (rests l on)) = T at hp hs ⊢
  have hpu : (untag T).Perm (rests l on).flatten := by
    rw [← untag_tags _ 0]
    exact hp.map _
  have htot : total (untag T) = total (rests l on).flatten := by rw [← lin_one, ← lin_one, lin_perm _ hpu]
  have hrl := rests_len l on hon
  have hml : ∀ t ∈ T, (0 ≤ t.2.1 ∧ t.2.1 ≤ 100000) ∧ 0 ≤ t.1 ∧ t.1 < (l.length : Int) := fun t ht => by
    have h1 := tags_mem _ 0 t (hp.mem_iff.1 ht)
    have h2 := rests_flat l on hU _ h1.2.2
    exact ⟨h2, by omega, by omega⟩
  refine serve_l25 l hl T (by rw [hp.length_eq]; omega) hml _ T.length 0 _ _ (by omega) (by omega) (by omega) (by omega) (bases_len l on hon) (fun x hx => by have := bases_rng l on hU x hx; omega) (fun ys hyl hy => ?_)
  rw [show (0 : Int).toNat = 0 from rfl, List.drop_zero] at hy ⊢
  have hnn : Nn (untag T) := fun q hq => by
    obtain ⟨t, ht, rfl⟩ := List.mem_map.1 hq
    exact (hml t ht).1.1
  have htn := total_nonneg _ hnn
  refine EvP.ite (fun h2 => EvP.ret (serve_none hU (Or.inr ?_))) (fun h2 => ?_)
  · have := mn_le (total (untag T)) (d - leastSum l on)
    rw [← htot]; omega
  · have hle : d - leastSum l on ≤ total (rests l on).flatten := by
      rw [← htot]
      apply Classical.byContradiction
      intro hc
      rw [mn_of_le (by omega)] at h2
      omega
    have hg := greedy_best (rests_ok l on hU) hp hs (d := d - leastSum l on) (by omega) hle (xs := (List.range l.length).map fun (m : Nat) => gU (m : Int) T (d - leastSum l on)) (by simp [hrl]) (fun n x hn => by
      rw [List.getElem?_map, List.getElem?_range (by
        apply Classical.byContradiction
        intro hc
        rw [List.getElem?_eq_none (by simp; omega)] at hn
        cases hn)] at hn
      simpa using hn.symm)
    have e : ys = backs l on ((List.range l.length).map fun (m : Nat) => gU (m : Int) T (d - leastSum l on)) := by
      refine backs_of l on _ _ hon hyl hg.fit (fun m x b y h3 h4 h5 => ?_)
      have hmn : m < l.length := by
        apply Classical.byContradiction
        intro hc
        rw [List.getElem?_eq_none (by omega)] at h3
        cases h3
      rw [List.getElem?_map, List.getElem?_range hmn] at h5
      simp only [Option.map_some, Option.some.injEq] at h5
      rw [hy m b x h4 h3, ← h5]
    have hcol := (col_backs l on _ hU hon hg.fit).1
    have fin := serve_l34 l hU hl on _ hcol l.length 0 0 (by omega) (by omega) (by omega) (by omega)
    rw [show (0 : Int).toNat = 0 from rfl, List.drop_zero, List.drop_zero, Int.zero_add] at fin
    rw [e]
    exact ⟨_, fin, serve_good hU hon hg rfl⟩
end Go.Proofs.Ytodagcbcdkfniaa.VE
