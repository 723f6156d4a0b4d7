import Derived.Test.YtodagcbcdkfniaaVpC8
namespace Go.Proofs.Ytodagcbcdkfniaa.VE
open Go Go.RowKit
set_option linter.unusedVariables false
attribute [local irreducible] wrap64
/-! ### package unit: Run; package commit: Cost, Serve (no statement is proved here) -/
def stepF (r : Rl) (a : Option (Us × Int)) (p : Int) : Option (Us × Int) := a.bind fun q => if (nextU r q.1 p).2.2 = 0 then some ((nextU r q.1 p).1, q.2 + (nextU r q.1 p).2.1) else none
theorem stepF_none (r : Rl) : ∀ ps : List Int, ps.foldl (stepF r) none = none
  | [] => rfl
  | _ :: ps => stepF_none r ps
theorem runF_step (r : Rl) (s : Us) (ps : List Int) : runF r s ps = ps.foldl (stepF r) (some (s, 0)) := rfl
def RunP (x : Option (Us × Int)) (n : Nat) (r : List Us × Int × Int) : Prop := match x with
  | none => r.2.2 ≠ 0
  | some q => r.2 = (q.2, 0) ∧ r.1.length = n
theorem run_loop {u : Un} (h : UnitOk u) (p : List Int) (hp : p.length ≤ 24) : ∀ (n : Nat) (i c : Int) (s : Us) (acc : List Us), 0 ≤ i → (p.length : Int) - i = n → StateOk u.1 s → 0 ≤ c → c ≤ 1000000 * i → (acc.length : Int) = i → EvP (fun k => unit_Run.l9 k c p (p.length : Int) i u.1.1 u.1.2.1 u.1.2.2.1 u.1.2.2.2.1 u.1.2.2.2.2.1 u.1.2.2.2.2.2.1 u.1.2.2.2.2.2.2.1 u.1.2.2.2.2.2.2.2 s.1 s.2.1 s.2.2 acc) (RunP ((p.drop i.toNat).foldl (stepF u.1) (some (s, c))) p.length) := by
  intro n
  induction n with
  | zero =>
    intro i c s acc h0 h1 hs c0 c1 ha
    rw [drop_end (by omega)]
    exact EvP.step (fun k => unit_Run.l9_eq k _ _ _ _ _ _ _ _ _ _ _ _ _ _ _ _) (EvP.neg (by omega) (EvP.ret ⟨rfl, by show acc.length = p.length; omega⟩))
  | succ n ih =>
    intro i c s acc h0 h1 hs c0 c1 ha
    have hlt : i < (p.length : Int) := by omega
    rw [rI64_drop h0 hlt]
    refine EvP.step (fun k => unit_Run.l9_eq k _ _ _ _ _ _ _ _ _ _ _ _ _ _ _ _) (EvP.pos hlt (EvP.pos h0 (EvP.pos hlt (EvP.bindE (next_ev h hs _) ?_))))
    generalize rI64 p i = x at *
    refine EvP.ite (fun hz => ?_) (fun hz => EvP.ret ?_)
    · obtain ⟨n1, _, _, n2, n3⟩ := next_ok h.rule hs hz
      have e : (x :: p.drop (i + 1).toNat).foldl (stepF u.1) (some (s, c)) = (p.drop (i + 1).toNat).foldl (stepF u.1) (some ((nextU u.1 s x).1, c + (nextU u.1 s x).2.1)) := by
        show (p.drop (i + 1).toNat).foldl (stepF u.1) (if (nextU u.1 s x).2.2 = 0 then some ((nextU u.1 s x).1, c + (nextU u.1 s x).2.1) else none) = _
        rw [if_pos hz]
      rw [e]
      clear e hz
      generalize nextU u.1 s x = y at *
      refine EvP.pos (by rw [List.length_singleton]; omega) ?_
      rw [w64 (x := i + 1) (by omega) (by omega), w64 (x := c + y.2.1) (by omega) (by omega)]
      exact ih (i + 1) _ y.1 _ (by omega) (by omega) n1 (by omega) (by omega) (by rw [List.length_append, List.length_singleton]; omega)
    · have e : (x :: p.drop (i + 1).toNat).foldl (stepF u.1) (some (s, c)) = none := by
        show (p.drop (i + 1).toNat).foldl (stepF u.1) (if (nextU u.1 s x).2.2 = 0 then some ((nextU u.1 s x).1, c + (nextU u.1 s x).2.1) else none) = _
        rw [if_neg hz, stepF_none]
      rw [e]
      exact hz
theorem urun_ev {u : Un} (h : UnitOk u) (p : List Int) (hp : p.length ≤ 24) : EvP (fun k => unit_Run.f k u.1 u.2.2 p) (RunP (runF u.1 u.2.2 p) p.length) := by
  unfold unit_Run.f
  refine EvP.bindE (ustate_yes h.sz h.named h.rule h.st) (EvP.pos rfl (EvP.neg (by omega) ?_))
  have := run_loop h p hp p.length 0 0 u.2.2 [] (by omega) (by omega) h.st (by omega) (by omega) (by simp)
  rw [show (0 : Int).toNat = 0 from rfl, List.drop_zero] at this
  exact this
theorem run_vals {u : Un} (h : UnitOk u) : ∀ (n : Nat) (p : List Int) (s : Us) (c : Int), p.length = n → runF u.1 u.2.2 p = some (s, c) → ∀ x ∈ p, x = -1 ∨ u.1.2.1 ≤ x ∧ x ≤ u.1.2.2.1
  | 0, p, s, c, hl, _, x, hx => by
    rw [List.eq_nil_of_length_eq_zero hl] at hx
    cases hx
  | n + 1, p, s, c, hl, e, x, hx => by
    obtain ⟨p', y, rfl, hl'⟩ := snoc_of hl
    obtain ⟨s', c', e1, e2, rfl, rfl⟩ := runF_some e
    rcases List.mem_append.1 hx with hx | hx
    · exact run_vals h n p' s' c' hl' e1 x hx
    · rw [List.mem_singleton.1 hx]
      have k := run_ok h.rule n p' hl' h.st s' c' e1
      exact (next_ok h.rule k.1 e2).2.2.1
theorem runsL_vals : ∀ (l : List Un) (s : List (List Int)) (f : List Us) (c : Int), UnitsOk l → RunsL l s f c → ∀ p ∈ s, ∀ x ∈ p, -1 ≤ x ∧ x ≤ 100000
  | [], [], [], _, _, _ => fun p hp => by cases hp
  | u :: l, p :: s, q :: f, c, hU, h => fun y hy x hx => by
    obtain ⟨c1, c2, h1, h2, h3⟩ := h
    have hu := hU u (by simp)
    rcases List.mem_cons.1 hy with rfl | hy
    · have := run_vals hu y.length y q c1 rfl h1 x hx
      have := hu.rule.le0; have := hu.rule.le1; have := hu.rule.mo
      omega
    · exact runsL_vals l s f c2 hU.tail h2 y hy x hx
  | [], [], _ :: _, _, _, h => h.elim
  | [], _ :: _, _, _, _, h => h.elim
  | _ :: _, [], _, _, _, h => h.elim
  | _ :: _, _ :: _, [], _, _, h => h.elim
abbrev CtR := Int × Int
section
variable {l : List Un} {dm : List Int}
theorem rowCost_cons (u : Un) (x : Int) (p : List Int) : rowCost u (x :: p) = vAt u.2.1.2 (mx x 0) + rowCost u p := by
  unfold rowCost
  rw [List.map_cons, List.sum_cons]
theorem cost_l21 (hl : l.length ≤ 3) (s : List (List Int)) {u : Un} (h : UnitOk u) (i : Int) (h0 : 0 ≤ i) (hi : i < 3) (p : List Int) (hp : p.length ≤ 8) (hv : ∀ x ∈ p, x = -1 ∨ u.1.2.1 ≤ x ∧ x ≤ u.1.2.2.1) (R : CtR → Prop) : ∀ (n : Nat) (j a : Int), 0 ≤ j → (p.length : Int) - j = n → -(20000000000000 * i + 8000000 + 1200000000000 * j) ≤ a → a ≤ 20000000000000 * i + 8000000 + 1200000000000 * j → (∀ b, b = a + rowCost u (p.drop j.toNat) → -(20000000000000 * (i + 1)) ≤ b → b ≤ 20000000000000 * (i + 1) → EvP (fun k => commit_Cost.l14 k l dm s b l (l.length : Int) (i + 1)) R) → EvP (fun k => commit_Cost.l21 k l dm s a l (l.length : Int) i p (p.length : Int) j u.1.1 u.1.2.1 u.1.2.2.1 u.1.2.2.2.1 u.1.2.2.2.2.1 u.1.2.2.2.2.2.1 u.1.2.2.2.2.2.2.1 u.1.2.2.2.2.2.2.2 u.2.1.1 u.2.1.2 u.2.2.1 u.2.2.2.1 u.2.2.2.2) R := by
  intro n
  induction n with
  | zero =>
    intro j a j0 j1 a0 a1 hk
    refine EvP.step (fun k => commit_Cost.l21_eq k _ _ _ _ _ _ _ _ _ _ _ _ _ _ _ _ _ _ _ _ _ _ _) (EvP.neg (by omega) ?_)
    rw [w64 (x := i + 1) (by omega) (by omega)]
    refine hk a ?_ (by omega) (by omega)
    rw [drop_end (by omega)]
    show a = a + 0
    omega
  | succ n ih =>
    intro j a j0 j1 a0 a1 hk
    have hlt : j < (p.length : Int) := by omega
    have hr := mx_rng h (hv _ (rI64_mem j0 hlt))
    have c1 := cost_ev' h.oc h.oo (mx (rI64 p j) 0)
    rw [if_pos ⟨hr.1, hr.2.1⟩] at c1
    have c2 := h.oo.cost_rng hr.1
    rw [rI64_drop j0 hlt, rowCost_cons] at hk
    refine EvP.step (fun k => commit_Cost.l21_eq k _ _ _ _ _ _ _ _ _ _ _ _ _ _ _ _ _ _ _ _ _ _ _) (EvP.pos hlt (EvP.pos j0 (EvP.pos hlt (EvP.bindE c1 ?_))))
    generalize vAt u.2.1.2 (mx (rI64 p j) 0) = z at *
    rw [w64 (x := j + 1) (by omega) (by omega), w64 (x := a + z) (by omega) (by omega)]
    exact ih (j + 1) (a + z) (by omega) (by omega) (by omega) (by omega) (fun b hb b0 b1 => hk b (by omega) b0 b1)
theorem cost_l14 (hU : UnitsOk l) (hl : l.length ≤ 3) (hdl : dm.length ≤ 8) (s : List (List Int)) (hsl : s.length = l.length) (hr : RowsLen s dm.length) (R : CtR → Prop) : ∀ (n : Nat) (i a : Int), 0 ≤ i → (l.length : Int) - i = n → -(20000000000000 * i) ≤ a → a ≤ 20000000000000 * i → ((¬ ∃ f c, RunsL (l.drop i.toNat) (s.drop i.toNat) f c) → ∀ e, e ≠ 0 → R (0, e)) → (∀ f c, RunsL (l.drop i.toNat) (s.drop i.toNat) f c → EvP (fun k => commit_Cost.l28 k l s (a + (c + pcostL (l.drop i.toNat) (s.drop i.toNat))) dm (dm.length : Int) 0) R) → EvP (fun k => commit_Cost.l14 k l dm s a l (l.length : Int) i) R := by
  intro n
  induction n with
  | zero =>
    intro i a h0 h1 a0 a1 hb hg
    rw [drop_end (xs := l) (by omega), drop_end (xs := s) (by omega)] at hg
    have := hg [] 0 rfl
    have e : a + (0 + pcostL [] []) = a := by show a + (0 + 0) = a; omega
    rw [e] at this
    exact EvP.step (fun k => commit_Cost.l14_eq k _ _ _ _ _ _ _) (EvP.neg (by omega) this)
  | succ n ih =>
    intro i a h0 h1 a0 a1 hb hg
    have hlt : i < (l.length : Int) := by omega
    have hls : i < (s.length : Int) := by omega
    have hu := hU _ (rY10_mem h0 hlt)
    have hsr : s.drop i.toNat = rd (.list 3 (.int .i64)) s i :: s.drop (i + 1).toNat := drop_rd (t := .list 3 (.int .i64)) (xs := s) h0 hls
    have hrl := hr (rd (.list 3 (.int .i64)) s i) (rd_mem (t := .list 3 (.int .i64)) (xs := s) h0 hls)
    rw [rY10_drop h0 hlt, hsr] at hb hg
    refine EvP.step (fun k => commit_Cost.l14_eq k _ _ _ _ _ _ _) (EvP.pos hlt (EvP.pos h0 (EvP.pos hlt (EvP.pos h0 (EvP.pos hls ?_)))))
    have cut : ∀ p : List Int, (rd (.list 3 (.int .i64)) s i) = p → EvP (fun k => (unit_Run.f k (rY10 l i).1 (rY10 l i).2.2 p).bind fun r2 => if r2.2.2 = 0 then if 0 ≤ i then if i < (s.length : Int) then commit_Cost.l21 k l dm s (wrap64 (a + r2.2.1)) l (l.length : Int) i p (p.length : Int) 0 (rY10 l i).1.1 (rY10 l i).1.2.1 (rY10 l i).1.2.2.1 (rY10 l i).1.2.2.2.1 (rY10 l i).1.2.2.2.2.1 (rY10 l i).1.2.2.2.2.2.1 (rY10 l i).1.2.2.2.2.2.2.1 (rY10 l i).1.2.2.2.2.2.2.2 (rY10 l i).2.1.1 (rY10 l i).2.1.2 (rY10 l i).2.2.1 (rY10 l i).2.2.2.1 (rY10 l i).2.2.2.2 else none else none else some (0, r2.2.2)) R := by
      intro p hpe
      rw [hpe] at hb hg hrl
      generalize rY10 l i = u at *
      refine EvP.bind (urun_ev hu p (by omega)) (fun r hrp => ?_)
      cases hq : runF u.1 u.2.2 p with
      | none =>
        rw [hq] at hrp
        have hrp : r.2.2 ≠ 0 := hrp
        refine EvP.neg hrp (EvP.ret (hb ?_ _ hrp))
        rintro ⟨f, c, hh⟩
        cases f with
        | nil => exact hh.elim
        | cons q f =>
          obtain ⟨c1, c2, h1, h2, h3⟩ := hh
          rw [hq] at h1
          cases h1
      | some q =>
        rw [hq] at hrp
        have hrp : r.2 = (q.2, 0) := hrp.1
        obtain ⟨q1, q2⟩ := q
        have k := run_ok hu.rule p.length p rfl hu.st q1 q2 hq
        have hvals := run_vals hu p.length p q1 q2 rfl hq
        rw [hrp]
        refine EvP.pos rfl (EvP.pos h0 (EvP.pos hls ?_))
        show EvP (fun k => commit_Cost.l21 k l dm s (wrap64 (a + q2)) l (l.length : Int) i p (p.length : Int) 0 u.1.1 u.1.2.1 u.1.2.2.1 u.1.2.2.2.1 u.1.2.2.2.2.1 u.1.2.2.2.2.2.1 u.1.2.2.2.2.2.2.1 u.1.2.2.2.2.2.2.2 u.2.1.1 u.2.1.2 u.2.2.1 u.2.2.2.1 u.2.2.2.2) R
        rw [w64 (x := a + q2) (by omega) (by omega)]
        refine cost_l21 hl s hu i h0 (by omega) p (by omega) hvals R p.length 0 (a + q2) (by omega) (by omega) (by omega) (by omega) (fun b hb' b0 b1 => ?_)
        rw [show (0 : Int).toNat = 0 from rfl, List.drop_zero] at hb'
        refine ih (i + 1) b (by omega) (by omega) b0 b1 (fun hn => hb ?_) (fun f c hh => ?_)
        · rintro ⟨f, c, hh⟩
          cases f with
          | nil => exact hh.elim
          | cons q f =>
            obtain ⟨c1, c2, h1, h2, h3⟩ := hh
            exact hn ⟨f, c2, h2⟩
        · have := hg (q1 :: f) (q2 + c) ⟨q2, c, hq, hh, rfl⟩
          have e : a + (q2 + c + pcostL (u :: l.drop (i + 1).toNat) (p :: s.drop (i + 1).toNat)) = b + (c + pcostL (l.drop (i + 1).toNat) (s.drop (i + 1).toNat)) := by
            show a + (q2 + c + (rowCost u p + pcostL (l.drop (i + 1).toNat) (s.drop (i + 1).toNat))) = _
            omega
          rw [e] at this
          exact this
    exact cut _ rfl
theorem rI64_getD (p : List Int) (t : Nat) : rI64 p (t : Int) = p.getD t 0 := rfl
theorem cost_l32 (s : List (List Int)) (hsl : s.length = l.length) (hl : l.length ≤ 3) {T : Nat} (hr : RowsLen s T) (hv : ∀ p ∈ s, ∀ x ∈ p, -1 ≤ x ∧ x ≤ 100000) (v d : Int) (t : Nat) (ht : t < T) (hT : T ≤ 8) (dmL : Int) (R : CtR → Prop) (hbad : colSum (colAt s t) ≠ d → R (0, 14)) (hgood : colSum (colAt s t) = d → EvP (fun k => commit_Cost.l28 k l s v dm dmL ((t : Int) + 1)) R) : ∀ (n : Nat) (i a : Int), 0 ≤ i → (l.length : Int) - i = n → 0 ≤ a → a ≤ 100000 * i → a + colSum (colAt (s.drop i.toNat) t) = colSum (colAt s t) → EvP (fun k => commit_Cost.l32 k l s v (t : Int) d a dm dmL (t : Int) (l.length : Int) i) R := by
  intro n
  induction n with
  | zero =>
    intro i a h0 h1 a0 a1 he
    rw [drop_end (by omega)] at he
    have he : a + 0 = colSum (colAt s t) := he
    refine EvP.step (fun k => commit_Cost.l32_eq k _ _ _ _ _ _ _ _ _ _ _) (EvP.neg (by omega) ?_)
    rw [w64 (x := (t : Int) + 1) (by omega) (by omega)]
    exact EvP.ite (fun h => hgood (by omega)) (fun h => EvP.ret (hbad (by omega)))
  | succ n ih =>
    intro i a h0 h1 a0 a1 he
    have hls : i < (s.length : Int) := by omega
    have hsr : s.drop i.toNat = rd (.list 3 (.int .i64)) s i :: s.drop (i + 1).toNat := drop_rd (t := .list 3 (.int .i64)) (xs := s) h0 hls
    have hm : rd (.list 3 (.int .i64)) s i ∈ s := rd_mem (t := .list 3 (.int .i64)) (xs := s) h0 hls
    have hrl := hr _ hm
    have hlt' : (t : Int) < ((rd (.list 3 (.int .i64)) s i).length : Int) := by rw [hrl]; omega
    have hx := hv _ hm _ (rI64_mem (xs := rd (.list 3 (.int .i64)) s i) (i := (t : Int)) (by omega) hlt')
    rw [hsr] at he
    refine EvP.step (fun k => commit_Cost.l32_eq k _ _ _ _ _ _ _ _ _ _ _) (EvP.pos (by omega) (EvP.pos h0 (EvP.pos hls (EvP.pos (by omega) (EvP.pos hlt' ?_)))))
    have he : a + (mx (rI64 (rd (.list 3 (.int .i64)) s i) (t : Int)) 0 + colSum (colAt (s.drop (i + 1).toNat) t)) = colSum (colAt s t) := he
    have hmx : 0 ≤ mx (rI64 (rd (.list 3 (.int .i64)) s i) (t : Int)) 0 ∧ mx (rI64 (rd (.list 3 (.int .i64)) s i) (t : Int)) 0 ≤ 100000 := by
      unfold mx; split <;> omega
    generalize mx (rI64 (rd (.list 3 (.int .i64)) s i) (t : Int)) 0 = z at *
    rw [w64 (x := i + 1) (by omega) (by omega), w64 (x := a + z) (by omega) (by omega)]
    exact ih (i + 1) _ (by omega) (by omega) (by omega) (by omega) (by omega)
theorem cost_l28 (s : List (List Int)) (hsl : s.length = l.length) (hl : l.length ≤ 3) (hdl : dm.length ≤ 8) (hr : RowsLen s dm.length) (hv : ∀ p ∈ s, ∀ x ∈ p, -1 ≤ x ∧ x ≤ 100000) (v : Int) (R : CtR → Prop) (hbad : ¬ Served s dm → R (0, 14)) (hgood : Served s dm → R (v, 0)) : ∀ (n t : Nat), dm.length - t = n → t ≤ dm.length → (∀ (t' : Nat) x, t' < t → dm[t']? = some x → colSum (colAt s t') = x) → EvP (fun k => commit_Cost.l28 k l s v dm (dm.length : Int) (t : Int)) R := by
  intro n
  induction n with
  | zero =>
    intro t hn ht hd
    refine EvP.step (fun k => commit_Cost.l28_eq k _ _ _ _ _ _) (EvP.neg (by omega) (EvP.ret (hgood (fun t' x hx => hd t' x ?_ hx))))
    apply Classical.byContradiction
    intro hc
    rw [List.getElem?_eq_none (by omega)] at hx
    cases hx
  | succ n ih =>
    intro t hn ht hd
    have hts := rI64_some (xs := dm) (i := (t : Int)) (by omega) (by omega)
    rw [show ((t : Int)).toNat = t by omega] at hts
    refine EvP.step (fun k => commit_Cost.l28_eq k _ _ _ _ _ _) (EvP.pos (by omega) (EvP.pos (by omega) (EvP.pos (by omega) ?_)))
    refine cost_l32 s hsl hl hr hv v (rI64 dm (t : Int)) t (by omega) hdl _ R (fun h => hbad (fun hS => h (hS t _ hts))) (fun h => ?_) l.length 0 0 (by omega) (by omega) (by omega) (by omega) (by rw [show (0 : Int).toNat = 0 from rfl, List.drop_zero]; omega)
    refine ih (t + 1) (by omega) (by omega) (fun t' x ht' hx => ?_)
    by_cases e : t' = t
    · subst e
      rw [hts] at hx
      rw [h]
      exact Option.some.inj hx
    · exact hd t' x (by omega) hx
theorem cost_l7 (hdl : dm.length ≤ 8) (s : List (List Int)) (hsl : s.length ≤ 3) (R : CtR → Prop) (hbad : ¬ RowsLen s dm.length → R (0, 3)) (hgood : RowsLen s dm.length → EvP (fun k => commit_Cost.l14 k l dm s 0 l (l.length : Int) 0) R) : ∀ (n : Nat) (i : Int), 0 ≤ i → (s.length : Int) - i = n → (RowsLen (s.drop i.toNat) dm.length → RowsLen s dm.length) → EvP (fun k => commit_Cost.l7 k l dm s s (s.length : Int) i) R := by
  intro n
  induction n with
  | zero =>
    intro i h0 h1 hb
    rw [drop_end (by omega)] at hb
    exact EvP.step (fun k => commit_Cost.l7_eq k _ _ _ _ _ _) (EvP.neg (by omega) (hgood (hb (fun p hp => by cases hp))))
  | succ n ih =>
    intro i h0 h1 hb
    have hls : i < (s.length : Int) := by omega
    have hsr : s.drop i.toNat = rd (.list 3 (.int .i64)) s i :: s.drop (i + 1).toNat := drop_rd (t := .list 3 (.int .i64)) (xs := s) h0 hls
    have hm : rd (.list 3 (.int .i64)) s i ∈ s := rd_mem (t := .list 3 (.int .i64)) (xs := s) h0 hls
    rw [hsr] at hb
    refine EvP.step (fun k => commit_Cost.l7_eq k _ _ _ _ _ _) (EvP.pos hls (EvP.pos h0 (EvP.pos hls ?_)))
    refine EvP.ite (fun h => ?_) (fun h => EvP.ret (hbad (fun hR => h (by have := hR _ hm; show ((rd (.list 3 (.int .i64)) s i).length : Int) = _; rw [this]))))
    rw [w64 (x := i + 1) (by omega) (by omega)]
    refine ih (i + 1) (by omega) (by omega) (fun hR => hb (fun p hp => ?_))
    rcases List.mem_cons.1 hp with rfl | hp
    · have h : ((rd (.list 3 (.int .i64)) s i).length : Int) = (dm.length : Int) := h
      omega
    · exact hR p hp
structure CostJ (l : List Un) (dm : List Int) (s : List (List Int)) (r : CtR) : Prop where
  ok : r.2 = 0 → AllU l dm ∧ Sched l dm s r.1
  conv : AllU l dm → ∀ c, Sched l dm s c → r = (c, 0)
theorem RunsL.det : ∀ {l : List Un} {s : List (List Int)} {f f' : List Us} {c c' : Int}, RunsL l s f c → RunsL l s f' c' → c = c'
  | [], [], [], [], c, c', h, h' => by
    have h : c = 0 := h
    have h' : c' = 0 := h'
    omega
  | u :: l, p :: s, q :: f, q' :: f', c, c', h, h' => by
    obtain ⟨c1, c2, h1, h2, h3⟩ := h
    obtain ⟨d1, d2, g1, g2, g3⟩ := h'
    have := RunsL.det h2 g2
    rw [h1] at g1
    cases g1
    omega
  | [], [], _ :: _, _, _, _, h, _ => h.elim
  | [], _ :: _, _, _, _, _, h, _ => h.elim
  | _ :: _, [], _, _, _, _, h, _ => h.elim
  | _ :: _, _ :: _, [], _, _, _, h, _ => h.elim
  | [], [], [], _ :: _, _, _, _, h => h.elim
  | _ :: _, _ :: _, _ :: _, [], _, _, _, h => h.elim
theorem ccost_ev (l : List Un) (hs : SzL l) (dm : List Int) (s : List (List Int)) : EvP (fun k => commit_Cost.f k l dm s) (CostJ l dm s) := by
  unfold commit_Cost.f
  refine EvP.bind (P := fun e => (e = 0 → AllU l dm) ∧ Ev (fun k => dual_CheckAll.f k l dm) e) ?_ (fun e he => EvP.ite (fun hz => ?_) (fun hz => EvP.ret ⟨fun h => absurd h hz, fun hA => absurd (Ev.det he.2 (hA.any dm hA.dlen hA.dms)) hz⟩))
  · obtain ⟨e, he, hp⟩ := all_ev l hs dm
    exact ⟨e, he, hp, he⟩
  · have hA := he.1 hz
    have hU : UnitsOk l := hA.ok
    have hl := hA.len
    have hdl := hA.dlen
    have no : ∀ e : Int, e ≠ 0 → (∀ c, ¬ Sched l dm s c) → CostJ l dm s (0, e) := fun e he hn => ⟨fun h => absurd h he, fun _ c hc => absurd hc (hn c)⟩
    refine EvP.ite (fun hsl => ?_) (fun hsl => EvP.ret (no 3 (by decide) (fun c hc => hsl (by have := hc.len; omega))))
    have hsl : s.length = l.length := by omega
    refine cost_l7 hdl s (by omega) _ (fun hn => no 3 (by decide) (fun c hc => hn hc.rows)) (fun hr => ?_) s.length 0 (by omega) (by omega) (by rw [show (0 : Int).toNat = 0 from rfl, List.drop_zero]; exact fun h => h)
    refine cost_l14 hU hl hdl s hsl hr _ l.length 0 0 (by omega) (by omega) (by omega) (by omega) ?_ ?_
    · rw [show (0 : Int).toNat = 0 from rfl, List.drop_zero, List.drop_zero]
      intro hn e he
      refine no e he (fun c hc => hn ?_)
      obtain ⟨f, c', h1, _⟩ := hc.run
      exact ⟨f, c', h1⟩
    · rw [show (0 : Int).toNat = 0 from rfl, List.drop_zero, List.drop_zero]
      intro f c hrun
      rw [Int.zero_add]
      refine cost_l28 s hsl hl hdl hr (runsL_vals l s f c hU hrun) _ _ (fun hn => no 14 (by decide) (fun c hc => hn hc.sums)) (fun hS => ⟨fun _ => ⟨hA, hsl, hr, ⟨f, c, hrun, rfl⟩, hS⟩, fun _ c2 hc => ?_⟩) dm.length 0 (by omega) (by omega) (fun t' x h => by omega)
      obtain ⟨f2, c3, g1, g2⟩ := hc.run
      have := RunsL.det hrun g1
      rw [g2, this]
end
end Go.Proofs.Ytodagcbcdkfniaa.VE
