import Derived.Test.YtodagcbcdkfniaaVpC6
namespace Go.Proofs.Ytodagcbcdkfniaa.VE
open Go Go.RowKit
set_option linter.unusedVariables false
attribute [local irreducible] wrap64
/-! ### package commit: Best (no statement is proved here) -/
/-- The columns are what serve answers. -/
def ColsServed (l : List Un) (s : List (List Int)) (dm : List Int) : Prop := ∀ (t : Nat) d, dm[t]? = some d → ∃ r, Ev (fun k => commit_serve.f k l ((colAt s t).map fun x => decide (0 ≤ x)) d) r ∧ r.2.2 = true ∧ r.2.1 = colCost l (colAt s t)
/-- The schedules that lead back from a joint state. -/
def Chain (l : List Un) (dm : List Int) (rows : List (List Jt)) : Nat → Int → List (List Int) → Prop
  | 0, _, s => s = List.replicate l.length []
  | t + 1, b, s => ∃ c r s', 0 ≤ b ∧ (rows.getD (t + 1) [])[b.toNat]? = some c ∧ Ev (Sv l (rI64 dm (t : Int)) c.2.2.2) r ∧ Chain l dm rows t c.2.2.1 s' ∧ s = snocs s' r.1
section
variable {l : List Un} {dm : List Int}
structure ChainP (l : List Un) (dm : List Int) (t : Nat) (c : Jt) (s : List (List Int)) : Prop where
  len : s.length = l.length
  rows : RowsLen s t
  run : ∃ f c', RunsL l s f c' ∧ SamesL l c.1 f ∧ c.2.1 = c' + pcostL l s
  sums : Served s (dm.take t)
  cols : ColsServed l s (dm.take t)
def starts : List Un → List Us
  | [] => []
  | u :: l => u.2.2 :: starts l
theorem starts_ok : ∀ (l : List Un), UnitsOk l → StatesOk l (starts l)
  | [], _ => trivial
  | u :: l, h => ⟨(h u (by simp)).st, starts_ok l h.tail⟩
theorem runs_none : ∀ (l : List Un), RunsL l (List.replicate l.length []) (starts l) 0 ∧ pcostL l (List.replicate l.length []) = 0
  | [] => ⟨rfl, rfl⟩
  | u :: l => by
    obtain ⟨h1, h2⟩ := runs_none l
    refine ⟨⟨0, 0, rfl, h1, rfl⟩, ?_⟩
    show rowCost u [] + pcostL l (List.replicate l.length []) = 0
    rw [h2]
    rfl
theorem runs_zero : ∀ (l : List Un) (s : List (List Int)) (f : List Us) (c : Int), RowsLen s 0 → RunsL l s f c → f = starts l ∧ c = 0 ∧ pcostL l s = 0
  | [], [], [], c, _, h => ⟨rfl, h, rfl⟩
  | u :: l, p :: s, q :: f, c, hr, h => by
    obtain ⟨c1, c2, h1, h2, h3⟩ := h
    obtain ⟨e1, e2, e3⟩ := runs_zero l s f c2 hr.tail h2
    have hp : p = [] := List.eq_nil_of_length_eq_zero (hr p (by simp))
    subst hp
    have h1 : some (u.2.2, (0 : Int)) = some (q, c1) := h1
    cases h1
    refine ⟨by rw [e1]; rfl, by omega, ?_⟩
    show rowCost u [] + pcostL l s = 0
    rw [e3]; rfl
  | [], [], _ :: _, _, _, h => h.elim
  | [], _ :: _, _, _, _, h => h.elim
  | _ :: _, [], _, _, _, h => h.elim
  | _ :: _, _ :: _, [], _, _, h => h.elim
/-- Every joint state of the rows has its schedules, which cost what it says. -/
theorem chain_some (hU : UnitsOk l) (hl : l.length ≤ 3) {rows : List (List Jt)} (hR : RowsJ l dm rows) (h0 : rows.getD 0 [] = [(cutL l (starts l), 0, 0, 0)]) : ∀ (t : Nat) (b : Int) (c : Jt), t < rows.length → t ≤ dm.length → 0 ≤ b → (rows.getD t [])[b.toNat]? = some c → ∃ s, Chain l dm rows t b s ∧ ChainP l dm t c s
  | 0, b, c, ht, _, hb, hc => by
    rw [h0] at hc
    have hbz : b.toNat = 0 := by
      apply Classical.byContradiction
      intro hn
      rw [List.getElem?_eq_none (by simp; omega)] at hc
      cases hc
    rw [hbz] at hc
    obtain rfl := Option.some.inj hc
    obtain ⟨r1, r2⟩ := runs_none l
    have k := (cutL_ok l (starts l) hU (starts_ok l hU)).2.2
    refine ⟨_, rfl, by simp, fun p hp => ?_, ⟨starts l, 0, r1, k, by rw [r2]; rfl⟩, fun t x hx => by simp at hx, fun t x hx => by simp at hx⟩
    rw [List.eq_of_mem_replicate hp]; rfl
  | t + 1, b, c, ht, hd, hb, hc => by
    have hcm := List.mem_of_getElem? hc
    obtain ⟨b0, j, f, sc, r, m1, m2, m3, m4, m5, m6, m7⟩ := hR.made t ht c hcm
    obtain ⟨s', k1, k2⟩ := chain_some hU hl hR h0 t c.2.2.1 j (by omega) (by omega) b0 m1
    obtain ⟨f', c', q1, q2, q3⟩ := k2.run
    obtain ⟨v1, v2, v3⟩ := m3.fit m4
    obtain ⟨w1, w2⟩ := ColOk.pat hU v1
    have hcl := v1.len.1
    obtain ⟨sf, _⟩ := runsL_states l s' f' c' t hU k2.rows q1
    have hj := (hR.row t (by omega)).ok j (List.mem_of_getElem? m1)
    obtain ⟨f2, z1, z2⟩ := next_simL l j.1 f' _ r.1 f sc hU hj.1 sf q2.symm w1 m5
    have hfs := (nextL_ok l j.1 _ f sc hU hj.1 m5).1
    have hdt : t < dm.length := by omega
    have hk := (cutL_ok l f hU hfs).2.2
    have hk2 := k2.len
    obtain ⟨a1, a2⟩ := snocs_colAt s' r.1 t k2.rows (by omega)
    refine ⟨snocs s' r.1, ⟨c, r, s', hb, hc, m2, k1, rfl⟩, by rw [snocs_len s' r.1 (by omega)]; exact hk2, snocs_rows s' r.1 t k2.rows, ⟨f2, c' + sc, runsL_join l s' r.1 f' f2 c' sc q1 z1, by rw [m6]; exact hk.trans z2.symm, by rw [snocs_cost l s' r.1 k2.len hcl, m7, q3, v3]; omega⟩, (Served.of_snocs hdt k2.rows (by omega)).2 ⟨k2.sums, v2⟩, ?_⟩
    intro t' d hx
    by_cases e : t' = t
    · subst e
      rw [List.getElem?_take, if_pos (by omega)] at hx
      have hg := rI64_get dm t' d hx
      refine ⟨r, ?_, m4, by rw [a1]; exact v3⟩
      rw [a1, ← w2, ← hg]
      exact m2
    · have hlt : t' < t := by
        apply Classical.byContradiction
        intro hn
        rw [List.getElem?_take, if_neg (by omega)] at hx
        cases hx
      rw [a2 t' hlt]
      refine k2.cols t' d ?_
      rw [List.getElem?_take, if_pos (by omega)] at hx
      rw [List.getElem?_take, if_pos hlt]
      exact hx
abbrev BsR := List (List Int) × Int × Int
/-- The inner loop: a column is written. -/
theorem best_l40 (hl : l.length ≤ 3) (v : Int) (t : Nat) (ht : t < 1000) (pw : List Int) (hpw : pw.length = l.length) (rows : List (List Jt)) (c : Jt) (T : Nat) (hT : t < T) (R : BsR → Prop) : ∀ (n : Nat) (i : Int) (out : List (List Int)), 0 ≤ i → (l.length : Int) - i = n → out.length = l.length → RowsLen out T → (∀ out' : List (List Int), out'.length = l.length → RowsLen out' T → (∀ (m : Nat) q, (m : Int) < i → out[m]? = some q → out'[m]? = some q) → (∀ (m : Nat) q x, i ≤ (m : Int) → out[m]? = some q → pw[m]? = some x → out'[m]? = some (q.set t x)) → EvP (fun k => commit_Best.l35 k l dm c.2.2.1 v (t : Int) rows out') R) → EvP (fun k => commit_Best.l40 k l dm v ((t : Int) + 1) pw (l.length : Int) i rows out c.1 c.2.1 c.2.2.1 c.2.2.2) R := by
  have w1 : wrap64 ((t : Int) + 1 - 1) = (t : Int) := by rw [w64 (by omega) (by omega)]; omega
  intro n
  induction n with
  | zero =>
    intro i out h0 h1 ho hr hk
    refine EvP.step (fun k => commit_Best.l40_eq k _ _ _ _ _ _ _ _ _ _ _ _ _) (EvP.neg (by omega) ?_)
    rw [w1]
    exact hk out ho hr (fun m q _ h => h) (fun m q x hm hq => by
      rw [List.getElem?_eq_none (by omega)] at hq
      cases hq)
  | succ n ih =>
    intro i out h0 h1 ho hr hk
    have hlt : i < (l.length : Int) := by omega
    have hlo : i < (out.length : Int) := by omega
    have hlp : i < (pw.length : Int) := by omega
    have hget : out[i.toNat]? = some (rd (.list 3 (.int .i64)) out i) := rd_some (t := .list 3 (.int .i64)) (xs := out) h0 hlo
    have hrow := hr _ (List.mem_of_getElem? hget)
    have hpx := rI64_some h0 hlp
    refine EvP.step (fun k => commit_Best.l40_eq k _ _ _ _ _ _ _ _ _ _ _ _ _) (EvP.pos hlt (EvP.pos h0 (EvP.pos hlo (EvP.pos h0 (EvP.pos hlp ?_)))))
    rw [w1, w64 (x := i + 1) (by omega) (by omega)]
    have hrow' : ((rd (.list 3 (.int .i64)) out i).length : Int) = (T : Int) := by rw [hrow]
    refine EvP.pos (by omega) (EvP.pos (by
      show (t : Int) < ((rd (.list 3 (.int .i64)) out i).length : Int)
      rw [hrow']; omega) ?_)
    rw [show ((t : Int)).toNat = t by omega]
    generalize rd (.list 3 (.int .i64)) out i = q0 at *
    generalize rI64 pw i = x0 at *
    refine ih (i + 1) _ (by omega) (by omega) (by rw [List.length_set]; exact ho) (fun p hp => ?_) (fun out' ho' hr' g1 g2 => hk out' ho' hr' (fun m q hm hq => g1 m q (by omega) ?_) (fun m q x hm hq hx => ?_))
    · rcases List.mem_or_eq_of_mem_set hp with hp | rfl
      · exact hr p hp
      · show (List.set q0 t x0).length = T
        rw [List.length_set]; exact hrow
    · rw [List.getElem?_set_ne (by omega)]; exact hq
    · by_cases e : (m : Int) = i
      · have em : i.toNat = m := by omega
        rw [em] at hget hpx
        rw [hget] at hq
        rw [hpx] at hx
        obtain rfl := Option.some.inj hq
        obtain rfl := Option.some.inj hx
        refine g1 m _ (by omega) ?_
        rw [em, List.getElem?_set_self (by omega)]
      · exact g2 m q x (by omega) (by rw [List.getElem?_set_ne (by omega)]; exact hq) hx
/-- The powers are filled in from the last period to the first. -/
theorem best_l35 (hl : l.length ≤ 3) (hdl : dm.length ≤ 8) (v : Int) (rows : List (List Jt)) (hrl : rows.length = dm.length + 1) (S : List (List Int)) (hS : S.length = l.length) (hSr : RowsLen S dm.length) (hpw : ∀ (t : Nat) c r, t < dm.length → c ∈ rows.getD (t + 1) [] → Ev (Sv l (rI64 dm (t : Int)) c.2.2.2) r → r.1.length = l.length) : ∀ (t : Nat) (b : Int) (s out : List (List Int)), t ≤ dm.length → Chain l dm rows t b s → s.length = l.length → RowsLen s t → out.length = l.length → RowsLen out dm.length → (∀ (m : Nat) p q, s[m]? = some p → out[m]? = some q → S[m]? = some (p ++ q.drop t)) → Ev (fun k => commit_Best.l35 k l dm b v (t : Int) rows out) (S, v, 0) := by
  intro t
  induction t with
  | zero =>
    intro b s out ht hc hsl hsr ho hor hj
    have e : out = S := by
      refine List.ext_getElem? fun m => ?_
      cases hm : out[m]? with
      | none =>
        rw [List.getElem?_eq_none_iff] at hm
        rw [List.getElem?_eq_none (by omega)]
      | some q =>
        have hml : m < out.length := by
          apply Classical.byContradiction
          intro hn
          rw [List.getElem?_eq_none (by omega)] at hm
          cases hm
        have hs : s[m]? = some [] := by
          rw [List.getElem?_eq_getElem (by omega)]
          have := hsr _ (List.getElem_mem (l := s) (n := m) (by omega))
          rw [List.eq_nil_of_length_eq_zero this]
        have := hj m [] q hs hm
        rw [this]
        rfl
    rw [e]
    exact Ev.step (fun k => commit_Best.l35_eq k _ _ _ _ _ _ _) (Ev.neg (by omega) (Ev.now _))
  | succ t ih =>
    intro b s out ht hc hsl hsr ho hor hj
    obtain ⟨c, r, s', hb, hcg, hr, hch, rfl⟩ := hc
    have hcm := List.mem_of_getElem? hcg
    have hbl : b.toNat < (rows.getD (t + 1) []).length := by
      apply Classical.byContradiction
      intro hn
      rw [List.getElem?_eq_none (by omega)] at hcg
      cases hcg
    have hrd : rd (.list 96 Y12) rows ((t + 1 : Nat) : Int) = rows.getD (t + 1) [] := rfl
    have hrc : rY12 (rows.getD (t + 1) []) b = c := by
      have := rY12_some (xs := rows.getD (t + 1) []) hb (by omega)
      rw [hcg] at this
      exact (Option.some.inj this).symm
    have hpl := hpw t c r (by omega) hcm hr
    have w1 : wrap64 (((t + 1 : Nat) : Int) - 1) = (t : Int) := by rw [w64 (by omega) (by omega)]; omega
    refine EvP.ev (EvP.step (fun k => commit_Best.l35_eq k _ _ _ _ _ _ _) (EvP.pos (by omega) (EvP.pos (by omega) (EvP.pos (by omega) ?_))))
    rw [hrd, w1, hrc]
    refine EvP.pos hb (EvP.pos (by omega) (EvP.bindE (bools_ev c.2.2.2 l.length hl) (EvP.pos (by omega) (EvP.pos (by omega) (EvP.bindE hr ?_)))))
    rw [ho, show ((t + 1 : Nat) : Int) = (t : Int) + 1 by omega]
    have hs'l : s'.length = l.length := by
      have : ∀ (s : List (List Int)) (col : List Int), col.length = l.length → (snocs s col).length = l.length → ∀ (d : Nat), RowsLen (snocs s col) d → True := fun _ _ _ _ _ _ => trivial
      -- the schedules before are as many
      have aux : ∀ (t : Nat) (b : Int) (s : List (List Int)), t < dm.length + 1 → Chain l dm rows t b s → s.length = l.length ∧ RowsLen s t := by
        intro t
        induction t with
        | zero =>
          intro b s _ h
          have h : s = List.replicate l.length [] := h
          subst h
          exact ⟨by simp, fun p hp => by rw [List.eq_of_mem_replicate hp]; rfl⟩
        | succ t ih =>
          intro b s htt h
          obtain ⟨c, r, s', hb, hcg, hr, hch, rfl⟩ := h
          obtain ⟨i1, i2⟩ := ih _ s' (by omega) hch
          have := hpw t c r (by omega) (List.mem_of_getElem? hcg) hr
          exact ⟨by rw [snocs_len s' r.1 (by omega)]; exact i1, snocs_rows s' r.1 t i2⟩
      exact (aux t _ s' (by omega) hch).1
    have hs'r : RowsLen s' t := by
      have aux : ∀ (s : List (List Int)) (col : List Int), col.length = s.length → RowsLen (snocs s col) (t + 1) → RowsLen s t := by
        intro s
        induction s with
        | nil => intro col _ _ p hp; cases hp
        | cons p s ih =>
          intro col hcl h
          cases col with
          | nil => simp at hcl
          | cons x col =>
            intro q hq
            rcases List.mem_cons.1 hq with rfl | hq
            · have := h (q ++ [x]) (by show q ++ [x] ∈ (q ++ [x]) :: snocs s col; simp)
              rw [List.length_append, List.length_singleton] at this
              omega
            · exact ih col (by simpa using hcl) (fun z hz => h z (by show z ∈ (p ++ [x]) :: snocs s col; simp [hz])) q hq
      exact aux s' r.1 (by omega) hsr
    refine best_l40 hl v t (by omega) r.1 hpl rows c dm.length (by omega) _ l.length 0 out (by omega) (by omega) ho hor (fun out' ho' hr' g1 g2 => EvP.of (ih c.2.2.1 s' out' (by omega) hch hs'l hs'r ho' hr' (fun m p q hp hq => ?_)) rfl)
    have hml : m < l.length := by
      apply Classical.byContradiction
      intro hn
      rw [List.getElem?_eq_none (by omega)] at hp
      cases hp
    have hox : out[m]? = some out[m] := List.getElem?_eq_getElem (by omega)
    have hrx : r.1[m]? = some r.1[m] := List.getElem?_eq_getElem (by omega)
    have := g2 m out[m] r.1[m] (by omega) hox hrx
    rw [this] at hq
    obtain rfl := Option.some.inj hq
    have hsn : (snocs s' r.1)[m]? = some (p ++ [r.1[m]]) := by
      have aux : ∀ (s : List (List Int)) (col : List Int) (m : Nat) (p : List Int) (x : Int), s[m]? = some p → col[m]? = some x → (snocs s col)[m]? = some (p ++ [x]) := by
        intro s
        induction s with
        | nil => intro col m p x h _; simp at h
        | cons a s ih =>
          intro col m p x h1 h2
          cases col with
          | nil => simp at h2
          | cons y col =>
            cases m with
            | zero =>
              simp only [List.getElem?_cons_zero, Option.some.injEq] at h1 h2
              subst h1 h2
              rfl
            | succ m => exact ih col m p x (by simpa using h1) (by simpa using h2)
      exact aux s' r.1 m p r.1[m] hp hrx
    have key := hj m (p ++ [r.1[m]]) out[m] hsn hox
    rw [key]
    have hlen : out[m].length = dm.length := hor _ (List.getElem_mem _)
    have e2 : (out[m].set t r.1[m]).drop t = r.1[m] :: out[m].drop (t + 1) := by
      rw [List.drop_eq_getElem_cons (by rw [List.length_set]; omega), List.getElem_set_self, List.drop_set_of_lt (by omega)]
    rw [e2, List.append_assoc, List.singleton_append]
end
end Go.Proofs.Ytodagcbcdkfniaa.VE
