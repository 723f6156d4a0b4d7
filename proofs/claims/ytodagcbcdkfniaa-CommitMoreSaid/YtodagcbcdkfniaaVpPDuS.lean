import Derived.Test.YtodagcbcdkfniaaVpPUnit
namespace Go.Proofs.Ytodagcbcdkfniaa.VE
open Go Go.RowKit
set_option linter.unusedVariables false
attribute [local irreducible] wrap64
/-! ### package dual: Check, earn, cut, put (no statement is proved here) -/
theorem lin_mono {g g' : Int → Int} (hg : ∀ t, g t ≤ g' t) : ∀ ps : List Pc, Nn ps → lin g ps ≤ lin g' ps
  | [], _ => Int.le_refl _
  | q :: ps, h => by
    have hq := h q (by simp)
    have := lin_mono hg ps (fun x hx => h x (by simp [hx]))
    have := Int.mul_le_mul_of_nonneg_left (hg q.2) hq
    rw [lin_cons, lin_cons]; omega
/-- The powers between both supplies reach that. -/
theorem fen_at {ps : List Pc} (hn : Nn ps) (hs : ps.Pairwise fun x y => x.2 ≤ y.2) {s x : Int} (h0 : lin (ltF s) ps ≤ x) (h1 : x ≤ lin (leF s) ps) : s * x - vAt ps x = lin (fun t => pos (s - t)) ps := by
  have hl := lin_le s ps
  have := vAt_at s ps (x - lin (ltF s) ps) hn hs (by omega) (by omega)
  rw [show lin (ltF s) ps + (x - lin (ltF s) ps) = x by omega] at this
  rw [this, lin_pos', Int.sub_mul, Int.mul_comm x s, Int.mul_comm (lin (ltF s) ps) s]
  omega
abbrev Un := Rl × Ofr × Us
abbrev Cl := Us × Int × Int
structure UnitB (u : Un) : Prop where
  sz : u.1.1.size ≤ 140737488351232
  named : Ev (fun k => unit_named.f k u.1.1) true
  rule : RuleOk u.1
  st : StateOk u.1 u.2.2
  oc : Ev (fun k => offer_Check.f k u.2.1) 0
  oo : OkO u.2.1.2
  most : total u.2.1.2 = u.1.2.2.1
  nm : u.2.1.1 = u.1.1
  up : u.1.2.2.1 ≤ u.1.2.2.2.1
  dn : u.1.2.2.1 ≤ u.1.2.2.2.2.1
structure UnitOk (u : Un) : Prop extends UnitB u where
  ck : Ev (fun k => dual_Check.f k u) 0
def SzU (u : Un) : Prop := u.1.1.size ≤ 140737488351232 ∧ u.2.1.1.size ≤ 140737488351232
theorem dcheck_ev {u : Un} (h : SzU u) : EvP (fun k => dual_Check.f k u) (fun e => e = 0 → UnitOk u) := by
  have main : EvP (fun k => dual_Check.f k u) (fun e => e = 0 → UnitB u) := by
    unfold dual_Check.f
    refine EvP.bind (ustate_ev u.1 h.1 u.2.2) (fun e he => EvP.ite (fun hz => ?_) (fun hz => EvP.ret (fun h => absurd h hz)))
    obtain ⟨h1, h2, h3⟩ := he.1 hz
    obtain ⟨e2, g1, g2⟩ := ocheck_ev' (o := u.2.1) h.2
    refine EvP.bindE g1 (EvP.ite (fun hz2 => ?_) (fun hz2 => EvP.ret (fun h => absurd h hz2)))
    subst hz2
    have ho := g2 rfl
    refine EvP.bindE (most_ev' ho) (EvP.ite (fun c1 => ?_) (fun _ => EvP.ret (fun h => absurd h (by decide))))
    refine EvP.ite (fun c2 => ?_) (fun _ => EvP.ret (fun h => absurd h (by decide)))
    refine EvP.ite (fun c => EvP.ret (fun h => absurd h (by decide))) (fun c3 => ?_)
    refine EvP.ite (fun c => EvP.ret (fun h => absurd h (by decide))) (fun c4 => ?_)
    exact EvP.ret (fun _ => ⟨h.1, h1, h2, h3, g1, ho, c1, c2, by omega, by omega⟩)
  obtain ⟨e, he, hp⟩ := main
  exact ⟨e, he, fun hz => by subst hz; exact ⟨hp rfl, he⟩⟩
/-- What a power earns at a price. -/
def pf (u : Un) (p n : Int) : Int := p * n - vAt u.2.1.2 n
def earnN (u : Un) (p : Int) : Int := mx (lin (ltF p) u.2.1.2) u.1.2.1
section
variable {u : Un}
theorem earnN_rng (h : UnitOk u) (p : Int) : u.1.2.1 ≤ earnN u p ∧ earnN u p ≤ u.1.2.2.1 := by
  have h1 := lin_total (g := ltF p) (fun t => (ltF_n p t).2) u.2.1.2 h.oo.nn
  have h2 := mx_ge (lin (ltF p) u.2.1.2) u.1.2.1
  have h3 := h.most; have h4 := h.rule.le1
  unfold earnN
  omega
theorem pf_rng (h : UnitOk u) {p n : Int} (hp : -2000000 ≤ p ∧ p ≤ 2000000) (h0 : 0 ≤ n) (h1 : n ≤ 100000) : -1400000000000 ≤ pf u p n ∧ pf u p n ≤ 1400000000000 := by
  have a := h.oo.cost_rng h0
  have b := mul_abs (a := p) (b := n) (A := 2000000) (B := 100000) (by omega) (by omega) (by omega) (by omega)
  unfold pf
  omega
theorem earn_ev (h : UnitOk u) {p : Int} (hp : -2000000 ≤ p ∧ p ≤ 2000000) : Ev (fun k => dual_earn.f k u p) (earnN u p, pf u p (earnN u p)) := by
  have hr := earnN_rng h p
  have h1 := h.rule.le0; have h2 := h.rule.mo; have h3 := h.most
  have hc := cost_ev' h.oc h.oo (earnN u p)
  rw [if_pos (by omega)] at hc
  have a := h.oo.cost_rng (d := earnN u p) (by omega)
  have b := mul_abs (a := p) (b := earnN u p) (A := 2000000) (B := 100000) (by omega) (by omega) (by omega) (by omega)
  unfold dual_earn.f
  refine Ev.bind (supply_ev' h.oc h.oo hp) (Ev.bind hc ?_)
  show Ev (fun _ => some (earnN u p, wrap64 (wrap64 (p * earnN u p) - vAt u.2.1.2 (earnN u p)))) _
  rw [w64 (x := p * earnN u p) (by omega) (by omega), w64 (by omega) (by omega)]
  exact Ev.now _
/-- No other power earns more. -/
theorem pf_best (h : UnitOk u) (p : Int) {n : Int} (h0 : u.1.2.1 ≤ n) (h1 : n ≤ u.1.2.2.1) : pf u p n ≤ pf u p (earnN u p) := by
  have l0 := h.rule.le0; have l1 := h.rule.le1; have hm := h.most
  have hn := h.oo.nn; have hs := h.oo.srt
  have f1 := conj_bound p u.2.1.2 n hn (by omega) (by omega)
  have hle := lin_le p u.2.1.2
  have heq := lin_nonneg (g := eqF' p) (fun t => (eqF_n p t).1) u.2.1.2 hn
  unfold pf
  by_cases hc : u.1.2.1 ≤ lin (ltF p) u.2.1.2
  · have e : earnN u p = lin (ltF p) u.2.1.2 := by unfold earnN mx; rw [if_neg (by omega)]
    have := fen_at hn hs (s := p) (x := lin (ltF p) u.2.1.2) (Int.le_refl _) (by omega)
    rw [e]; omega
  · have e : earnN u p = u.1.2.1 := by unfold earnN mx; rw [if_pos (by omega)]
    obtain ⟨s, s1, s2⟩ := exists_slope' u.2.1.2 u.1.2.1 hn hs (by omega) (by omega)
    have hps : p ≤ s := Classical.byContradiction fun hc2 => by
      have := lin_mono (g := leF s) (g' := ltF p) (fun t => by unfold leF ltF; split <;> split <;> omega) u.2.1.2 hn
      omega
    have g1 := conj_bound s u.2.1.2 n hn (by omega) (by omega)
    have g2 := fen_at hn hs s1 s2
    have g3 : 0 ≤ (s - p) * (n - u.1.2.1) := Int.mul_nonneg (by omega) (by omega)
    rw [Int.sub_mul, Int.mul_sub, Int.mul_sub] at g3
    rw [e]; omega
/-! states that differ only where it does not matter -/
def keepT (r : Rl) (o : Bool) : Int := if o = true then r.2.2.2.2.2.1 else r.2.2.2.2.2.2.1
def cutU (r : Rl) (s : Us) : Us := (s.1, mn s.2.1 (keepT r s.1), s.2.2)
def SameS (r : Rl) (a b : Us) : Prop := a.1 = b.1 ∧ mn a.2.1 (keepT r a.1) = mn b.2.1 (keepT r b.1)
theorem SameS.refl {r : Rl} {a : Us} : SameS r a a := ⟨rfl, rfl⟩
theorem SameS.trans {r : Rl} {a b c : Us} (h : SameS r a b) (k : SameS r b c) : SameS r a c := ⟨h.1.trans k.1, h.2.trans k.2⟩
theorem cut_same (r : Rl) (s : Us) : SameS r (cutU r s) s := by
  refine ⟨rfl, ?_⟩
  show mn (mn s.2.1 (keepT r s.1)) (keepT r s.1) = _
  unfold mn
  repeat' split
  all_goals omega
theorem keepT_rng {r : Rl} (h : RuleOk r) (o : Bool) : 1 ≤ keepT r o ∧ keepT r o ≤ 24 := by
  have := h.on0; have := h.on1; have := h.off0; have := h.off1
  unfold keepT
  split <;> omega
theorem cut_ok {r : Rl} (hr : RuleOk r) {s : Us} (h : StateOk r s) : StateOk r (cutU r s) := by
  have k := keepT_rng hr s.1
  have := mn_le s.2.1 (keepT r s.1)
  have := h.t0; have := h.t1
  exact ⟨by show 1 ≤ mn _ _; omega, by show mn _ _ ≤ _; omega, h.on, h.off⟩
theorem cut_ev (s : Us) : Ev (fun k => dual_cut.f k u s) (cutU u.1 s) := by
  unfold dual_cut.f cutU keepT
  refine Ev.ite (fun h => ?_) (fun h => ?_)
  · rw [if_pos h]; exact Ev.now _
  · rw [if_neg h]; exact Ev.now _
theorem next_ev (h : UnitOk u) {s : Us} (hs : StateOk u.1 s) (p : Int) : Ev (fun k => unit_Next.f k u.1 s p) (nextU u.1 s p) := next_in (ustate_yes h.sz h.named h.rule hs) h.rule hs p
theorem next_off (r : Rl) (t q : Int) : nextU r (false, t, q) (-1) = ((false, mn (t + 1) 200000, 0), 0, 0) := by
  unfold nextU
  simp [mx]
theorem next_stay (h : UnitOk u) {t q n : Int} (hs : StateOk u.1 (true, t, q)) (h0 : u.1.2.1 ≤ n) (h1 : n ≤ u.1.2.2.1) : nextU u.1 (true, t, q) n = ((true, mn (t + 1) 200000, n), 0, 0) := by
  have a := hs.on rfl; have b := h.up; have c := h.dn; have d := h.rule.le0
  simp only at a
  unfold nextU
  rw [if_neg (by omega), if_neg (by simp; omega), if_neg (by simp; omega), if_pos (by simp; omega)]
  have : mx n 0 = n := by unfold mx; split <;> omega
  rw [this]
theorem next_stop (r : Rl) (t q : Int) : nextU r (true, t, q) (-1) = if t < r.2.2.2.2.2.1 then ((false, 0, 0), 0, 12) else ((false, 1, 0), 0, 0) := by
  unfold nextU
  by_cases ht : t < r.2.2.2.2.2.1 <;> simp [ht]
theorem next_start {r : Rl} {t q n : Int} (h0 : r.2.1 ≤ n) (h1 : n ≤ r.2.2.1) (h2 : 0 ≤ r.2.1) : nextU r (false, t, q) n = if t < r.2.2.2.2.2.2.1 then ((false, 0, 0), 0, 12) else ((true, 1, n), r.2.2.2.2.2.2.2, 0) := by
  have hn : n ≠ -1 := by omega
  have a1 : ¬ n < r.2.1 := by omega
  have a2 : ¬ r.2.2.1 < n := by omega
  unfold nextU
  by_cases ht : t < r.2.2.2.2.2.2.1 <;> simp [ht, hn, a1, a2]
/-- What is permitted is permitted in both, with the same cost. -/
theorem next_sim (h : UnitOk u) {s c : Us} (hs : StateOk u.1 s) (hc : StateOk u.1 c) (hsc : SameS u.1 c s) {p n : Int} (hn : u.1.2.1 ≤ n ∧ n ≤ u.1.2.2.1) (e : (nextU u.1 s p).2.2 = 0) :
    (nextU u.1 c (if p = -1 then -1 else n)).2.2 = 0 ∧ (nextU u.1 c (if p = -1 then -1 else n)).2.1 = (nextU u.1 s p).2.1 ∧ SameS u.1 (nextU u.1 c (if p = -1 then -1 else n)).1 (nextU u.1 s p).1 := by
  obtain ⟨o, t, q⟩ := s
  obtain ⟨o', t', q'⟩ := c
  obtain ⟨h1, h2⟩ := hsc
  simp only at h1 h2
  subst h1
  have a := h.up; have b := h.dn; have l0 := h.rule.le0
  have kr := keepT_rng h.rule
  have on1 : keepT u.1 true = u.1.2.2.2.2.2.1 := rfl
  have off1 : keepT u.1 false = u.1.2.2.2.2.2.2.1 := rfl
  have t1 := hs.t0; have t2 := hs.t1; have t3 := hc.t0; have t4 := hc.t1
  simp only at t1 t2 t3 t4
  have step : mn (mn (t' + 1) 200000) (keepT u.1 o') = mn (mn (t + 1) 200000) (keepT u.1 o') := by
    have := kr o'
    revert h2
    unfold mn
    repeat' split
    all_goals omega
  have thr : t' < keepT u.1 o' ↔ t < keepT u.1 o' := by
    revert h2
    unfold mn
    repeat' split
    all_goals omega
  by_cases hp : p = -1
  · subst hp
    rw [if_pos rfl]
    cases o' with
    | false =>
      rw [next_off, next_off]
      exact ⟨rfl, rfl, rfl, step⟩
    | true =>
      rw [on1] at thr
      rw [next_stop] at e ⊢
      rw [next_stop]
      by_cases ht : t < u.1.2.2.2.2.2.1
      · rw [if_pos ht] at e; cases e
      · rw [if_neg ht, if_neg (by omega)]
        exact ⟨rfl, rfl, SameS.refl⟩
  · have pr := (next_ok h.rule hs e).2.2.1
    have pr' : u.1.2.1 ≤ p ∧ p ≤ u.1.2.2.1 := by omega
    rw [if_neg hp]
    cases o' with
    | true =>
      rw [next_stay h hs pr'.1 pr'.2, next_stay h hc hn.1 hn.2]
      exact ⟨rfl, rfl, rfl, step⟩
    | false =>
      rw [off1] at thr
      rw [next_start pr'.1 pr'.2 l0] at e ⊢
      rw [next_start hn.1 hn.2 l0]
      by_cases ht : t < u.1.2.2.2.2.2.2.1
      · rw [if_pos ht] at e; cases e
      · rw [if_neg ht, if_neg (by omega)]
        exact ⟨rfl, rfl, rfl, rfl⟩
/-! schedules -/
def runF (r : Rl) (s0 : Us) (ps : List Int) : Option (Us × Int) := ps.foldl (fun a p => a.bind fun q => if (nextU r q.1 p).2.2 = 0 then some ((nextU r q.1 p).1, q.2 + (nextU r q.1 p).2.1) else none) (some (s0, 0))
theorem runF_snoc (r : Rl) (s0 : Us) (ps : List Int) (p : Int) : runF r s0 (ps ++ [p]) = (runF r s0 ps).bind fun q => if (nextU r q.1 p).2.2 = 0 then some ((nextU r q.1 p).1, q.2 + (nextU r q.1 p).2.1) else none := by
  unfold runF
  rw [List.foldl_append]
  rfl
theorem runF_some {r : Rl} {s0 : Us} {ps : List Int} {p : Int} {s : Us} {c : Int} (h : runF r s0 (ps ++ [p]) = some (s, c)) : ∃ s' c', runF r s0 ps = some (s', c') ∧ (nextU r s' p).2.2 = 0 ∧ s = (nextU r s' p).1 ∧ c = c' + (nextU r s' p).2.1 := by
  rw [runF_snoc] at h
  cases e : runF r s0 ps with
  | none => rw [e] at h; cases h
  | some q =>
    obtain ⟨s', c'⟩ := q
    rw [e] at h
    simp only [Option.bind_some] at h
    split at h
    · cases h
      exact ⟨s', c', rfl, by assumption, rfl, rfl⟩
    · cases h
theorem snoc_of {α : Type} {l : List α} {n : Nat} (h : l.length = n + 1) : ∃ l' x, l = l' ++ [x] ∧ l'.length = n := by
  rcases List.eq_nil_or_concat l with rfl | ⟨l', x, rfl⟩
  · cases h
  · rw [List.concat_eq_append] at h ⊢
    exact ⟨l', x, rfl, by simpa using h⟩
theorem run_ok (h : RuleOk u.1) : ∀ (n : Nat) (ps : List Int), ps.length = n → StateOk u.1 u.2.2 → ∀ s c, runF u.1 u.2.2 ps = some (s, c) → StateOk u.1 s ∧ 0 ≤ c ∧ c ≤ 1000000 * n
  | 0, ps, hl, h0, s, c, e => by
    rw [List.eq_nil_of_length_eq_zero hl] at e
    cases e
    exact ⟨h0, Int.le_refl _, by simp⟩
  | n + 1, ps, hl, h0, s, c, e => by
    obtain ⟨ps', p, rfl, hl'⟩ := snoc_of hl
    obtain ⟨s', c', e1, e2, rfl, rfl⟩ := runF_some e
    obtain ⟨k1, k2, k3⟩ := run_ok h n ps' hl' h0 s' c' e1
    have := next_ok h k1 e2
    refine ⟨this.1, by omega, by omega⟩
def valS (u : Un) (ps qs : List Int) : Int := ((ps.zip qs).map fun x => pf u x.2 (mx x.1 0)).sum
theorem valS_snoc {ps qs : List Int} (h : ps.length = qs.length) (p q : Int) : valS u (ps ++ [p]) (qs ++ [q]) = valS u ps qs + pf u q (mx p 0) := by
  unfold valS
  rw [List.zip_append h, List.map_append, List.sum_append]
  simp
theorem vAt_none : ∀ ps : List Pc, Nn ps → vAt ps 0 = 0
  | [], _ => rfl
  | p :: ps, hn => by
    have hp := hn p (by simp)
    have hm : mn p.1 0 = 0 := by unfold mn; split <;> omega
    rw [vAt_cons, hm, Int.sub_zero, vAt_none ps (fun x hx => hn x (by simp [hx]))]
    simp
theorem pf_zero (h : UnitOk u) (q : Int) : pf u q 0 = 0 := by
  unfold pf
  rw [vAt_none _ h.oo.nn]
  simp
end
end Go.Proofs.Ytodagcbcdkfniaa.VE
