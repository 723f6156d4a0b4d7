/- The pure statement of the law ConvexRing; what its row says is proved behind it. -/
import Derived.Test.YtcmbckancficcaaVpRgC
namespace Go.Proofs.Ytcmbckancficcaa.VE
open Go Go.RowKit
set_option linter.unusedVariables false
attribute [local irreducible] wrap64
/-- The row's pure statement. -/
def ConvexRing.Pure : Prop := ∀ (a0 : Int × Int × List (Int × Int)) (a1 : Int × Int × List (Int × Int)) (a2 : Int × Int × List (Int × Int)), OkV BY (.pair (.int .i64) (.pair (.int .i64) (.list 60 (.pair (.int .i64) (.int .i64))))) a0 → OkV BY (.pair (.int .i64) (.pair (.int .i64) (.list 60 (.pair (.int .i64) (.int .i64))))) a1 → OkV BY (.pair (.int .i64) (.pair (.int .i64) (.list 60 (.pair (.int .i64) (.int .i64))))) a2 → ∃ k, gridhallkeep3_ConvexRing.f k a0 a1 a2 = some true
/-! lists of pieces by their values -/
theorem sp_pos {p : Pc} {ps : List Pc} (h : SP (p :: ps)) : 1 ≤ p.1 ∧ 0 ≤ total ps := ⟨by have := h.p p (by simp); omega, total_nonneg ps h.tail.nn⟩
theorem sp_none {ps : List Pc} (h : SP ps) (h0 : total ps = 0) : ps = [] := by
  cases ps with
  | nil => rfl
  | cons p ps => have := sp_pos h; rw [total_cons] at h0; omega
/-- What a beginning of a list says. -/
theorem sp_step {p : Pc} {ps : List Pc} (h : SP (p :: ps)) {d : Int} (h0 : 0 ≤ d) : vAt (p :: ps) (p.1 + d) = p.1 * p.2 + vAt ps d := by
  have := sp_pos h
  have hm : mn p.1 (p.1 + d) = p.1 := by unfold mn; split <;> omega
  rw [vAt_cons, hm, show p.1 + d - p.1 = d by omega]
theorem sp_in {p : Pc} {ps : List Pc} (h : SP (p :: ps)) {d : Int} (h0 : 0 ≤ d) (h1 : d ≤ p.1) : vAt (p :: ps) d = d * p.2 := by
  have hm : mn p.1 d = d := by unfold mn; split <;> omega
  rw [vAt_cons, hm, Int.sub_self, vAt_zero _ h.tail.nn, Int.add_zero]
theorem sp_less {p q : Pc} {a b : List Pc} (ha : SP (p :: a)) (hb : SP (q :: b)) (ht : total (p :: a) = total (q :: b)) (hs : p.2 = q.2) (hv : ∀ d, 0 ≤ d → d ≤ total (p :: a) → vAt (p :: a) d = vAt (q :: b) d) : ¬ p.1 < q.1 := by
  intro hlt
  have p1 := sp_pos ha
  have q1 := sp_pos hb
  rw [total_cons, total_cons] at ht
  cases a with
  | nil => rw [total_nil] at ht; omega
  | cons r a =>
    have r1 := sp_pos ha.tail
    have hr : p.2 < r.2 := (List.pairwise_cons.1 ha.s).1 r (by simp)
    have e := hv (p.1 + 1) (by omega) (by rw [total_cons]; omega)
    rw [sp_step ha (by omega), sp_in ha.tail (by omega) (by omega), sp_in hb (by omega) (by omega), ← hs, Int.add_mul] at e
    omega
theorem sp_ext : ∀ (a b : List Pc), SP a → SP b → total a = total b → (∀ d, 0 ≤ d → d ≤ total a → vAt a d = vAt b d) → a = b
  | [], b, _, hb, ht, _ => (sp_none hb (by rw [← ht]; rfl)).symm
  | p :: a, [], ha, _, ht, _ => by
    have := sp_pos ha
    rw [total_cons, total_nil] at ht
    omega
  | p :: a, q :: b, ha, hb, ht, hv => by
    have p1 := sp_pos ha
    have q1 := sp_pos hb
    have hs : p.2 = q.2 := by
      have e := hv 1 (by omega) (by rw [total_cons]; omega)
      rw [sp_in ha (by omega) (by omega), sp_in hb (by omega) (by omega)] at e
      omega
    have l1 := sp_less ha hb ht hs hv
    have l2 := sp_less hb ha ht.symm hs.symm (fun d h0 h1 => (hv d h0 (by rw [ht]; exact h1)).symm)
    have e1 : p.1 = q.1 := by omega
    obtain rfl : p = q := Prod.ext e1 hs
    have ht' : total a = total b := by rw [total_cons, total_cons] at ht; omega
    rw [sp_ext a b ha.tail hb.tail ht' (fun d h0 h1 => by
      have e := hv (p.1 + d) (by omega) (by rw [total_cons]; omega)
      rw [sp_step ha h0, sp_step hb h0] at e
      omega)]
theorem cv_ext {s t : Cv} (hs : SP s.2.2) (ht : SP t.2.2) (h1 : s.1 = t.1) (h2 : hi s = hi t) (h3 : s.1 ≤ hi s) (hv : ∀ x, s.1 ≤ x → x ≤ hi s → V s x = V t x) : s = t := by
  obtain ⟨a, v, ps⟩ := s
  obtain ⟨b, u, qs⟩ := t
  simp only at h1 hs ht
  subst h1
  unfold hi at h2 h3 hv
  unfold V at hv
  simp only at h2 h3 hv
  have e0 := hv a (by omega) (by omega)
  rw [Int.sub_self, vAt_zero _ hs.nn, vAt_zero _ ht.nn] at e0
  obtain rfl : v = u := by omega
  rw [sp_ext ps qs hs ht (by omega) (fun d h0 h1 => by
    have := hv (a + d) (by omega) (by omega)
    rw [show a + d - a = d by omega] at this
    omega)]
/-! both operations -/
theorem conv_comm (f g : Cv) (hF : Valid f) (hG : Valid g) : conv f g = conv g f := by
  unfold conv
  rw [Int.add_comm f.1, Int.add_comm f.2.1, SP.unique _ _ (nrm_SP (nn_app hF.ok.sp.nn hG.ok.sp.nn)) (nrm_SP (nn_app hG.ok.sp.nn hF.ok.sp.nn)) (fun s => by
    rw [meas_nrm, meas_nrm]
    unfold meas
    rw [lin_append, lin_append, Int.add_comm])]
theorem conv_assoc (f g h : Cv) (hF : Valid f) (hG : Valid g) (hH : Valid h) : conv (conv f g) h = conv f (conv g h) := by
  have n1 := nrm_SP (nn_app hF.ok.sp.nn hG.ok.sp.nn)
  have n2 := nrm_SP (nn_app hG.ok.sp.nn hH.ok.sp.nn)
  have e : nrm (nrm (f.2.2 ++ g.2.2) ++ h.2.2) = nrm (f.2.2 ++ nrm (g.2.2 ++ h.2.2)) := SP.unique _ _ (nrm_SP (nn_app n1.nn hH.ok.sp.nn)) (nrm_SP (nn_app hF.ok.sp.nn n2.nn)) (fun s => by
    rw [meas_nrm, meas_nrm]
    have m1 := meas_nrm (f.2.2 ++ g.2.2) s
    have m2 := meas_nrm (g.2.2 ++ h.2.2) s
    unfold meas at m1 m2 ⊢
    rw [lin_append, lin_append, m1, m2, lin_append, lin_append]
    omega)
  unfold conv
  simp only
  rw [e, Int.add_assoc, Int.add_assoc]
/-- An operation: what it answers, and that it does not matter in which order. -/
structure Op (F : Nat → Cv → Cv → Option (Cv × Int)) where
  O : Cv → Cv → Cv × Int
  ev : ∀ f g, Ev (fun k => F k f g) (O f g)
  comm : ∀ f g, (O f g).2 = 0 → O g f = O f g
  len : ∀ f g, (O f g).2 = 0 → (O f g).1.2.2.length ≤ 1000
  assoc : ∀ f g h, (O f g).2 = 0 → (O g h).2 = 0 → (O (O f g).1 h).2 = 0 → (O f (O g h).1).2 = 0 → (O (O f g).1 h).1 = (O f (O g h).1).1
theorem conv_all (f g : Cv) : EvP (fun k => convexpl_Convolve.f k f g) (fun r => (r.2 = 0 → Valid f ∧ Valid g ∧ Valid (conv f g) ∧ r = (conv f g, 0)) ∧ (Valid f → Valid g → Valid (conv f g) → r = (conv f g, 0))) := by
  by_cases h : Valid f ∧ Valid g
  · obtain ⟨hF, hG⟩ := h
    have f1 := hF.1
    have g1 := hG.1
    have f2 := hF.2.1
    have g2 := hG.2.1
    have f3 := hF.2.2.1
    have g3 := hG.2.2.1
    unfold convexpl_Convolve.f convexpl_both.f
    refine EvP.bindE (a := 0) (Ev.bind (ccheck_yes hF) (Ev.pos rfl (Ev.bind (ccheck_yes hG) (Ev.now _)))) (EvP.pos rfl (EvP.bindE (concat_ev f.2.2 g.2.2 (by omega) (by omega)) ?_))
    rw [w64 (x := f.1 + g.1) (by omega) (by omega), w64 (x := f.2.1 + g.2.1) (by omega) (by omega)]
    refine EvP.bind (made_ev _ _ (f.2.2 ++ g.2.2) (by rw [List.length_append]; omega) (fun p hp => ?_)) (fun r hr => ?_)
    · rcases List.mem_append.1 hp with hp | hp
      · exact ⟨hF.ok.sp.nn p hp, by have := hF.ok.long p hp; omega⟩
      · exact ⟨hG.ok.sp.nn p hp, by have := hG.ok.long p hp; omega⟩
    · cases hr with
      | ok s hv => exact EvP.ret ⟨fun _ => ⟨hF, hG, hv, rfl⟩, fun _ _ _ => rfl⟩
      | bad s hv => exact EvP.ret ⟨fun h => absurd (show (2 : Int) = 0 from h) (by decide), fun _ _ h => absurd h hv⟩
  · refine (convolve_ev f g).mono (fun r hr => ⟨fun hz => ?_, fun a b _ => absurd ⟨a, b⟩ h⟩)
    rcases hr with ⟨h1, _⟩ | ⟨h1, h2, _⟩
    · exact absurd hz h1
    · exact absurd ⟨h1, h2⟩ h
noncomputable def convOp : Op (fun k => convexpl_Convolve.f k) where
  O f g := Classical.choose (conv_all f g)
  ev f g := (Classical.choose_spec (conv_all f g)).1
  comm f g hz := by
    obtain ⟨a, b, c, e⟩ := (Classical.choose_spec (conv_all f g)).2.1 hz
    rw [e, (Classical.choose_spec (conv_all g f)).2.2 b a (by rw [← conv_comm f g a b]; exact c), conv_comm f g a b]
  len f g hz := by
    obtain ⟨a, b, c, e⟩ := (Classical.choose_spec (conv_all f g)).2.1 hz
    rw [e]
    have := c.1
    show (conv f g).2.2.length ≤ 1000
    omega
  assoc f g h z1 z2 z3 z4 := by
    obtain ⟨a1, b1, c1, e1⟩ := (Classical.choose_spec (conv_all f g)).2.1 z1
    obtain ⟨a2, b2, c2, e2⟩ := (Classical.choose_spec (conv_all g h)).2.1 z2
    obtain ⟨_, _, _, e3⟩ := (Classical.choose_spec (conv_all (Classical.choose (conv_all f g)).1 h)).2.1 z3
    obtain ⟨_, _, _, e4⟩ := (Classical.choose_spec (conv_all f (Classical.choose (conv_all g h)).1)).2.1 z4
    rw [e3, e4, e1, e2]
    exact conv_assoc f g h a1 b1 b2
structure AddOk (f g s : Cv) : Prop where
  vf : Valid f
  vg : Valid g
  vs : Valid s
  ne : mx f.1 g.1 ≤ mn (hi f) (hi g)
  p : AddP f g s
theorem AddOk.eq {f g s f' g' s' : Cv} (h : AddOk f g s) (h' : AddOk f' g' s') (h1 : mx f.1 g.1 = mx f'.1 g'.1) (h2 : mn (hi f) (hi g) = mn (hi f') (hi g')) (hv : ∀ x, mx f.1 g.1 ≤ x → x ≤ mn (hi f) (hi g) → V f x + V g x = V f' x + V g' x) : s = s' := by
  have e1 := h.p.lo; have e2 := h.p.hi; have e3 := h'.p.lo; have e4 := h'.p.hi; have n := h.ne
  refine cv_ext h.vs.ok.sp h'.vs.ok.sp (by omega) (by omega) (by omega) (fun x x0 x1 => ?_)
  rw [h.p.val x (by omega) (by omega), h'.p.val x (by omega) (by omega)]
  exact hv x (by omega) (by omega)
theorem add_all (f g : Cv) : EvP (fun k => convexpl_Add.f k f g) (fun r => (r.2 = 0 → AddOk f g r.1) ∧ ∀ s, AddOk f g s → r = (s, 0)) := by
  by_cases h : Valid f ∧ Valid g
  · obtain ⟨hF, hG⟩ := h
    refine (add_ev hF hG).mono (fun r hr => ?_)
    rcases hr with ⟨h1, rfl⟩ | ⟨h1, h2, h3, _, ⟨h4, rfl⟩ | ⟨h4, rfl⟩⟩
    · exact ⟨fun h => absurd h (by decide), fun s hs => absurd hs.ne (by omega)⟩
    · have ok : AddOk f g (added f g) := ⟨hF, hG, h4, h1, h2⟩
      exact ⟨fun _ => ok, fun s hs => by rw [hs.eq ok rfl rfl (fun _ _ _ => rfl)]⟩
    · refine ⟨fun h => absurd h (by decide), fun s hs => ?_⟩
      have e1 := hs.p.lo; have e2 := hs.p.hi; have e3 := h2.lo; have e4 := h2.hi
      have : s = added f g := cv_ext hs.vs.ok.sp h3 (by omega) (by omega) (by omega) (fun x x0 x1 => by
        rw [hs.p.val x (by omega) (by omega), h2.val x (by omega) (by omega)])
      exact absurd (this ▸ hs.vs) h4
  · unfold convexpl_Add.f convexpl_both.f
    refine EvP.bind (P := fun e => e ≠ 0) ?_ (fun e he => EvP.neg he (EvP.ret ⟨fun hz => absurd hz he, fun s hs => absurd ⟨hs.vf, hs.vg⟩ h⟩))
    refine EvP.bind (ccheck_ev f) (fun e he => EvP.ite (fun hz => ?_) (fun hz => EvP.ret hz))
    refine EvP.bind (ccheck_ev g) (fun e' he' => EvP.ret (fun hz' => h ⟨he.1 hz, he'.1 hz'⟩))
theorem mn_comm (a b : Int) : mn a b = mn b a := by unfold mn; split <;> split <;> omega
theorem mx_comm (a b : Int) : mx a b = mx b a := by unfold mx; split <;> split <;> omega
theorem AddOk.swap {f g s : Cv} (h : AddOk f g s) : AddOk g f s := ⟨h.vg, h.vf, h.vs, by rw [mx_comm g.1, mn_comm (hi g)]; exact h.ne, ⟨by rw [mx_comm g.1]; exact h.p.lo, by rw [mn_comm (hi g)]; exact h.p.hi, fun x x0 x1 => by
  rw [mx_comm g.1] at x0
  rw [mn_comm (hi g)] at x1
  rw [h.p.val x x0 x1, Int.add_comm]⟩⟩
noncomputable def addOp : Op (fun k => convexpl_Add.f k) where
  O f g := Classical.choose (add_all f g)
  ev f g := (Classical.choose_spec (add_all f g)).1
  comm f g hz := by
    have ok := (Classical.choose_spec (add_all f g)).2.1 hz
    rw [(Classical.choose_spec (add_all g f)).2.2 _ ok.swap]
    exact Prod.ext rfl hz.symm
  len f g hz := by
    have := ((Classical.choose_spec (add_all f g)).2.1 hz).vs.1
    omega
  assoc f g h z1 z2 z3 z4 := by
    have a := (Classical.choose_spec (add_all f g)).2.1 z1
    have c := (Classical.choose_spec (add_all g h)).2.1 z2
    have x := (Classical.choose_spec (add_all (Classical.choose (add_all f g)).1 h)).2.1 z3
    have y := (Classical.choose_spec (add_all f (Classical.choose (add_all g h)).1)).2.1 z4
    have a1 := a.p.lo; have a2 := a.p.hi; have c1 := c.p.lo; have c2 := c.p.hi
    refine x.eq y ?_ ?_ (fun z z0 z1 => ?_)
    · rw [a1, c1]; unfold mx; repeat' split
      all_goals omega
    · rw [a2, c2]; unfold mn; repeat' split
      all_goals omega
    · rw [a1] at z0
      rw [a2] at z1
      have m1 := mx_ge (mx f.1 g.1) h.1; have m2 := mx_ge f.1 g.1; have m3 := mn_le (mn (hi f) (hi g)) (hi h); have m4 := mn_le (hi f) (hi g); have m5 := mx_ge g.1 h.1; have m6 := mn_le (hi g) (hi h)
      rw [a.p.val z (by omega) (by omega), c.p.val z (by omega) (by omega), Int.add_assoc]
/-! the law -/
def ringB (F : Nat → Cv → Cv → Option (Cv × Int)) (f g h : Cv) (cont : Nat → Option Bool) (k : Nat) : Option Bool :=
  (F k f g).bind fun a => (F k g f).bind fun b => (gridhallkeep3_fine.f k [a.2]).bind fun x => (gridhallkeep3_fine.f k [b.2]).bind fun y =>
  if x = y then
    (gridhallkeep3_fine.f k [a.2]).bind fun z =>
    if z = true then
      (gridhallkeep3_sameConvex.f k a.1 b.1).bind fun s =>
      if s = true then
        (F k g h).bind fun c => (F k a.1 h).bind fun p => (F k f c.1).bind fun q => (gridhallkeep3_fine.f k [a.2, c.2, p.2, q.2]).bind fun z =>
        if z = true then (gridhallkeep3_sameConvex.f k p.1 q.1).bind fun s => if s = true then cont k else some false else cont k
      else some false
    else (F k g h).bind fun c => (F k a.1 h).bind fun p => (F k f c.1).bind fun q => (gridhallkeep3_fine.f k [a.2, c.2, p.2, q.2]).bind fun z =>
        if z = true then (gridhallkeep3_sameConvex.f k p.1 q.1).bind fun s => if s = true then cont k else some false else cont k
  else some false
theorem ringB_ev {F : Nat → Cv → Cv → Option (Cv × Int)} (o : Op F) (f g h : Cv) {cont : Nat → Option Bool} (hc : Ev cont true) : Ev (ringB F f g h cont) true := by
  have rest : Ev (fun k => (F k g h).bind fun c => (F k (o.O f g).1 h).bind fun p => (F k f c.1).bind fun q => (gridhallkeep3_fine.f k [(o.O f g).2, c.2, p.2, q.2]).bind fun z =>
        if z = true then (gridhallkeep3_sameConvex.f k p.1 q.1).bind fun s => if s = true then cont k else some false else cont k) true := by
    refine Ev.bind (o.ev g h) (Ev.bind (o.ev _ h) (Ev.bind (o.ev f _) (Ev.bind (fine_ev _ (by simp)) ?_)))
    refine Ev.ite (fun hz => ?_) (fun _ => hc)
    simp only [List.all_cons, List.all_nil, Bool.and_true, Bool.and_eq_true, decide_eq_true_eq] at hz
    obtain ⟨z1, z2, z3, z4⟩ := hz
    refine Ev.bind (same_ev _ _ (o.len _ _ z3)) ?_
    rw [decide_eq_true (o.assoc f g h z1 z2 z3 z4)]
    exact Ev.pos rfl hc
  unfold ringB
  have hfin : ∀ e : Int, [e].all (fun e => decide (e = 0)) = decide (e = 0) := fun e => by simp
  refine Ev.bind (o.ev f g) (Ev.bind (o.ev g f) (Ev.bind (fine_ev [(o.O f g).2] (by simp)) (Ev.bind (fine_ev [(o.O g f).2] (by simp)) ?_)))
  have heq : decide ((o.O f g).2 = 0) = decide ((o.O g f).2 = 0) := by
    by_cases h1 : (o.O f g).2 = 0
    · rw [o.comm f g h1]
    · by_cases h2 : (o.O g f).2 = 0
      · rw [o.comm g f h2]
      · simp [h1, h2]
  rw [hfin, hfin]
  refine Ev.pos heq (Ev.bind (fine_ev [(o.O f g).2] (by simp)) ?_)
  rw [hfin]
  refine Ev.ite (fun hz => ?_) (fun _ => rest)
  have hz := of_decide_eq_true hz
  refine Ev.bind (same_ev _ _ (o.len _ _ hz)) ?_
  rw [decide_eq_true (by rw [o.comm f g hz])]
  exact Ev.pos rfl rest
theorem ring_end (f g h : Cv) (k : Nat) : gridhallkeep3_ConvexRing.l4 (k + 1) 2 2 f.1 f.2.1 f.2.2 g.1 g.2.1 g.2.2 h.1 h.2.1 h.2.2 (List.range 2) = some true := by kernel_rfl
theorem ring_two (f g h : Cv) (k : Nat) : gridhallkeep3_ConvexRing.l4 (k + 1) 2 1 f.1 f.2.1 f.2.2 g.1 g.2.1 g.2.2 h.1 h.2.1 h.2.2 (List.range 2) = ringB (fun k => convexpl_Convolve.f k) f g h (fun k => gridhallkeep3_ConvexRing.l4 k 2 2 f.1 f.2.1 f.2.2 g.1 g.2.1 g.2.2 h.1 h.2.1 h.2.2 (List.range 2)) k := by kernel_rfl
theorem ring_one (f g h : Cv) (k : Nat) : gridhallkeep3_ConvexRing.l4 (k + 1) 2 0 f.1 f.2.1 f.2.2 g.1 g.2.1 g.2.2 h.1 h.2.1 h.2.2 (List.range 2) = ringB (fun k => convexpl_Add.f k) f g h (fun k => gridhallkeep3_ConvexRing.l4 k 2 1 f.1 f.2.1 f.2.2 g.1 g.2.1 g.2.2 h.1 h.2.1 h.2.2 (List.range 2)) k := by kernel_rfl
theorem Pure.ConvexRing : ConvexRing.Pure := by
  intro f g h _ _ _
  refine Ev.rounds ?_
  unfold gridhallkeep3_ConvexRing.f
  refine Ev.bind slopes_ev (Ev.pos rfl ?_)
  rw [show ((List.range 2).length : Int) = 2 from rfl]
  refine Ev.step (fun k => ring_one f g h k) (ringB_ev addOp f g h ?_)
  refine Ev.step (fun k => ring_two f g h k) (ringB_ev convOp f g h ?_)
  exact Ev.step (fun k => ring_end f g h k) (Ev.now _)
end Go.Proofs.Ytcmbckancficcaa.VE
