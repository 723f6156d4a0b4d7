import Derived.Test.YtcmbckancficcaaVpStor
namespace Go.Proofs.Ytcmbckancficcaa.VE
open Go Go.RowKit
set_option linter.unusedVariables false
attribute [local irreducible] wrap64
/-! ### storage.Best (no statement is proved here) -/
theorem vals_dom {s : Pl} (h : POk s) {ps : List Int} {out : List Cv} (hv : Vals s ps out) (hl : out.length ≤ ps.length + 1) : ∀ (t : Nat) (f : Cv), out[t]? = some f → 0 ≤ f.1 ∧ hi f ≤ s.2.2.1 ∧ Valid f
  | 0, f, hf => by
    rw [hv.z] at hf
    cases hf
    have := h.b
    have := h.k
    exact ⟨by show 0 ≤ s.2.2.2.1; omega, by show s.2.2.2.1 + 0 ≤ s.2.2.1; omega, (single_valid (by omega)).1⟩
  | t + 1, f, hf => by
    have hlt := (List.getElem?_eq_some_iff.1 hf).1
    have st := hv.st t _ _ f hlt (List.getElem?_eq_getElem (by omega)) (List.getElem?_eq_getElem (by omega)) hf
    exact ⟨st.lo, st.hi, st.vg⟩
theorem move_yes {f : Cv} (h : Valid f) {x : Int} (hx : -2000000 ≤ x ∧ x ≤ 2000000) (hV : Valid (f.1 + x, f.2.1 + 0, f.2.2)) : Ev (fun k => convexpl_Move.f k f x 0) ((f.1 + x, f.2.1 + 0, f.2.2), 0) := by
  have hl := h.1
  have h1 := h.2.1
  have h2 := h.2.2.1
  unfold convexpl_Move.f
  refine Ev.bind (ccheck_yes h) (Ev.pos rfl (Ev.neg (by omega) (Ev.neg (by omega) (Ev.neg (by omega) (Ev.neg (by omega) (Ev.bind (clonep_ev f.2.2 (by omega)) ?_))))))
  rw [w64 (x := f.1 + x) (by omega) (by omega), w64 (x := f.2.1 + 0) (by omega) (by omega)]
  obtain ⟨r, hr, hp⟩ := made_ev (f.1 + x) (f.2.1 + 0) f.2.2 (by omega) (fun p hp => ⟨h.ok.sp.nn p hp, by have := h.ok.long p hp; omega⟩)
  refine Ev.bind hr ?_
  cases hp with
  | ok s hv =>
    rw [nrm_id h.ok.sp]
    exact Ev.now _
  | bad s hv =>
    rw [nrm_id h.ok.sp] at hv
    exact absurd hV hv
theorem SRun.last_rng {s : Pl} {x k z : Int} {ps cs : List Int} (h : SRun s x ps cs k z) (hx : 0 ≤ x ∧ x ≤ s.2.2.1) : 0 ≤ z ∧ z ≤ s.2.2.1 := by
  induction h with
  | nil => exact hx
  | cons _ _ _ _ _ _ _ _ h2 _ ih => exact ih h2
theorem drop_set (xs : List Int) (m : Nat) (c : Int) (h : m < xs.length) : (xs.set m c).drop m = c :: xs.drop (m + 1) := by
  rw [List.drop_eq_getElem_cons (by rw [List.length_set]; exact h)]
  simp [List.drop_set]
inductive SBest (s : Pl) (ps : List Int) : List Int × Int × Int → Prop where
  | ok (out : List Int) (k z : Int) (h : SRun s s.2.2.2.1 ps out k z) (he : s.2.2.2.2 ≤ z) (hm : ∀ cs k' z', SRun s s.2.2.2.1 ps cs k' z' → s.2.2.2.2 ≤ z' → k ≤ k') : SBest s ps (out, k, 0)
  | large : SBest s ps ([], 0, 2)
  | none (e : Int) (he : e ≠ 0) (hn : ∀ cs k z, SRun s s.2.2.2.1 ps cs k z → s.2.2.2.2 ≤ z → False) : SBest s ps ([], 0, e)
theorem sbest_loop {s : Pl} (h : POk s) {ps : List Int} (hp : PrOk ps) {out : List Cv} (hv : Vals s ps out) (hl : out.length = ps.length + 1) (cost : Int) (hm : ∀ cs k' z', SRun s s.2.2.2.1 ps cs k' z' → s.2.2.2.2 ≤ z' → cost ≤ k') : ∀ (m : Nat) (x k z : Int) (xs : List Int) (g : Cv), m ≤ ps.length → xs.length = ps.length → out[m]? = some g → g.1 ≤ x → x ≤ hi g → SRun s x (ps.drop m) (xs.drop m) k z → V g x + k = cost → s.2.2.2.2 ≤ z → EvP (fun f => storage_Best.l16 f ps out x cost ((m : Int) - 1) s.1 s.2.1 s.2.2.1 s.2.2.2.1 s.2.2.2.2 xs) (SBest s ps) := by
  have hlen := hp.len
  have hc := h.c
  have hd := h.d
  have hk := h.k
  intro m
  induction m with
  | zero =>
    intro x k z xs g h1 h2 hg x0 x1 hr he hz
    rw [hv.z] at hg
    cases hg
    have x0 : s.2.2.2.1 ≤ x := x0
    have x1 : x ≤ s.2.2.2.1 + 0 := x1
    have : x = s.2.2.2.1 := by omega
    subst this
    rw [List.drop_zero, List.drop_zero] at hr
    have hb := h.b
    have hz0 := (single_valid (b := s.2.2.2.1) (by omega)).2.2
    have : k = cost := by omega
    subst this
    exact EvP.step (fun f => storage_Best.l16_eq f _ _ _ _ _ _ _ _ _ _ _) (EvP.neg (by omega) (EvP.ret (.ok xs k z hr hz hm)))
  | succ m ih =>
    intro x k z xs g h1 h2 hg x0 x1 hr he hz
    have hlt : m < ps.length := by omega
    have hcast : (((m + 1 : Nat) : Int) - 1) = (m : Int) := by omega
    have hf : out[m]? = some (rY2 out (m : Int)) := by
      have := rY2_some (xs := out) (i := (m : Int)) (by omega) (by omega)
      rwa [show (m : Int).toNat = m by omega] at this
    have hps : ps[m]? = some (rI64 ps (m : Int)) := by
      have := rI64_some (xs := ps) (i := (m : Int)) (by omega) (by omega)
      rwa [show (m : Int).toNat = m by omega] at this
    have hpi := hp.pr _ (List.mem_of_getElem? hps)
    obtain ⟨f0, f1, hF⟩ := vals_dom h hv (by omega) m _ hf
    obtain ⟨g0, g1, hG⟩ := vals_dom h hv (by omega) (m + 1) g hg
    have st := hv.st m _ _ g (by have := (List.getElem?_eq_some_iff.1 hg).1; omega) hps hf hg
    generalize hff : rY2 out (m : Int) = f at *
    generalize hpp : rI64 ps (m : Int) = p at *
    have hh := hF.hi_ge
    have hT := turned_valid hF
    have hTh := hi_turned f
    have hT1 : (turned f).1 = -hi f := rfl
    have hM : Valid ((turned f).1 + x, (turned f).2.1 + 0, (turned f).2.2) := move_valid hT (by omega) (by omega)
    obtain ⟨t1, t2, t3, t4⟩ := trade_facts h hpi
    obtain ⟨y', c', ⟨y0, y1⟩, ⟨c0, c1⟩, eyc, eV⟩ := st.ex x x0 x1
    have hMh : hi ((turned f).1 + x, (turned f).2.1 + 0, (turned f).2.2) = -f.1 + x := by
      show (turned f).1 + x + total (turned f).2.2 = -f.1 + x
      unfold hi at hTh
      omega
    have hM1 : (((turned f).1 + x, (turned f).2.1 + 0, (turned f).2.2) : Cv).1 = -hi f + x := rfl
    rw [hcast]
    refine EvP.step (fun k => storage_Best.l16_eq k _ _ _ _ _ _ _ _ _ _ _) (EvP.pos (by omega) (EvP.pos (by omega) (EvP.pos (by omega) ?_)))
    rw [hff]
    refine EvP.bindE (turn_yes hF hT) (EvP.pos rfl (EvP.bindE (move_yes hT (by omega) hM) (EvP.pos rfl (EvP.pos (by omega) (EvP.pos (by omega) ?_)))))
    rw [hpp]
    refine EvP.bindE (trade_ev h hpi) (EvP.bind (add_ev (f := ((turned f).1 + x, (turned f).2.1 + 0, (turned f).2.2)) hM t1) (fun r hr' => ?_))
    have n1 := mx_ge (-hi f + x) (-s.2.1)
    have n2 := mn_le (-f.1 + x) s.1
    rcases hr' with ⟨hbad, _⟩ | ⟨hok, hA, _, _, hr'⟩
    · rw [hMh, hM1, t2, t3] at hbad
      omega
    rcases hr' with ⟨hS, rfl⟩ | ⟨_, rfl⟩
    case inr => exact EvP.neg (by decide) (EvP.ret .large)
    obtain ⟨c, v, hL, hLP⟩ := least_ev hS
    have i0 := hLP.i0
    have i1 := hLP.i1
    have hval := hLP.val
    have hle := hLP.le
    rw [hA.lo, hM1, t2] at i0 hle
    rw [hA.hi, hMh, t3] at i1 hle
    have hAv := hA.val
    rw [hM1, t2, hMh, t3] at hAv
    have key : ∀ c, mx (-hi f + x) (-s.2.1) ≤ c → c ≤ mn (-f.1 + x) s.1 → V (added ((turned f).1 + x, (turned f).2.1 + 0, (turned f).2.2) (tradeC s p)) c = V f (x - c) + c * p := fun c a b => by
      rw [hAv c a b, V_moved, V_turned hF (by omega) (by omega), t4 c (by omega) (by omega), show -(c - x) = x - c by omega]
    have e1 := key c i0 i1
    have e2 := hle c' (by omega) (by omega)
    rw [key c' (by omega) (by omega)] at e2
    have e3 := st.le (x - c) c (by omega) (by omega) (by omega) (by omega) (by omega) (by omega)
    rw [show x - c + c = x by omega] at e3
    have e4 : V f y' = V f (x - c') := by congr 1; omega
    refine EvP.pos rfl (EvP.bindE hL (EvP.pos (by omega) (EvP.pos (by omega) ?_)))
    show EvP (fun k => storage_Best.l16 k ps out (wrap64 (x - c)) cost (wrap64 ((m : Int) - 1)) s.1 s.2.1 s.2.2.1 s.2.2.2.1 s.2.2.2.2 (xs.set (m : Int).toNat c)) (SBest s ps)
    rw [w64 (x := x - c) (by omega) (by omega), w64 (x := (m : Int) - 1) (by omega) (by omega), show (m : Int).toNat = m by omega]
    refine ih (x - c) (c * p + k) z _ f (by omega) (by rw [List.length_set]; exact h2) hf (by omega) (by omega) ?_ (by omega) hz
    rw [drop_set xs m c (by omega), List.drop_eq_getElem_cons hlt]
    have hpe : ps[m] = p := by
      rw [List.getElem?_eq_getElem hlt] at hps
      exact Option.some.inj hps
    rw [hpe]
    refine .cons _ _ _ _ _ _ _ (by omega) (by omega) ?_
    rw [show x - c + c = x by omega]
    exact hr
theorem sbest_ev (s : Pl) (ps : List Int) : EvP (fun f => storage_Best.f f s ps) (fun r => (POk s ∧ PrOk ps ∧ SBest s ps r) ∨ (¬ (POk s ∧ PrOk ps) ∧ r.1 = [] ∧ r.2.1 = 0 ∧ r.2.2 ≠ 0)) := by
  unfold storage_Best.f
  refine EvP.bind (scheck_ev s) (fun e he => EvP.ite (fun hz => ?_) (fun hz => EvP.ret (Or.inr ⟨fun h => hz (he.2 h.1), rfl, rfl, hz⟩)))
  refine EvP.bind (prices_ev ps) (fun e' he' => EvP.ite (fun hz' => ?_) (fun hz' => EvP.ret (Or.inr ⟨fun h => hz' (he'.2 h.2), rfl, rfl, hz'⟩)))
  have hs := he.1 hz
  have hp := he'.1 hz'
  have hk := hs.k
  have hb := hs.b
  have hlen := hp.len
  refine EvP.mono (P := SBest s ps) ?_ (fun r hr => Or.inl ⟨hs, hp, hr⟩)
  refine EvP.bind (values_ev hs hp) (fun r hr => ?_)
  have hsv := single_valid (b := s.2.2.2.1) (by omega)
  cases hr with
  | large => exact EvP.neg (by decide) (EvP.ret .large)
  | none out hv hl f hf h0 hn =>
    refine EvP.neg (by decide) (EvP.ret (.none 8 (by decide) (fun cs k z hr _ => ?_)))
    exact run_none hv hl f hf hn (out.length - 1) 0 _ s.2.2.2.1 k z cs (by omega) hv.z (Int.le_refl _) (by rw [hsv.2.1]; exact Int.le_refl _) hr
  | ok out hv hl =>
    have hlast : out[ps.length]? = some (rY2 out (ps.length : Int)) := by
      have := rY2_some (xs := out) (i := (ps.length : Int)) (by omega) (by omega)
      rwa [show (ps.length : Int).toNat = ps.length by omega] at this
    refine EvP.pos rfl ?_
    rw [show (out.length : Int) - 1 = (ps.length : Int) by omega, w64 (x := (ps.length : Int)) (by omega) (by omega)]
    refine EvP.pos (by omega) (EvP.pos (by show (ps.length : Int) < (out.length : Int); omega) ?_)
    obtain ⟨f0, f1, hF⟩ := vals_dom hs hv (by omega) ps.length _ hlast
    generalize rY2 out (ps.length : Int) = f at *
    have hh := hF.hi_ge
    have he2 := hs.e
    have m1 := mx_ge s.2.2.2.2 f.1
    have m2 := mn_le s.2.2.1 (hi f)
    have ge : ∀ cs k' z', SRun s s.2.2.2.1 ps cs k' z' → f.1 ≤ z' ∧ z' ≤ hi f ∧ V f z' ≤ k' := fun cs k' z' hr => by
      obtain ⟨g, g1, g2, g3, g4⟩ := run_ge hv hl ps.length 0 _ s.2.2.2.1 k' z' cs (by omega) hv.z (Int.le_refl _) (by rw [hsv.2.1]; exact Int.le_refl _) hr
      rw [hlast] at g1
      cases g1
      rw [hsv.2.2] at g4
      exact ⟨g2, g3, by omega⟩
    refine EvP.bindE (restrict_all hF s.2.2.2.2 s.2.2.1) ?_
    by_cases hc : mn s.2.2.1 (hi f) < mx s.2.2.2.2 f.1
    · rw [if_pos hc]
      refine EvP.neg (by decide) (EvP.ret (.none 8 (by decide) (fun cs k z hr hz => ?_)))
      have := ge cs k z hr
      omega
    · rw [if_neg hc]
      obtain ⟨v1, v2, v3⟩ := part_valid hF (lo := mx s.2.2.2.2 f.1) (en := mn s.2.2.1 (hi f)) (by omega) (by omega) (by omega)
      obtain ⟨x, v, hL, hLP⟩ := least_ev v1
      have i0 := hLP.i0
      have i1 := hLP.i1
      have hval := hLP.val
      have hle := hLP.le
      have l1 : (part' f (mx s.2.2.2.2 f.1) (mn s.2.2.1 (hi f))).1 = mx s.2.2.2.2 f.1 := rfl
      rw [l1] at i0 hle
      rw [v2] at i1 hle
      rw [v3 x i0 i1] at hval
      refine EvP.pos rfl (EvP.bindE hL (EvP.pos (by omega) (EvP.pos (by omega) (EvP.pos (by omega) ?_))))
      show EvP (fun k => storage_Best.l16 k ps out x v (wrap64 ((ps.length : Int) - 1)) s.1 s.2.1 s.2.2.1 s.2.2.2.1 s.2.2.2.2 (List.replicate (ps.length : Int).toNat 0)) (SBest s ps)
      rw [w64 (x := (ps.length : Int) - 1) (by omega) (by omega), show (ps.length : Int).toNat = ps.length by omega]
      refine sbest_loop hs hp hv hl v (fun cs k' z' hr hz => ?_) ps.length x 0 x (List.replicate ps.length 0) f (Nat.le_refl _) (by simp) hlast (by omega) (by omega) ?_ (by omega) (by omega)
      · obtain ⟨q1, q2, q3⟩ := ge cs k' z' hr
        have := (SRun.last_rng hr (by have := hs.b; omega))
        have := hle z' (by omega) (by omega)
        rw [v3 z' (by omega) (by omega)] at this
        omega
      · rw [List.drop_eq_nil_of_le (Nat.le_refl _), List.drop_eq_nil_of_le (by simp)]
        exact .nil x
theorem stores_ev : Ev (fun k => gridhallkeep3_stores.f k) true := Ev.far 100 (fun k => by kernel_rfl)
end Go.Proofs.Ytcmbckancficcaa.VE
