import Derived.Test.YtcmbckancficcaaVpRamp
namespace Go.Proofs.Ytcmbckancficcaa.VE
open Go Go.RowKit
set_option linter.unusedVariables false
attribute [local irreducible] wrap64
/-! ### ramp.values, Nearest (no statement is proved here) -/
structure RVals (l : List Pc) (b u d : Int) (ts : List Int) (out : List Cv) : Prop where
  z : out[0]? = some (b, 0, [])
  st : ∀ (i : Nat) x t f g, i + 1 < out.length → l[i]? = some x → ts[i]? = some t → out[i]? = some f → out[i + 1]? = some g → RStep u d x t f g
  inv : ∀ (i : Nat) f, out[i]? = some f → RInv (i : Int) f
inductive RValsP (l : List Pc) (b u d : Int) (ts : List Int) : List Cv × Int → Prop where
  | ok (out : List Cv) (h : RVals l b u d ts out) (hl : out.length = l.length + 1) : RValsP l b u d ts (out, 0)
  | none (out : List Cv) (h : RVals l b u d ts out) (hl : out.length ≤ l.length) (f : Cv) (x : Pc) (hf : out[out.length - 1]? = some f) (hx : l[out.length - 1]? = some x) (h0 : 0 < out.length) (hn : ∀ y p, f.1 ≤ y → y ≤ hi f → x.1 ≤ p → p ≤ x.2 → p ≤ y + u → y - d ≤ p → False) : RValsP l b u d ts ([], 8)
theorem rvalues_loop {l : List Pc} {b u d : Int} (h : ROk l b u d) {ts : List Int} (htl : ts.length = l.length) (ht : ∀ t ∈ ts, 0 ≤ t ∧ t ≤ 100000) : ∀ (n : Nat) (i : Int) (out : List Cv), 0 ≤ i → (l.length : Int) - i = n → (out.length : Int) = i + 1 → RVals l b u d ts out → EvP (fun k => ramp_values.l3 k u d ts l (l.length : Int) i out) (RValsP l b u d ts) := by
  have hl := h.len
  have hu := h.u
  have hd := h.d
  intro n
  induction n with
  | zero =>
    intro i out h0 h1 h2 hv
    exact EvP.step (fun k => ramp_values.l3_eq k _ _ _ _ _ _ _) (EvP.neg (by omega) (EvP.ret (.ok out hv (by omega))))
  | succ n ih =>
    intro i out h0 h1 h2 hv
    have hlt : i < (l.length : Int) := by omega
    have hlts : i < (ts.length : Int) := by omega
    have hx := h.lim _ (rY0_mem h0 hlt)
    have hti := ht _ (rI64_mem h0 hlts)
    have hsome := rY2_some (xs := out) (i := i) h0 (by omega)
    have hinv := hv.inv i.toNat _ hsome
    rw [show ((i.toNat : Nat) : Int) = i by omega] at hinv
    obtain ⟨r1, r2⟩ := rstep hu hd h0 (by omega) hinv hx hti
    obtain ⟨s1, s2, s3, s4⟩ := stepsC_facts hu hd
    obtain ⟨hC, _⟩ := rconv_valid hu hd h0 (by omega) hinv
    refine EvP.step (fun k => ramp_values.l3_eq k _ _ _ _ _ _ _) (EvP.pos hlt (EvP.pos h0 (EvP.pos hlt (EvP.pos h0 (EvP.pos (by omega) ?_)))))
    rw [w64 (x := 0 - d) (by omega) (by omega), Int.zero_sub]
    refine EvP.bindE (rsteps_ev hu hd) (EvP.bind (convolve2_ev hinv.v s1) (fun r hr => ?_))
    rcases hr with ⟨hn, _⟩ | ⟨_, rfl⟩
    · exact absurd hC hn
    refine EvP.pos rfl (EvP.bindE (restrict_all hC (rY0 l i).1 (rY0 l i).2) ?_)
    by_cases hc : mn (rY0 l i).2 (hi (conv (rY2 out i) (stepsC u d))) < mx (rY0 l i).1 (conv (rY2 out i) (stepsC u d)).1
    · rw [if_pos hc]
      refine EvP.step (fun k => ramp_values.l8_eq k _ _ _ _ _ _ _ _ _ _ _ _) (EvP.neg (by decide) (EvP.neg (by decide) (EvP.ret (.none out hv (by omega) (rY2 out i) (rY0 l i) ?_ ?_ (by omega) (r1 hc)))))
      · rw [show out.length - 1 = i.toNat by omega]; exact hsome
      · rw [show out.length - 1 = i.toNat by omega]; exact rY0_some h0 hlt
    · rw [if_neg hc]
      obtain ⟨q1, q2, q3, q4⟩ := r2 hc
      refine EvP.step (fun k => ramp_values.l8_eq k _ _ _ _ _ _ _ _ _ _ _ _) (EvP.pos rfl (EvP.pos h0 (EvP.pos hlts (EvP.bindE (away_ev hti) (EvP.bindE q2 (EvP.pos rfl (EvP.pos (by rw [List.length_singleton]; omega) ?_)))))))
      rw [w64 (x := i + 1) (by omega) (by omega)]
      generalize hgg : added (part' (conv (rY2 out i) (stepsC u d)) (mx (rY0 l i).1 (conv (rY2 out i) (stepsC u d)).1) (mn (rY0 l i).2 (hi (conv (rY2 out i) (stepsC u d))))) (awayC (rI64 ts i)) = g at *
      show EvP (fun k => ramp_values.l3 k u d ts l (l.length : Int) (i + 1) (out ++ [g])) _
      refine ih (i + 1) _ (by omega) (by omega) (by rw [List.length_append, List.length_singleton]; omega) ⟨?_, fun j x t f g' hj e0 e1 e2 e3 => ?_, fun j f hj => ?_⟩
      · rw [List.getElem?_append_left (by omega)]; exact hv.z
      · rw [List.length_append, List.length_singleton] at hj
        rw [List.getElem?_append_left (by omega)] at e2
        rcases Nat.lt_or_ge (j + 1) out.length with hlt' | hge
        · rw [List.getElem?_append_left hlt'] at e3
          exact hv.st j x t f g' hlt' e0 e1 e2 e3
        · have hj' : j = i.toNat := by omega
          subst hj'
          rw [List.getElem?_append_right hge, show i.toNat + 1 - out.length = 0 by omega] at e3
          rw [rY0_some h0 hlt] at e0
          rw [rI64_some h0 hlts] at e1
          rw [hsome] at e2
          simp only [List.getElem?_cons_zero, Option.some.injEq] at e0 e1 e2 e3
          subst e0 e1 e2 e3
          exact q4
      · rcases Nat.lt_or_ge j out.length with hlt' | hge
        · rw [List.getElem?_append_left hlt'] at hj
          exact hv.inv j f hj
        · rw [List.getElem?_append_right hge] at hj
          have hj1 := (List.getElem?_eq_some_iff.1 hj).1
          rw [List.length_singleton] at hj1
          have hj0 : j = out.length := by omega
          subst hj0
          rw [Nat.sub_self] at hj
          simp at hj
          subst hj
          rw [show ((out.length : Nat) : Int) = i + 1 by omega]
          exact q3
theorem rvalues_ev {l : List Pc} {b u d : Int} (h : ROk l b u d) {ts : List Int} (htl : ts.length = l.length) (ht : ∀ t ∈ ts, 0 ≤ t ∧ t ≤ 100000) : EvP (fun k => ramp_values.f k l b u d ts) (RValsP l b u d ts) := by
  have hb := h.b
  obtain ⟨s1, s2, s3⟩ := single_valid (b := b) (by omega)
  refine rvalues_loop h htl ht l.length 0 [(b, 0, [])] (by omega) (by omega) rfl ⟨rfl, fun i x t f g hi' => ?_, fun i f hi' => ?_⟩
  · simp at hi'
  · have h1 := (List.getElem?_eq_some_iff.1 hi').1
    rw [List.length_singleton] at h1
    have : i = 0 := by omega
    subst this
    simp at hi'
    subst hi'
    refine ⟨s1, (fun q hq => by cases hq), fun x x0 x1 => ?_, hb.1, by rw [s2]; exact hb.2⟩
    rw [s2] at x1
    have x0 : b ≤ x := x0
    have : x = b := by omega
    subst this
    rw [s3]; omega
/-- A schedule's distance is at least the value of its last power. -/
theorem sch_ge {l : List Pc} {b u d : Int} {ts : List Int} {out : List Cv} (h : RVals l b u d ts out) (hl : out.length = l.length + 1) (htl : ts.length = l.length) : ∀ (n i : Nat) (f : Cv) (y : Int) (ps : List Int), i + n = l.length → out[i]? = some f → f.1 ≤ y → y ≤ hi f → Sch u d y (l.drop i) ps → ∃ g z, out[l.length]? = some g ∧ g.1 ≤ z ∧ z ≤ hi g ∧ V g z ≤ V f y + dist (ts.drop i) ps := by
  intro n
  induction n with
  | zero =>
    intro i f y ps hi' hf y0 y1 hr
    rw [List.drop_eq_nil_of_le (by omega)] at hr
    cases hr
    refine ⟨f, y, by rw [show l.length = i by omega]; exact hf, y0, y1, ?_⟩
    rw [List.drop_eq_nil_of_le (by omega)]
    show V f y ≤ V f y + 0
    omega
  | succ n ih =>
    intro i f y ps hi' hf y0 y1 hr
    have hlt : i < l.length := by omega
    have hlts : i < ts.length := by omega
    rw [List.drop_eq_getElem_cons hlt] at hr
    rw [List.drop_eq_getElem_cons hlts]
    cases hr with
    | cons _ _ p _ ps' a b h'' =>
      have hg : out[i + 1]? = some (out[i + 1]'(by omega)) := List.getElem?_eq_getElem (by omega)
      have st := h.st i _ _ f _ (by omega) (List.getElem?_eq_getElem hlt) (List.getElem?_eq_getElem hlts) hf hg
      obtain ⟨l1, l2, l3⟩ := st.le y p y0 y1 a.1 a.2 b.1 b.2
      obtain ⟨g, z, g1, g2, g3, g4⟩ := ih (i + 1) _ p ps' (by omega) hg l1 l2 h''
      refine ⟨g, z, g1, g2, g3, ?_⟩
      show V g z ≤ V f y + (mx (p - ts[i]) (ts[i] - p) + dist (ts.drop (i + 1)) ps')
      omega
theorem sch_none {l : List Pc} {b u d : Int} {ts : List Int} {out : List Cv} (h : RVals l b u d ts out) (hl : out.length ≤ l.length) (htl : ts.length = l.length) (f' : Cv) (x' : Pc) (hf' : out[out.length - 1]? = some f') (hx' : l[out.length - 1]? = some x') (hn : ∀ y p, f'.1 ≤ y → y ≤ hi f' → x'.1 ≤ p → p ≤ x'.2 → p ≤ y + u → y - d ≤ p → False) : ∀ (n i : Nat) (f : Cv) (y : Int) (ps : List Int), i + n + 1 = out.length → out[i]? = some f → f.1 ≤ y → y ≤ hi f → Sch u d y (l.drop i) ps → False := by
  intro n
  induction n with
  | zero =>
    intro i f y ps hi' hf y0 y1 hr
    rw [show out.length - 1 = i by omega] at hf' hx'
    rw [hf] at hf'
    cases hf'
    have hlt : i < l.length := by omega
    rw [List.getElem?_eq_getElem hlt] at hx'
    cases hx'
    rw [List.drop_eq_getElem_cons hlt] at hr
    cases hr with
    | cons _ _ p _ ps' a b h'' => exact hn y p y0 y1 a.1 a.2 b.1 b.2
  | succ n ih =>
    intro i f y ps hi' hf y0 y1 hr
    have hlt : i < l.length := by omega
    rw [List.drop_eq_getElem_cons hlt] at hr
    cases hr with
    | cons _ _ p _ ps' a b h'' =>
      have hg : out[i + 1]? = some (out[i + 1]'(by omega)) := List.getElem?_eq_getElem (by omega)
      have st := h.st i _ _ f _ (by omega) (List.getElem?_eq_getElem hlt) (List.getElem?_eq_getElem (by omega)) hf hg
      obtain ⟨l1, l2, l3⟩ := st.le y p y0 y1 a.1 a.2 b.1 b.2
      exact ih (i + 1) _ p ps' (by omega) hg l1 l2 h''
inductive NearP (l : List Pc) (b u d : Int) (ts : List Int) : List Int × Int × Int → Prop where
  | ok (xs : List Int) (sum : Int) (h : Sch u d b l xs) (hd : dist ts xs = sum) (hm : ∀ ps, Sch u d b l ps → sum ≤ dist ts ps) : NearP l b u d ts (xs, sum, 0)
  | none (e : Int) (he : e ≠ 0) (hn : ∀ ps, Sch u d b l ps → False) : NearP l b u d ts ([], 0, e)
theorem near_loop {l : List Pc} {b u d : Int} (h : ROk l b u d) {ts : List Int} (htl : ts.length = l.length) {out : List Cv} (hv : RVals l b u d ts out) (hl : out.length = l.length + 1) (sum : Int) (hm : ∀ ps, Sch u d b l ps → sum ≤ dist ts ps) : ∀ (i : Nat) (g : Cv) (p : Int) (xs : List Int), i < l.length → xs.length = l.length → out[i + 1]? = some g → xs[i]? = some p → g.1 ≤ p → p ≤ hi g → Sch u d p (l.drop (i + 1)) (xs.drop (i + 1)) → V g p + dist (ts.drop (i + 1)) (xs.drop (i + 1)) = sum → EvP (fun k => ramp_Nearest.l18 k l u d out sum (i : Int) xs) (NearP l b u d ts) := by
  have hlen := h.len
  have hu := h.u
  have hd := h.d
  have hb := h.b
  intro i
  induction i with
  | zero =>
    intro g p xs hi' hxl hg hp p0 p1 hs he
    obtain ⟨s1, s2, s3⟩ := single_valid (b := b) (by omega)
    have st := hv.st 0 _ _ _ g (by omega) (List.getElem?_eq_getElem hi') (List.getElem?_eq_getElem (by omega)) hv.z hg
    obtain ⟨y, ⟨y0, y1⟩, ⟨y2, y3⟩, ev⟩ := st.ex p p0 p1
    rw [s2] at y1
    have y0 : b ≤ y := y0
    have hy : y = b := by omega
    subst hy
    rw [s3] at ev
    have hlo := st.lo
    have hhi := st.hi
    have e1 : l = l[0] :: l.drop 1 := by
      have := List.drop_eq_getElem_cons (l := l) (i := 0) hi'
      simpa using this
    have e2 : xs = p :: xs.drop 1 := by
      have h0 : 0 < xs.length := by omega
      have := List.drop_eq_getElem_cons (l := xs) (i := 0) h0
      rw [List.getElem?_eq_getElem h0] at hp
      have hp := Option.some.inj hp
      rw [hp] at this
      simpa using this
    have e3 : ts = ts[0] :: ts.drop 1 := by
      have := List.drop_eq_getElem_cons (l := ts) (i := 0) (by omega)
      simpa using this
    refine EvP.step (fun k => ramp_Nearest.l18_eq k _ _ _ _ _ _ _) (EvP.neg (by omega) (EvP.ret (.ok xs sum ?_ ?_ hm)))
    · rw [e1, e2]
      exact .cons _ _ _ _ _ (by omega) (by omega) hs
    · rw [e2, e3]
      show mx (p - ts[0]) (ts[0] - p) + dist (ts.drop 1) (xs.drop 1) = sum
      have he : V g p + dist (ts.drop 1) (xs.drop 1) = sum := he
      omega
  | succ i ih =>
    intro g p xs hi' hxl hg hp p0 p1 hs he
    have hf : out[i + 1]? = some (rY2 out ((i + 1 : Nat) : Int)) := by
      have := rY2_some (xs := out) (i := ((i + 1 : Nat) : Int)) (by omega) (by omega)
      rwa [show (((i + 1 : Nat) : Int)).toNat = i + 1 by omega] at this
    have hinv := hv.inv (i + 1) _ hf
    have st := hv.st (i + 1) _ _ _ g (by omega) (List.getElem?_eq_getElem hi') (List.getElem?_eq_getElem (by omega)) hf hg
    obtain ⟨y', ⟨y0, y1⟩, ⟨y2, y3⟩, ev⟩ := st.ex p p0 p1
    have hxp : rI64 xs ((i + 1 : Nat) : Int) = p := rI64_get xs (i + 1) p hp
    have hlo := st.lo
    have hhi := st.hi
    have hF := hinv.v
    have f0 := hinv.lo
    have f1 := hinv.hi
    have hx := h.lim _ (List.getElem_mem hi')
    refine EvP.step (fun k => ramp_Nearest.l18_eq k _ _ _ _ _ _ _) (EvP.pos (by omega) (EvP.pos (by omega) (EvP.pos (by omega) (EvP.neg (by omega) (EvP.pos (by omega) (EvP.pos (by omega) (EvP.pos (by omega) (EvP.pos (by omega) ?_))))))))
    rw [hxp, w64 (x := p - u) (by omega) (by omega), w64 (x := p + d) (by omega) (by omega)]
    refine EvP.bindE (restrict_all hF (p - u) (p + d)) ?_
    generalize rY2 out ((i + 1 : Nat) : Int) = f at *
    have m1 := mx_ge (p - u) f.1
    have m2 := mn_le (p + d) (hi f)
    rw [if_neg (by omega)]
    obtain ⟨v1, v2, v3⟩ := part_valid hF (lo := mx (p - u) f.1) (en := mn (p + d) (hi f)) (by omega) (by omega) (by omega)
    obtain ⟨y, v, hL, hLP⟩ := least_ev v1
    have i0 := hLP.i0
    have i1 := hLP.i1
    have hval := hLP.val
    have hle := hLP.le y'
    have l1 : (part' f (mx (p - u) f.1) (mn (p + d) (hi f))).1 = mx (p - u) f.1 := rfl
    rw [l1] at i0 hle
    rw [v2] at i1 hle
    have hle := hle (by omega) (by omega)
    rw [v3 y i0 i1] at hval
    rw [v3 y' (by omega) (by omega)] at hle
    have hge := (st.le y p (by omega) (by omega) (by omega) (by omega) (by omega) (by omega)).2.2
    have hi1 : (((i + 1 : Nat) : Int)) - 1 = (i : Int) := by omega
    refine EvP.pos rfl (EvP.bindE hL ?_)
    rw [hi1, w64 (x := (i : Int)) (by omega) (by omega)]
    refine EvP.pos (by omega) (EvP.pos (by omega) ?_)
    show EvP (fun k => ramp_Nearest.l18 k l u d out sum (i : Int) (xs.set (i : Int).toNat y)) _
    rw [show (i : Int).toNat = i by omega]
    have hd1 : (xs.set i y).drop (i + 1) = xs.drop (i + 1) := by simp [List.drop_set]
    have hdx : xs.drop (i + 1) = p :: xs.drop (i + 1 + 1) := by
      have hlx : i + 1 < xs.length := by omega
      rw [List.drop_eq_getElem_cons hlx]
      rw [List.getElem?_eq_getElem hlx] at hp
      rw [Option.some.inj hp]
    refine ih f y _ (by omega) (by rw [List.length_set]; exact hxl) hf (by rw [List.getElem?_set_self (by omega)]) (by omega) (by omega) ?_ ?_
    · rw [hd1, hdx, List.drop_eq_getElem_cons hi']
      exact .cons _ _ _ _ _ (by omega) (by omega) hs
    · rw [hd1, hdx, List.drop_eq_getElem_cons (l := ts) (i := i + 1) (by omega)]
      show V f y + (mx (p - ts[i + 1]) (ts[i + 1] - p) + dist (ts.drop (i + 1 + 1)) (xs.drop (i + 1 + 1))) = sum
      omega
theorem nearest_ev (l : List Pc) (b u d : Int) (ts : List Int) : EvP (fun k => ramp_Nearest.f k l b u d ts) (fun r => (ROk l b u d ∧ ts.length = l.length ∧ (∀ t ∈ ts, 0 ≤ t ∧ t ≤ 100000) ∧ NearP l b u d ts r) ∨ (¬ (ROk l b u d ∧ ts.length = l.length ∧ (∀ t ∈ ts, 0 ≤ t ∧ t ≤ 100000)) ∧ r.1 = [] ∧ r.2.1 = 0 ∧ r.2.2 ≠ 0)) := by
  unfold ramp_Nearest.f
  refine EvP.bind (rcheck_ev l b u d) (fun e he => EvP.ite (fun hz => ?_) (fun hz => EvP.ret (Or.inr ⟨fun h => absurd (he.2 h.1) hz, rfl, rfl, hz⟩)))
  have h := he.1 hz
  have hb := h.b
  have hlen := h.len
  refine EvP.ite (fun hl => ?_) (fun hl => EvP.ret (Or.inr ⟨fun h => hl (by have := h.2.1; omega), rfl, rfl, by show (3 : Int) ≠ 0; decide⟩))
  have htl : ts.length = l.length := by omega
  have main : (∀ t ∈ ts, 0 ≤ t ∧ t ≤ 100000) → EvP (fun k => (ramp_values.f k l b u d ts).bind fun r2 => if r2.2 = 0 then if 0 ≤ (l.length : Int) then if (l.length : Int) * 8 ≤ 140737488355328 then if (l.length : Int) ≤ 140737488355328 then ramp_Nearest.l18 k l u d r2.1 0 (l.length : Int) (List.replicate (l.length : Int).toNat 0) else none else none else none else some ([], 0, r2.2)) (NearP l b u d ts) := by
    intro ht
    refine EvP.bind (rvalues_ev h htl ht) (fun r hr => ?_)
    obtain ⟨s1, s2, s3⟩ := single_valid (b := b) (by omega)
    cases hr with
    | none out hv hlo f x hf hx h0 hn => exact EvP.neg (by decide) (EvP.ret (.none 8 (by decide) (fun ps hs => sch_none hv hlo htl f x hf hx hn (out.length - 1) 0 _ b ps (by omega) hv.z (Int.le_refl _) (by rw [s2]; exact Int.le_refl _) hs)))
    | ok out hv hlo =>
      refine EvP.pos rfl (EvP.pos (by omega) (EvP.pos (by omega) (EvP.pos (by omega) ?_)))
      show EvP (fun k => ramp_Nearest.l18 k l u d out 0 (l.length : Int) (List.replicate (l.length : Int).toNat 0)) _
      rw [show (l.length : Int).toNat = l.length by omega]
      by_cases hz : l.length = 0
      · have hl0 : l = [] := List.eq_nil_of_length_eq_zero hz
        subst hl0
        have ht0 : ts = [] := List.eq_nil_of_length_eq_zero htl
        subst ht0
        refine EvP.step (fun k => ramp_Nearest.l18_eq k _ _ _ _ _ _ _) (EvP.neg (by simp) (EvP.ret (.ok _ 0 (.nil b) rfl (fun ps hs => ?_))))
        cases hs
        exact Int.le_refl _
      · have hlast : out[l.length]? = some (rY2 out (l.length : Int)) := by
          have := rY2_some (xs := out) (i := (l.length : Int)) (by omega) (by omega)
          rwa [show (l.length : Int).toNat = l.length by omega] at this
        have hinv := hv.inv l.length _ hlast
        generalize hff : rY2 out (l.length : Int) = f at *
        obtain ⟨x, v, hL, hLP⟩ := least_ev hinv.v
        have f0 := hinv.lo
        have f1 := hinv.hi
        have i0 := hLP.i0
        have i1 := hLP.i1
        refine EvP.step (fun k => ramp_Nearest.l18_eq k _ _ _ _ _ _ _) (EvP.pos (by omega) (EvP.pos (by omega) (EvP.pos (by omega) (EvP.pos rfl ?_))))
        rw [hff, w64 (x := (l.length : Int) - 1) (by omega) (by omega)]
        refine EvP.bindE hL (EvP.pos (by omega) (EvP.pos (by rw [List.length_replicate]; omega) ?_))
        show EvP (fun k => ramp_Nearest.l18 k l u d out v ((l.length : Int) - 1) ((List.replicate l.length 0).set ((l.length : Int) - 1).toNat x)) _
        obtain ⟨m, hm⟩ : ∃ m, l.length = m + 1 := ⟨l.length - 1, by omega⟩
        rw [show (l.length : Int) - 1 = (m : Int) by omega, show (m : Int).toNat = m by omega]
        refine near_loop h htl hv hlo v (fun ps hs => ?_) m f x _ (by omega) (by simp) (by rw [← hm]; exact hlast) (by rw [List.getElem?_set_self (by rw [List.length_replicate]; omega)]) i0 i1 ?_ ?_
        · obtain ⟨g, z, g1, g2, g3, g4⟩ := sch_ge hv hlo htl l.length 0 _ b ps (by omega) hv.z (Int.le_refl _) (by rw [s2]; exact Int.le_refl _) hs
          rw [hlast] at g1
          cases g1
          have := hLP.le z g2 g3
          rw [s3, List.drop_zero] at g4
          omega
        · rw [List.drop_eq_nil_of_le (by omega), List.drop_eq_nil_of_le (by simp; omega)]
          exact .nil x
        · rw [List.drop_eq_nil_of_le (as := ts) (by omega)]
          have := hLP.val
          show V f x + 0 = v
          omega
  have loop : ∀ (n : Nat) (i : Int), 0 ≤ i → (ts.length : Int) - i = n → (∀ (j : Nat) t, (j : Int) < i → ts[j]? = some t → 0 ≤ t ∧ t ≤ 100000) → EvP (fun k => ramp_Nearest.l7 k l b u d ts ts (ts.length : Int) i) (fun r => ((∀ t ∈ ts, 0 ≤ t ∧ t ≤ 100000) ∧ NearP l b u d ts r) ∨ (¬ (∀ t ∈ ts, 0 ≤ t ∧ t ≤ 100000) ∧ r.1 = [] ∧ r.2.1 = 0 ∧ r.2.2 ≠ 0)) := by
    intro n
    induction n with
    | zero =>
      intro i h0 h1 hj
      have ht : ∀ t ∈ ts, 0 ≤ t ∧ t ≤ 100000 := fun t ht => by
        obtain ⟨j, hj'⟩ := List.getElem?_of_mem ht
        have := (List.getElem?_eq_some_iff.1 hj').1
        exact hj j t (by omega) hj'
      exact EvP.step (fun k => ramp_Nearest.l7_eq k _ _ _ _ _ _ _ _) (EvP.neg (by omega) ((main ht).mono (fun r hr => Or.inl ⟨ht, hr⟩)))
    | succ n ih =>
      intro i h0 h1 hj
      have hlt : i < (ts.length : Int) := by omega
      have hmem := rI64_mem h0 hlt
      refine EvP.step (fun k => ramp_Nearest.l7_eq k _ _ _ _ _ _ _ _) (EvP.pos hlt (EvP.pos h0 (EvP.pos hlt ?_)))
      refine EvP.ite (fun c => EvP.ret (Or.inr ⟨fun h => by have := h _ hmem; omega, rfl, rfl, by show (4 : Int) ≠ 0; decide⟩)) (fun c1 => ?_)
      refine EvP.ite (fun c => EvP.ret (Or.inr ⟨fun h => by have := h _ hmem; omega, rfl, rfl, by show (4 : Int) ≠ 0; decide⟩)) (fun c2 => ?_)
      rw [w64 (x := i + 1) (by omega) (by omega)]
      refine ih (i + 1) (by omega) (by omega) (fun j t hj' hjt => ?_)
      by_cases hji : (j : Int) < i
      · exact hj j t hji hjt
      · have : j = i.toNat := by omega
        subst this
        rw [rI64_some h0 hlt] at hjt
        cases hjt
        omega
  refine (loop ts.length 0 (by omega) (by omega) (fun j t hj => by omega)).mono (fun r hr => ?_)
  rcases hr with ⟨ht, hr⟩ | ⟨hn, hr⟩
  · exact Or.inl ⟨h, htl, ht, hr⟩
  · exact Or.inr ⟨fun h => hn h.2.2, hr⟩
theorem near_ev : Ev (fun k => gridhallkeep3_near.f k) true := Ev.far 100 (fun k => by kernel_rfl)
theorem feas0_ev : Ev (fun k => ramp_Feasible.f k [(0, 9)] 0 5 5 [5]) (true, 0) := Ev.far 60 (fun k => by kernel_rfl)
end Go.Proofs.Ytcmbckancficcaa.VE
