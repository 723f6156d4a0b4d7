import Derived.Test.YtcmbckancficcaaVpRgA
namespace Go.Proofs.Ytcmbckancficcaa.VE
open Go Go.RowKit
set_option linter.unusedVariables false
attribute [local irreducible] wrap64
/-! ### cut, Restrict (no statement is proved here) -/
def pre : List Pc → Int → List Pc
  | [], _ => []
  | p :: ps, D => (if 0 < mn p.1 D then [(mn p.1 D, p.2)] else []) ++ pre ps (D - p.1)
def cutP : Int → Int → Int → List Pc → List Pc
  | _, _, _, [] => []
  | a, lo, en, p :: ps => (if mx a lo < mn (a + p.1) en then [(mn (a + p.1) en - mx a lo, p.2)] else []) ++ cutP (a + p.1) lo en ps
theorem pre_nil (D : Int) : pre [] D = [] := rfl
theorem pre_cons (p : Pc) (ps : List Pc) (D : Int) : pre (p :: ps) D = (if 0 < mn p.1 D then [(mn p.1 D, p.2)] else []) ++ pre ps (D - p.1) := rfl
theorem cutP_cons (a lo en : Int) (p : Pc) (ps : List Pc) : cutP a lo en (p :: ps) = (if mx a lo < mn (a + p.1) en then [(mn (a + p.1) en - mx a lo, p.2)] else []) ++ cutP (a + p.1) lo en ps := rfl
theorem pre_neg : ∀ (ps : List Pc) (D : Int), Nn ps → D ≤ 0 → pre ps D = []
  | [], _, _, _ => rfl
  | p :: ps, D, hn, h => by
    have hp := hn p (by simp)
    have hm := mn_le p.1 D
    rw [pre_cons, if_neg (by omega), pre_neg ps _ (fun q hq => hn q (by simp [hq])) (by omega)]; rfl
theorem pre_facts : ∀ (ps : List Pc) (D : Int), Nn ps → 0 ≤ D → D ≤ total ps → total (pre ps D) = D ∧ ∀ d, 0 ≤ d → d ≤ D → vAt (pre ps D) d = vAt ps d
  | [], D, _, h0, h1 => by
    rw [total_nil] at h1
    rw [pre_nil, total_nil]
    exact ⟨by omega, fun d _ _ => rfl⟩
  | p :: ps, D, hn, h0, h1 => by
    have hp := hn p (by simp)
    have hn' : Nn ps := fun q hq => hn q (by simp [hq])
    rw [total_cons] at h1
    rw [pre_cons]
    rcases Int.le_total p.1 D with hd | hd
    · rw [mn_of_le hd]
      obtain ⟨k1, k2⟩ := pre_facts ps (D - p.1) hn' (by omega) (by omega)
      by_cases hz : 0 < p.1
      · rw [if_pos hz, List.singleton_append]
        refine ⟨by rw [total_cons, k1]; omega, fun d d0 d1 => ?_⟩
        rw [vAt_cons, vAt_cons]
        have hm := mn_le p.1 d
        show mn p.1 d * p.2 + vAt (pre ps (D - p.1)) (d - mn p.1 d) = _
        rw [k2 _ (by omega) (by omega)]
      · rw [if_neg hz, List.nil_append]
        have hz : p.1 = 0 := by omega
        rw [hz, Int.sub_zero] at k1 k2
        rw [hz, Int.sub_zero]
        refine ⟨k1, fun d d0 d1 => ?_⟩
        rw [vAt_cons, hz, mn_of_le d0, Int.zero_mul, Int.zero_add, Int.sub_zero]
        exact k2 d d0 d1
    · rw [mn_of_ge hd, pre_neg ps _ hn' (by omega), List.append_nil]
      by_cases hz : 0 < D
      · rw [if_pos hz]
        refine ⟨by rw [total_cons, total_nil]; omega, fun d d0 d1 => ?_⟩
        rw [vAt_cons, vAt_cons, mn_of_ge d1, mn_of_ge (a := p.1) (b := d) (by omega), Int.sub_self, vAt_zero ps hn']; rfl
      · rw [if_neg hz]
        refine ⟨by rw [total_nil]; omega, fun d d0 d1 => ?_⟩
        have : d = 0 := by omega
        subst this
        rw [vAt_zero _ hn]; rfl
theorem cutP_pre : ∀ (ps : List Pc) (a lo en : Int), Nn ps → lo ≤ a → cutP a lo en ps = pre ps (en - a)
  | [], _, _, _, _, _ => rfl
  | p :: ps, a, lo, en, hn, h => by
    have hp := hn p (by simp)
    have hx := mx_ge a lo
    have e1 : mx a lo = a := by unfold mx; split <;> omega
    have e2 : mn (a + p.1) en - a = mn p.1 (en - a) := by unfold mn; split <;> split <;> omega
    rw [cutP_cons, pre_cons, e1, e2, cutP_pre ps _ _ _ (fun q hq => hn q (by simp [hq])) (by omega), show en - (a + p.1) = en - a - p.1 by omega]
    by_cases hz : 0 < mn p.1 (en - a)
    · rw [if_pos hz, if_pos (by omega)]
    · rw [if_neg hz, if_neg (by omega)]
theorem cutP_facts : ∀ (ps : List Pc) (a lo en : Int), Nn ps → a ≤ lo → lo ≤ en → en ≤ a + total ps → total (cutP a lo en ps) = en - lo ∧ ∀ d, 0 ≤ d → d ≤ en - lo → vAt ps (lo - a) + vAt (cutP a lo en ps) d = vAt ps (lo - a + d)
  | [], a, lo, en, _, h0, h1, h2 => by
    rw [total_nil] at h2
    show total [] = _ ∧ _
    rw [total_nil]
    exact ⟨by omega, fun d d0 d1 => rfl⟩
  | p :: ps, a, lo, en, hn, h0, h1, h2 => by
    have hp := hn p (by simp)
    have hn' : Nn ps := fun q hq => hn q (by simp [hq])
    have ht := total_nonneg ps hn'
    rw [total_cons] at h2
    rw [cutP_cons]
    have e1 : mx a lo = lo := by unfold mx; split <;> omega
    rw [e1]
    rcases Int.le_total (a + p.1) lo with hd | hd
    · have hm := mn_le (a + p.1) en
      obtain ⟨k1, k2⟩ := cutP_facts ps (a + p.1) lo en hn' hd h1 (by omega)
      rw [if_neg (by omega), List.nil_append]
      refine ⟨k1, fun d d0 d1 => ?_⟩
      have := k2 d d0 d1
      rw [vAt_cons, vAt_cons, mn_of_le (a := p.1) (b := lo - a) (by omega), mn_of_le (a := p.1) (b := lo - a + d) (by omega), show lo - a - p.1 = lo - (a + p.1) by omega, show lo - a + d - p.1 = lo - (a + p.1) + d by omega]
      omega
    · rw [cutP_pre ps (a + p.1) lo en hn' hd]
      rcases Int.lt_or_le (a + p.1) en with he | he
      · rw [mn_of_le (a := a + p.1) (b := en) (by omega)]
        obtain ⟨k1, k2⟩ := pre_facts ps (en - (a + p.1)) hn' (by omega) (by omega)
        have base : vAt (p :: ps) (lo - a) = (lo - a) * p.2 := by
          rw [vAt_cons, mn_of_ge (a := p.1) (b := lo - a) (by omega), Int.sub_self, vAt_zero ps hn', Int.add_zero]
        rw [base]
        by_cases hz : lo < a + p.1
        · rw [if_pos hz, List.singleton_append]
          refine ⟨by rw [total_cons, k1]; omega, fun d d0 d1 => ?_⟩
          rw [vAt_cons, vAt_cons]
          rcases Int.le_total (a + p.1 - lo) d with hq | hq
          · rw [mn_of_le (a := (a + p.1 - lo, p.2).1) (b := d) hq, mn_of_le (a := p.1) (b := lo - a + d) (by omega)]
            show (lo - a) * p.2 + ((a + p.1 - lo) * p.2 + vAt (pre ps (en - (a + p.1))) (d - (a + p.1 - lo))) = _
            rw [k2 _ (by omega) (by omega), show lo - a + d - p.1 = d - (a + p.1 - lo) by omega]
            have : p.1 * p.2 = (lo - a) * p.2 + (a + p.1 - lo) * p.2 := by rw [← Int.add_mul]; congr 1; omega
            omega
          · rw [mn_of_ge (a := (a + p.1 - lo, p.2).1) (b := d) hq, mn_of_ge (a := p.1) (b := lo - a + d) (by omega), Int.sub_self, Int.sub_self, vAt_zero ps hn']
            have hpn : Nn (pre ps (en - (a + p.1))) := by
              have : ∀ (ps : List Pc) (D : Int), Nn (pre ps D) := by
                intro ps
                induction ps with
                | nil => intro D q hq; cases hq
                | cons p ps ih =>
                  intro D q hq
                  rw [pre_cons] at hq
                  rcases List.mem_append.1 hq with hq | hq
                  · split at hq
                    · rw [List.mem_singleton] at hq; subst hq; show 0 ≤ mn p.1 D; omega
                    · cases hq
                  · exact ih _ q hq
              exact this _ _
            rw [vAt_zero _ hpn]
            show (lo - a) * p.2 + (d * p.2 + 0) = (lo - a + d) * p.2 + 0
            rw [Int.add_mul]; omega
        · rw [if_neg hz, List.nil_append]
          have hz : lo = a + p.1 := by omega
          refine ⟨by rw [k1]; omega, fun d d0 d1 => ?_⟩
          rw [k2 d d0 (by omega), vAt_cons, mn_of_le (a := p.1) (b := lo - a + d) (by omega), show lo - a = p.1 by omega, show p.1 + d - p.1 = d by omega]
      · rw [mn_of_ge (a := a + p.1) (b := en) he, pre_neg ps _ hn' (by omega), List.append_nil]
        by_cases hz : lo < en
        · rw [if_pos hz]
          refine ⟨by rw [total_cons, total_nil]; omega, fun d d0 d1 => ?_⟩
          rw [vAt_cons, vAt_cons, vAt_cons, mn_of_ge (a := p.1) (b := lo - a) (by omega), mn_of_ge (a := p.1) (b := lo - a + d) (by omega), mn_of_ge (a := (en - lo, p.2).1) (b := d) d1, Int.sub_self, Int.sub_self, Int.sub_self, vAt_zero ps hn']
          show (lo - a) * p.2 + 0 + (d * p.2 + 0) = (lo - a + d) * p.2 + 0
          rw [Int.add_mul]; omega
        · rw [if_neg hz]
          refine ⟨by rw [total_nil]; omega, fun d d0 d1 => ?_⟩
          have : d = 0 := by omega
          subst this
          rw [Int.add_zero]
          exact Int.add_zero _
theorem cutP_mem : ∀ (ps : List Pc) (a lo en : Int) (q : Pc), q ∈ cutP a lo en ps → ∃ p ∈ ps, q.2 = p.2 ∧ q.1 ≤ p.1 ∧ 0 < q.1
  | [], _, _, _, q, h => by cases h
  | p :: ps, a, lo, en, q, h => by
    rw [cutP_cons] at h
    have h1 := mx_ge a lo
    have h2 := mn_le (a + p.1) en
    rcases List.mem_append.1 h with h | h
    · split at h
      · rw [List.mem_singleton] at h; subst h
        exact ⟨p, by simp, rfl, by show mn (a + p.1) en - mx a lo ≤ _; omega, by show 0 < mn (a + p.1) en - mx a lo; omega⟩
      · cases h
    · obtain ⟨p', hp', k⟩ := cutP_mem ps _ _ _ q h
      exact ⟨p', by simp [hp'], k⟩
theorem cutP_SP : ∀ (ps : List Pc) (a lo en : Int), SP ps → SP (cutP a lo en ps)
  | [], _, _, _, _ => SP.nil
  | p :: ps, a, lo, en, h => by
    have ih := cutP_SP ps (a + p.1) lo en h.tail
    rw [cutP_cons]
    split
    · refine ⟨List.pairwise_cons.2 ⟨fun q hq => ?_, ih.s⟩, fun q hq => ?_⟩
      · obtain ⟨p', hp', e, _⟩ := cutP_mem ps _ _ _ q hq
        rw [e]
        exact (List.pairwise_cons.1 h.s).1 p' hp'
      · rcases List.mem_cons.1 hq with rfl | hq
        · show 0 < mn (a + p.1) en - mx a lo; omega
        · exact ih.p q hq
    · exact ih
theorem cutP_len : ∀ (ps : List Pc) (a lo en : Int), (cutP a lo en ps).length ≤ ps.length
  | [], _, _, _ => Nat.le_refl _
  | p :: ps, a, lo, en => by
    have := cutP_len ps (a + p.1) lo en
    rw [cutP_cons, List.length_append, List.length_cons]
    split <;> simp <;> omega
/-- A part of a function. -/
def part' (f : Cv) (lo en : Int) : Cv := (lo, V f lo, cutP f.1 lo en f.2.2)
theorem part_valid {f : Cv} (h : Valid f) {lo en : Int} (h0 : f.1 ≤ lo) (h1 : lo ≤ en) (h2 : en ≤ hi f) : Valid (part' f lo en) ∧ hi (part' f lo en) = en ∧ ∀ x, lo ≤ x → x ≤ en → V (part' f lo en) x = V f x := by
  have ok := h.ok
  have hh := h.hi_ge
  have hf := h.2.1
  obtain ⟨k1, k2⟩ := cutP_facts f.2.2 f.1 lo en ok.sp.nn h0 h1 h2
  have hV : ∀ x, lo ≤ x → x ≤ en → V (part' f lo en) x = V f x := fun x x0 x1 => by
    have := k2 (x - lo) (by omega) (by omega)
    show f.2.1 + vAt f.2.2 (lo - f.1) + vAt (cutP f.1 lo en f.2.2) (x - lo) = f.2.1 + vAt f.2.2 (x - f.1)
    rw [show lo - f.1 + (x - lo) = x - f.1 by omega] at this
    omega
  refine ⟨Valid.of ?_ ?_ ⟨cutP_SP _ _ _ _ ok.sp, fun q hq => ?_, fun q hq => ?_, ?_, fun d d0 d1 => ?_⟩, ?_, hV⟩
  · have := cutP_len f.2.2 f.1 lo en
    have := h.1
    show (cutP f.1 lo en f.2.2).length ≤ 64
    omega
  · show -1000000 ≤ lo ∧ lo ≤ 1000000
    omega
  · obtain ⟨p, hp, _, hle, _⟩ := cutP_mem _ _ _ _ q hq
    have := ok.long p hp; omega
  · obtain ⟨p, hp, e, _, _⟩ := cutP_mem _ _ _ _ q hq
    rw [e]; exact ok.slope p hp
  · show lo + total (cutP f.1 lo en f.2.2) ≤ _
    rw [k1]; omega
  · have d1 : d ≤ en - lo := by rw [← k1]; exact d1
    have := hV (lo + d) (by omega) (by omega)
    have e : V (part' f lo en) (lo + d) = (part' f lo en).2.1 + vAt (part' f lo en).2.2 d := by
      unfold V
      rw [show lo + d - (part' f lo en).1 = d by show lo + d - lo = d; omega]
    rw [← e, this]
    exact h.V_rng (by omega) (by omega)
  · show lo + total (cutP f.1 lo en f.2.2) = en
    rw [k1]; omega
theorem cut_loop (l : List Pc) (hl : l.length ≤ 64) (hp : ∀ p ∈ l, 0 ≤ p.1 ∧ p.1 ≤ 2000000) (lo en : Int) (hlo : -1000000 ≤ lo ∧ lo ≤ 1000000) (hen : -1000000 ≤ en ∧ en ≤ 1000000) : ∀ (n : Nat) (i a : Int) (out : List Pc), 0 ≤ i → (l.length : Int) - i = n → (out.length : Int) ≤ i → -1000000 ≤ a → a ≤ 1000000 + 2000000 * i → Ev (fun k => convexpl_cut.l4 k lo en a l (l.length : Int) i out) (out ++ cutP a lo en (l.drop i.toNat)) := by
  intro n
  induction n with
  | zero =>
    intro i a out h0 h1 h2 h3 h4
    rw [drop_end (by omega)]
    show Ev _ (out ++ [])
    rw [List.append_nil]
    exact Ev.step (fun k => convexpl_cut.l4_eq k _ _ _ _ _ _ _) (Ev.neg (by omega) (Ev.now _))
  | succ n ih =>
    intro i a out h0 h1 h2 h3 h4
    have hlt : i < (l.length : Int) := by omega
    obtain ⟨p0, p1⟩ := hp _ (rY0_mem h0 hlt)
    rw [rY0_drop h0 hlt, cutP_cons]
    have m1 := mx_ge a lo
    have m2 := mn_le (a + (rY0 l i).1) en
    refine Ev.step (fun k => convexpl_cut.l4_eq k _ _ _ _ _ _ _) (Ev.pos hlt (Ev.pos h0 (Ev.pos hlt ?_)))
    rw [w64 (x := i + 1) (by omega) (by omega), w64 (x := a + (rY0 l i).1) (by omega) (by omega), w64 (x := mn (a + (rY0 l i).1) en - mx a lo) (by omega) (by omega)]
    refine Ev.ite (fun hc => Ev.pos (by rw [List.length_singleton]; omega) ?_) (fun hc => ?_)
    · rw [if_pos hc, ← List.append_assoc]
      exact ih (i + 1) _ _ (by omega) (by omega) (by rw [List.length_append, List.length_singleton]; omega) (by omega) (by omega)
    · rw [if_neg hc, List.nil_append]
      exact ih (i + 1) _ _ (by omega) (by omega) (by omega) (by omega) (by omega)
theorem cut_ev {f : Cv} (h : Valid f) {lo en : Int} (h0 : f.1 ≤ lo) (h1 : lo ≤ en) (h2 : en ≤ hi f) : Ev (fun k => convexpl_cut.f k f lo en) (cutP f.1 lo en f.2.2) := by
  have hh := h.hi_ge
  have hf := h.2.1
  have := cut_loop f.2.2 h.1 (fun p hp => ⟨h.ok.sp.nn p hp, h.ok.long p hp⟩) lo en (by omega) (by omega) f.2.2.length 0 f.1 [] (by omega) (by omega) (by simp) (by omega) (by omega)
  exact this
/-- Restrict to a part that is there. -/
theorem restrict_ev {f : Cv} (h : Valid f) {lo en : Int} (h0 : f.1 ≤ lo) (h1 : lo ≤ en) (h2 : en ≤ hi f) : Ev (fun k => convexpl_Restrict.f k f lo en) (part' f lo en, 0) := by
  obtain ⟨v1, v2, v3⟩ := part_valid h h0 h1 h2
  have e1 : mx lo f.1 = lo := by unfold mx; split <;> omega
  have e2 : mn en (hi f) = en := mn_of_le h2
  unfold convexpl_Restrict.f
  refine Ev.bind (ccheck_yes h) (Ev.pos rfl (Ev.bind (high_ev h) ?_))
  rw [e1, e2]
  refine Ev.neg (by omega) (Ev.bind (value_ev h h0 (by omega)) (Ev.bind (cut_ev h h0 h1 h2) ?_))
  have hsp := cutP_SP _ f.1 lo en h.ok.sp
  obtain ⟨r, hr, hp⟩ := made_ev lo (V f lo) (cutP f.1 lo en f.2.2) (by have := cutP_len f.2.2 f.1 lo en; have := h.1; omega) (fun q hq => by
    obtain ⟨p, hp, _, hle, hlt⟩ := cutP_mem _ _ _ _ q hq
    have := h.ok.long p hp; omega)
  refine Ev.bind hr ?_
  cases hp with
  | ok s hv =>
    rw [nrm_id hsp]
    exact Ev.now _
  | bad s hv =>
    rw [nrm_id hsp] at hv
    exact absurd v1 hv
/-! ### Turn, Move -/
def negP (ps : List Pc) : List Pc := ps.map fun p => (p.1, -p.2)
theorem negP_nn {ps : List Pc} (h : Nn ps) : Nn (negP ps) := fun q hq => by
  obtain ⟨p, hp, rfl⟩ := List.mem_map.1 hq
  exact h p hp
theorem lin_negP (g : Int → Int) : ∀ ps : List Pc, lin g (negP ps) = lin (fun t => g (-t)) ps
  | [] => rfl
  | p :: ps => by
    show lin g ((p.1, -p.2) :: negP ps) = _
    rw [lin_cons, lin_cons, lin_negP g ps]
theorem total_negP (ps : List Pc) : total (negP ps) = total ps := by rw [← lin_one, ← lin_one, lin_negP]
theorem meas_negP (ps : List Pc) (s : Int) : meas (negP ps) s = meas ps (-s) := by
  unfold meas
  rw [lin_negP]
  congr 1
  funext t
  by_cases h : t = -s
  · rw [if_pos h, if_pos (by omega)]
  · rw [if_neg h, if_neg (by omega)]
theorem negP_turn {ps : List Pc} (h : SP ps) : nrm (negP (nrm (negP ps))) = ps := nrm_eq (negP_nn (nrm_SP (negP_nn h.nn)).nn) h (fun s => by rw [meas_negP, meas_nrm, meas_negP, Int.neg_neg])
def turned (f : Cv) : Cv := (-hi f, V f (hi f), nrm (negP f.2.2))
theorem turn_loop (f : Cv) (h : Valid f) (b c : Int) : ∀ (n : Nat) (i : Int) (out : List Pc), 0 ≤ i → (f.2.2.length : Int) - i = n → (out.length : Int) ≤ i → out ++ negP (f.2.2.drop i.toNat) = negP f.2.2 → EvP (fun k => convexpl_Turn.l7 k (hi f) f.2.2 (f.2.2.length : Int) i f.1 f.2.1 f.2.2 b c out) (fun r => (Valid (turned f) ∧ r = (turned f, 0)) ∨ (¬ Valid (turned f) ∧ r = ((0, 0, []), 2))) := by
  have hl := h.1
  have hh := h.hi_ge
  have hf := h.2.1
  intro n
  induction n with
  | zero =>
    intro i out h0 h1 h2 hk
    rw [drop_end (by omega)] at hk
    have hk : out ++ [] = negP f.2.2 := hk
    rw [List.append_nil] at hk
    subst hk
    refine EvP.step (fun k => convexpl_Turn.l7_eq k _ _ _ _ _ _ _ _ _ _) (EvP.neg (by omega) (EvP.bindE (value_ev h hh.1 (Int.le_refl _)) ?_))
    rw [w64 (x := 0 - hi f) (by omega) (by omega), Int.zero_sub]
    refine EvP.bind (made_ev (-hi f) (V f (hi f)) (negP f.2.2) (by unfold negP; rw [List.length_map]; omega) (fun q hq => ?_)) (fun r hr => ?_)
    · obtain ⟨p, hp, rfl⟩ := List.mem_map.1 hq
      have := h.ok.sp.nn p hp
      have := h.ok.long p hp
      show 0 ≤ p.1 ∧ p.1 ≤ 1000000000; omega
    · cases hr with
      | ok s hv => exact EvP.ret (Or.inl ⟨hv, rfl⟩)
      | bad s hv => exact EvP.ret (Or.inr ⟨hv, rfl⟩)
  | succ n ih =>
    intro i out h0 h1 h2 hk
    have hlt : i < (f.2.2.length : Int) := by omega
    have hs := h.ok.slope _ (rY0_mem h0 hlt)
    rw [rY0_drop h0 hlt] at hk
    have hk : out ++ ((rY0 f.2.2 i).1, -(rY0 f.2.2 i).2) :: negP (f.2.2.drop (i + 1).toNat) = negP f.2.2 := hk
    refine EvP.step (fun k => convexpl_Turn.l7_eq k _ _ _ _ _ _ _ _ _ _) (EvP.pos hlt (EvP.pos h0 (EvP.pos hlt (EvP.pos (by rw [List.length_singleton]; omega) ?_))))
    rw [w64 (x := i + 1) (by omega) (by omega), w64 (x := 0 - (rY0 f.2.2 i).2) (by omega) (by omega), Int.zero_sub]
    exact ih (i + 1) _ (by omega) (by omega) (by rw [List.length_append, List.length_singleton]; omega) (by rw [List.append_assoc]; exact hk)
theorem turn_ev (f : Cv) : EvP (fun k => convexpl_Turn.f k f) (fun r => (r.2 ≠ 0 ∧ r.1 = (0, 0, [])) ∨ (Valid f ∧ Valid (turned f) ∧ r = (turned f, 0))) := by
  unfold convexpl_Turn.f
  refine EvP.bind (ccheck_ev f) (fun e he => EvP.ite (fun hz => ?_) (fun hz => EvP.ret (Or.inl ⟨hz, rfl⟩)))
  have hV := he.1 hz
  refine EvP.bindE (high_ev hV) ((turn_loop f hV 0 0 f.2.2.length 0 [] (by omega) (by omega) (by simp) (by simp)).mono (fun r hr => ?_))
  rcases hr with ⟨h1, rfl⟩ | ⟨h1, rfl⟩
  · exact Or.inr ⟨hV, h1, rfl⟩
  · exact Or.inl ⟨by decide, rfl⟩
theorem turn_yes {f : Cv} (h : Valid f) (h' : Valid (turned f)) : Ev (fun k => convexpl_Turn.f k f) (turned f, 0) := by
  unfold convexpl_Turn.f
  obtain ⟨r, hr, hp⟩ := turn_loop f h 0 0 f.2.2.length 0 [] (by omega) (by omega) (by simp) (by simp)
  have : r = (turned f, 0) := by
    rcases hp with ⟨_, e⟩ | ⟨hn, _⟩
    · exact e
    · exact absurd h' hn
  subst this
  exact Ev.bind (ccheck_yes h) (Ev.pos rfl (Ev.bind (high_ev h) hr))
theorem turned_turned {f : Cv} (h : Valid f) : turned (turned f) = f := by
  have hsp := h.ok.sp
  have e1 : hi (turned f) = -f.1 := by
    show -hi f + total (nrm (negP f.2.2)) = -f.1
    rw [total_nrm, total_negP]; unfold hi; omega
  have e2 : V (turned f) (hi (turned f)) = f.2.1 := by
    show V f (hi f) + vAt (nrm (negP f.2.2)) (hi (turned f) - -hi f) = f.2.1
    rw [e1, show -f.1 - -hi f = total (nrm (negP f.2.2)) by rw [total_nrm, total_negP]; unfold hi; omega, vAt_total _ (nrm_SP (negP_nn hsp.nn)).nn, lin_nrm, lin_negP]
    unfold V
    rw [show hi f - f.1 = total f.2.2 by unfold hi; omega, vAt_total _ hsp.nn]
    have : ∀ ps : List Pc, lin (fun t => -t) ps = -lin (fun s => s) ps := by
      intro ps
      induction ps with
      | nil => rfl
      | cons p ps ih => rw [lin_cons, lin_cons, ih, Int.mul_neg]; omega
    rw [this]; omega
  show (-hi (turned f), V (turned f) (hi (turned f)), nrm (negP (nrm (negP f.2.2)))) = f
  rw [e2, e1, negP_turn hsp, Int.neg_neg]
theorem clonep_ev (l : List Pc) (h : l.length * 16 ≤ 140737488355328) : Ev (fun k => slices_Clone_api_ConvexPiece.f k l) l := by
  unfold slices_Clone_api_ConvexPiece.f
  rw [List.nil_append, List.length_nil, Nat.zero_add, if_pos h]
  by_cases hl : l.length = 0
  · have : l = [] := List.eq_nil_of_length_eq_zero hl
    rw [if_pos hl, this, both_same]
    exact Ev.now _
  · rw [if_neg hl]
    exact Ev.now _
theorem move_ev (f : Cv) (x y : Int) : EvP (fun k => convexpl_Move.f k f x y) (fun r => (r.2 ≠ 0 ∧ r.1 = (0, 0, [])) ∨ (Valid f ∧ (-2000000 ≤ x ∧ x ≤ 2000000) ∧ (-1000000000000000 ≤ y ∧ y ≤ 1000000000000000) ∧ Valid (f.1 + x, f.2.1 + y, f.2.2) ∧ r = ((f.1 + x, f.2.1 + y, f.2.2), 0))) := by
  unfold convexpl_Move.f
  refine EvP.bind (ccheck_ev f) (fun e he => EvP.ite (fun hz => ?_) (fun hz => EvP.ret (Or.inl ⟨hz, rfl⟩)))
  have hV := he.1 hz
  refine EvP.ite (fun h => EvP.ret (Or.inl ⟨by decide, rfl⟩)) (fun c1 => ?_)
  refine EvP.ite (fun h => EvP.ret (Or.inl ⟨by decide, rfl⟩)) (fun c2 => ?_)
  refine EvP.ite (fun h => EvP.ret (Or.inl ⟨by decide, rfl⟩)) (fun c3 => ?_)
  refine EvP.ite (fun h => EvP.ret (Or.inl ⟨by decide, rfl⟩)) (fun c4 => ?_)
  have hl := hV.1
  have h1 := hV.2.1
  have h2 := hV.2.2.1
  refine EvP.bindE (clonep_ev f.2.2 (by omega)) ?_
  rw [w64 (x := f.1 + x) (by omega) (by omega), w64 (x := f.2.1 + y) (by omega) (by omega)]
  refine EvP.bind (made_ev (f.1 + x) (f.2.1 + y) f.2.2 (by omega) (fun p hp => ⟨hV.ok.sp.nn p hp, by have := hV.ok.long p hp; omega⟩)) (fun r hr => ?_)
  cases hr with
  | ok s hv =>
    rw [nrm_id hV.ok.sp] at hv ⊢
    exact EvP.ret (Or.inr ⟨hV, by omega, by omega, hv, rfl⟩)
  | bad s hv => exact EvP.ret (Or.inl ⟨by show (2 : Int) ≠ 0; decide, rfl⟩)
/-! ### comparing -/
theorem equal_loop (l m : List Pc) (hl : l.length ≤ 1000) (hm : m.length = l.length) : ∀ (n : Nat) (i : Int), 0 ≤ i → (l.length : Int) - i = n → Ev (fun k => slices_Equal_api_ConvexPiece.l4 k l m (l.length : Int) i) (decide (l.drop i.toNat = m.drop i.toNat)) := by
  intro n
  induction n with
  | zero =>
    intro i h0 h1
    rw [drop_end (by omega), drop_end (by omega), decide_eq_true rfl]
    exact Ev.step (fun k => slices_Equal_api_ConvexPiece.l4_eq k _ _ _ _) (Ev.neg (by omega) (Ev.now _))
  | succ n ih =>
    intro i h0 h1
    have hlt : i < (l.length : Int) := by omega
    have hlm : i < (m.length : Int) := by omega
    rw [rY0_drop h0 hlt, rY0_drop h0 hlm]
    refine Ev.step (fun k => slices_Equal_api_ConvexPiece.l4_eq k _ _ _ _) (Ev.pos hlt (Ev.pos h0 (Ev.pos hlt (Ev.pos h0 (Ev.pos hlm ?_)))))
    rw [w64 (x := i + 1) (by omega) (by omega)]
    refine Ev.ite (fun hc => ?_) (fun hc => ?_)
    · have e : rY0 l i = rY0 m i := Prod.ext hc.1 hc.2
      rw [e]
      simp only [List.cons.injEq, true_and]
      exact ih (i + 1) (by omega) (by omega)
    · have e : rY0 l i ≠ rY0 m i := fun e => hc ⟨by rw [e], by rw [e]⟩
      rw [decide_eq_false (by simp only [List.cons.injEq]; exact fun h => e h.1)]
      exact Ev.now _
theorem same_ev (f g : Cv) (hf : f.2.2.length ≤ 1000) : Ev (fun k => gridhallkeep3_sameConvex.f k f g) (decide (f = g)) := by
  obtain ⟨f1, f2, f3⟩ := f
  obtain ⟨g1, g2, g3⟩ := g
  unfold gridhallkeep3_sameConvex.f
  refine Ev.ite (fun h1 => Ev.ite (fun h2 => ?_) (fun h2 => ?_)) (fun h1 => ?_)
  · have h1 : f1 = g1 := h1
    have h2 : f2 = g2 := h2
    subst h1 h2
    refine Ev.bind (a := decide (f3 = g3)) ?_ (by simpa using Ev.now (decide (f3 = g3)))
    unfold slices_Equal_api_ConvexPiece.f
    refine Ev.ite (fun h => ?_) (fun h => ?_)
    · have h : (f3.length : Int) = (g3.length : Int) := h
      have := equal_loop f3 g3 hf (by omega) f3.length 0 (by omega) (by omega)
      exact this
    · have h : ¬ (f3.length : Int) = (g3.length : Int) := h
      rw [decide_eq_false (fun e => h (by rw [e]))]
      exact Ev.now _
  · rw [decide_eq_false (fun e => h2 (by cases e; rfl))]
    exact Ev.now _
  · rw [decide_eq_false (fun e => h1 (by cases e; rfl))]
    exact Ev.now _
/-! ### Conjugate, Convolve (no statement is proved here) -/
theorem conj_loop (l : List Pc) (hl : l.length ≤ 64) (hp : ∀ p ∈ l, (0 ≤ p.1 ∧ p.1 ≤ 2000000) ∧ (-10000000 ≤ p.2 ∧ p.2 ≤ 10000000)) (hs : l.Pairwise fun p q => p.2 < q.2) (s : Int) (hS : -10000000 ≤ s ∧ s ≤ 10000000) : ∀ (n : Nat) (i a v : Int), 0 ≤ i → (l.length : Int) - i = n → -1000000 - 2000000 * i ≤ a → a ≤ 1000000 + 2000000 * i → -(1000000000000000 + 20000000000000 * i) ≤ v → v ≤ 1000000000000000 + 20000000000000 * i → Ev (fun k => convexpl_Conjugate.l8 k s a v l (l.length : Int) i) (s * a - v + lin (fun t => pos (s - t)) (l.drop i.toNat), 0) := by
  intro n
  induction n with
  | zero =>
    intro i a v h0 h1 ha1 ha2 hv1 hv2
    have m := mul_abs (a := s) (b := a) (A := 10000000) (B := 200000000) (by omega) (by omega) (by omega) (by omega)
    rw [drop_end (by omega), show lin (fun t => pos (s - t)) [] = 0 from rfl, Int.add_zero]
    refine Ev.step (fun k => convexpl_Conjugate.l8_eq k _ _ _ _ _ _) (Ev.neg (by omega) ?_)
    rw [w64 (x := s * a) (by omega) (by omega), w64 (x := s * a - v) (by omega) (by omega)]
    exact Ev.now _
  | succ n ih =>
    intro i a v h0 h1 ha1 ha2 hv1 hv2
    have hlt : i < (l.length : Int) := by omega
    obtain ⟨⟨p0, p1⟩, p2, p3⟩ := hp _ (rY0_mem h0 hlt)
    have m := mul_abs (a := s) (b := a) (A := 10000000) (B := 200000000) (by omega) (by omega) (by omega) (by omega)
    have hs' : (l.drop i.toNat).Pairwise fun p q => p.2 < q.2 := hs.sublist (List.drop_sublist _ _)
    rw [rY0_drop h0 hlt] at hs' ⊢
    refine Ev.step (fun k => convexpl_Conjugate.l8_eq k _ _ _ _ _ _) (Ev.pos hlt (Ev.pos h0 (Ev.pos hlt ?_)))
    refine Ev.ite (fun hc => ?_) (fun hc => ?_)
    · have e : lin (fun t => pos (s - t)) (rY0 l i :: l.drop (i + 1).toNat) = 0 := by
        rw [lin_cons]
        have e1 : pos (s - (rY0 l i).2) = 0 := by unfold pos; rw [if_neg (by omega)]
        rw [e1, lin_above _ (s := (rY0 l i).2) (fun t ht => by unfold pos; rw [if_neg (by omega)]) _ (List.pairwise_cons.1 hs').1, Int.mul_zero]; rfl
      rw [e, Int.add_zero, w64 (x := s * a) (by omega) (by omega), w64 (x := s * a - v) (by omega) (by omega)]
      exact Ev.now _
    · have m2 := mul_abs (a := (rY0 l i).1) (b := (rY0 l i).2) (A := 2000000) (B := 10000000) (by omega) (by omega) (by omega) (by omega)
      rw [w64 (x := i + 1) (by omega) (by omega), w64 (x := a + (rY0 l i).1) (by omega) (by omega), w64 (x := (rY0 l i).1 * (rY0 l i).2) (by omega) (by omega), w64 (x := v + _) (by omega) (by omega)]
      have := ih (i + 1) (a + (rY0 l i).1) (v + (rY0 l i).1 * (rY0 l i).2) (by omega) (by omega) (by omega) (by omega) (by omega) (by omega)
      rw [lin_cons]
      have e1 : pos (s - (rY0 l i).2) = s - (rY0 l i).2 := by unfold pos; rw [if_pos (by omega)]
      rw [e1]
      have e2 : s * (a + (rY0 l i).1) - (v + (rY0 l i).1 * (rY0 l i).2) + lin (fun t => pos (s - t)) (l.drop (i + 1).toNat) = s * a - v + ((rY0 l i).1 * (s - (rY0 l i).2) + lin (fun t => pos (s - t)) (l.drop (i + 1).toNat)) := by
        rw [Int.mul_add, Int.mul_sub, Int.mul_comm (rY0 l i).1 s]; omega
      rw [e2] at this
      exact this
def conj (f : Cv) (s : Int) : Int := s * f.1 - f.2.1 + lin (fun t => pos (s - t)) f.2.2
theorem conj_ev (f : Cv) (s : Int) : EvP (fun k => convexpl_Conjugate.f k f s) (fun r => (r.2 ≠ 0 ∧ r.1 = 0) ∨ (Valid f ∧ (-10000000 ≤ s ∧ s ≤ 10000000) ∧ r = (conj f s, 0))) := by
  unfold convexpl_Conjugate.f
  refine EvP.bind (ccheck_ev f) (fun e he => EvP.ite (fun hz => ?_) (fun hz => EvP.ret (Or.inl ⟨hz, rfl⟩)))
  have hV := he.1 hz
  have hf := hV.2.1
  have hv := hV.2.2.1
  refine EvP.ite (fun h => EvP.ret (Or.inl ⟨by decide, rfl⟩)) (fun c1 => EvP.ite (fun h => EvP.ret (Or.inl ⟨by decide, rfl⟩)) (fun c2 => ?_))
  have := conj_loop f.2.2 hV.1 (fun p hp => ⟨⟨hV.ok.sp.nn p hp, hV.ok.long p hp⟩, hV.ok.slope p hp⟩) hV.ok.sp.s s (by omega) f.2.2.length 0 f.1 f.2.1 (by omega) (by omega) (by omega) (by omega) (by omega) (by omega)
  exact EvP.of this (Or.inr ⟨hV, by omega, rfl⟩)
theorem conj_ge {f : Cv} (h : Valid f) {x : Int} (h0 : f.1 ≤ x) (h1 : x ≤ hi f) (s : Int) : s * x - V f x ≤ conj f s := by
  have := conj_bound s f.2.2 (x - f.1) h.ok.sp.nn (by omega) (by unfold hi at h1; omega)
  unfold V conj
  rw [Int.mul_sub] at this
  omega
theorem grow_ev (n : Int) (h0 : 0 ≤ n) (h1 : n ≤ 1000000) : Ev (fun k => slices_Grow_api_ConvexPiece.f k n) [] := by
  unfold slices_Grow_api_ConvexPiece.f
  refine Ev.neg (by omega) (Ev.step (fun k => slices_Grow_api_ConvexPiece.l3_eq k _) ?_)
  rw [w64 (x := (0 : Int) - 0) (by omega) (by omega), w64 (x := n - (0 - 0)) (by omega) (by omega)]
  refine Ev.ite (fun h => Ev.pos (by omega) (Ev.pos (by omega) (Ev.pos (by omega) (Ev.pos (by omega) (Ev.pos (by omega) (Ev.pos (by omega) (Ev.pos (by omega) ?_))))))) (fun h => Ev.now _)
  simpa using Ev.now ([] : List Pc)
theorem concat_ev (a b : List Pc) (ha : a.length ≤ 1000) (hb : b.length ≤ 1000) : Ev (fun k => slices_Concat_api_ConvexPiece.f k [a, b]) (a ++ b) := by
  unfold slices_Concat_api_ConvexPiece.f
  have r0 : rd (.list 60 Y0) [a, b] 0 = a := rfl
  have r1 : rd (.list 60 Y0) [a, b] 1 = b := rfl
  have hl : (([a, b] : List (List Pc)).length : Int) = 2 := rfl
  have w0 : wrap64 (0 + 1) = 1 := by rw [w64] <;> omega
  have w1 : wrap64 (1 + 1) = 2 := by rw [w64] <;> omega
  rw [hl]
  refine Ev.step (fun k => slices_Concat_api_ConvexPiece.l3_eq k _ _ _ _ _) (Ev.pos (by omega) (Ev.pos (by omega) ?_))
  rw [hl, r0, w64 (x := 0 + (a.length : Int)) (by omega) (by omega), w0]
  refine Ev.pos (by omega) (Ev.neg (by omega) ?_)
  refine Ev.step (fun k => slices_Concat_api_ConvexPiece.l3_eq k _ _ _ _ _) (Ev.pos (by omega) (Ev.pos (by omega) ?_))
  rw [hl, r1, w64 (x := 0 + (a.length : Int) + (b.length : Int)) (by omega) (by omega), w1]
  refine Ev.pos (by omega) (Ev.neg (by omega) ?_)
  refine Ev.step (fun k => slices_Concat_api_ConvexPiece.l3_eq k _ _ _ _ _) (Ev.neg (by omega) ?_)
  refine Ev.bind (grow_ev _ (by omega) (by omega)) ?_
  rw [hl]
  refine Ev.step (fun k => slices_Concat_api_ConvexPiece.l11_eq k _ _ _ _) (Ev.pos (by omega) (Ev.pos (by omega) ?_))
  rw [hl, r0, w0, List.nil_append]
  refine Ev.pos (by omega) (Ev.pos (by rw [List.length_nil]; omega) ?_)
  refine Ev.step (fun k => slices_Concat_api_ConvexPiece.l11_eq k _ _ _ _) (Ev.pos (by omega) (Ev.pos (by omega) ?_))
  rw [hl, r1, w1]
  refine Ev.pos (by omega) (Ev.pos (by omega) ?_)
  exact Ev.step (fun k => slices_Concat_api_ConvexPiece.l11_eq k _ _ _ _) (Ev.neg (by omega) (Ev.now _))
def conv (f g : Cv) : Cv := (f.1 + g.1, f.2.1 + g.2.1, nrm (f.2.2 ++ g.2.2))
theorem convolve_ev (f g : Cv) : EvP (fun k => convexpl_Convolve.f k f g) (fun r => (r.2 ≠ 0 ∧ r.1 = (0, 0, [])) ∨ (Valid f ∧ Valid g ∧ Valid (conv f g) ∧ r = (conv f g, 0))) := by
  unfold convexpl_Convolve.f convexpl_both.f
  refine EvP.bind (P := fun e => (e = 0 ↔ Valid f ∧ Valid g)) ?_ (fun e he => EvP.ite (fun hz => ?_) (fun hz => EvP.ret (Or.inl ⟨hz, rfl⟩)))
  · refine EvP.bind (ccheck_ev f) (fun e he => EvP.ite (fun hz => ?_) (fun hz => EvP.ret ⟨fun h => absurd h hz, fun h => absurd (he.2 h.1) hz⟩))
    refine EvP.bind (ccheck_ev g) (fun e' he' => EvP.ret ⟨fun h => ⟨he.1 hz, he'.1 h⟩, fun h => he'.2 h.2⟩)
  · obtain ⟨hF, hG⟩ := he.1 hz
    have f1 := hF.1
    have g1 := hG.1
    have f2 := hF.2.1
    have g2 := hG.2.1
    have f3 := hF.2.2.1
    have g3 := hG.2.2.1
    refine EvP.bindE (concat_ev f.2.2 g.2.2 (by omega) (by omega)) ?_
    rw [w64 (x := f.1 + g.1) (by omega) (by omega), w64 (x := f.2.1 + g.2.1) (by omega) (by omega)]
    refine EvP.bind (made_ev _ _ (f.2.2 ++ g.2.2) (by rw [List.length_append]; omega) (fun p hp => ?_)) (fun r hr => ?_)
    · rcases List.mem_append.1 hp with hp | hp
      · exact ⟨hF.ok.sp.nn p hp, by have := hF.ok.long p hp; omega⟩
      · exact ⟨hG.ok.sp.nn p hp, by have := hG.ok.long p hp; omega⟩
    · cases hr with
      | ok s hv => exact EvP.ret (Or.inr ⟨hF, hG, hv, rfl⟩)
      | bad s hv => exact EvP.ret (Or.inl ⟨by show (2 : Int) ≠ 0; decide, rfl⟩)
end Go.Proofs.Ytcmbckancficcaa.VE
