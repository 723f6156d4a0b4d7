import Derived.Test.YtcmbckancficcaaVpCvxS3
namespace Go.Proofs.Ytcmbckancficcaa.VE
open Go Go.RowKit
set_option linter.unusedVariables false
attribute [local irreducible] wrap64
/-! ### package storage (no statement is proved here) -/
abbrev Pl := Int × Int × Int × Int × Int
abbrev Pl.c (s : Pl) : Int := s.1
abbrev Pl.d (s : Pl) : Int := s.2.1
abbrev Pl.k (s : Pl) : Int := s.2.2.1
abbrev Pl.b (s : Pl) : Int := s.2.2.2.1
abbrev Pl.e (s : Pl) : Int := s.2.2.2.2
structure POk (s : Pl) : Prop where
  c : 0 ≤ s.1 ∧ s.1 ≤ 100000
  d : 0 ≤ s.2.1 ∧ s.2.1 ≤ 100000
  k : 0 ≤ s.2.2.1 ∧ s.2.2.1 ≤ 100000
  b : 0 ≤ s.2.2.2.1 ∧ s.2.2.2.1 ≤ s.2.2.1
  e : 0 ≤ s.2.2.2.2 ∧ s.2.2.2.2 ≤ s.2.2.1
theorem scheck_ev (s : Pl) : EvP (fun k => storage_Check.f k s) (fun e => e = 0 ↔ POk s) := by
  unfold storage_Check.f
  repeat (refine EvP.ite (fun h => EvP.ret ⟨fun hz => absurd hz (by decide), fun hk => by have h1 := hk.c; have h2 := hk.d; have h3 := hk.k; have h4 := hk.b; have h5 := hk.e; omega⟩) (fun _ => ?_))
  exact EvP.ret ⟨fun _ => ⟨by omega, by omega, by omega, by omega, by omega⟩, fun _ => rfl⟩
structure PrOk (l : List Int) : Prop where
  len : l.length ≤ 24
  pr : ∀ p ∈ l, -1000000 ≤ p ∧ p ≤ 1000000
theorem prices_loop (l : List Int) (hl : l.length ≤ 24) : ∀ (n : Nat) (i : Int), 0 ≤ i → (l.length : Int) - i = n → EvP (fun k => storage_checkPrices.l4 k l (l.length : Int) i) (fun e => e = 0 ↔ ∀ p ∈ l.drop i.toNat, -1000000 ≤ p ∧ p ≤ 1000000) := by
  intro n
  induction n with
  | zero =>
    intro i h0 h1
    rw [drop_end (by omega)]
    exact EvP.step (fun k => storage_checkPrices.l4_eq k _ _ _) (EvP.neg (by omega) (EvP.ret ⟨fun _ p hp => (by cases hp), fun _ => rfl⟩))
  | succ n ih =>
    intro i h0 h1
    have hlt : i < (l.length : Int) := by omega
    rw [rI64_drop h0 hlt]
    refine EvP.step (fun k => storage_checkPrices.l4_eq k _ _ _) (EvP.pos hlt (EvP.pos h0 (EvP.pos hlt ?_)))
    refine EvP.ite (fun h => EvP.ret ⟨fun hz => absurd hz (by decide), fun hk => by have := hk _ (List.mem_cons_self ..); omega⟩) (fun c1 => ?_)
    refine EvP.ite (fun h => EvP.ret ⟨fun hz => absurd hz (by decide), fun hk => by have := hk _ (List.mem_cons_self ..); omega⟩) (fun c2 => ?_)
    rw [w64 (x := i + 1) (by omega) (by omega)]
    refine (ih (i + 1) (by omega) (by omega)).mono (fun e he => he.trans ⟨fun h p hp => ?_, fun h p hp => h p (List.mem_cons_of_mem _ hp)⟩)
    rcases List.mem_cons.1 hp with rfl | hp
    · omega
    · exact h p hp
theorem prices_ev (l : List Int) : EvP (fun k => storage_checkPrices.f k l) (fun e => e = 0 ↔ PrOk l) := by
  unfold storage_checkPrices.f
  refine EvP.ite (fun h => EvP.ret ⟨fun hz => absurd hz (by decide), fun hk => by have := hk.len; omega⟩) (fun c => ?_)
  refine (prices_loop l (by omega) l.length 0 (by omega) (by omega)).mono (fun e he => ?_)
  rw [show (0 : Int).toNat = 0 from rfl, List.drop_zero] at he
  exact he.trans ⟨fun h => ⟨by omega, h⟩, fun h => h.pr⟩
def tradeC (s : Pl) (p : Int) : Cv := (-s.2.1, -s.2.1 * p, if 0 < s.1 + s.2.1 then [(s.1 + s.2.1, p)] else [])
theorem trade_ev {s : Pl} (h : POk s) {p : Int} (hp : -1000000 ≤ p ∧ p ≤ 1000000) : Ev (fun k => storage_trade.f k s p) (tradeC s p) := by
  have h1 := h.c
  have h2 := h.d
  have m := mul_abs (a := -s.2.1) (b := p) (A := 100000) (B := 1000000) (by omega) (by omega) (by omega) (by omega)
  unfold storage_trade.f tradeC
  rw [w64 (x := s.1 + s.2.1) (by omega) (by omega), w64 (x := 0 - s.2.1) (by omega) (by omega), Int.zero_sub, w64 (x := -s.2.1 * p) (by omega) (by omega)]
  refine Ev.ite (fun hc => ?_) (fun hc => ?_)
  · rw [if_pos hc]; exact Ev.now _
  · rw [if_neg hc]; exact Ev.now _
theorem trade_facts {s : Pl} (h : POk s) {p : Int} (hp : -1000000 ≤ p ∧ p ≤ 1000000) : Valid (tradeC s p) ∧ (tradeC s p).1 = -s.2.1 ∧ hi (tradeC s p) = s.1 ∧ ∀ c, -s.2.1 ≤ c → c ≤ s.1 → V (tradeC s p) c = c * p := by
  have h1 := h.c
  have h2 := h.d
  have hV : ∀ c, -s.2.1 ≤ c → c ≤ s.1 → V (tradeC s p) c = c * p := fun c c0 c1 => by
    unfold V tradeC
    simp only
    by_cases hc : 0 < s.1 + s.2.1
    · rw [if_pos hc, vAt_cons, mn_of_ge (by show c - -s.2.1 ≤ s.1 + s.2.1; omega), Int.sub_self]
      show -s.2.1 * p + ((c - -s.2.1) * p + 0) = c * p
      rw [Int.add_zero, ← Int.add_mul]; congr 1; omega
    · rw [if_neg hc]
      have : c = -s.2.1 := by omega
      rw [this]
      exact Int.add_zero _
  have hhi : hi (tradeC s p) = s.1 := by
    unfold hi tradeC
    simp only
    by_cases hc : 0 < s.1 + s.2.1
    · rw [if_pos hc, total_cons, total_nil]
      show -s.2.1 + (s.1 + s.2.1 + 0) = s.1; omega
    · rw [if_neg hc, total_nil]; omega
  refine ⟨Valid.of ?_ ?_ ⟨?_, fun q hq => ?_, fun q hq => ?_, ?_, fun d d0 d1 => ?_⟩, rfl, hhi, hV⟩
  · unfold tradeC; simp only; split <;> simp
  · show -1000000 ≤ -s.2.1 ∧ -s.2.1 ≤ 1000000; omega
  · unfold tradeC; simp only
    split
    · exact ⟨by simp, fun q hq => by rw [List.mem_singleton] at hq; subst hq; assumption⟩
    · exact SP.nil
  · unfold tradeC at hq; simp only at hq
    split at hq
    · rw [List.mem_singleton] at hq; subst hq; show s.1 + s.2.1 ≤ _; omega
    · cases hq
  · unfold tradeC at hq; simp only at hq
    split at hq
    · rw [List.mem_singleton] at hq; subst hq; show -10000000 ≤ p ∧ p ≤ 10000000; omega
    · cases hq
  · have : hi (tradeC s p) = (tradeC s p).1 + total (tradeC s p).2.2 := rfl
    rw [← this, hhi]; omega
  · have e : hi (tradeC s p) = (tradeC s p).1 + total (tradeC s p).2.2 := rfl
    have e1 : (tradeC s p).1 = -s.2.1 := rfl
    have := hV (-s.2.1 + d) (by omega) (by omega)
    have e2 : V (tradeC s p) (-s.2.1 + d) = (tradeC s p).2.1 + vAt (tradeC s p).2.2 d := by
      unfold V
      rw [show -s.2.1 + d - (tradeC s p).1 = d by rw [e1]; omega]
    rw [← e2, this]
    have m := mul_abs (a := -s.2.1 + d) (b := p) (A := 200000) (B := 1000000) (by omega) (by omega) (by omega) (by omega)
    omega
/-- From one period's costs to the next one's. -/
structure VStep (s : Pl) (p : Int) (f g : Cv) : Prop where
  vf : Valid f
  vg : Valid g
  lo : 0 ≤ g.1
  hi : VE.hi g ≤ s.2.2.1
  le : ∀ y c, f.1 ≤ y → y ≤ VE.hi f → -s.2.1 ≤ c → c ≤ s.1 → 0 ≤ y + c → y + c ≤ s.2.2.1 → g.1 ≤ y + c ∧ y + c ≤ VE.hi g ∧ V g (y + c) ≤ V f y + c * p
  ex : ∀ x, g.1 ≤ x → x ≤ VE.hi g → ∃ y c, (f.1 ≤ y ∧ y ≤ VE.hi f) ∧ (-s.2.1 ≤ c ∧ c ≤ s.1) ∧ y + c = x ∧ V g x = V f y + c * p
/-- One step of storage.values. -/
theorem step_ev {s : Pl} (h : POk s) {p : Int} (hp : -1000000 ≤ p ∧ p ≤ 1000000) {f : Cv} (hF : Valid f) : EvP (fun k => (convexpl_Convolve.f k f (tradeC s p)).bind fun r2 => if r2.2 = 0 then (convexpl_Restrict.f k r2.1 0 s.2.2.1).bind fun r3 => if r3.2 = 0 then some (some r3.1) else some none else some none) (fun _ => True) := by
  obtain ⟨t1, t2, t3, t4⟩ := trade_facts h hp
  refine EvP.bind (convolve_ev f (tradeC s p)) (fun r hr => EvP.ite (fun hz => ?_) (fun _ => EvP.ret trivial))
  rcases hr with ⟨hr, _⟩ | ⟨_, _, hC, rfl⟩
  · exact absurd hz hr
  exact EvP.bindE (restrict_all hC 0 s.2.2.1) (EvP.ite (fun _ => EvP.ret trivial) (fun _ => EvP.ret trivial))
theorem step_facts {s : Pl} (h : POk s) {p : Int} (hp : -1000000 ≤ p ∧ p ≤ 1000000) {f : Cv} (hF : Valid f) (hC : Valid (conv f (tradeC s p))) : (mn s.2.2.1 (hi (conv f (tradeC s p))) < mx 0 (conv f (tradeC s p)).1 → ∀ y c, f.1 ≤ y → y ≤ hi f → -s.2.1 ≤ c → c ≤ s.1 → 0 ≤ y + c → y + c ≤ s.2.2.1 → False) ∧ (¬ mn s.2.2.1 (hi (conv f (tradeC s p))) < mx 0 (conv f (tradeC s p)).1 → VStep s p f (part' (conv f (tradeC s p)) (mx 0 (conv f (tradeC s p)).1) (mn s.2.2.1 (hi (conv f (tradeC s p)))))) := by
  obtain ⟨t1, t2, t3, t4⟩ := trade_facts h hp
  have hh := hi_conv f (tradeC s p)
  have hl : (conv f (tradeC s p)).1 = f.1 + (tradeC s p).1 := rfl
  have m1 := mx_ge 0 (conv f (tradeC s p)).1
  have m2 := mn_le s.2.2.1 (hi (conv f (tradeC s p)))
  refine ⟨fun hc y c y0 y1 c0 c1 z0 z1 => by omega, fun hc => ?_⟩
  obtain ⟨v1, v2, v3⟩ := part_valid hC (lo := mx 0 (conv f (tradeC s p)).1) (en := mn s.2.2.1 (hi (conv f (tradeC s p)))) (by omega) (by omega) (by omega)
  have l1 : (part' (conv f (tradeC s p)) (mx 0 (conv f (tradeC s p)).1) (mn s.2.2.1 (hi (conv f (tradeC s p))))).1 = mx 0 (conv f (tradeC s p)).1 := rfl
  refine ⟨hF, v1, by rw [l1]; omega, by rw [v2]; omega, fun y c y0 y1 c0 c1 z0 z1 => ?_, fun x x0 x1 => ?_⟩
  · rw [l1, v2]
    refine ⟨by omega, by omega, ?_⟩
    rw [v3 _ (by omega) (by omega), ← t4 c c0 c1]
    exact conv_le hF t1 y0 y1 (by omega) (by omega)
  · rw [l1] at x0
    rw [v2] at x1
    obtain ⟨y, c, ⟨y0, y1⟩, ⟨c0, c1⟩, e, ev⟩ := conv_ex hF t1 (z := x) (by omega) (by omega)
    refine ⟨y, c, ⟨y0, y1⟩, ⟨by omega, by omega⟩, e, ?_⟩
    rw [v3 x x0 x1, ev, t4 c (by omega) (by omega)]
/-- All levels' costs. -/
structure Vals (s : Pl) (ps : List Int) (out : List Cv) : Prop where
  z : out[0]? = some (s.2.2.2.1, 0, [])
  st : ∀ (t : Nat) p f g, t + 1 < out.length → ps[t]? = some p → out[t]? = some f → out[t + 1]? = some g → VStep s p f g
  v : ∀ f ∈ out, Valid f
inductive ValsP (s : Pl) (ps : List Int) : List Cv × Int → Prop where
  | ok (out : List Cv) (h : Vals s ps out) (hl : out.length = ps.length + 1) : ValsP s ps (out, 0)
  | large : ValsP s ps ([], 2)
  | none (out : List Cv) (h : Vals s ps out) (hl : out.length ≤ ps.length) (f : Cv) (hf : out[out.length - 1]? = some f) (h0 : 0 < out.length) (hn : ∀ y c, f.1 ≤ y → y ≤ hi f → -s.2.1 ≤ c → c ≤ s.1 → 0 ≤ y + c → y + c ≤ s.2.2.1 → False) : ValsP s ps ([], 8)
theorem convolve2_ev {f g : Cv} (hF : Valid f) (hG : Valid g) : EvP (fun k => convexpl_Convolve.f k f g) (fun r => (¬ Valid (conv f g) ∧ r = ((0, 0, []), 2)) ∨ (Valid (conv f g) ∧ r = (conv f g, 0))) := by
  unfold convexpl_Convolve.f convexpl_both.f
  have f1 := hF.1
  have g1 := hG.1
  have f2 := hF.2.1
  have g2 := hG.2.1
  have f3 := hF.2.2.1
  have g3 := hG.2.2.1
  refine EvP.bindE (a := 0) (Ev.bind (ccheck_yes hF) (Ev.pos rfl (Ev.bind (ccheck_yes hG) (Ev.now _)))) (EvP.pos rfl (EvP.bindE (concat_ev f.2.2 g.2.2 (by omega) (by omega)) ?_))
  rw [w64 (x := f.1 + g.1) (by omega) (by omega), w64 (x := f.2.1 + g.2.1) (by omega) (by omega)]
  refine EvP.bind (made_ev _ _ (f.2.2 ++ g.2.2) (by rw [List.length_append]; omega) (fun p hp => ?_)) (fun r hr => ?_)
  · rcases List.mem_append.1 hp with hp | hp
    · exact ⟨hF.ok.sp.nn p hp, by have := hF.ok.long p hp; omega⟩
    · exact ⟨hG.ok.sp.nn p hp, by have := hG.ok.long p hp; omega⟩
  · cases hr with
    | ok s hv => exact EvP.ret (Or.inr ⟨hv, rfl⟩)
    | bad s hv => exact EvP.ret (Or.inl ⟨hv, rfl⟩)
theorem values_loop {s : Pl} (h : POk s) {ps : List Int} (hp : PrOk ps) : ∀ (n : Nat) (i : Int) (out : List Cv), 0 ≤ i → (ps.length : Int) - i = n → (out.length : Int) = i + 1 → Vals s ps out → EvP (fun k => storage_values.l3 k ps (ps.length : Int) i s.1 s.2.1 s.2.2.1 s.2.2.2.1 s.2.2.2.2 out) (ValsP s ps) := by
  have hl := hp.len
  intro n
  induction n with
  | zero =>
    intro i out h0 h1 h2 hv
    exact EvP.step (fun k => storage_values.l3_eq k _ _ _ _ _ _ _ _ _) (EvP.neg (by omega) (EvP.ret (.ok out hv (by omega))))
  | succ n ih =>
    intro i out h0 h1 h2 hv
    have hlt : i < (ps.length : Int) := by omega
    have hpi := hp.pr _ (rI64_mem h0 hlt)
    have hmem := rY2_mem (xs := out) (i := i) h0 (by omega)
    have hsome := rY2_some (xs := out) (i := i) h0 (by omega)
    have hF := hv.v _ hmem
    refine EvP.step (fun k => storage_values.l3_eq k _ _ _ _ _ _ _ _ _) (EvP.pos hlt (EvP.pos h0 (EvP.pos hlt ?_)))
    rw [w64 (x := (out.length : Int) - 1) (by omega) (by omega), w64 (x := i + 1) (by omega) (by omega), show (out.length : Int) - 1 = i by omega]
    refine EvP.pos h0 (EvP.pos (by omega) (EvP.bindE (trade_ev h hpi) ?_))
    refine EvP.bind (convolve2_ev hF (trade_facts h hpi).1) (fun r hr => ?_)
    rcases hr with ⟨_, rfl⟩ | ⟨hC, rfl⟩
    · exact EvP.neg (by decide) (EvP.ret .large)
    obtain ⟨sf1, sf2⟩ := step_facts h hpi hF hC
    refine EvP.pos rfl (EvP.bindE (restrict_all hC 0 s.2.2.1) ?_)
    by_cases hc : mn s.2.2.1 (hi (conv (rY2 out i) (tradeC s (rI64 ps i)))) < mx 0 (conv (rY2 out i) (tradeC s (rI64 ps i))).1
    · rw [if_pos hc]
      exact EvP.neg (by decide) (EvP.ret (.none out hv (by omega) (rY2 out i) (by rw [show out.length - 1 = i.toNat by omega]; exact hsome) (by omega) (sf1 hc)))
    · rw [if_neg hc]
      have hst := sf2 hc
      refine EvP.pos rfl (EvP.pos (by rw [List.length_singleton]; omega) ?_)
      refine ih (i + 1) _ (by omega) (by omega) (by rw [List.length_append, List.length_singleton]; omega) ⟨?_, fun t p f g ht e1 e2 e3 => ?_, fun f hf => ?_⟩
      · rw [List.getElem?_append_left (by omega)]; exact hv.z
      · rw [List.length_append, List.length_singleton] at ht
        rw [List.getElem?_append_left (by omega)] at e2
        rcases Nat.lt_or_ge (t + 1) out.length with hlt' | hge
        · rw [List.getElem?_append_left hlt'] at e3
          exact hv.st t p f g hlt' e1 e2 e3
        · have ht' : t = i.toNat := by omega
          subst ht'
          rw [List.getElem?_append_right hge, show i.toNat + 1 - out.length = 0 by omega] at e3
          rw [rI64_some h0 hlt] at e1
          rw [hsome] at e2
          simp only [List.getElem?_cons_zero, Option.some.injEq] at e1 e2 e3
          subst e1 e2 e3
          exact hst
      · rcases List.mem_append.1 hf with hf | hf
        · exact hv.v f hf
        · rw [List.mem_singleton] at hf; subst hf; exact hst.vg
theorem single_valid {b : Int} (h : -1000000 ≤ b ∧ b ≤ 1000000) : Valid (b, 0, []) ∧ hi (b, 0, []) = b ∧ V (b, 0, []) b = 0 := by
  refine ⟨Valid.of (by simp) h ⟨SP.nil, (fun q hq => by cases hq), (fun q hq => by cases hq), by show b + 0 ≤ _; omega, fun d _ _ => by show -1000000000000000 ≤ (0 : Int) + 0 ∧ (0 : Int) + 0 ≤ 1000000000000000; omega⟩, by show b + 0 = b; omega, rfl⟩
theorem values_ev {s : Pl} (h : POk s) {ps : List Int} (hp : PrOk ps) : EvP (fun k => storage_values.f k s ps) (ValsP s ps) := by
  have h3 := h.k
  have h4 := h.b
  refine values_loop h hp ps.length 0 [(s.2.2.2.1, 0, [])] (by omega) (by omega) rfl ⟨rfl, fun t p f g ht => ?_, fun f hf => ?_⟩
  · simp at ht
  · rw [List.mem_singleton] at hf; subst hf
    exact (single_valid (by omega)).1
/-! ### runs -/
inductive SRun (s : Pl) : Int → List Int → List Int → Int → Int → Prop where
  | nil (x : Int) : SRun s x [] [] 0 x
  | cons (x p c k z : Int) (ps cs : List Int) (h1 : -s.2.1 ≤ c ∧ c ≤ s.1) (h2 : 0 ≤ x + c ∧ x + c ≤ s.2.2.1) (h : SRun s (x + c) ps cs k z) : SRun s x (p :: ps) (c :: cs) (c * p + k) z
theorem SRun.det {s : Pl} : ∀ {x k z k' z' : Int} {ps cs : List Int}, SRun s x ps cs k z → SRun s x ps cs k' z' → k = k' ∧ z = z' := by
  intro x k z k' z' ps cs h
  induction h generalizing k' z' with
  | nil x => intro h'; cases h'; exact ⟨rfl, rfl⟩
  | cons x p c k z ps cs h1 h2 h ih =>
    intro h'
    cases h' with
    | cons _ _ _ k2 _ _ _ _ _ h'' =>
      obtain ⟨e1, e2⟩ := ih h''
      exact ⟨by rw [e1], e2⟩
inductive RunP (s : Pl) (ps cs : List Int) : List Int × Int × Int → Prop where
  | ok (out : List Int) (k z : Int) (h : SRun s s.2.2.2.1 ps cs k z) (he : s.2.2.2.2 ≤ z) (hl : out.length = cs.length) (hz : ∀ x, out[out.length - 1]? = some x → x = z) : RunP s ps cs (out, k, 0)
  | bad (e : Int) (he : e ≠ 0) (h : ∀ k z, SRun s s.2.2.2.1 ps cs k z → s.2.2.2.2 ≤ z → False) : RunP s ps cs ([], 0, e)
theorem run_loop {s : Pl} (h : POk s) {ps cs : List Int} (hp : PrOk ps) (hl : cs.length = ps.length) : ∀ (n : Nat) (i x k : Int) (out : List Int), 0 ≤ i → (cs.length : Int) - i = n → (out.length : Int) = i → 0 ≤ x → x ≤ s.2.2.1 → -(100000000000 * i) ≤ k → k ≤ 100000000000 * i → (∀ y, out[out.length - 1]? = some y → y = x) → (∀ k' z, SRun s s.2.2.2.1 ps cs k' z ↔ ∃ k2, k' = k + k2 ∧ SRun s x (ps.drop i.toNat) (cs.drop i.toNat) k2 z) → EvP (fun f => storage_Run.l12 f ps x k cs (cs.length : Int) i s.1 s.2.1 s.2.2.1 s.2.2.2.1 s.2.2.2.2 out) (RunP s ps cs) := by
  have hlen := hp.len
  have hc := h.c
  have hd := h.d
  have hk := h.k
  intro n
  induction n with
  | zero =>
    intro i x k out h0 h1 h2 hx0 hx1 hk0 hk1 hlast hR
    rw [drop_end (xs := ps) (by omega), drop_end (xs := cs) (by omega)] at hR
    refine EvP.step (fun f => storage_Run.l12_eq f _ _ _ _ _ _ _ _ _ _ _ _) (EvP.neg (by omega) (EvP.ite (fun he => EvP.ret (.bad 14 (by decide) (fun k' z hr hz => ?_))) (fun he => EvP.ret (.ok out k x ?_ (by omega) (by omega) hlast))))
    · obtain ⟨k2, _, h'⟩ := (hR k' z).1 hr
      cases h'; omega
    · exact (hR k x).2 ⟨0, by omega, .nil x⟩
  | succ n ih =>
    intro i x k out h0 h1 h2 hx0 hx1 hk0 hk1 hlast hR
    have hlt : i < (cs.length : Int) := by omega
    have hlp : i < (ps.length : Int) := by omega
    have hpi := hp.pr _ (rI64_mem h0 hlp)
    rw [rI64_drop (xs := ps) h0 hlp, rI64_drop (xs := cs) h0 hlt] at hR
    generalize hcc : rI64 cs i = c at hR
    generalize hpp : rI64 ps i = p at hR hpi
    have fail : ¬ ((-s.2.1 ≤ c ∧ c ≤ s.1) ∧ (0 ≤ x + c ∧ x + c ≤ s.2.2.1)) → ∀ k' z, SRun s s.2.2.2.1 ps cs k' z → s.2.2.2.2 ≤ z → False := fun hn k' z hr _ => by
      obtain ⟨k2, _, h'⟩ := (hR k' z).1 hr
      cases h' with
      | cons _ _ _ k3 _ _ _ a b _ => exact hn ⟨a, b⟩
    refine EvP.step (fun f => storage_Run.l12_eq f _ _ _ _ _ _ _ _ _ _ _ _) (EvP.pos hlt (EvP.pos h0 (EvP.pos hlt ?_)))
    rw [hcc, hpp, w64 (x := 0 - s.2.1) (by omega) (by omega), Int.zero_sub]
    refine EvP.ite (fun c1 => EvP.ret (.bad 17 (by decide) (fail (by omega)))) (fun c1 => ?_)
    refine EvP.ite (fun c2 => EvP.ret (.bad 17 (by decide) (fail (by omega)))) (fun c2 => ?_)
    have m := mul_abs (a := c) (b := p) (A := 100000) (B := 1000000) (by omega) (by omega) (by omega) (by omega)
    rw [w64 (x := x + c) (by omega) (by omega), w64 (x := c * p) (by omega) (by omega), w64 (x := k + c * p) (by omega) (by omega), w64 (x := i + 1) (by omega) (by omega)]
    refine EvP.ite (fun c3 => EvP.ret (.bad 4 (by decide) (fail (by omega)))) (fun c3 => ?_)
    refine EvP.ite (fun c4 => EvP.ret (.bad 4 (by decide) (fail (by omega)))) (fun c4 => ?_)
    refine EvP.pos (by rw [List.length_singleton]; omega) (EvP.pos h0 (EvP.pos hlp ?_))
    refine ih (i + 1) _ _ _ (by omega) (by omega) (by rw [List.length_append, List.length_singleton]; omega) (by omega) (by omega) (by omega) (by omega) (fun y hy => ?_) (fun k' z => ?_)
    · rw [List.length_append, List.length_singleton, show out.length + 1 - 1 = out.length by omega, List.getElem?_append_right (by omega)] at hy
      simp at hy
      exact hy.symm
    · rw [hR k' z]
      constructor
      · rintro ⟨k2, e, h'⟩
        cases h' with
        | cons _ _ _ k3 _ _ _ a b h'' => exact ⟨k3, by omega, h''⟩
      · rintro ⟨k3, e, h''⟩
        exact ⟨c * p + k3, by omega, .cons _ _ _ _ _ _ _ (by omega) (by omega) h''⟩
theorem SRun.len {s : Pl} {x k z : Int} {ps cs : List Int} (h : SRun s x ps cs k z) : cs.length = ps.length := by
  induction h with
  | nil => rfl
  | cons _ _ _ _ _ _ _ _ _ _ ih => simp [ih]
theorem run_ev (s : Pl) (ps cs : List Int) : EvP (fun f => storage_Run.f f s ps cs) (fun r => (POk s ∧ PrOk ps ∧ RunP s ps cs r) ∨ (¬ (POk s ∧ PrOk ps) ∧ r.1 = [] ∧ r.2.1 = 0 ∧ r.2.2 ≠ 0)) := by
  unfold storage_Run.f
  refine EvP.bind (scheck_ev s) (fun e he => EvP.ite (fun hz => ?_) (fun hz => EvP.ret (Or.inr ⟨fun h => hz (he.2 h.1), rfl, rfl, hz⟩)))
  refine EvP.bind (prices_ev ps) (fun e' he' => EvP.ite (fun hz' => ?_) (fun hz' => EvP.ret (Or.inr ⟨fun h => hz' (he'.2 h.2), rfl, rfl, hz'⟩)))
  have hs := he.1 hz
  have hp := he'.1 hz'
  have hk := hs.k
  have hb := hs.b
  refine EvP.ite (fun hl => ?_) (fun hl => EvP.ret (Or.inl ⟨hs, hp, .bad 3 (by decide) (fun k z hr _ => hl (by have := hr.len; omega))⟩))
  refine (run_loop hs hp (by omega) cs.length 0 s.2.2.2.1 0 [] (by omega) (by omega) rfl (by omega) (by omega) (by omega) (by omega) (fun y hy => by simp at hy) (fun k' z => ?_)).mono (fun r hr => Or.inl ⟨hs, hp, hr⟩)
  rw [show (0 : Int).toNat = 0 from rfl, List.drop_zero, List.drop_zero]
  exact ⟨fun h => ⟨k', by omega, h⟩, fun ⟨k2, e, h⟩ => by rw [e, Int.zero_add]; exact h⟩
/-- A run costs at least the value of its last level. -/
theorem run_ge {s : Pl} {ps : List Int} {out : List Cv} (h : Vals s ps out) (hl : out.length = ps.length + 1) : ∀ (n t : Nat) (f : Cv) (x k z : Int) (cs : List Int), t + n = ps.length → out[t]? = some f → f.1 ≤ x → x ≤ hi f → SRun s x (ps.drop t) cs k z → ∃ g, out[ps.length]? = some g ∧ g.1 ≤ z ∧ z ≤ hi g ∧ V g z ≤ V f x + k := by
  intro n
  induction n with
  | zero =>
    intro t f x k z cs ht hf x0 x1 hr
    rw [List.drop_eq_nil_of_le (by omega)] at hr
    cases hr
    exact ⟨f, by rw [show ps.length = t by omega]; exact hf, x0, x1, by omega⟩
  | succ n ih =>
    intro t f x k z cs ht hf x0 x1 hr
    have hlt : t < ps.length := by omega
    rw [List.drop_eq_getElem_cons hlt] at hr
    cases hr with
    | cons _ _ c k2 _ _ cs' a b h'' =>
      have hg : out[t + 1]? = some (out[t + 1]'(by omega)) := List.getElem?_eq_getElem (by omega)
      have st := h.st t _ f _ (by omega) (List.getElem?_eq_getElem hlt) hf hg
      obtain ⟨l1, l2, l3⟩ := st.le x c x0 x1 a.1 a.2 b.1 b.2
      obtain ⟨g, g1, g2, g3, g4⟩ := ih (t + 1) _ (x + c) k2 z cs' (by omega) hg l1 l2 h''
      exact ⟨g, g1, g2, g3, by omega⟩
/-- Where no level can be reached any more no run goes on. -/
theorem run_none {s : Pl} {ps : List Int} {out : List Cv} (h : Vals s ps out) (hl : out.length ≤ ps.length) (f' : Cv) (hf' : out[out.length - 1]? = some f') (hn : ∀ y c, f'.1 ≤ y → y ≤ hi f' → -s.2.1 ≤ c → c ≤ s.1 → 0 ≤ y + c → y + c ≤ s.2.2.1 → False) : ∀ (n t : Nat) (f : Cv) (x k z : Int) (cs : List Int), t + n + 1 = out.length → out[t]? = some f → f.1 ≤ x → x ≤ hi f → SRun s x (ps.drop t) cs k z → False := by
  intro n
  induction n with
  | zero =>
    intro t f x k z cs ht hf x0 x1 hr
    rw [show out.length - 1 = t by omega, hf] at hf'
    cases hf'
    rw [List.drop_eq_getElem_cons (by omega)] at hr
    cases hr with
    | cons _ _ c k2 _ _ cs' a b h'' => exact hn x c x0 x1 a.1 a.2 b.1 b.2
  | succ n ih =>
    intro t f x k z cs ht hf x0 x1 hr
    have hlt : t < ps.length := by omega
    rw [List.drop_eq_getElem_cons hlt] at hr
    cases hr with
    | cons _ _ c k2 _ _ cs' a b h'' =>
      have hg : out[t + 1]? = some (out[t + 1]'(by omega)) := List.getElem?_eq_getElem (by omega)
      have st := h.st t _ f _ (by omega) (List.getElem?_eq_getElem hlt) hf hg
      obtain ⟨l1, l2, l3⟩ := st.le x c x0 x1 a.1 a.2 b.1 b.2
      exact ih (t + 1) _ (x + c) k2 z cs' (by omega) hg l1 l2 h''
end Go.Proofs.Ytcmbckancficcaa.VE
