import Derived.Test.YtcmbckancficcaaVpStor2
namespace Go.Proofs.Ytcmbckancficcaa.VE
open Go Go.RowKit
set_option linter.unusedVariables false
attribute [local irreducible] wrap64
/-! ### package ramp (no statement is proved here) -/
structure ROk (l : List Pc) (b u d : Int) : Prop where
  len : l.length ≤ 24
  lim : ∀ x ∈ l, 0 ≤ x.1 ∧ x.1 ≤ x.2 ∧ x.2 ≤ 100000
  b : 0 ≤ b ∧ b ≤ 100000
  u : 0 ≤ u ∧ u ≤ 100000
  d : 0 ≤ d ∧ d ≤ 100000
theorem rcheck_loop (l : List Pc) (hl : l.length ≤ 24) (b u d : Int) : ∀ (n : Nat) (i : Int), 0 ≤ i → (l.length : Int) - i = n → EvP (fun k => ramp_Check.l4 k b u d l (l.length : Int) i) (fun e => e = 0 ↔ (∀ x ∈ l.drop i.toNat, 0 ≤ x.1 ∧ x.1 ≤ x.2 ∧ x.2 ≤ 100000) ∧ (0 ≤ b ∧ b ≤ 100000) ∧ (0 ≤ u ∧ u ≤ 100000) ∧ (0 ≤ d ∧ d ≤ 100000)) := by
  intro n
  induction n with
  | zero =>
    intro i h0 h1
    rw [drop_end (by omega)]
    refine EvP.step (fun k => ramp_Check.l4_eq k _ _ _ _ _ _) (EvP.neg (by omega) ?_)
    repeat (refine EvP.ite (fun h => EvP.ret ⟨fun hz => absurd hz (by decide), fun hk => by have := hk.2; omega⟩) (fun _ => ?_))
    exact EvP.ret ⟨fun _ => ⟨fun x hx => (by cases hx), by omega, by omega, by omega⟩, fun _ => rfl⟩
  | succ n ih =>
    intro i h0 h1
    have hlt : i < (l.length : Int) := by omega
    rw [rY0_drop h0 hlt]
    refine EvP.step (fun k => ramp_Check.l4_eq k _ _ _ _ _ _) (EvP.pos hlt (EvP.pos h0 (EvP.pos hlt ?_)))
    refine EvP.ite (fun h => EvP.ret ⟨fun hz => absurd hz (by decide), fun hk => by have := hk.1 _ (List.mem_cons_self ..); omega⟩) (fun c1 => ?_)
    refine EvP.ite (fun h => EvP.ret ⟨fun hz => absurd hz (by decide), fun hk => by have := hk.1 _ (List.mem_cons_self ..); omega⟩) (fun c2 => ?_)
    refine EvP.ite (fun h => EvP.ret ⟨fun hz => absurd hz (by decide), fun hk => by have := hk.1 _ (List.mem_cons_self ..); omega⟩) (fun c3 => ?_)
    rw [w64 (x := i + 1) (by omega) (by omega)]
    refine (ih (i + 1) (by omega) (by omega)).mono (fun e he => he.trans ⟨fun h => ⟨fun x hx => ?_, h.2⟩, fun h => ⟨fun x hx => h.1 x (List.mem_cons_of_mem _ hx), h.2⟩⟩)
    rcases List.mem_cons.1 hx with rfl | hx
    · omega
    · exact h.1 x hx
theorem rcheck_ev (l : List Pc) (b u d : Int) : EvP (fun k => ramp_Check.f k l b u d) (fun e => e = 0 ↔ ROk l b u d) := by
  unfold ramp_Check.f
  refine EvP.ite (fun h => EvP.ret ⟨fun hz => absurd hz (by decide), fun hk => by have := hk.len; omega⟩) (fun c => ?_)
  refine (rcheck_loop l (by omega) b u d l.length 0 (by omega) (by omega)).mono (fun e he => ?_)
  rw [show (0 : Int).toNat = 0 from rfl, List.drop_zero] at he
  exact he.trans ⟨fun h => ⟨by omega, h.1, h.2.1, h.2.2.1, h.2.2.2⟩, fun h => ⟨h.lim, h.b, h.u, h.d⟩⟩
/-- A schedule. -/
inductive Sch (u d : Int) : Int → List Pc → List Int → Prop where
  | nil (y : Int) : Sch u d y [] []
  | cons (y : Int) (x : Pc) (p : Int) (l : List Pc) (ps : List Int) (h1 : x.1 ≤ p ∧ p ≤ x.2) (h2 : p ≤ y + u ∧ y - d ≤ p) (h : Sch u d p l ps) : Sch u d y (x :: l) (p :: ps)
theorem Sch.len {u d y : Int} {l : List Pc} {ps : List Int} (h : Sch u d y l ps) : ps.length = l.length := by
  induction h with
  | nil => rfl
  | cons _ _ _ _ _ _ _ _ ih => simp [ih]
theorem feas_loop {l : List Pc} {b u d : Int} (h : ROk l b u d) (ps : List Int) (hl : ps.length = l.length) : ∀ (n : Nat) (i y : Int), 0 ≤ i → (ps.length : Int) - i = n → 0 ≤ y → y ≤ 100000 → EvP (fun k => ramp_Feasible.l8 k l u d y ps (ps.length : Int) i) (fun r => r.2 = 0 ∧ (r.1 = true ↔ Sch u d y (l.drop i.toNat) (ps.drop i.toNat))) := by
  have hlen := h.len
  have hu := h.u
  have hd := h.d
  intro n
  induction n with
  | zero =>
    intro i y h0 h1 y0 y1
    rw [drop_end (xs := l) (by omega), drop_end (xs := ps) (by omega)]
    exact EvP.step (fun k => ramp_Feasible.l8_eq k _ _ _ _ _ _ _) (EvP.neg (by omega) (EvP.ret ⟨rfl, fun _ => .nil y, fun _ => rfl⟩))
  | succ n ih =>
    intro i y h0 h1 y0 y1
    have hlt : i < (ps.length : Int) := by omega
    have hll : i < (l.length : Int) := by omega
    have hx := h.lim _ (rY0_mem h0 hll)
    rw [rY0_drop h0 hll, rI64_drop h0 hlt]
    have fail : ¬ (((rY0 l i).1 ≤ rI64 ps i ∧ rI64 ps i ≤ (rY0 l i).2) ∧ (rI64 ps i ≤ y + u ∧ y - d ≤ rI64 ps i)) → ∀ {L : List Pc} {P : List Int}, (false = true ↔ Sch u d y (rY0 l i :: L) (rI64 ps i :: P)) := fun hn {L P} => ⟨fun h => (by cases h), fun h => by
      cases h with
      | cons _ _ _ _ _ a b _ => exact absurd ⟨a, b⟩ hn⟩
    refine EvP.step (fun k => ramp_Feasible.l8_eq k _ _ _ _ _ _ _) (EvP.pos hlt (EvP.pos h0 (EvP.pos hlt (EvP.pos h0 (EvP.pos hll ?_)))))
    rw [w64 (x := y + u) (by omega) (by omega), w64 (x := y - d) (by omega) (by omega), w64 (x := i + 1) (by omega) (by omega)]
    refine EvP.ite (fun c => EvP.ret ⟨rfl, fail (by omega)⟩) (fun c1 => EvP.pos h0 (EvP.pos hll ?_))
    refine EvP.ite (fun c => EvP.ret ⟨rfl, fail (by omega)⟩) (fun c2 => ?_)
    refine EvP.ite (fun c => EvP.ret ⟨rfl, fail (by omega)⟩) (fun c3 => ?_)
    refine EvP.ite (fun c => EvP.ret ⟨rfl, fail (by omega)⟩) (fun c4 => ?_)
    refine (ih (i + 1) _ (by omega) (by omega) (by omega) (by omega)).mono (fun r hr => ⟨hr.1, hr.2.trans ⟨fun h => .cons _ _ _ _ _ (by omega) (by omega) h, fun h => by
      cases h with
      | cons _ _ _ _ _ a b h => exact h⟩⟩)
theorem feas_ev (l : List Pc) (b u d : Int) (ps : List Int) : EvP (fun k => ramp_Feasible.f k l b u d ps) (fun r => (ROk l b u d ∧ r.2 = 0 ∧ (r.1 = true ↔ Sch u d b l ps)) ∨ (r.1 = false ∧ r.2 ≠ 0 ∧ (ROk l b u d → ps.length ≠ l.length))) := by
  unfold ramp_Feasible.f
  refine EvP.bind (rcheck_ev l b u d) (fun e he => EvP.ite (fun hz => ?_) (fun hz => EvP.ret (Or.inr ⟨rfl, hz, fun h => absurd (he.2 h) hz⟩)))
  have h := he.1 hz
  have hb := h.b
  refine EvP.ite (fun hl => ?_) (fun hl => EvP.ret (Or.inr ⟨rfl, by show (3 : Int) ≠ 0; decide, fun _ hl' => hl (by omega)⟩))
  refine (feas_loop h ps (by omega) ps.length 0 b (by omega) (by omega) hb.1 hb.2).mono (fun r hr => Or.inl ⟨h, hr.1, ?_⟩)
  have := hr.2
  rw [show (0 : Int).toNat = 0 from rfl, List.drop_zero, List.drop_zero] at this
  exact this
/-! distances -/
def dist : List Int → List Int → Int
  | t :: ts, p :: ps => mx (p - t) (t - p) + dist ts ps
  | _, _ => 0
def stepsC (u d : Int) : Cv := (-d, 0, if -d < u then [(u - -d, 0)] else [])
def awayC (t : Int) : Cv := (-100000, t + 100000, [(t + 100000, -1), (200000 - t, 1)])
theorem stepsC_facts {u d : Int} (hu : 0 ≤ u ∧ u ≤ 100000) (hd : 0 ≤ d ∧ d ≤ 100000) : Valid (stepsC u d) ∧ hi (stepsC u d) = u ∧ (∀ q ∈ (stepsC u d).2.2, q.2 = 0) ∧ ∀ c, -d ≤ c → c ≤ u → V (stepsC u d) c = 0 := by
  have hq : ∀ q ∈ (stepsC u d).2.2, q.2 = 0 ∧ 0 < q.1 ∧ q.1 ≤ 200000 := fun q hq => by
    unfold stepsC at hq
    simp only at hq
    split at hq
    · rw [List.mem_singleton] at hq; subst hq
      exact ⟨rfl, by show 0 < u - -d; omega, by show u - -d ≤ 200000; omega⟩
    · cases hq
  have hhi : hi (stepsC u d) = u := by
    unfold hi stepsC
    simp only
    split
    · rw [total_cons, total_nil]; show -d + (u - -d + 0) = u; omega
    · rw [total_nil]; omega
  have hV : ∀ c, V (stepsC u d) c = 0 := fun c => by
    unfold V stepsC
    simp only
    split
    · rw [vAt_cons]
      show 0 + (mn (u - -d) (c - -d) * 0 + 0) = 0
      rw [Int.mul_zero]; rfl
    · rfl
  refine ⟨Valid.of ?_ ?_ ⟨?_, fun q h => by have := hq q h; omega, fun q h => by have := hq q h; omega, ?_, fun x x0 x1 => ?_⟩, hhi, fun q h => (hq q h).1, fun c _ _ => hV c⟩
  · unfold stepsC; simp only; split <;> simp
  · show -1000000 ≤ -d ∧ -d ≤ 1000000; omega
  · unfold stepsC; simp only
    split
    · exact ⟨by simp, fun q hq => by rw [List.mem_singleton] at hq; subst hq; show 0 < u - -d; omega⟩
    · exact SP.nil
  · have : hi (stepsC u d) = (stepsC u d).1 + total (stepsC u d).2.2 := rfl
    rw [← this, hhi]; omega
  · have := hV ((stepsC u d).1 + x)
    unfold V at this
    rw [show (stepsC u d).1 + x - (stepsC u d).1 = x by omega] at this
    omega
theorem awayC_facts {t : Int} (ht : 0 ≤ t ∧ t ≤ 100000) : Valid (awayC t) ∧ hi (awayC t) = 200000 ∧ ∀ x, -100000 ≤ x → x ≤ 200000 → V (awayC t) x = mx (x - t) (t - x) := by
  have hV : ∀ x, -100000 ≤ x → x ≤ 200000 → V (awayC t) x = mx (x - t) (t - x) := fun x x0 x1 => by
    unfold V awayC
    simp only
    rw [vAt_cons, vAt_cons]
    show t + 100000 + (mn (t + 100000) (x - -100000) * -1 + (mn (200000 - t) (x - -100000 - mn (t + 100000) (x - -100000)) * 1 + 0)) = _
    unfold mn mx
    split <;> split <;> split <;> omega
  refine ⟨Valid.of (by simp [awayC]) (by simp [awayC]) ⟨⟨by simp [awayC], fun q hq => ?_⟩, fun q hq => ?_, fun q hq => ?_, ?_, fun x x0 x1 => ?_⟩, ?_, hV⟩
  · simp [awayC] at hq
    rcases hq with rfl | rfl
    · show 0 < t + 100000; omega
    · show 0 < 200000 - t; omega
  · simp [awayC] at hq
    rcases hq with rfl | rfl
    · show t + 100000 ≤ _; omega
    · show 200000 - t ≤ _; omega
  · simp [awayC] at hq
    rcases hq with rfl | rfl
    · show -10000000 ≤ (-1 : Int) ∧ (-1 : Int) ≤ 10000000; omega
    · show -10000000 ≤ (1 : Int) ∧ (1 : Int) ≤ 10000000; omega
  · show -100000 + (t + 100000 + (200000 - t + 0)) ≤ 1000000; omega
  · have x1 : x ≤ t + 100000 + (200000 - t + 0) := x1
    have := hV (-100000 + x) (by omega) (by omega)
    have e : V (awayC t) (-100000 + x) = (awayC t).2.1 + vAt (awayC t).2.2 x := by
      unfold V
      rw [show -100000 + x - (awayC t).1 = x by show -100000 + x - -100000 = x; omega]
    rw [← e, this]
    have := mx_ge (-100000 + x - t) (t - (-100000 + x))
    omega
  · show -100000 + (t + 100000 + (200000 - t + 0)) = 200000; omega
theorem rsteps_ev {u d : Int} (hu : 0 ≤ u ∧ u ≤ 100000) (hd : 0 ≤ d ∧ d ≤ 100000) : Ev (fun k => ramp_steps.f k (-d) u) (stepsC u d) := by
  unfold ramp_steps.f stepsC
  rw [w64 (x := u - -d) (by omega) (by omega)]
  refine Ev.ite (fun hc => ?_) (fun hc => ?_)
  · rw [if_pos hc]; exact Ev.now _
  · rw [if_neg hc]; exact Ev.now _
theorem away_ev {t : Int} (ht : 0 ≤ t ∧ t ≤ 100000) : Ev (fun k => ramp_away.f k t) (awayC t) := by
  unfold ramp_away.f awayC
  rw [w64 (x := t + 100000) (by omega) (by omega), w64 (x := 200000 - t) (by omega) (by omega)]
  exact Ev.now _
theorem SP.len_le : ∀ (ps : List Pc) (a b : Int), SP ps → (∀ q ∈ ps, a ≤ q.2 ∧ q.2 ≤ b) → a ≤ b + 1 → (ps.length : Int) ≤ b - a + 1
  | [], a, b, _, _, h => by simp; omega
  | q :: ps, a, b, hs, hq, h => by
    have h0 := hq q (by simp)
    have := SP.len_le ps (q.2 + 1) b hs.tail (fun x hx => by
      have := (List.pairwise_cons.1 hs.s).1 x hx
      have := hq x (by simp [hx]); omega) (by omega)
    rw [List.length_cons]; omega
theorem one_le_total : ∀ (ps : List Pc), Nn ps → ∀ q ∈ ps, q.1 ≤ total ps
  | [], _, q, h => by cases h
  | p :: ps, hn, q, h => by
    have hn' : Nn ps := fun x hx => hn x (by simp [hx])
    have := total_nonneg ps hn'
    have := hn p (by simp)
    rw [total_cons]
    rcases List.mem_cons.1 h with rfl | h
    · omega
    · have := one_le_total ps hn' q h; omega
theorem pushes_mem : ∀ (ps acc : List Pc) (q : Pc), q ∈ pushes acc ps → (∃ x ∈ acc, x.2 = q.2) ∨ ∃ x ∈ ps, x.2 = q.2
  | [], acc, q, h => Or.inl ⟨q, h, rfl⟩
  | p :: ps, acc, q, h => by
    rcases pushes_mem ps (push acc p) q h with ⟨x, hx, e⟩ | ⟨x, hx, e⟩
    · rcases push_mem hx with e' | hx
      · exact Or.inr ⟨p, by simp, by omega⟩
      · exact Or.inl ⟨x, hx, e⟩
    · exact Or.inr ⟨x, by simp [hx], e⟩
theorem nrm_mem {ps : List Pc} {q : Pc} (h : q ∈ nrm ps) : ∃ x ∈ ps, x.2 = q.2 := by
  rcases pushes_mem _ _ q h with ⟨x, hx, _⟩ | ⟨x, hx, e⟩
  · cases hx
  · exact ⟨x, (Srt.ssort_perm bySlope_swo ps).mem_iff.1 hx, e⟩
/-- What is known of the costs behind so many periods. -/
structure RInv (i : Int) (f : Cv) : Prop where
  v : Valid f
  sl : ∀ q ∈ f.2.2, -i ≤ q.2 ∧ q.2 ≤ i
  val : ∀ x, f.1 ≤ x → x ≤ hi f → 0 ≤ V f x ∧ V f x ≤ 100000 * i
  lo : 0 ≤ f.1
  hi : VE.hi f ≤ 100000
structure RStep (u d : Int) (x : Pc) (t : Int) (f g : Cv) : Prop where
  lo : x.1 ≤ g.1
  hi : VE.hi g ≤ x.2
  le : ∀ y p, f.1 ≤ y → y ≤ VE.hi f → x.1 ≤ p → p ≤ x.2 → p ≤ y + u → y - d ≤ p → g.1 ≤ p ∧ p ≤ VE.hi g ∧ V g p ≤ V f y + mx (p - t) (t - p)
  ex : ∀ p, g.1 ≤ p → p ≤ VE.hi g → ∃ y, (f.1 ≤ y ∧ y ≤ VE.hi f) ∧ (p ≤ y + u ∧ y - d ≤ p) ∧ V g p = V f y + mx (p - t) (t - p)
theorem rconv_valid {u d : Int} (hu : 0 ≤ u ∧ u ≤ 100000) (hd : 0 ≤ d ∧ d ≤ 100000) {i : Int} (h0 : 0 ≤ i) (hi' : i ≤ 23) {f : Cv} (h : RInv i f) : Valid (conv f (stepsC u d)) ∧ ∀ q ∈ (conv f (stepsC u d)).2.2, -i ≤ q.2 ∧ q.2 ≤ i := by
  obtain ⟨s1, s2, s3, s4⟩ := stepsC_facts hu hd
  have hF := h.v
  have hnn := nn_app hF.ok.sp.nn s1.ok.sp.nn
  have hsp : SP (conv f (stepsC u d)).2.2 := nrm_SP hnn
  have hsl : ∀ q ∈ (conv f (stepsC u d)).2.2, -i ≤ q.2 ∧ q.2 ≤ i := fun q hq => by
    obtain ⟨x, hx, e⟩ := nrm_mem hq
    rw [← e]
    rcases List.mem_append.1 hx with hx | hx
    · exact h.sl x hx
    · rw [s3 x hx]; omega
  have hhi : hi (conv f (stepsC u d)) = hi f + u := by rw [hi_conv, s2]
  have hh := h.hi
  have hl := h.lo
  have hfh := hF.hi_ge
  have l1 : (conv f (stepsC u d)).1 = f.1 + -d := rfl
  have htot : (conv f (stepsC u d)).1 + total (conv f (stepsC u d)).2.2 = hi f + u := hhi
  refine ⟨Valid.of ?_ ?_ ⟨hsp, fun q hq => ?_, fun q hq => by have := hsl q hq; omega, by omega, fun x x0 x1 => ?_⟩, hsl⟩
  · have := SP.len_le _ (-i) i hsp hsl (by omega)
    omega
  · rw [l1]; omega
  · have := one_le_total _ hsp.nn q hq
    omega
  · obtain ⟨a, b, ⟨a0, a1⟩, ⟨b0, b1⟩, e, ev⟩ := conv_ex hF s1 (z := (conv f (stepsC u d)).1 + x) (by show f.1 + -d ≤ _; omega) (by rw [s2]; omega)
    have e2 : V (conv f (stepsC u d)) ((conv f (stepsC u d)).1 + x) = (conv f (stepsC u d)).2.1 + vAt (conv f (stepsC u d)).2.2 x := by
      unfold V
      rw [show (conv f (stepsC u d)).1 + x - (conv f (stepsC u d)).1 = x by omega]
    have b0 : -d ≤ b := b0
    rw [← e2, ev, s4 b b0 (by omega)]
    have := h.val a a0 a1
    omega
/-- One period. -/
theorem rstep {u d : Int} (hu : 0 ≤ u ∧ u ≤ 100000) (hd : 0 ≤ d ∧ d ≤ 100000) {i : Int} (h0 : 0 ≤ i) (hi' : i ≤ 23) {f : Cv} (h : RInv i f) {x : Pc} (hx : 0 ≤ x.1 ∧ x.1 ≤ x.2 ∧ x.2 ≤ 100000) {t : Int} (ht : 0 ≤ t ∧ t ≤ 100000) :
    (mn x.2 (hi (conv f (stepsC u d))) < mx x.1 (conv f (stepsC u d)).1 → ∀ y p, f.1 ≤ y → y ≤ hi f → x.1 ≤ p → p ≤ x.2 → p ≤ y + u → y - d ≤ p → False) ∧
    (¬ mn x.2 (hi (conv f (stepsC u d))) < mx x.1 (conv f (stepsC u d)).1 → Valid (part' (conv f (stepsC u d)) (mx x.1 (conv f (stepsC u d)).1) (mn x.2 (hi (conv f (stepsC u d))))) ∧ Ev (fun k => convexpl_Add.f k (part' (conv f (stepsC u d)) (mx x.1 (conv f (stepsC u d)).1) (mn x.2 (hi (conv f (stepsC u d))))) (awayC t)) (added (part' (conv f (stepsC u d)) (mx x.1 (conv f (stepsC u d)).1) (mn x.2 (hi (conv f (stepsC u d))))) (awayC t), 0) ∧ RInv (i + 1) (added (part' (conv f (stepsC u d)) (mx x.1 (conv f (stepsC u d)).1) (mn x.2 (hi (conv f (stepsC u d))))) (awayC t)) ∧ RStep u d x t f (added (part' (conv f (stepsC u d)) (mx x.1 (conv f (stepsC u d)).1) (mn x.2 (hi (conv f (stepsC u d))))) (awayC t))) := by
  obtain ⟨s1, s2, s3, s4⟩ := stepsC_facts hu hd
  obtain ⟨a1, a2, a3⟩ := awayC_facts ht
  obtain ⟨hC, hsl⟩ := rconv_valid hu hd h0 hi' h
  have hF := h.v
  have hhi : hi (conv f (stepsC u d)) = hi f + u := by rw [hi_conv, s2]
  have hh := h.hi
  have hl := h.lo
  have hfh := hF.hi_ge
  have l1 : (conv f (stepsC u d)).1 = f.1 + -d := rfl
  have m1 := mx_ge x.1 (conv f (stepsC u d)).1
  have m2 := mn_le x.2 (hi (conv f (stepsC u d)))
  refine ⟨fun hc y p y0 y1 p0 p1 p2 p3 => by omega, fun hc => ?_⟩
  obtain ⟨v1, v2, v3⟩ := part_valid hC (lo := mx x.1 (conv f (stepsC u d)).1) (en := mn x.2 (hi (conv f (stepsC u d)))) (by omega) (by omega) (by omega)
  have hrs : ∀ q ∈ (part' (conv f (stepsC u d)) (mx x.1 (conv f (stepsC u d)).1) (mn x.2 (hi (conv f (stepsC u d))))).2.2, -i ≤ q.2 ∧ q.2 ≤ i := fun q hq => by
    obtain ⟨p, hp, e, _⟩ := cutP_mem _ _ _ _ q hq
    rw [e]; exact hsl p hp
  have l2 : (part' (conv f (stepsC u d)) (mx x.1 (conv f (stepsC u d)).1) (mn x.2 (hi (conv f (stepsC u d))))).1 = mx x.1 (conv f (stepsC u d)).1 := rfl
  have l3 : (awayC t).1 = -100000 := rfl
  have exC : ∀ p, mx x.1 (conv f (stepsC u d)).1 ≤ p → p ≤ mn x.2 (hi (conv f (stepsC u d))) → ∃ y, (f.1 ≤ y ∧ y ≤ hi f) ∧ (p ≤ y + u ∧ y - d ≤ p) ∧ V (part' (conv f (stepsC u d)) (mx x.1 (conv f (stepsC u d)).1) (mn x.2 (hi (conv f (stepsC u d))))) p = V f y := fun p p0 p1 => by
    obtain ⟨y, c, ⟨y0, y1⟩, ⟨c0, c1⟩, e, ev⟩ := conv_ex hF s1 (z := p) (by show f.1 + -d ≤ p; omega) (by rw [s2]; omega)
    have c0 : -d ≤ c := c0
    refine ⟨y, ⟨y0, y1⟩, ⟨by omega, by omega⟩, ?_⟩
    rw [v3 p p0 p1, ev, s4 c c0 (by omega)]; omega
  have leC : ∀ y p, f.1 ≤ y → y ≤ hi f → x.1 ≤ p → p ≤ x.2 → p ≤ y + u → y - d ≤ p → mx x.1 (conv f (stepsC u d)).1 ≤ p ∧ p ≤ mn x.2 (hi (conv f (stepsC u d))) ∧ V (part' (conv f (stepsC u d)) (mx x.1 (conv f (stepsC u d)).1) (mn x.2 (hi (conv f (stepsC u d))))) p ≤ V f y := fun y p y0 y1 p0 p1 p2 p3 => by
    refine ⟨by omega, by omega, ?_⟩
    have := conv_le hF s1 (x := y) (y := p - y) y0 y1 (by show -d ≤ p - y; omega) (by rw [s2]; omega)
    rw [show y + (p - y) = p by omega, s4 (p - y) (by omega) (by omega)] at this
    rw [v3 p (by omega) (by omega)]; omega
  generalize hg : part' (conv f (stepsC u d)) (mx x.1 (conv f (stepsC u d)).1) (mn x.2 (hi (conv f (stepsC u d)))) = g at *
  generalize mx x.1 (conv f (stepsC u d)).1 = lo at *
  generalize mn x.2 (hi (conv f (stepsC u d))) = en at *
  have n1 : mx g.1 (awayC t).1 = lo := by have := mx_ge g.1 (awayC t).1; omega
  have n2 : mn (hi g) (hi (awayC t)) = en := by have := mn_le (hi g) (hi (awayC t)); omega
  obtain ⟨r, hr, hp⟩ := add_ev v1 a1
  rcases hp with ⟨hbad, _⟩ | ⟨_, hA, hS, hmem, hr'⟩
  · rw [n1, n2] at hbad; omega
  have hlo := hA.lo
  have hhi2 := hA.hi
  have hval := hA.val
  rw [n1] at hlo hval
  rw [n2] at hhi2 hval
  have hsl2 : ∀ q ∈ (added g (awayC t)).2.2, -(i + 1) ≤ q.2 ∧ q.2 ≤ i + 1 := fun q hq => by
    obtain ⟨a, ha, b, hb, e, _⟩ := hmem q hq
    have k1 := hrs a ha
    have k2 : b.2 = -1 ∨ b.2 = 1 := by
      simp [awayC] at hb
      rcases hb with rfl | rfl
      · exact Or.inl rfl
      · exact Or.inr rfl
    omega
  have hv2 : ∀ p, lo ≤ p → p ≤ en → 0 ≤ V (added g (awayC t)) p ∧ V (added g (awayC t)) p ≤ 100000 * (i + 1) := fun p p0 p1 => by
    obtain ⟨y, ⟨y0, y1⟩, _, e⟩ := exC p p0 p1
    have := h.val y y0 y1
    rw [hval p p0 p1, e, a3 p (by omega) (by omega)]
    have := mx_ge (p - t) (t - p)
    omega
  have hAV : Valid (added g (awayC t)) := by
    have htot : (added g (awayC t)).1 + total (added g (awayC t)).2.2 = en := hhi2
    refine Valid.of ?_ (by omega) ⟨hS, fun q hq => ?_, fun q hq => by have := hsl2 q hq; omega, by omega, fun z z0 z1 => ?_⟩
    · have := SP.len_le _ (-(i + 1)) (i + 1) hS hsl2 (by omega)
      omega
    · have := one_le_total _ hS.nn q hq
      omega
    · have := hv2 (lo + z) (by omega) (by omega)
      have e : V (added g (awayC t)) (lo + z) = (added g (awayC t)).2.1 + vAt (added g (awayC t)).2.2 z := by
        unfold V
        rw [show lo + z - (added g (awayC t)).1 = z by omega]
      rw [← e]; omega
  have hre : r = (added g (awayC t), 0) := by
    rcases hr' with ⟨_, e⟩ | ⟨hn, _⟩
    · exact e
    · exact absurd hAV hn
  subst hre
  refine ⟨v1, hr, ⟨hAV, hsl2, fun p p0 p1 => hv2 p (by omega) (by omega), by omega, by omega⟩, ⟨by omega, by omega, fun y p y0 y1 p0 p1 p2 p3 => ?_, fun p p0 p1 => ?_⟩⟩
  · obtain ⟨k1, k2, k3⟩ := leC y p y0 y1 p0 p1 p2 p3
    refine ⟨by omega, by omega, ?_⟩
    rw [hval p k1 k2, a3 p (by omega) (by omega)]; omega
  · obtain ⟨y, hy, hyp, e⟩ := exC p (by omega) (by omega)
    refine ⟨y, hy, hyp, ?_⟩
    rw [hval p (by omega) (by omega), a3 p (by omega) (by omega), e]
end Go.Proofs.Ytcmbckancficcaa.VE
