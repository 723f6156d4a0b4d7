import Derived.Test.YtcmbckancficcaaVpRgB
namespace Go.Proofs.Ytcmbckancficcaa.VE
open Go Go.RowKit
set_option linter.unusedVariables false
attribute [local irreducible] wrap64
/-! sums up to a price -/
def ltF (p t : Int) : Int := if t < p then 1 else 0
def eqF' (p t : Int) : Int := if t = p then 1 else 0
def leF (p t : Int) : Int := if t ≤ p then 1 else 0
def idF (p t : Int) : Int := if t < p then t else 0
theorem lin_le (p : Int) : ∀ ps : List Pc, lin (leF p) ps = lin (ltF p) ps + lin (eqF' p) ps
  | [] => rfl
  | q :: ps => by
    rw [lin_cons, lin_cons, lin_cons, lin_le p ps]
    unfold leF ltF eqF'
    split <;> split <;> split <;> first | omega | (simp; omega)
theorem lin_nonneg {g : Int → Int} (hg : ∀ t, 0 ≤ g t) : ∀ ps : List Pc, Nn ps → 0 ≤ lin g ps
  | [], _ => Int.le_refl _
  | q :: ps, h => by
    have := lin_nonneg hg ps (fun x hx => h x (by simp [hx]))
    have := Int.mul_nonneg (h q (by simp)) (hg q.2)
    rw [lin_cons]; omega
theorem lin_total {g : Int → Int} (hg : ∀ t, g t ≤ 1) : ∀ ps : List Pc, Nn ps → lin g ps ≤ total ps
  | [], _ => Int.le_refl _
  | q :: ps, h => by
    have := lin_total hg ps (fun x hx => h x (by simp [hx]))
    have h1 := Int.mul_nonneg (a := q.1) (b := 1 - g q.2) (h q (by simp)) (by have := hg q.2; omega)
    rw [Int.mul_sub, Int.mul_one] at h1
    rw [lin_cons, total_cons]; omega
theorem leF_n (p t : Int) : 0 ≤ leF p t ∧ leF p t ≤ 1 := by unfold leF; split <;> omega
theorem ltF_n (p t : Int) : 0 ≤ ltF p t ∧ ltF p t ≤ 1 := by unfold ltF; split <;> omega
theorem eqF_n (p t : Int) : 0 ≤ eqF' p t ∧ eqF' p t ≤ 1 := by unfold eqF'; split <;> omega
theorem vAt_ge (p : Int) : ∀ (ps : List Pc) (n : Int), Nn ps → (ps.Pairwise fun x y => x.2 ≤ y.2) → (∀ q ∈ ps, p ≤ q.2) → 0 ≤ n → n ≤ lin (eqF' p) ps → vAt ps n = n * p
  | [], n, _, _, _, h0, h1 => by
    have : n = 0 := by have : lin (eqF' p) [] = 0 := rfl; omega
    subst this
    simp [vAt]
  | q :: ps, n, hn, hs, hp, h0, h1 => by
    have hn' : Nn ps := fun x hx => hn x (by simp [hx])
    have hq := hn q (by simp)
    have hs' := List.pairwise_cons.1 hs
    have hpq := hp q (by simp)
    rw [lin_cons] at h1
    rw [vAt_cons]
    have hm := mn_le q.1 n
    by_cases he : q.2 = p
    · have e1 : eqF' p q.2 = 1 := by unfold eqF'; rw [if_pos he]
      rw [e1, Int.mul_one] at h1
      have := vAt_ge p ps (n - mn q.1 n) hn' hs'.2 (fun x hx => hp x (by simp [hx])) (by omega) (by
        rcases hm.2.2 with e | e
        · omega
        · have := lin_nonneg (fun t => (eqF_n p t).1) ps hn'; omega)
      rw [this, he, ← Int.add_mul]
      congr 1; omega
    · have e0 : lin (eqF' p) ps = 0 := lin_above _ (s := p) (fun t ht => by unfold eqF'; rw [if_neg (by omega)]) ps (fun x hx => by have := hs'.1 x hx; omega)
      have e1 : eqF' p q.2 = 0 := by unfold eqF'; rw [if_neg he]
      rw [e1, e0, Int.mul_zero] at h1
      have : n = 0 := by omega
      subst this
      rw [mn_of_ge hq, Int.sub_zero, vAt_zero ps hn', Int.zero_mul]; simp
/-- The value at all that is cheaper than p and n at p. -/
theorem vAt_at (p : Int) : ∀ (ps : List Pc) (n : Int), Nn ps → (ps.Pairwise fun x y => x.2 ≤ y.2) → 0 ≤ n → n ≤ lin (eqF' p) ps → vAt ps (lin (ltF p) ps + n) = lin (idF p) ps + n * p
  | [], n, hn, hs, h0, h1 => by
    have : n = 0 := by have : lin (eqF' p) [] = 0 := rfl; omega
    subst this
    simp [vAt, lin]
  | q :: ps, n, hn, hs, h0, h1 => by
    have hn' : Nn ps := fun x hx => hn x (by simp [hx])
    have hq := hn q (by simp)
    have hs' := List.pairwise_cons.1 hs
    by_cases hlt : q.2 < p
    · have e1 : eqF' p q.2 = 0 := by unfold eqF'; rw [if_neg (by omega)]
      have e2 : ltF p q.2 = 1 := by unfold ltF; rw [if_pos hlt]
      have e3 : idF p q.2 = q.2 := by unfold idF; rw [if_pos hlt]
      rw [lin_cons, e1, Int.mul_zero, Int.zero_add] at h1
      have hl := lin_nonneg (fun t => (ltF_n p t).1) ps hn'
      have := vAt_at p ps n hn' hs'.2 h0 h1
      rw [lin_cons, lin_cons, e2, e3, Int.mul_one, vAt_cons, mn_of_le (by omega), show q.1 + lin (ltF p) ps + n - q.1 = lin (ltF p) ps + n by omega, this]
      omega
    · have hall : ∀ x ∈ q :: ps, p ≤ x.2 := fun x hx => by
        rcases List.mem_cons.1 hx with rfl | hx
        · omega
        · have := hs'.1 x hx; omega
      have e2 : lin (ltF p) (q :: ps) = 0 := by
        have : ∀ l : List Pc, (∀ x ∈ l, p ≤ x.2) → lin (ltF p) l = 0 := by
          intro l
          induction l with
          | nil => intro _; rfl
          | cons x l ih =>
            intro h
            have hx := h x (by simp)
            have ex : ltF p x.2 = 0 := by unfold ltF; rw [if_neg (by omega)]
            rw [lin_cons, ex, ih (fun y hy => h y (by simp [hy]))]; simp
        exact this _ hall
      have e3 : lin (idF p) (q :: ps) = 0 := by
        have : ∀ l : List Pc, (∀ x ∈ l, p ≤ x.2) → lin (idF p) l = 0 := by
          intro l
          induction l with
          | nil => intro _; rfl
          | cons x l ih =>
            intro h
            have hx := h x (by simp)
            have ex : idF p x.2 = 0 := by unfold idF; rw [if_neg (by omega)]
            rw [lin_cons, ex, ih (fun y hy => h y (by simp [hy]))]; simp
        exact this _ hall
      rw [e2, e3, Int.zero_add, Int.zero_add]
      exact vAt_ge p _ n hn hs hall h0 h1
/-! ### functions by their values (no statement is proved here) -/
theorem lin_pos (s : Int) : ∀ ps : List Pc, lin (fun t => pos (s - t)) ps = s * lin (ltF s) ps - lin (idF s) ps
  | [] => by simp [lin]
  | q :: ps => by
    rw [lin_cons, lin_cons, lin_cons, lin_pos s ps, Int.mul_add]
    unfold pos ltF idF
    by_cases h : q.2 < s
    · rw [if_pos (by omega), if_pos h, if_pos h, Int.mul_one, Int.mul_sub, Int.mul_comm s q.1]; omega
    · rw [if_neg (by omega), if_neg h, if_neg h]; simp
abbrev Srt' (ps : List Pc) : Prop := ps.Pairwise fun x y => x.2 ≤ y.2
theorem SP.srt {ps : List Pc} (h : SP ps) : Srt' ps := h.s.imp (fun {a b} h => Int.le_of_lt h)
theorem dual {ps : List Pc} (hn : Nn ps) (hs : Srt' ps) {s d : Int} (h1 : lin (ltF s) ps ≤ d) (h2 : d ≤ lin (leF s) ps) : vAt ps d = s * d - lin (fun t => pos (s - t)) ps := by
  have hle := lin_le s ps
  have := vAt_at s ps (d - lin (ltF s) ps) hn hs (by omega) (by omega)
  rw [show lin (ltF s) ps + (d - lin (ltF s) ps) = d by omega] at this
  rw [this, lin_pos, Int.sub_mul, Int.mul_comm d s, Int.mul_comm (lin (ltF s) ps) s]; omega
theorem lt_zero {s : Int} : ∀ ps : List Pc, (∀ q ∈ ps, s ≤ q.2) → lin (ltF s) ps = 0
  | [], _ => rfl
  | q :: ps, h => by
    have hq := h q (by simp)
    have e : ltF s q.2 = 0 := by unfold ltF; rw [if_neg (by omega)]
    rw [lin_cons, e, lt_zero ps (fun x hx => h x (by simp [hx]))]; simp
theorem le_zero {s : Int} : ∀ ps : List Pc, (∀ q ∈ ps, s < q.2) → lin (leF s) ps = 0
  | [], _ => rfl
  | q :: ps, h => by
    have hq := h q (by simp)
    have e : leF s q.2 = 0 := by unfold leF; rw [if_neg (by omega)]
    rw [lin_cons, e, le_zero ps (fun x hx => h x (by simp [hx]))]; simp
theorem exists_slope : ∀ (ps : List Pc) (d : Int), Nn ps → Srt' ps → 0 ≤ d → d ≤ total ps → ∃ s, lin (ltF s) ps ≤ d ∧ d ≤ lin (leF s) ps
  | [], d, _, _, h0, h1 => by
    rw [total_nil] at h1
    exact ⟨0, h0, h1⟩
  | q :: ps, d, hn, hs, h0, h1 => by
    have hq := hn q (by simp)
    have hn' : Nn ps := fun x hx => hn x (by simp [hx])
    have hs' := List.pairwise_cons.1 hs
    rw [total_cons] at h1
    rcases Int.le_total d q.1 with hd | hd
    · refine ⟨q.2, ?_, ?_⟩
      · rw [lt_zero _ (fun x hx => by
          rcases List.mem_cons.1 hx with rfl | hx
          · exact Int.le_refl _
          · exact hs'.1 x hx)]
        exact h0
      · have e : leF q.2 q.2 = 1 := by unfold leF; rw [if_pos (Int.le_refl _)]
        have := lin_nonneg (fun t => (leF_n q.2 t).1) ps hn'
        rw [lin_cons, e]; omega
    · by_cases he : d = q.1
      · refine ⟨q.2, ?_, ?_⟩
        · rw [lt_zero _ (fun x hx => by
            rcases List.mem_cons.1 hx with rfl | hx
            · exact Int.le_refl _
            · exact hs'.1 x hx)]
          exact h0
        · have e : leF q.2 q.2 = 1 := by unfold leF; rw [if_pos (Int.le_refl _)]
          have := lin_nonneg (fun t => (leF_n q.2 t).1) ps hn'
          rw [lin_cons, e]; omega
      · obtain ⟨s, s1, s2⟩ := exists_slope ps (d - q.1) hn' hs'.2 (by omega) (by omega)
        have hqs : q.2 ≤ s := by
          apply Classical.byContradiction
          intro hc
          rw [le_zero ps (fun x hx => by have := hs'.1 x hx; omega)] at s2
          omega
        have e1 : leF s q.2 = 1 := by unfold leF; rw [if_pos hqs]
        have h2 := ltF_n s q.2
        have := Int.mul_nonneg (a := q.1) (b := 1 - ltF s q.2) hq (by omega)
        rw [Int.mul_sub, Int.mul_one] at this
        refine ⟨s, ?_, ?_⟩
        · rw [lin_cons]; omega
        · rw [lin_cons, e1]; omega
theorem hi_conv (f g : Cv) : hi (conv f g) = hi f + hi g := by
  show f.1 + g.1 + total (nrm (f.2.2 ++ g.2.2)) = f.1 + total f.2.2 + (g.1 + total g.2.2)
  rw [total_nrm, total_append]; omega
theorem nn_app {a b : List Pc} (ha : Nn a) (hb : Nn b) : Nn (a ++ b) := fun p hp => by
  rcases List.mem_append.1 hp with h | h
  · exact ha p h
  · exact hb p h
/-- The convolution is no greater than any sum. -/
theorem conv_le {f g : Cv} (hF : Valid f) (hG : Valid g) {x y : Int} (x0 : f.1 ≤ x) (x1 : x ≤ hi f) (y0 : g.1 ≤ y) (y1 : y ≤ hi g) : V (conv f g) (x + y) ≤ V f x + V g y := by
  have hnn := nn_app hF.ok.sp.nn hG.ok.sp.nn
  have hsp := nrm_SP hnn
  have ht : total (nrm (f.2.2 ++ g.2.2)) = total f.2.2 + total g.2.2 := by rw [total_nrm, total_append]
  unfold hi at x1 y1
  obtain ⟨s, s1, s2⟩ := exists_slope (nrm (f.2.2 ++ g.2.2)) (x + y - (f.1 + g.1)) hsp.nn hsp.srt (by omega) (by omega)
  have e := dual hsp.nn hsp.srt s1 s2
  have c1 := conj_bound s f.2.2 (x - f.1) hF.ok.sp.nn (by omega) (by omega)
  have c2 := conj_bound s g.2.2 (y - g.1) hG.ok.sp.nn (by omega) (by omega)
  rw [lin_nrm, lin_append] at e
  show f.2.1 + g.2.1 + vAt (nrm (f.2.2 ++ g.2.2)) (x + y - (f.1 + g.1)) ≤ f.2.1 + vAt f.2.2 (x - f.1) + (g.2.1 + vAt g.2.2 (y - g.1))
  rw [e]
  have : s * (x + y - (f.1 + g.1)) = s * (x - f.1) + s * (y - g.1) := by rw [← Int.mul_add]; congr 1; omega
  omega
/-- The convolution is a sum. -/
theorem conv_ex {f g : Cv} (hF : Valid f) (hG : Valid g) {z : Int} (z0 : f.1 + g.1 ≤ z) (z1 : z ≤ hi f + hi g) : ∃ x y, (f.1 ≤ x ∧ x ≤ hi f) ∧ (g.1 ≤ y ∧ y ≤ hi g) ∧ x + y = z ∧ V (conv f g) z = V f x + V g y := by
  have hnn := nn_app hF.ok.sp.nn hG.ok.sp.nn
  have hsp := nrm_SP hnn
  have ht : total (nrm (f.2.2 ++ g.2.2)) = total f.2.2 + total g.2.2 := by rw [total_nrm, total_append]
  unfold hi at z1
  obtain ⟨s, s1, s2⟩ := exists_slope (nrm (f.2.2 ++ g.2.2)) (z - (f.1 + g.1)) hsp.nn hsp.srt (by omega) (by omega)
  have e := dual hsp.nn hsp.srt s1 s2
  rw [lin_nrm, lin_append] at s1 s2 e
  have a0 := lin_nonneg (fun t => (ltF_n s t).1) _ hF.ok.sp.nn
  have b0 := lin_nonneg (fun t => (ltF_n s t).1) _ hG.ok.sp.nn
  have a1 := lin_total (fun t => (leF_n s t).2) _ hF.ok.sp.nn
  have b1 := lin_total (fun t => (leF_n s t).2) _ hG.ok.sp.nn
  have a2 := lin_le s f.2.2
  have b2 := lin_le s g.2.2
  have a3 := lin_nonneg (fun t => (eqF_n s t).1) _ hF.ok.sp.nn
  have b3 := lin_nonneg (fun t => (eqF_n s t).1) _ hG.ok.sp.nn
  obtain ⟨d1, d2, h1, h2, h3, h4, h5⟩ : ∃ d1 d2, d1 + d2 = z - (f.1 + g.1) ∧ lin (ltF s) f.2.2 ≤ d1 ∧ d1 ≤ lin (leF s) f.2.2 ∧ lin (ltF s) g.2.2 ≤ d2 ∧ d2 ≤ lin (leF s) g.2.2 := by
    rcases Int.le_total (z - (f.1 + g.1) - lin (ltF s) g.2.2) (lin (leF s) f.2.2) with h | h
    · exact ⟨z - (f.1 + g.1) - lin (ltF s) g.2.2, lin (ltF s) g.2.2, by omega, by omega, h, by omega, by omega⟩
    · exact ⟨lin (leF s) f.2.2, z - (f.1 + g.1) - lin (leF s) f.2.2, by omega, by omega, by omega, by omega, by omega⟩
  have e1 := dual hF.ok.sp.nn hF.ok.sp.srt h2 h3
  have e2 := dual hG.ok.sp.nn hG.ok.sp.srt h4 h5
  refine ⟨f.1 + d1, g.1 + d2, ⟨by omega, by unfold hi; omega⟩, ⟨by omega, by unfold hi; omega⟩, by omega, ?_⟩
  show f.2.1 + g.2.1 + vAt (nrm (f.2.2 ++ g.2.2)) (z - (f.1 + g.1)) = f.2.1 + vAt f.2.2 (f.1 + d1 - f.1) + (g.2.1 + vAt g.2.2 (g.1 + d2 - g.1))
  rw [show f.1 + d1 - f.1 = d1 by omega, show g.1 + d2 - g.1 = d2 by omega, e, e1, e2, ← h1, Int.mul_add]; omega
/-! Turn -/
theorem negP_rev {ps : List Pc} (h : SP ps) : SP (negP ps).reverse := by
  constructor
  · rw [List.pairwise_reverse]
    unfold negP
    rw [List.pairwise_map]
    exact h.s.imp (fun {a b} h => by show -b.2 < -a.2; omega)
  · intro q hq
    rw [List.mem_reverse] at hq
    obtain ⟨p, hp, rfl⟩ := List.mem_map.1 hq
    exact h.p p hp
theorem nrm_negP {ps : List Pc} (h : SP ps) : nrm (negP ps) = (negP ps).reverse := nrm_eq (negP_nn h.nn) (negP_rev h) (fun s => (lin_perm _ (List.reverse_perm (negP ps))).symm)
theorem hi_turned (f : Cv) : hi (turned f) = -f.1 := by
  show -hi f + total (nrm (negP f.2.2)) = -f.1
  rw [total_nrm, total_negP]; unfold hi; omega
theorem V_turned {f : Cv} (h : Valid f) {x : Int} (h0 : -hi f ≤ x) (h1 : x ≤ -f.1) : V (turned f) x = V f (-x) := by
  have hsp := h.ok.sp
  have hn := nrm_SP (negP_nn hsp.nn)
  have hh : hi f = f.1 + total f.2.2 := rfl
  obtain ⟨s, s1, s2⟩ := exists_slope f.2.2 (-x - f.1) hsp.nn hsp.srt (by omega) (by omega)
  have e := dual hsp.nn hsp.srt s1 s2
  have key : ∀ ps : List Pc, lin (ltF (-s)) (negP ps) = total ps - lin (leF s) ps ∧ lin (leF (-s)) (negP ps) = total ps - lin (ltF s) ps ∧ lin (fun t => pos (-s - t)) (negP ps) = lin (fun t => t) ps - s * total ps + lin (fun t => pos (s - t)) ps := by
    intro ps
    induction ps with
    | nil => simp [negP, lin, total]
    | cons q ps ih =>
      obtain ⟨i1, i2, i3⟩ := ih
      show lin (ltF (-s)) ((q.1, -q.2) :: negP ps) = _ ∧ lin (leF (-s)) ((q.1, -q.2) :: negP ps) = _ ∧ lin (fun t => pos (-s - t)) ((q.1, -q.2) :: negP ps) = _
      rw [lin_cons, lin_cons, lin_cons, lin_cons, lin_cons, lin_cons, lin_cons, total_cons, i1, i2, i3]
      refine ⟨?_, ?_, ?_⟩
      · show q.1 * ltF (-s) (-q.2) + _ = _
        unfold ltF leF
        split <;> split <;> first | omega | (simp; omega)
      · show q.1 * leF (-s) (-q.2) + _ = _
        unfold ltF leF
        split <;> split <;> first | omega | (simp; omega)
      · show q.1 * pos (-s - -q.2) + _ = _
        have e1 : pos (-s - -q.2) = q.2 - s + pos (s - q.2) := by unfold pos; split <;> split <;> omega
        rw [e1, Int.mul_add, Int.mul_sub, Int.mul_add, Int.mul_comm s q.1]; omega
  obtain ⟨k1, k2, k3⟩ := key f.2.2
  have e2 := dual hn.nn hn.srt (s := -s) (d := x - -hi f) (by rw [lin_nrm, k1]; omega) (by rw [lin_nrm, k2]; omega)
  rw [lin_nrm, k3] at e2
  have e3 : V f (hi f) = f.2.1 + lin (fun t => t) f.2.2 := by
    unfold V
    rw [show hi f - f.1 = total f.2.2 by omega, vAt_total _ hsp.nn]
  show V f (hi f) + vAt (nrm (negP f.2.2)) (x - -hi f) = f.2.1 + vAt f.2.2 (-x - f.1)
  rw [e2, e, e3]
  have e4 : -s * (x - -hi f) = s * (-x - f.1) - s * total f.2.2 := by
    rw [Int.neg_mul, ← Int.mul_neg, ← Int.mul_sub]; congr 1; omega
  rw [e4]; omega
theorem turned_valid {f : Cv} (h : Valid f) : Valid (turned f) := by
  have hsp := h.ok.sp
  have hh := h.hi_ge
  have hf := h.2.1
  have e : (turned f).2.2 = (negP f.2.2).reverse := nrm_negP hsp
  have hmem : ∀ q ∈ (turned f).2.2, ∃ p ∈ f.2.2, q = (p.1, -p.2) := fun q hq => by
    rw [e, List.mem_reverse] at hq
    obtain ⟨p, hp, rfl⟩ := List.mem_map.1 hq
    exact ⟨p, hp, rfl⟩
  refine Valid.of ?_ ?_ ⟨?_, fun q hq => ?_, fun q hq => ?_, ?_, fun d d0 d1 => ?_⟩
  · rw [e, List.length_reverse]
    unfold negP
    rw [List.length_map]; exact h.1
  · show -1000000 ≤ -hi f ∧ -hi f ≤ 1000000
    omega
  · rw [e]; exact negP_rev hsp
  · obtain ⟨p, hp, rfl⟩ := hmem q hq
    exact h.ok.long p hp
  · obtain ⟨p, hp, rfl⟩ := hmem q hq
    have := h.ok.slope p hp
    show -10000000 ≤ -p.2 ∧ -p.2 ≤ 10000000
    omega
  · have := hi_turned f
    unfold hi at this
    omega
  · have ht : total (turned f).2.2 = total f.2.2 := by
      show total (nrm (negP f.2.2)) = _
      rw [total_nrm, total_negP]
    rw [ht] at d1
    have hq : hi f = f.1 + total f.2.2 := rfl
    have := V_turned h (x := -hi f + d) (by omega) (by omega)
    have e2 : V (turned f) (-hi f + d) = (turned f).2.1 + vAt (turned f).2.2 d := by
      unfold V
      rw [show -hi f + d - (turned f).1 = d by show -hi f + d - -hi f = d; omega]
    rw [← e2, this]
    exact h.V_rng (by omega) (by omega)
/-! Move -/
theorem V_moved (f : Cv) (x z : Int) : V (f.1 + x, f.2.1 + 0, f.2.2) z = V f (z - x) := by
  show f.2.1 + 0 + vAt f.2.2 (z - (f.1 + x)) = f.2.1 + vAt f.2.2 (z - x - f.1)
  rw [show z - (f.1 + x) = z - x - f.1 by omega]; omega
theorem move_valid {f : Cv} (h : Valid f) {x : Int} (h0 : -1000000 ≤ f.1 + x) (h1 : hi f + x ≤ 1000000) : Valid (f.1 + x, f.2.1 + 0, f.2.2) := by
  have hh := h.hi_ge
  refine Valid.of h.1 ⟨h0, by show f.1 + x ≤ 1000000; omega⟩ ⟨h.ok.sp, h.ok.long, h.ok.slope, by show f.1 + x + total f.2.2 ≤ _; unfold hi at h1; omega, fun d d0 d1 => by
    have := h.ok.rng d d0 d1
    show -1000000000000000 ≤ f.2.1 + 0 + vAt f.2.2 d ∧ f.2.1 + 0 + vAt f.2.2 d ≤ 1000000000000000
    omega⟩
/-! Restrict, with any bounds -/
theorem restrict_all {f : Cv} (h : Valid f) (lo en : Int) : Ev (fun k => convexpl_Restrict.f k f lo en) (if mn en (hi f) < mx lo f.1 then ((0, 0, []), 8) else (part' f (mx lo f.1) (mn en (hi f)), 0)) := by
  have m1 := mx_ge lo f.1
  have m2 := mn_le en (hi f)
  by_cases hc : mn en (hi f) < mx lo f.1
  · rw [if_pos hc]
    unfold convexpl_Restrict.f
    exact Ev.bind (ccheck_yes h) (Ev.pos rfl (Ev.bind (high_ev h) (Ev.pos hc (Ev.now _))))
  · rw [if_neg hc]
    have := restrict_ev h (lo := mx lo f.1) (en := mn en (hi f)) (by omega) (by omega) (by omega)
    unfold convexpl_Restrict.f at this ⊢
    have e1 : mx (mx lo f.1) f.1 = mx lo f.1 := by have := mx_ge (mx lo f.1) f.1; omega
    have e2 : mn (mn en (hi f)) (hi f) = mn en (hi f) := by have := mn_le (mn en (hi f)) (hi f); omega
    obtain ⟨K, hK⟩ := this
    obtain ⟨K1, hK1⟩ := ccheck_yes h
    obtain ⟨K2, hK2⟩ := high_ev h
    refine ⟨max K (max K1 K2), fun k hk => ?_⟩
    have := hK k (by omega)
    simp only [hK1 k (by omega), hK2 k (by omega), Option.bind_some, e1, e2] at this ⊢
    exact this
/-! Least -/
theorem least_loop (l : List Pc) (hl : l.length ≤ 64) (hp : ∀ p ∈ l, (0 ≤ p.1 ∧ p.1 ≤ 2000000) ∧ (-10000000 ≤ p.2 ∧ p.2 ≤ 10000000)) (hs : l.Pairwise fun p q => p.2 < q.2) : ∀ (n : Nat) (i a v : Int), 0 ≤ i → (l.length : Int) - i = n → -1000000 - 2000000 * i ≤ a → a ≤ 1000000 + 2000000 * i → -(1000000000000000 + 20000000000000 * i) ≤ v → v ≤ 1000000000000000 + 20000000000000 * i → Ev (fun k => convexpl_Least.l6 k a v l (l.length : Int) i) (a + lin (ltF 0) (l.drop i.toNat), v + lin (idF 0) (l.drop i.toNat), 0) := by
  intro n
  induction n with
  | zero =>
    intro i a v h0 h1 ha1 ha2 hv1 hv2
    rw [drop_end (by omega), show lin (ltF 0) [] = 0 from rfl, show lin (idF 0) [] = 0 from rfl, Int.add_zero, Int.add_zero]
    exact Ev.step (fun k => convexpl_Least.l6_eq k _ _ _ _ _) (Ev.neg (by omega) (Ev.now _))
  | succ n ih =>
    intro i a v h0 h1 ha1 ha2 hv1 hv2
    have hlt : i < (l.length : Int) := by omega
    obtain ⟨⟨p0, p1⟩, p2, p3⟩ := hp _ (rY0_mem h0 hlt)
    have hs' : (l.drop i.toNat).Pairwise fun p q => p.2 < q.2 := hs.sublist (List.drop_sublist _ _)
    rw [rY0_drop h0 hlt] at hs' ⊢
    refine Ev.step (fun k => convexpl_Least.l6_eq k _ _ _ _ _) (Ev.pos hlt (Ev.pos h0 (Ev.pos hlt ?_)))
    refine Ev.ite (fun hc => ?_) (fun hc => ?_)
    · have hall : ∀ q ∈ rY0 l i :: l.drop (i + 1).toNat, 0 ≤ q.2 := fun q hq => by
        rcases List.mem_cons.1 hq with rfl | hq
        · exact hc
        · have := (List.pairwise_cons.1 hs').1 q hq; omega
      have e2 : ∀ ps : List Pc, (∀ q ∈ ps, 0 ≤ q.2) → lin (idF 0) ps = 0 := by
        intro ps
        induction ps with
        | nil => intro _; rfl
        | cons q ps ih =>
          intro h
          have hq := h q (by simp)
          have e : idF 0 q.2 = 0 := by unfold idF; rw [if_neg (by omega)]
          rw [lin_cons, e, ih (fun x hx => h x (by simp [hx]))]; simp
      rw [lt_zero _ hall, e2 _ hall, Int.add_zero, Int.add_zero]
      exact Ev.now _
    · have m2 := mul_abs (a := (rY0 l i).1) (b := (rY0 l i).2) (A := 2000000) (B := 10000000) (by omega) (by omega) (by omega) (by omega)
      rw [w64 (x := i + 1) (by omega) (by omega), w64 (x := a + (rY0 l i).1) (by omega) (by omega), w64 (x := (rY0 l i).1 * (rY0 l i).2) (by omega) (by omega), w64 (x := v + _) (by omega) (by omega)]
      have e1 : ltF 0 (rY0 l i).2 = 1 := by unfold ltF; rw [if_pos (by omega)]
      have e2 : idF 0 (rY0 l i).2 = (rY0 l i).2 := by unfold idF; rw [if_pos (by omega)]
      rw [lin_cons, lin_cons, e1, e2, Int.mul_one, ← Int.add_assoc, ← Int.add_assoc]
      exact ih (i + 1) _ _ (by omega) (by omega) (by omega) (by omega) (by omega) (by omega)
structure LeastP (f : Cv) (x v : Int) : Prop where
  i0 : f.1 ≤ x
  i1 : x ≤ hi f
  val : v = V f x
  le : ∀ y, f.1 ≤ y → y ≤ hi f → v ≤ V f y
theorem least_ev {f : Cv} (h : Valid f) : ∃ x v, Ev (fun k => convexpl_Least.f k f) (x, v, 0) ∧ LeastP f x v := by
  have hsp := h.ok.sp
  have hf := h.2.1
  have hv := h.2.2.1
  have h1 := least_loop f.2.2 h.1 (fun p hp => ⟨⟨hsp.nn p hp, h.ok.long p hp⟩, h.ok.slope p hp⟩) hsp.s f.2.2.length 0 f.1 f.2.1 (by omega) (by omega) (by omega) (by omega) (by omega) (by omega)
  rw [show (0 : Int).toNat = 0 from rfl, List.drop_zero] at h1
  have l0 := lin_nonneg (fun t => (ltF_n 0 t).1) _ hsp.nn
  have l1 := lin_total (fun t => (ltF_n 0 t).2) _ hsp.nn
  have e0 := lin_nonneg (fun t => (eqF_n 0 t).1) _ hsp.nn
  have hat := vAt_at 0 f.2.2 0 hsp.nn hsp.srt (Int.le_refl _) e0
  rw [Int.add_zero, Int.mul_zero, Int.add_zero] at hat
  refine ⟨_, _, Ev.bind (ccheck_yes h) (Ev.pos rfl h1), ⟨by omega, by unfold hi; omega, ?_, fun y y0 y1 => ?_⟩⟩
  · unfold V
    rw [show f.1 + lin (ltF 0) f.2.2 - f.1 = lin (ltF 0) f.2.2 by omega, hat]
  · have c := conj_bound 0 f.2.2 (y - f.1) hsp.nn (by omega) (by unfold hi at y1; omega)
    rw [lin_pos, Int.zero_mul, Int.zero_mul] at c
    unfold V
    omega
/-! Add -/
def short : List Pc → Int → List Pc
  | [], _ => []
  | p :: ps, m => if p.1 - m = 0 then ps else (p.1 - m, p.2) :: ps
def zipA : Nat → List Pc → List Pc → List Pc
  | n + 1, p :: a, q :: b => (mn p.1 q.1, p.2 + q.2) :: zipA n (short (p :: a) (mn p.1 q.1)) (short (q :: b) (mn p.1 q.1))
  | _, _, _ => []
theorem short_cons (p : Pc) (ps : List Pc) (m : Int) : short (p :: ps) m = if p.1 - m = 0 then ps else (p.1 - m, p.2) :: ps := rfl
theorem short_SP {p : Pc} {ps : List Pc} (h : SP (p :: ps)) {m : Int} (hm : m ≤ p.1) : SP (short (p :: ps) m) := by
  rw [short_cons]
  split
  · exact h.tail
  · refine ⟨List.pairwise_cons.2 ⟨(List.pairwise_cons.1 h.s).1, h.tail.s⟩, fun q hq => ?_⟩
    rcases List.mem_cons.1 hq with rfl | hq
    · show 0 < p.1 - m; omega
    · exact h.p q (by simp [hq])
theorem short_total (p : Pc) (ps : List Pc) (m : Int) : total (short (p :: ps) m) = total (p :: ps) - m := by
  rw [short_cons, total_cons]
  split
  · omega
  · rw [total_cons]; show p.1 - m + total ps = _; omega
theorem short_vAt {p : Pc} {ps : List Pc} {m d : Int} (hm : m ≤ p.1) (hd : m ≤ d) : vAt (p :: ps) d = m * p.2 + vAt (short (p :: ps) m) (d - m) := by
  rw [short_cons, vAt_cons]
  split
  · rw [show p.1 = m by omega, mn_of_le hd]
  · rw [vAt_cons]
    show _ = m * p.2 + (mn (p.1 - m) (d - m) * p.2 + vAt ps (d - m - mn (p.1 - m) (d - m)))
    have e : mn p.1 d = m + mn (p.1 - m) (d - m) := by unfold mn; split <;> split <;> omega
    rw [e, Int.add_mul, show d - (m + mn (p.1 - m) (d - m)) = d - m - mn (p.1 - m) (d - m) by omega]; omega
theorem short_mem {p : Pc} {ps : List Pc} {m : Int} {q : Pc} (h0 : 0 ≤ m) (h : q ∈ short (p :: ps) m) : ∃ x ∈ p :: ps, q.2 = x.2 ∧ q.1 ≤ x.1 := by
  rw [short_cons] at h
  split at h
  · exact ⟨q, by simp [h], rfl, Int.le_refl _⟩
  · rcases List.mem_cons.1 h with rfl | h
    · exact ⟨p, by simp, rfl, by show p.1 - m ≤ p.1; omega⟩
    · exact ⟨q, by simp [h], rfl, Int.le_refl _⟩
theorem short_len (p : Pc) (ps : List Pc) (m : Int) : (short (p :: ps) m).length ≤ ps.length + 1 ∧ (p.1 = m → (short (p :: ps) m).length = ps.length) := by
  rw [short_cons]
  split
  · exact ⟨by omega, fun _ => rfl⟩
  · exact ⟨by simp, fun h => by omega⟩
theorem zipA_mem : ∀ (n : Nat) (a b : List Pc) (q : Pc), SP a → SP b → q ∈ zipA n a b → ∃ x ∈ a, ∃ y ∈ b, q.2 = x.2 + y.2 ∧ q.1 ≤ x.1 ∧ q.1 ≤ y.1 ∧ 0 < q.1
  | 0, a, b, q, _, _, h => by simp [zipA] at h
  | n + 1, [], b, q, _, _, h => by simp [zipA] at h
  | n + 1, p :: a, [], q, _, _, h => by simp [zipA] at h
  | n + 1, p :: a, r :: b, q, ha, hb, h => by
    have hm := mn_le p.1 r.1
    have p0 := ha.p p (by simp)
    have r0 := hb.p r (by simp)
    have h : q ∈ (mn p.1 r.1, p.2 + r.2) :: zipA n (short (p :: a) (mn p.1 r.1)) (short (r :: b) (mn p.1 r.1)) := h
    rcases List.mem_cons.1 h with rfl | h
    · exact ⟨p, by simp, r, by simp, rfl, hm.1, hm.2.1, by show 0 < mn p.1 r.1; omega⟩
    · obtain ⟨x, hx, y, hy, e1, e2, e3, e4⟩ := zipA_mem n _ _ q (short_SP ha hm.1) (short_SP hb hm.2.1) h
      obtain ⟨x', hx', f1, f2⟩ := short_mem (by omega) hx
      obtain ⟨y', hy', g1, g2⟩ := short_mem (by omega) hy
      exact ⟨x', hx', y', hy', by omega, by omega, by omega, e4⟩
theorem zipA_facts : ∀ (n : Nat) (a b : List Pc), a.length + b.length ≤ n → SP a → SP b → total a = total b → total (zipA n a b) = total a ∧ (∀ d, 0 ≤ d → d ≤ total a → vAt (zipA n a b) d = vAt a d + vAt b d) ∧ SP (zipA n a b) ∧ (zipA n a b).length ≤ a.length + b.length ∧ ∀ q ∈ zipA n a b, ∀ p r, a.head? = some p → b.head? = some r → p.2 + r.2 ≤ q.2
  | 0, a, b, hn, _, _, _ => by
    have ha : a = [] := List.eq_nil_of_length_eq_zero (by omega)
    have hb : b = [] := List.eq_nil_of_length_eq_zero (by omega)
    subst ha hb
    exact ⟨rfl, fun d _ _ => rfl, SP.nil, by simp [zipA], fun q hq => by cases hq⟩
  | n + 1, [], b, hn, _, hb, ht => by
    have hb' : b = [] := by
      cases b with
      | nil => rfl
      | cons r b =>
        have := hb.p r (by simp)
        have := total_nonneg b hb.tail.nn
        rw [total_nil, total_cons] at ht; omega
    subst hb'
    exact ⟨rfl, fun d _ _ => rfl, SP.nil, by simp [zipA], fun q hq => by cases hq⟩
  | n + 1, p :: a, [], hn, ha, _, ht => by
    have := ha.p p (by simp)
    have := total_nonneg a ha.tail.nn
    rw [total_nil, total_cons] at ht; omega
  | n + 1, p :: a, r :: b, hn, ha, hb, ht => by
    have hm := mn_le p.1 r.1
    have p0 := ha.p p (by simp)
    have r0 := hb.p r (by simp)
    rw [List.length_cons, List.length_cons] at hn
    have la := short_len p a (mn p.1 r.1)
    have lb := short_len r b (mn p.1 r.1)
    have hlen : (short (p :: a) (mn p.1 r.1)).length + (short (r :: b) (mn p.1 r.1)).length ≤ a.length + b.length + 1 := by
      rcases hm.2.2 with e | e
      · have := la.2 e.symm; omega
      · have := lb.2 e.symm; omega
    obtain ⟨i1, i2, i3, i4, i5⟩ := zipA_facts n (short (p :: a) (mn p.1 r.1)) (short (r :: b) (mn p.1 r.1)) (by omega) (short_SP ha hm.1) (short_SP hb hm.2.1) (by rw [short_total, short_total, ht])
    rw [short_total] at i1 i2
    have e : zipA (n + 1) (p :: a) (r :: b) = (mn p.1 r.1, p.2 + r.2) :: zipA n (short (p :: a) (mn p.1 r.1)) (short (r :: b) (mn p.1 r.1)) := rfl
    have htn := total_nonneg a ha.tail.nn
    have lt : ∀ q ∈ zipA n (short (p :: a) (mn p.1 r.1)) (short (r :: b) (mn p.1 r.1)), p.2 + r.2 < q.2 := fun q hq => by
      -- one of the two goes on to a later piece
      have hsa : ∀ x ∈ short (p :: a) (mn p.1 r.1), p.2 ≤ x.2 ∧ (p.1 = mn p.1 r.1 → p.2 < x.2) := fun x hx => by
        rw [short_cons] at hx
        split at hx
        · have := (List.pairwise_cons.1 ha.s).1 x hx
          exact ⟨by omega, fun _ => this⟩
        · rename_i hne
          rcases List.mem_cons.1 hx with rfl | hx
          · exact ⟨Int.le_refl _, fun h => by omega⟩
          · have := (List.pairwise_cons.1 ha.s).1 x hx
            exact ⟨by omega, fun _ => this⟩
      have hsb : ∀ x ∈ short (r :: b) (mn p.1 r.1), r.2 ≤ x.2 ∧ (r.1 = mn p.1 r.1 → r.2 < x.2) := fun x hx => by
        rw [short_cons] at hx
        split at hx
        · have := (List.pairwise_cons.1 hb.s).1 x hx
          exact ⟨by omega, fun _ => this⟩
        · rename_i hne
          rcases List.mem_cons.1 hx with rfl | hx
          · exact ⟨Int.le_refl _, fun h => by omega⟩
          · have := (List.pairwise_cons.1 hb.s).1 x hx
            exact ⟨by omega, fun _ => this⟩
      obtain ⟨x, hx, y, hy, eq, _⟩ := zipA_mem n _ _ q (short_SP ha hm.1) (short_SP hb hm.2.1) hq
      have h1 := hsa x hx
      have h2 := hsb y hy
      rcases hm.2.2 with e | e
      · have := h1.2 e.symm; omega
      · have := h2.2 e.symm; omega
    rw [e]
    refine ⟨by rw [total_cons, i1]; show mn p.1 r.1 + _ = _; omega, fun d d0 d1 => ?_, ⟨List.pairwise_cons.2 ⟨lt, i3.s⟩, fun q hq => ?_⟩, by rw [List.length_cons, List.length_cons, List.length_cons]; omega, fun q hq p' r' hp' hr' => ?_⟩
    · rw [vAt_cons]
      show mn (mn p.1 r.1) d * (p.2 + r.2) + vAt (zipA n _ _) (d - mn (mn p.1 r.1) d) = _
      rcases Int.le_total (mn p.1 r.1) d with hd | hd
      · rw [mn_of_le hd, i2 _ (by omega) (by omega), short_vAt hm.1 hd, short_vAt (p := r) (ps := b) hm.2.1 hd, Int.mul_add]; omega
      · rw [mn_of_ge hd, Int.sub_self, vAt_zero _ i3.nn, vAt_cons, vAt_cons, mn_of_ge (a := p.1) (b := d) (by omega), mn_of_ge (a := r.1) (b := d) (by omega), Int.sub_self, vAt_zero a ha.tail.nn, vAt_zero b hb.tail.nn, Int.mul_add]; omega
    · rcases List.mem_cons.1 hq with rfl | hq
      · show 0 < mn p.1 r.1; omega
      · exact i3.p q hq
    · simp only [List.head?_cons, Option.some.injEq] at hp' hr'
      subst hp' hr'
      rcases List.mem_cons.1 hq with rfl | hq
      · exact Int.le_refl _
      · have := lt q hq; omega
theorem shorter_ev (p : Pc) (ps : List Pc) (hl : ps.length ≤ 1000) (m : Int) (h0 : -1000000000 ≤ p.1 - m) (h1 : p.1 - m ≤ 1000000000) : Ev (fun k => convexpl_shorter.f k (p :: ps) m) (short (p :: ps) m) := by
  have hlen : ((p :: ps).length : Int) = (ps.length : Int) + 1 := by rw [List.length_cons]; omega
  have r0 : rY0 (p :: ps) 0 = p := rfl
  have hset : (p :: ps).set (Int.toNat 0) (p.1 - m, p.2) = (p.1 - m, p.2) :: ps := rfl
  have r1 : rY0 ((p.1 - m, p.2) :: ps) 0 = (p.1 - m, p.2) := rfl
  have hlen2 : (((p.1 - m, p.2) :: ps).length : Int) = (ps.length : Int) + 1 := by rw [List.length_cons]; omega
  unfold convexpl_shorter.f
  refine Ev.bind (clonep_ev (p :: ps) (by rw [List.length_cons]; omega)) ?_
  rw [r0, w64 (x := p.1 - m) (by omega) (by omega), hset, r1, hlen, hlen2]
  refine Ev.pos (by omega) (Ev.pos (by omega) (Ev.pos (by omega) (Ev.pos (by omega) (Ev.pos (by omega) (Ev.pos (by omega) ?_)))))
  rw [short_cons]
  refine Ev.ite (fun hz => ?_) (fun hz => ?_)
  · have hz : p.1 - m = 0 := hz
    rw [if_pos hz]
    refine Ev.pos (by omega) (Ev.pos (by omega) ?_)
    have e : (((p.1 - m, p.2) :: ps).drop (Int.toNat 1)).take (Int.toNat ((ps.length : Int) + 1) - Int.toNat 1) = ps := by
      rw [show Int.toNat 1 = 1 from rfl, List.drop_succ_cons, List.drop_zero, show Int.toNat ((ps.length : Int) + 1) - 1 = ps.length by omega, List.take_length]
    rw [e]
    exact Ev.now _
  · have hz : ¬ p.1 - m = 0 := hz
    rw [if_neg hz]
    exact Ev.now _
def added (f g : Cv) : Cv := (mx f.1 g.1, V f (mx f.1 g.1) + V g (mx f.1 g.1), zipA ((cutP f.1 (mx f.1 g.1) (mn (hi f) (hi g)) f.2.2).length + (cutP g.1 (mx f.1 g.1) (mn (hi f) (hi g)) g.2.2).length) (cutP f.1 (mx f.1 g.1) (mn (hi f) (hi g)) f.2.2) (cutP g.1 (mx f.1 g.1) (mn (hi f) (hi g)) g.2.2))
structure AddP (f g s : Cv) : Prop where
  lo : s.1 = mx f.1 g.1
  hi : hi s = mn (hi f) (hi g)
  val : ∀ x, mx f.1 g.1 ≤ x → x ≤ mn (VE.hi f) (VE.hi g) → V s x = V f x + V g x
theorem add_loop (f g : Cv) (hF : Valid f) (hG : Valid g) (hc : mx f.1 g.1 ≤ mn (hi f) (hi g)) (b c : Int) : ∀ (n : Nat) (x y out : List Pc), x.length + y.length ≤ n → n ≤ 1000 → out.length + n ≤ 1000 → SP x → SP y → total x = total y → (∀ p ∈ x, p.1 ≤ 2000000 ∧ (-10000000 ≤ p.2 ∧ p.2 ≤ 10000000)) → (∀ p ∈ y, p.1 ≤ 2000000 ∧ (-10000000 ≤ p.2 ∧ p.2 ≤ 10000000)) → out ++ zipA n x y = (added f g).2.2 → (∀ p ∈ (added f g).2.2, 0 ≤ p.1 ∧ p.1 ≤ 2000000) → SP (added f g).2.2 → EvP (fun k => convexpl_Add.l9 k (mx f.1 g.1) x y f.1 f.2.1 f.2.2 g.1 g.2.1 g.2.2 b c out) (fun r => (Valid (added f g) ∧ r = (added f g, 0)) ∨ (¬ Valid (added f g) ∧ r = ((0, 0, []), 2))) := by
  have m1 := mx_ge f.1 g.1
  have m2 := mn_le (hi f) (hi g)
  have vF := hF.V_rng (x := mx f.1 g.1) (by omega) (by omega)
  have vG := hG.V_rng (x := mx f.1 g.1) (by omega) (by omega)
  intro n
  induction n with
  | zero =>
    intro x y out h1 h2 h3 hx hy ht px py hk hp hsp
    have ex : x = [] := List.eq_nil_of_length_eq_zero (by omega)
    subst ex
    have hk : out ++ [] = (added f g).2.2 := hk
    rw [List.append_nil] at hk
    subst hk
    refine EvP.step (fun k => convexpl_Add.l9_eq k _ _ _ _ _ _ _ _ _ _ _ _) (EvP.neg (by rw [List.length_nil]; omega) (EvP.bindE (value_ev hF (by omega) (by omega)) (EvP.bindE (value_ev hG (by omega) (by omega)) ?_)))
    rw [w64 (x := V f _ + V g _) (by omega) (by omega)]
    refine EvP.bind (made_ev _ _ (added f g).2.2 (by omega) (fun p hp' => by have := hp p hp'; omega)) (fun r hr => ?_)
    cases hr with
    | ok s hv =>
      rw [nrm_id hsp] at hv ⊢
      exact EvP.ret (Or.inl ⟨hv, rfl⟩)
    | bad s hv =>
      rw [nrm_id hsp] at hv
      exact EvP.ret (Or.inr ⟨hv, rfl⟩)
  | succ n ih =>
    intro x y out h1 h2 h3 hx hy ht px py hk hp hsp
    have fin : x = [] ∨ y = [] → out = (added f g).2.2 := fun h => by
      have : zipA (n + 1) x y = [] := by
        rcases h with h | h
        · subst h; rfl
        · subst h; cases x <;> rfl
      rw [this, List.append_nil] at hk
      exact hk
    have last : out = (added f g).2.2 → EvP (fun k => (convexpl_value.f k (f.1, f.2.1, f.2.2) (mx f.1 g.1)).bind fun r8 => (convexpl_value.f k (g.1, g.2.1, g.2.2) (mx f.1 g.1)).bind fun r9 => (convexpl_made.f k (mx f.1 g.1) (wrap64 (r8 + r9)) out).bind fun r10 => some (r10.1, r10.2.1)) (fun r => (Valid (added f g) ∧ r = (added f g, 0)) ∨ (¬ Valid (added f g) ∧ r = ((0, 0, []), 2))) := by
      intro e
      subst e
      refine EvP.bindE (value_ev hF (by omega) (by omega)) (EvP.bindE (value_ev hG (by omega) (by omega)) ?_)
      rw [w64 (x := V f _ + V g _) (by omega) (by omega)]
      refine EvP.bind (made_ev _ _ (added f g).2.2 (by omega) (fun p hp' => by have := hp p hp'; omega)) (fun r hr => ?_)
      cases hr with
      | ok s hv =>
        rw [nrm_id hsp] at hv ⊢
        exact EvP.ret (Or.inl ⟨hv, rfl⟩)
      | bad s hv =>
        rw [nrm_id hsp] at hv
        exact EvP.ret (Or.inr ⟨hv, rfl⟩)
    cases x with
    | nil => exact EvP.step (fun k => convexpl_Add.l9_eq k _ _ _ _ _ _ _ _ _ _ _ _) (EvP.neg (by rw [List.length_nil]; omega) (last (fin (Or.inl rfl))))
    | cons p x =>
      cases y with
      | nil => exact EvP.step (fun k => convexpl_Add.l9_eq k _ _ _ _ _ _ _ _ _ _ _ _) (EvP.pos (by rw [List.length_cons]; omega) (EvP.neg (by rw [List.length_nil]; omega) (last (fin (Or.inr rfl)))))
      | cons q y =>
        have lx : (0 : Int) < ((p :: x).length : Int) := by rw [List.length_cons]; omega
        have ly : (0 : Int) < ((q :: y).length : Int) := by rw [List.length_cons]; omega
        have rx : rY0 (p :: x) 0 = p := rfl
        have ry : rY0 (q :: y) 0 = q := rfl
        have hm := mn_le p.1 q.1
        have p0 := hx.p p (by simp)
        have q0 := hy.p q (by simp)
        have pp := px p (by simp)
        have qq := py q (by simp)
        rw [List.length_cons, List.length_cons] at h1
        refine EvP.step (fun k => convexpl_Add.l9_eq k _ _ _ _ _ _ _ _ _ _ _ _) (EvP.pos lx (EvP.pos ly (EvP.pos (by omega) (EvP.pos lx (EvP.pos (by omega) (EvP.pos ly (EvP.pos (by omega) (EvP.pos lx (EvP.pos (by omega) (EvP.pos ly (EvP.pos (by rw [List.length_singleton]; omega) ?_)))))))))))
        rw [rx, ry, w64 (x := p.2 + q.2) (by omega) (by omega)]
        refine EvP.bindE (shorter_ev p x (by omega) _ (by omega) (by omega)) (EvP.bindE (shorter_ev q y (by omega) _ (by omega) (by omega)) ?_)
        have la := short_len p x (mn p.1 q.1)
        have lb := short_len q y (mn p.1 q.1)
        have hlen : (short (p :: x) (mn p.1 q.1)).length + (short (q :: y) (mn p.1 q.1)).length ≤ x.length + y.length + 1 := by
          rcases hm.2.2 with e | e
          · have := la.2 e.symm; omega
          · have := lb.2 e.symm; omega
        refine ih _ _ _ (by omega) (by omega) (by rw [List.length_append, List.length_singleton]; omega) (short_SP hx hm.1) (short_SP hy hm.2.1) (by rw [short_total, short_total, ht]) (fun r hr => ?_) (fun r hr => ?_) (by rw [List.append_assoc]; exact hk) hp hsp
        · obtain ⟨z, hz, e1, e2⟩ := short_mem (by omega) hr
          have := px z hz
          rw [e1]; omega
        · obtain ⟨z, hz, e1, e2⟩ := short_mem (by omega) hr
          have := py z hz
          rw [e1]; omega
theorem add_ev {f g : Cv} (hF : Valid f) (hG : Valid g) : EvP (fun k => convexpl_Add.f k f g) (fun r => (mn (hi f) (hi g) < mx f.1 g.1 ∧ r = ((0, 0, []), 8)) ∨ (mx f.1 g.1 ≤ mn (hi f) (hi g) ∧ AddP f g (added f g) ∧ SP (added f g).2.2 ∧ (∀ q ∈ (added f g).2.2, ∃ x ∈ f.2.2, ∃ y ∈ g.2.2, q.2 = x.2 + y.2 ∧ q.1 ≤ x.1 ∧ q.1 ≤ y.1) ∧ ((Valid (added f g) ∧ r = (added f g, 0)) ∨ (¬ Valid (added f g) ∧ r = ((0, 0, []), 2))))) := by
  have m1 := mx_ge f.1 g.1
  have m2 := mn_le (hi f) (hi g)
  unfold convexpl_Add.f convexpl_both.f
  refine EvP.bindE (a := 0) (Ev.bind (ccheck_yes hF) (Ev.pos rfl (Ev.bind (ccheck_yes hG) (Ev.now _)))) (EvP.pos rfl (EvP.bindE (high_ev hF) (EvP.bindE (high_ev hG) ?_)))
  refine EvP.ite (fun hc => EvP.ret (Or.inl ⟨hc, rfl⟩)) (fun hc => ?_)
  have hc : mx f.1 g.1 ≤ mn (hi f) (hi g) := by omega
  refine EvP.bindE (cut_ev hF (by omega) hc (by omega)) (EvP.bindE (cut_ev hG (by omega) hc (by omega)) ?_)
  have sf := cutP_SP _ f.1 (mx f.1 g.1) (mn (hi f) (hi g)) hF.ok.sp
  have sg := cutP_SP _ g.1 (mx f.1 g.1) (mn (hi f) (hi g)) hG.ok.sp
  obtain ⟨pf1, pf2, pf3⟩ := part_valid hF (lo := mx f.1 g.1) (en := mn (hi f) (hi g)) (by omega) hc (by omega)
  obtain ⟨pg1, pg2, pg3⟩ := part_valid hG (lo := mx f.1 g.1) (en := mn (hi f) (hi g)) (by omega) hc (by omega)
  have tf : total (cutP f.1 (mx f.1 g.1) (mn (hi f) (hi g)) f.2.2) = mn (hi f) (hi g) - mx f.1 g.1 := by
    have : mx f.1 g.1 + total (cutP f.1 (mx f.1 g.1) (mn (hi f) (hi g)) f.2.2) = mn (hi f) (hi g) := pf2
    omega
  have tg : total (cutP g.1 (mx f.1 g.1) (mn (hi f) (hi g)) g.2.2) = mn (hi f) (hi g) - mx f.1 g.1 := by
    have : mx f.1 g.1 + total (cutP g.1 (mx f.1 g.1) (mn (hi f) (hi g)) g.2.2) = mn (hi f) (hi g) := pg2
    omega
  obtain ⟨z1, z2, z3, z4, _⟩ := zipA_facts ((cutP f.1 (mx f.1 g.1) (mn (hi f) (hi g)) f.2.2).length + (cutP g.1 (mx f.1 g.1) (mn (hi f) (hi g)) g.2.2).length) (cutP f.1 (mx f.1 g.1) (mn (hi f) (hi g)) f.2.2) (cutP g.1 (mx f.1 g.1) (mn (hi f) (hi g)) g.2.2) (Nat.le_refl _) sf sg (by rw [tf, tg])
  have hmem : ∀ q ∈ (added f g).2.2, ∃ x ∈ f.2.2, ∃ y ∈ g.2.2, q.2 = x.2 + y.2 ∧ q.1 ≤ x.1 ∧ q.1 ≤ y.1 := fun q hq => by
    obtain ⟨x, hx, y, hy, e1, e2, e3, _⟩ := zipA_mem _ _ _ q sf sg hq
    obtain ⟨x', hx', f1, f2, _⟩ := cutP_mem _ _ _ _ x hx
    obtain ⟨y', hy', g1, g2, _⟩ := cutP_mem _ _ _ _ y hy
    exact ⟨x', hx', y', hy', by omega, by omega, by omega⟩
  have cl1 := cutP_len f.2.2 f.1 (mx f.1 g.1) (mn (hi f) (hi g))
  have cl2 := cutP_len g.2.2 g.1 (mx f.1 g.1) (mn (hi f) (hi g))
  have hlF := hF.1
  have hlG := hG.1
  refine (add_loop f g hF hG hc 0 0 _ _ _ [] (Nat.le_refl _) (by omega) (by rw [List.length_nil]; omega) sf sg (by rw [tf, tg]) (fun p hp => ?_) (fun p hp => ?_) rfl (fun p hp => ?_) z3).mono (fun r hr => Or.inr ⟨hc, ⟨rfl, ?_, fun x x0 x1 => ?_⟩, z3, hmem, hr⟩)
  · obtain ⟨x', hx', f1, f2, _⟩ := cutP_mem _ _ _ _ p hp
    have := hF.ok.long x' hx'
    have := hF.ok.slope x' hx'
    rw [f1]; omega
  · obtain ⟨x', hx', f1, f2, _⟩ := cutP_mem _ _ _ _ p hp
    have := hG.ok.long x' hx'
    have := hG.ok.slope x' hx'
    rw [f1]; omega
  · obtain ⟨x, hx, y, hy, _, h1, _⟩ := hmem p hp
    have := hF.ok.long x hx
    have := z3.p p hp
    omega
  · show mx f.1 g.1 + total (added f g).2.2 = _
    have : total (added f g).2.2 = total (cutP f.1 (mx f.1 g.1) (mn (hi f) (hi g)) f.2.2) := z1
    rw [this, tf]; omega
  · have e := z2 (x - mx f.1 g.1) (by omega) (by rw [tf]; omega)
    have e1 := pf3 x x0 x1
    have e2 := pg3 x x0 x1
    have e1 : V f (mx f.1 g.1) + vAt (cutP f.1 (mx f.1 g.1) (mn (hi f) (hi g)) f.2.2) (x - mx f.1 g.1) = V f x := e1
    have e2 : V g (mx f.1 g.1) + vAt (cutP g.1 (mx f.1 g.1) (mn (hi f) (hi g)) g.2.2) (x - mx f.1 g.1) = V g x := e2
    show V f (mx f.1 g.1) + V g (mx f.1 g.1) + vAt (added f g).2.2 (x - mx f.1 g.1) = V f x + V g x
    have e : vAt (added f g).2.2 (x - mx f.1 g.1) = _ := e
    rw [e]; omega
end Go.Proofs.Ytcmbckancficcaa.VE
