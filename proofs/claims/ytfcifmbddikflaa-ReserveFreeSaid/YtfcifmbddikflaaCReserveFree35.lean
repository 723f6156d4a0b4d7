/- Texts of the claim, put together: LReserve4, LReserve5, LServed, PureReserveFree. -/
import Derived.Test.YtfcifmbddikflaaCReserveFree34
import Derived.Test.YtfcifmbddikflaaCReserveFree24
import Derived.Test.YtfcifmbddikflaaCReserveFree30
import Derived.Test.YtfcifmbddikflaaCReserveFree32
import Derived.Test.YtfcifmbddikflaaCReserveFree31
import Derived.Test.YtfcifmbddikflaaCReserveFree18
import Derived.Test.YtfcifmbddikflaaCReserveFree19
import Derived.Test.YtfcifmbddikflaaCReserveFree22
namespace Go.Proofs.Ytfcifmbddikflaa.P
set_option linter.unusedVariables false
set_option linter.unusedSimpArgs false
open Go.RowKit Go.Proofs.YtfcifmbddikflaaW.PrintWords Go.Proofs.YtfcifmbddikflaaW.PrintMore Go.Proofs.Ytfcifmbddikflaa.Opn Go.Proofs.Ytfcifmbddikflaa.Evp
def sumC (u : Int) (c : Int → Bool) : List Part → Int
  | [] => 0
  | p :: r => (if p.f0 = u ∧ c p.f2 = true then p.f1 else 0) + sumC u c r
def stO (c : Int → Bool) : List OStep → Int
  | [] => 0
  | s :: r => (if c s.f1 = true then s.f0 else 0) + stO c r
theorem sumC_append (u : Int) (c : Int → Bool) : ∀ (a b : List Part), sumC u c (a ++ b) = sumC u c a + sumC u c b
  | [], b => by simp [sumC]
  | p :: a, b => by simp only [List.cons_append, sumC, sumC_append u c a b]; omega
theorem sumC_perm (u : Int) (c : Int → Bool) {a b : List Part} (h : a.Perm b) : sumC u c a = sumC u c b := by
  induction h with
  | nil => rfl
  | cons x _ ih => simp only [sumC, ih]
  | swap x y l => simp only [sumC]; omega
  | trans _ _ h1 h2 => rw [h1, h2]
theorem lowO_st (p : Int) : ∀ st : List OStep, lowO st p = stO (fun q => decide (q < p)) st
  | [] => rfl
  | s :: r => by simp only [lowO, stO, lowO_st p r, decide_eq_true_eq]
theorem highO_st (p : Int) : ∀ st : List OStep, highO st p = stO (fun q => decide (q ≤ p)) st
  | [] => rfl
  | s :: r => by simp only [highO, stO, highO_st p r, decide_eq_true_eq]
theorem sumO_st : ∀ st : List OStep, sumO st = stO (fun _ => true) st
  | [] => rfl
  | s :: r => by simp only [sumO, stO, sumO_st r, if_true]
theorem step_sumC (i u : Int) (c : Int → Bool) : ∀ (st : List OStep) (knee : Int), 0 ≤ knee → RangeO st → sumC u c (stepB i knee st) + sumC u c (stepA i knee st) = if i = u then stO c st else 0
  | [], knee, _, _ => by simp [stepB, stepA, sumC, stO]
  | s :: r, knee, hk, hr => by
    have hs := hr s List.mem_cons_self
    have hm := mn_le knee s.f0
    have ih := step_sumC i u c r (knee - mn knee s.f0) (by omega) hr.tail
    simp only [stepB, stepA, sumC_append, stO]
    by_cases e : i = u
    · simp only [if_pos e] at ih ⊢
      by_cases hc : c s.f1 = true
      · rw [if_pos hc]; have q1 : sumC u c (if mn knee s.f0 > 0 then [⟨i, mn knee s.f0, s.f1⟩] else []) = if mn knee s.f0 > 0 then mn knee s.f0 else 0 := by
          split
          · simp only [sumC, if_pos (show i = u ∧ c s.f1 = true from ⟨e, hc⟩)]; omega
          ·rfl
        have q2 : sumC u c (if mn knee s.f0 < s.f0 then [⟨i, s.f0 - mn knee s.f0, s.f1⟩] else []) = if mn knee s.f0 < s.f0 then s.f0 - mn knee s.f0 else 0 := by
          split
          · simp only [sumC, if_pos (show i = u ∧ c s.f1 = true from ⟨e, hc⟩)]; omega
          ·rfl
        rw [q1, q2]; split <;> split <;> omega
      · rw [if_neg hc]; have q1 : sumC u c (if mn knee s.f0 > 0 then [⟨i, mn knee s.f0, s.f1⟩] else []) = 0 := by
          split
          · simp only [sumC, if_neg (show ¬ (i = u ∧ c s.f1 = true) from fun h => hc h.2)]; omega
          ·rfl
        have q2 : sumC u c (if mn knee s.f0 < s.f0 then [⟨i, s.f0 - mn knee s.f0, s.f1⟩] else []) = 0 := by
          split
          · simp only [sumC, if_neg (show ¬ (i = u ∧ c s.f1 = true) from fun h => hc h.2)]; omega
          ·rfl
        rw [q1, q2]; omega
    · simp only [if_neg e] at ih ⊢
      have q1 : sumC u c (if mn knee s.f0 > 0 then [⟨i, mn knee s.f0, s.f1⟩] else []) = 0 := by
        split
        · simp only [sumC, if_neg (show ¬ (i = u ∧ c s.f1 = true) from fun h => e h.1)]; omega
        ·rfl
      have q2 : sumC u c (if mn knee s.f0 < s.f0 then [⟨i, s.f0 - mn knee s.f0, s.f1⟩] else []) = 0 := by
        split
        · simp only [sumC, if_neg (show ¬ (i = u ∧ c s.f1 = true) from fun h => e h.1)]; omega
        ·rfl
      rw [q1, q2]; omega
theorem unit_sumC (c : Int → Bool) (u : Int) : ∀ (l : List RU) (i : Int), (∀ v ∈ l, RangeO v.f0.f1 ∧ 0 ≤ roomU v ∧ roomU v ≤ sumO v.f0.f1) → sumC u c (unitB i l) + sumC u c (unitA i l) = if i ≤ u ∧ u < i + l.length then stO c (l.getD (u - i).toNat z32).f0.f1 else 0
  | [], i, _ => by
    rw [if_neg (by simp)]; simp [unitA, unitB, sumC]
  | v :: r, i, h => by
    have ih := unit_sumC c u r (i + 1) (fun w hw => h w (List.mem_cons_of_mem _ hw))
    have hv := h v List.mem_cons_self
    have hs := step_sumC i u c v.f0.f1 (sumO v.f0.f1 - roomU v) (by omega) hv.1
    simp only [unitA, unitB, sumC_append, List.length_cons]
    by_cases e : i = u
    · rw [if_pos e] at hs; rw [if_neg (by omega)] at ih; rw [if_pos (by omega)]; rw [show (u - i).toNat = 0 by omega]; simp only [List.getD_cons_zero]
      omega
    · rw [if_neg e] at hs; by_cases hin : i + 1 ≤ u ∧ u < i + 1 + r.length
      · rw [if_pos hin] at ih; rw [if_pos (by omega), show (u - i).toNat = (u - (i + 1)).toNat + 1 by omega]; simp only [List.getD_cons_succ]
        omega
      · rw [if_neg hin] at ih; rw [if_neg (by omega)]; omega
def partB (l : List RU) : List Part := Srt.ssort ltP (unitB 0 l)
def partA (l : List RU) : List Part := Srt.ssort ltP (unitA 0 l)
theorem Fit.steps {l : List RU} (h : Fit l) : ∀ u ∈ l, u.f0.f1.length ≤ 12 := fun u hu => (h.valid hu).1
theorem Fit.B {l : List RU} (h : Fit l) : Parts l.length (partB l) := Parts.sort (by have := unitB_length h.steps 0; have := h.len; omega) (unit_ok _ l 0 (by omega) (by omega) h.units).1
theorem Fit.A {l : List RU} (h : Fit l) : Parts l.length (partA l) := Parts.sort (by have := unitA_length h.steps 0; have := h.len; omega) (unit_ok _ l 0 (by omega) (by omega) h.units).2
theorem Fit.sumA {l : List RU} (h : Fit l) : sumP (partA l) = roomA l ∧ sumP (partB l) + sumP (partA l) = sumA (offersOf l) := by
  unfold partA partB
  rw [sumP_perm (Srt.qbM ltP_swo _), sumP_perm (Srt.qbM ltP_swo _)]; exact unit_sums l 0 h.units
theorem Fit.sumC {l : List RU} (h : Fit l) (c : Int → Bool) (u : Nat) (hu : u < l.length) : sumC u c (partB l) + sumC u c (partA l) = stO c (l.getD u z32).f0.f1 := by
  unfold partA partB
  rw [sumC_perm _ _ (Srt.qbM ltP_swo _), sumC_perm _ _ (Srt.qbM ltP_swo _), unit_sumC c u l 0 h.units, if_pos (by omega)]; congr 4
theorem sumU_le (u : Int) (c : Int → Bool) : ∀ (L : List Part) (v : List Int), v.length = L.length → (∀ j, j < L.length → 0 ≤ gI v j ∧ gI v j ≤ (gP L j).f1 ∧ (c (gP L j).f2 = false → gI v j = 0)) → sumU u L v ≤ sumC u c L
  | [], v, _, _ => by simp [sumU, sumC]
  | p :: L, x :: v, hl, h => by
    have h0 := h 0 (by simp)
    have ih := sumU_le u c L v (by simpa using hl) (fun j hj => by have := h (j + 1) (by simpa using hj); simpa [gI, gP] using this)
    simp only [gI, gP, List.getD_cons_zero] at h0
    simp only [sumU, sumC]
    cases hc : c p.f2 with
    | true => simp only [and_true]; split <;> omega
    | false =>
      have := h0.2.2 hc
      simp only [Bool.false_eq_true, and_false, if_false]
      split <;> omega
  | _ :: _, [], hl, _ => by simp at hl
theorem sumU_ge (u : Int) (c : Int → Bool) : ∀ (L : List Part) (v : List Int), v.length = L.length → (∀ j, j < L.length → 0 ≤ gI v j ∧ gI v j ≤ (gP L j).f1 ∧ (c (gP L j).f2 = true → gI v j = (gP L j).f1)) → sumC u c L ≤ sumU u L v
  | [], v, _, _ => by simp [sumU, sumC]
  | p :: L, x :: v, hl, h => by
    have h0 := h 0 (by simp)
    have ih := sumU_ge u c L v (by simpa using hl) (fun j hj => by have := h (j + 1) (by simpa using hj); simpa [gI, gP] using this)
    simp only [gI, gP, List.getD_cons_zero] at h0
    simp only [sumU, sumC]
    cases hc : c p.f2 with
    | true => 
      have := h0.2.2 hc
      simp only [and_true]; split <;> omega
    | false =>
      simp only [Bool.false_eq_true, and_false, if_false]
      split <;> omega
  | _ :: _, [], hl, _ => by simp at hl
theorem all_full : ∀ (L : List Part) (v : List Int), v.length = L.length → (∀ j, j < L.length → gI v j ≤ (gP L j).f1) → sumI v ≤ sumP L ∧ (sumI v = sumP L → ∀ j, j < L.length → gI v j = (gP L j).f1)
  | [], [], _, _ => ⟨by simp [sumI, sumP], fun _ j hj => by simp at hj⟩
  | p :: L, x :: v, hl, h => by
    have h0 := h 0 (by simp)
    have ih := all_full L v (by simpa using hl) (fun j hj => by have := h (j + 1) (by simpa using hj); simpa [gI, gP] using this)
    simp only [gI, gP, List.getD_cons_zero] at h0
    simp only [sumI, sumP]
    refine ⟨by omega, fun he j hj => ?_⟩
    cases j with
    | zero => simp only [gI, gP, List.getD_cons_zero]; omega
    | succ j =>
      have := ih.2 (by omega) j (by simpa using hj)
      simpa [gI, gP] using this
  | [], _ :: _, hl, _ => by simp at hl
  | _ :: _, [], hl, _ => by simp at hl
def outOf (l : List RU) (b a : List Int) : List Int := addP (partA l) a (addP (partB l) b (List.replicate l.length 0))
theorem out_length (l : List RU) (b a : List Int) : (outOf l b a).length = l.length := by unfold outOf; rw [addP_length, addP_length, List.length_replicate]
theorem gI_zeros (n u : Nat) : gI (List.replicate n 0) u = 0 := by
  unfold gI
  rw [List.getD_eq_getElem?_getD, List.getElem?_replicate]; split <;> rfl
theorem out_at {l : List RU} (h : Fit l) (b a : List Int) (u : Nat) (hu : u < l.length) : gI (outOf l b a) u = sumU u (partB l) b + sumU u (partA l) a := by
  unfold outOf
  rw [addP_at (n := l.length) _ _ _ h.A.ok (by rw [addP_length, List.length_replicate]) u (by omega), addP_at (n := l.length) _ _ _ h.B.ok (by rw [List.length_replicate]) u (by omega), gI_zeros]
  omega
theorem sumI_zeros : ∀ n : Nat, sumI (List.replicate n 0) = 0
  | 0 => rfl
  | n + 1 => by simp only [List.replicate_succ, sumI, sumI_zeros n]; omega
theorem out_sum {l : List RU} (h : Fit l) {b a : List Int} (hb : b.length = (partB l).length) (ha : a.length = (partA l).length) : sumI (outOf l b a) = sumI b + sumI a := by
  unfold outOf
  rw [addP_sum (n := l.length) _ _ _ h.A.ok (by rw [addP_length, List.length_replicate]) ha.symm, addP_sum (n := l.length) _ _ _ h.B.ok (by rw [List.length_replicate]) hb.symm, sumI_zeros]
  omega
theorem inA_of : ∀ (l : List RU) (xs : List Int), xs.length = l.length → (∀ j, j < l.length → 0 ≤ gI xs j ∧ gI xs j ≤ sumO (l.getD j z32).f0.f1) → InA (offersOf l) xs
  | [], [], _, _ => trivial
  | u :: l, x :: xs, hl, h => by
    have h0 := h 0 (by simp)
    simp only [gI, List.getD_cons_zero] at h0
    exact ⟨h0.1, h0.2, inA_of l xs (by simpa using hl) (fun j hj => by have := h (j + 1) (by simpa using hj); simpa [gI] using this)⟩
  | [], _ :: _, hl, _ => by simp at hl
  | _ :: _, [], hl, _ => by simp at hl
theorem earns_of (p : Int) : ∀ (l : List RU) (xs : List Int), xs.length = l.length → (∀ j, j < l.length → lowO (l.getD j z32).f0.f1 p ≤ gI xs j ∧ gI xs j ≤ highO (l.getD j z32).f0.f1 p) → Earns p (offersOf l) xs
  | [], [], _, _ => trivial
  | u :: l, x :: xs, hl, h => by
    have h0 := h 0 (by simp)
    simp only [gI, List.getD_cons_zero] at h0
    exact ⟨h0.1, h0.2, earns_of p l xs (by simpa using hl) (fun j hj => by have := h (j + 1) (by simpa using hj); simpa [gI] using this)⟩
  | [], _ :: _, hl, _ => by simp at hl
  | _ :: _, [], hl, _ => by simp at hl
theorem out_inA {l : List RU} (h : Fit l) {b a : List Int} (hb : Use (partB l) b) (ha : Use (partA l) a) : InA (offersOf l) (outOf l b a) := by
  refine inA_of l _ (out_length l b a) (fun j hj => ?_)
  have e := h.sumC (fun _ => true) j hj
  have u1 := sumU_le j (fun _ => true) (partB l) b hb.len (fun i hi => ⟨(hb.rng i hi).1, (hb.rng i hi).2, fun hc => by cases hc⟩)
  have u2 := sumU_le j (fun _ => true) (partA l) a ha.len (fun i hi => ⟨(ha.rng i hi).1, (ha.rng i hi).2, fun hc => by cases hc⟩)
  have v1 := sumU_ge j (fun _ => false) (partB l) b hb.len (fun i hi => ⟨(hb.rng i hi).1, (hb.rng i hi).2, fun hc => by cases hc⟩)
  have v2 := sumU_ge j (fun _ => false) (partA l) a ha.len (fun i hi => ⟨(ha.rng i hi).1, (ha.rng i hi).2, fun hc => by cases hc⟩)
  have z : ∀ L : List Part, sumC j (fun _ => false) L = 0 := by
    intro L; induction L with
    | nil => rfl
    | cons p L ih => simp only [sumC, Bool.false_eq_true, and_false, if_false, ih]; omega
  rw [z] at v1 v2; rw [out_at h b a j hj, sumO_st]; omega
theorem fill_step {n : Int} {P : List Part} (hP : Parts n P) {V o : List Int} {i : Int} (h0 : 0 ≤ i) (h1 : i < (P.length : Int)) (hV : V.length = P.length) (ho : (o.length : Int) = n) (hVn : ∀ v ∈ V, 0 ≤ v) (hon : ∀ x ∈ o, 0 ≤ x) (hs : sumI o + sumI (V.drop i.toNat) ≤ 1000000000) : 0 ≤ (qaf P i).f0 ∧ (qaf P i).f0 < (o.length : Int) ∧ wrap64 (rd o (qaf P i).f0 + rd V i) = gI o (qaf P i).f0.toNat + rd V i ∧ 0 ≤ rd V i ∧ (∀ x ∈ o.set (qaf P i).f0.toNat (gI o (qaf P i).f0.toNat + rd V i), 0 ≤ x) ∧ sumI (o.set (qaf P i).f0.toNat (gI o (qaf P i).f0.toNat + rd V i)) + sumI (V.drop (i + 1).toNat) ≤ 1000000000 ∧ addP (P.drop i.toNat) (V.drop i.toNat) o = addP (P.drop (i + 1).toNat) (V.drop (i + 1).toNat) (o.set (qaf P i).f0.toNat (gI o (qaf P i).f0.toNat + rd V i)) := by
  have hp := hP.ok _ (rp_in h0 h1)
  unfold PartOk at hp
  have dV : V.drop i.toNat = rd V i :: V.drop (i + 1).toNat := drop_getD (0 : Int) h0 (by omega)
  rw [dV] at hs; simp only [sumI] at hs
  have hv : 0 ≤ rd V i := hVn _ (getD_mem (d := (0 : Int)) h0 (by omega))
  have hg : gI o (qaf P i).f0.toNat ∈ o := gI_mem (by omega)
  have h2 := sumI_le_all hon _ hg
  have h3 := hon _ hg
  have e : rd o (qaf P i).f0 = gI o (qaf P i).f0.toNat := rfl
  have h4 : 0 ≤ sumI (V.drop (i + 1).toNat) := by
    cases hd : V.drop (i + 1).toNat with
    | nil => simp [sumI]
    | cons y t => exact (sumI_le_all (v := y :: t) (fun x hx => hVn x (List.mem_of_mem_drop (hd ▸ hx))) y List.mem_cons_self).2
  refine ⟨hp.1, by omega, ?_, hv, ?_, ?_, ?_⟩
  · rw [e]; exact w64 (by omega) (by omega)
  · intro x hx; rcases List.mem_or_eq_of_mem_set hx with hx | rfl
    · exact hon x hx
    · omega
  · rw [sumI_set (by omega)]; omega
  ·rw [dropPt h0 h1, dV]; rfl
theorem best_l0 {l : List RU} (h : Fit l) (b a : List Int) (hb : Use (partB l) b) (r : List Int × Int × Int) : ∀ (d : Nat) (i : Int) (o : List Int), 0 ≤ i → i ≤ ((partB l).length : Int) → ((partB l).length : Int) - i = d → o.length = l.length → (∀ x ∈ o, 0 ≤ x) → sumI o + sumI (b.drop i.toNat) ≤ 1000000000 → Ev (fun k => qap.l1 k l a (addP ((partB l).drop i.toNat) (b.drop i.toNat) o) (partA l) ((partA l).length : Int) 0) r → Ev (fun k => qap.l0 k l (partA l) b a o (partB l) ((partB l).length : Int) i) r := by
  have hB := h.B; have hlen := hB.len; have hbl := hb.len; intro d; induction d with
  | zero =>
    intro i o h0 h1 hd hol hon hs he; refine Ev.step (fun k => by rw [qap.l0]) ?_
    rw [drop_end (by omega)] at he; have : addP [] (b.drop i.toNat) o = o := by cases (b.drop i.toNat) <;> rfl
    rw [this] at he; exact Ev.neg (by omega) he
  | succ d ih =>
    intro i o h0 h1 hd hol hon hs he; obtain ⟨q1, q2, q3, q4, q5, q6, q7⟩ := fill_step hB h0 (show i < ((partB l).length : Int) by omega) hbl (by omega) hb.nonneg hon hs
    rw [q7] at he; refine Ev.step (fun k => by rw [qap.l0]) ?_
    refine Ev.pos (by omega) (Ev.pos h0 (Ev.pos (by omega) (Ev.pos q1 (Ev.pos q2 (Ev.pos (by omega) ?_)))))
    rw [q3, w64 (x := i + 1) (by omega) (by omega)]; exact ih (i + 1) _ (by omega) (by omega) (by omega) (by rw [List.length_set]; exact hol) q5 q6 he
theorem best_l1 {l : List RU} (h : Fit l) (a : List Int) (ha : Use (partA l) a) (r : List Int × Int × Int) : ∀ (d : Nat) (i : Int) (o : List Int), 0 ≤ i → i ≤ ((partA l).length : Int) → ((partA l).length : Int) - i = d → o.length = l.length → (∀ x ∈ o, 0 ≤ x) → sumI o + sumI (a.drop i.toNat) ≤ 1000000000 → Ev (fun k => qap.l2 k (addP ((partA l).drop i.toNat) (a.drop i.toNat) o) 0 l (l.length : Int) 0) r → Ev (fun k => qap.l1 k l a o (partA l) ((partA l).length : Int) i) r := by
  have hA := h.A; have hlen := hA.len; have hal := ha.len; intro d; induction d with
  | zero =>
    intro i o h0 h1 hd hol hon hs he; refine Ev.step (fun k => by rw [qap.l1]) ?_
    rw [drop_end (by omega)] at he; have : addP [] (a.drop i.toNat) o = o := by cases (a.drop i.toNat) <;> rfl
    rw [this] at he; exact Ev.neg (by omega) he
  | succ d ih =>
    intro i o h0 h1 hd hol hon hs he; obtain ⟨q1, q2, q3, q4, q5, q6, q7⟩ := fill_step hA h0 (show i < ((partA l).length : Int) by omega) hal (by omega) ha.nonneg hon hs
    rw [q7] at he; refine Ev.step (fun k => by rw [qap.l1]) ?_
    refine Ev.pos (by omega) (Ev.pos h0 (Ev.pos (by omega) (Ev.pos q1 (Ev.pos q2 (Ev.pos (by omega) ?_)))))
    rw [q3, w64 (x := i + 1) (by omega) (by omega)]; exact ih (i + 1) _ (by omega) (by omega) (by omega) (by rw [List.length_set]; exact hol) q5 q6 he
theorem best_l2 {l : List RU} (h : Fit l) (o : List Int) (hol : o.length = l.length) : ∀ (d : Nat) (i acc : Int), 0 ≤ i → i ≤ (l.length : Int) → (l.length : Int) - i = d → InA (offersOf (l.drop i.toNat)) (o.drop i.toNat) → -(100000000000 * i) ≤ acc → acc ≤ 100000000000 * i → Ev (fun k => qap.l2 k o acc l (l.length : Int) i) (o, acc + costA (offersOf (l.drop i.toNat)) (o.drop i.toNat), 0) := by
  have hlen := h.len; intro d; induction d with
  | zero =>
    intro i acc h0 h1 hd hin ha hb; refine Ev.step (fun k => by rw [qap.l2]) ?_
    rw [drop_end (by omega)]; have e : costA (offersOf ([] : List RU)) (o.drop i.toNat) = 0 := by cases (o.drop i.toNat) <;> rfl
    rw [e, Int.add_zero]; exact Ev.neg (by omega) (Ev.now _)
  | succ d ih =>
    intro i acc h0 h1 hd hin ha hb; have hu := rd_in h0 (show i < (l.length : Int) by omega)
    have hv := h.valid hu
    have hck := (h.ok.2 _ (List.mem_map_of_mem (f := fun u => u.f0) hu)).ev
    have dO : o.drop i.toNat = rd o i :: o.drop (i + 1).toNat := drop_getD (0 : Int) h0 (by omega)
    rw [dropU h0 (by omega), dO] at hin ⊢
    have hin1 : 0 ≤ rd o i := hin.1
    have hin2 : rd o i ≤ sumO (qal l i).f0.f1 := hin.2.1
    have hcb := costO_bound (p := rd o i) hv.range hin1
    have hsum := hv.sum; refine Ev.step (fun k => by rw [qap.l2]) ?_
    refine Ev.pos (by omega) (Ev.pos h0 (Ev.pos (by omega) (Ev.pos (by omega) (Ev.bind (offer_Cost_in hck hv hin1 hin2) ?_))))
    have w1 : wrap64 (acc + costO (qal l i).f0.f1 (rd o i)) = acc + costO (qal l i).f0.f1 (rd o i) := w64 (by omega) (by omega)
    have w2 : wrap64 (i + 1) = i + 1 := w64 (by omega) (by omega)
    simp only [w1, w2]
    have := ih (i + 1) (acc + costO (qal l i).f0.f1 (rd o i)) (by omega) (by omega) (by omega) hin.2.2 (by omega) (by omega)
    rw [show acc + costA (offersOf (qal l i :: l.drop (i + 1).toNat)) (rd o i :: o.drop (i + 1).toNat) = acc + costO (qal l i).f0.f1 (rd o i) + costA (offersOf (l.drop (i + 1).toNat)) (o.drop (i + 1).toNat) by rw [Int.add_assoc]; rfl]
    exact this
theorem best_out {l : List RU} (h : Fit l) {b a : List Int} (hb : Use (partB l) b) (ha : Use (partA l) a) (hs : sumI b + sumI a ≤ 1000000000) : Ev (fun k => qap.l0 k l (partA l) b a (List.replicate l.length 0) (partB l) ((partB l).length : Int) 0) (outOf l b a, costA (offersOf l) (outOf l b a), 0) := by
  have hin := out_inA h hb ha
  have e2 := best_l2 h (outOf l b a) (out_length l b a) l.length 0 0 (by omega) (by omega) (by omega) (by simpa using hin) (by omega) (by omega)
  simp only [Int.toNat_zero, List.drop_zero, Int.zero_add] at e2
  have hz : ∀ x ∈ List.replicate l.length (0 : Int), 0 ≤ x := fun x hx => by rw [List.eq_of_mem_replicate hx]; omega
  have l1 : ((List.replicate l.length (0 : Int)).length : Int) = l.length := by simp
  have s1 := addP_sum (n := l.length) (partB l) b (List.replicate l.length 0) h.B.ok l1 hb.len.symm
  rw [sumI_zeros] at s1; have ha0 : 0 ≤ sumI a := by
    cases hd : a with
    | nil => simp [sumI]
    | cons y t => exact (sumI_le_all (v := y :: t) (fun x hx => ha.nonneg x (hd ▸ hx)) y List.mem_cons_self).2
  refine best_l0 h b a hb _ _ 0 _ (by omega) (by omega) rfl (by simp) hz ?_ ?_
  · simp only [Int.toNat_zero, List.drop_zero, sumI_zeros]; omega
  · simp only [Int.toNat_zero, List.drop_zero]
    refine best_l1 h a ha _ _ 0 _ (by omega) (by omega) rfl (by rw [addP_length]; simp) (addP_nonneg (n := l.length) _ _ _ h.B.ok l1 hb.nonneg hz) ?_ ?_
    · simp only [Int.toNat_zero, List.drop_zero]; omega
    · simp only [Int.toNat_zero, List.drop_zero]
      exact e2
def lostR (l : List RU) (demand : Int) : Int := mx 0 (demand - sumP (partB l))
theorem rbest_in {l : List RU} (h : Fit l) {demand need : Int} (h0 : 0 ≤ demand) (h1 : demand ≤ 1000000) (h2 : 0 ≤ need) (h3 : need ≤ 1000000) :
    ((need > roomA l ∨ lostR l demand > roomA l - need) ∧ Ev (fun k => qap.f k l demand need) ([], 0, 8)) ∨
    (¬ (need > roomA l ∨ lostR l demand > roomA l - need) ∧ EvP (fun k => qap.f k l demand need) (fun r => ∃ b a, Ended (partB l) (partA l) demand (roomA l - need) b a ∧ r = (outOf l b a, costA (offersOf l) (outOf l b a), 0))) := by
  have hB := h.B; have hA := h.A; have hsum := h.sumA; have nB := sumP_nonneg hB.ok
  have nA := sumP_nonneg hA.ok
  have lB := hB.len; have lA := hA.len; have hlen := h.len; obtain ⟨tb1, tb2, tb3⟩ := takeP_use (n := l.length) (partB l) (demand - lostR l demand) hB.ok (by unfold lostR; have := mx_ge 0 (demand - sumP (partB l)); omega)
  obtain ⟨ta1, ta2, ta3⟩ := takeP_use (n := l.length) (partA l) (lostR l demand) hA.ok (by unfold lostR; have := mx_ge 0 (demand - sumP (partB l)); omega)
  have hm := mx_ge 0 (demand - sumP (partB l))
  have hlost : lostR l demand = mx 0 (demand - sumP (partB l)) := rfl
  have m1 := mn_le (demand - lostR l demand) (sumP (partB l))
  have m2 := mn_le (lostR l demand) (sumP (partA l))
  have top : ∀ {r : List Int × Int × Int}, Ev (fun k => qap.j0 k l demand need (roomA l) false) r → Ev (fun k => qap.f k l demand need) r := by
    intro r hr; unfold qap.f
    refine Ev.bind (possible_ev h) (Ev.pos rfl (Ev.neg (by omega) (Ev.neg (by omega) (Ev.neg (by omega) ?_))))
    rw [decide_eq_false (by omega)]; exact hr
  have mid : ∀ {r : List Int × Int × Int}, (∀ bb : Bool, (bb = true ↔ (need > roomA l ∨ lostR l demand > roomA l - need)) → Ev (fun k => qap.j1 k l demand need (roomA l) (partB l) (partA l) (lostR l demand) bb) r) → Ev (fun k => qap.j0 k l demand need (roomA l) false) r := by
    intro r hr; refine Ev.step (fun k => by rw [qap.j0]) (Ev.neg (by simp) (Ev.bind (parts_ev h) (Ev.bind (total_ev hB) ?_)))
    have w1 : wrap64 (demand - sumP (partB l)) = demand - sumP (partB l) := w64 (by omega) (by omega)
    have w2 : wrap64 (roomA l - need) = roomA l - need := w64 (by omega) (by omega)
    show Ev (fun k => if need > roomA l then qap.j1 k l demand need (roomA l) (partB l) (partA l) (mx 0 (wrap64 (demand - sumP (partB l)))) true else qap.j1 k l demand need (roomA l) (partB l) (partA l) (mx 0 (wrap64 (demand - sumP (partB l)))) (decide (mx 0 (wrap64 (demand - sumP (partB l))) > wrap64 (roomA l - need)))) r
    rw [w1, w2]; exact Ev.ite (fun hh => hr true (by simp; exact Or.inl hh)) (fun hh => hr _ (by rw [decide_eq_true_iff]; exact ⟨Or.inr, fun q => q.resolve_left hh⟩))
  by_cases hno : need > roomA l ∨ lostR l demand > roomA l - need
  · refine Or.inl ⟨hno, top (mid (fun bb hbb => ?_))⟩
    rw [hbb.2 hno]; exact Ev.step (fun k => by rw [qap.j1]) (Ev.pos rfl (Ev.now _))
  · refine Or.inr ⟨hno, ?_⟩
    have hsw : Swap (partB l) (partA l) demand (roomA l - need) (takeP (partB l) (demand - lostR l demand)) (takeP (partA l) (lostR l demand)) := by
      refine ⟨tb1, ta1, fun x y hx hy g1 g2 => ?_, by rw [tb2, ta2]; omega, by rw [ta2]; omega⟩
      by_cases e : lostR l demand = 0
      · have := ta3 e x; omega
      · have := (all_full _ _ tb1.len (fun j hj => (tb1.rng j hj).2)).2 (by rw [tb2]; omega) y hy
        omega
    obtain ⟨ba, hba, hend⟩ := better_ev hB hA hsw (most := roomA l - need - lostR l demand) (by rw [ta2]; omega) (by omega)
    refine ⟨_, top (mid (fun bb hbb => ?_)), ba.1, ba.2, hend, rfl⟩
    have hbf : bb = false := by
      cases bb with
      | false => rfl
      | true => exact absurd (hbb.1 rfl) hno
    rw [hbf]; refine Ev.step (fun k => by rw [qap.j1]) (Ev.neg (by simp) ?_)
    have w3 : wrap64 (demand - lostR l demand) = demand - lostR l demand := w64 (by omega) (by omega)
    have w4 : wrap64 (wrap64 (roomA l - need) - lostR l demand) = roomA l - need - lostR l demand := by rw [w64 (x := roomA l - need) (by omega) (by omega), w64 (by omega) (by omega)]
    rw [w3, w4]; refine Ev.bind (taken_ev hB (by omega) (by omega)) (Ev.bind (taken_ev hA (by omega) (by omega)) (Ev.bind hba (Ev.pos (by omega) (Ev.pos (by simp; omega) ?_))))
    have := best_out h hend.sw.ub hend.sw.ua (by have := hend.sw.sum; omega)
    rw [show ((l.length : Int)).toNat = l.length by omega]; exact this
theorem rbest_range {l : List RU} (h : Fit l) {demand need : Int} (hr : ¬ (0 ≤ demand ∧ demand ≤ 1000000 ∧ 0 ≤ need ∧ need ≤ 1000000)) : Ev (fun k => qap.f k l demand need) ([], 0, 4) := by
  have j0 : ∀ bb : Bool, bb = true → Ev (fun k => qap.j0 k l demand need (roomA l) bb) ([], 0, 4) := fun bb hb => Ev.step (fun k => by rw [qap.j0]) (Ev.pos hb (Ev.now _))
  unfold qap.f
  refine Ev.bind (possible_ev h) (Ev.pos rfl (Ev.ite (fun _ => j0 _ rfl) (fun _ => Ev.ite (fun _ => j0 _ rfl) (fun _ => Ev.ite (fun _ => j0 _ rfl) (fun _ => j0 _ (decide_eq_true (by omega)))))))
theorem rbest_bad {l : List RU} {e : Int} (h : Ev (fun k => qaH.f k l) e) (he : e ≠ 0) (demand need : Int) : Ev (fun k => qap.f k l demand need) ([], 0, e) := by
  unfold qap.f
  exact Ev.bind (possible_bad h he) (Ev.neg he (Ev.now _))
end Go.Proofs.Ytfcifmbddikflaa.P
namespace Go.Proofs.Ytfcifmbddikflaa.P
set_option linter.unusedVariables false
set_option linter.unusedSimpArgs false
open Go.RowKit Go.Proofs.YtfcifmbddikflaaW.PrintWords Go.Proofs.YtfcifmbddikflaaW.PrintMore Go.Proofs.Ytfcifmbddikflaa.Opn Go.Proofs.Ytfcifmbddikflaa.Evp
theorem greatest_of : ∀ xs : List Int, xs = [] ∨ ∃ m ∈ xs, ∀ x ∈ xs, x ≤ m
  | [] => Or.inl rfl
  | x :: xs => by
    refine Or.inr ?_
    rcases greatest_of xs with rfl | ⟨m, hm, h⟩
    · exact ⟨x, by simp, fun y hy => by rw [List.mem_singleton] at hy; omega⟩
    · by_cases e : x ≤ m
      · exact ⟨m, List.mem_cons_of_mem _ hm, fun y hy => by
          rcases List.mem_cons.1 hy with rfl | hy
          · exact e
          · exact h y hy⟩
      · exact ⟨x, List.mem_cons_self, fun y hy => by
          rcases List.mem_cons.1 hy with rfl | hy
          · exact Int.le_refl _
          · have := h y hy; omega⟩
def usedP (L : List Part) (v : List Int) : List Int := ((List.range L.length).filter (fun j => decide (0 < gI v j))).map (fun j => (gP L j).f2)
theorem mem_usedP {L : List Part} {v : List Int} {q : Int} : q ∈ usedP L v ↔ ∃ j, j < L.length ∧ 0 < gI v j ∧ (gP L j).f2 = q := by
  unfold usedP
  simp only [List.mem_map, List.mem_filter, List.mem_range, decide_eq_true_eq]
  constructor
  · rintro ⟨j, ⟨h1, h2⟩, h3⟩; exact ⟨j, h1, h2, h3⟩
  · rintro ⟨j, h1, h2, h3⟩; exact ⟨j, ⟨h1, h2⟩, h3⟩
theorem use_self {n : Int} {L : List Part} (hL : Parts n L) {v : List Int} (h : Use L v) {x y : Nat} (hx : x < L.length) (hy : y < L.length) (h1 : 0 < gI v x) (h2 : gI v y < (gP L y).f1) : (gP L x).f2 ≤ (gP L y).f2 := by
  by_cases e : x ≤ y
  · exact up_le hL e hy
  · have := h.grd y x (by omega) hx h1
    omega
def AtPrice (p : Int) (L : List Part) (v : List Int) : Prop := ∀ j, j < L.length → ((gP L j).f2 < p → gI v j = (gP L j).f1) ∧ (p < (gP L j).f2 → gI v j = 0)
theorem at_price {n : Int} {B A : List Part} (hB : Parts n B) (hA : Parts n A) {D cap : Int} {b a : List Int} (h : Swap B A D cap b a) (c1 : ∀ x y, x < B.length → y < A.length → 0 < gI b x → gI a y < (gP A y).f1 → (gP B x).f2 ≤ (gP A y).f2) : ∃ p, AtPrice p B b ∧ AtPrice p A a := by
  rcases greatest_of (usedP B b ++ usedP A a) with h0 | ⟨p, hp, hmax⟩
  · have z : ∀ q, q ∉ usedP B b ++ usedP A a := fun q hq => by rw [h0] at hq; cases hq
    refine ⟨-2000000, fun j hj => ?_, fun j hj => ?_⟩
    · have o := gP_ok hB hj
      have r := h.ub.rng j hj
      unfold PartOk at o
      refine ⟨fun _ => by omega, fun _ => ?_⟩
      by_cases e : 0 < gI b j
      · exact absurd (List.mem_append_left _ (mem_usedP.2 ⟨j, hj, e, rfl⟩)) (z _)
      · omega
    · have o := gP_ok hA hj
      have r := h.ua.rng j hj
      unfold PartOk at o
      refine ⟨fun _ => by omega, fun _ => ?_⟩
      by_cases e : 0 < gI a j
      · exact absurd (List.mem_append_right _ (mem_usedP.2 ⟨j, hj, e, rfl⟩)) (z _)
      · omega
  · refine ⟨p, fun j hj => ?_, fun j hj => ?_⟩
    · have r := h.ub.rng j hj
      refine ⟨fun hlt => ?_, fun hgt => ?_⟩
      · by_cases e : gI b j < (gP B j).f1
        · rcases List.mem_append.1 hp with hp | hp
          · obtain ⟨x, hx, h1, h2⟩ := mem_usedP.1 hp
            have := use_self hB h.ub hx hj h1 e; omega
          · obtain ⟨x, hx, h1, h2⟩ := mem_usedP.1 hp
            have := h.c2 x j hx hj h1 e; omega
        · omega
      · by_cases e : 0 < gI b j
        · have := hmax _ (List.mem_append_left _ (mem_usedP.2 ⟨j, hj, e, rfl⟩)); omega
        · omega
    · have r := h.ua.rng j hj
      refine ⟨fun hlt => ?_, fun hgt => ?_⟩
      · by_cases e : gI a j < (gP A j).f1
        · rcases List.mem_append.1 hp with hp | hp
          · obtain ⟨x, hx, h1, h2⟩ := mem_usedP.1 hp
            have := c1 x j hx hj h1 e; omega
          · obtain ⟨x, hx, h1, h2⟩ := mem_usedP.1 hp
            have := use_self hA h.ua hx hj h1 e; omega
        · omega
      · by_cases e : 0 < gI a j
        · have := hmax _ (List.mem_append_right _ (mem_usedP.2 ⟨j, hj, e, rfl⟩)); omega
        · omega
theorem out_earns {l : List RU} (h : Fit l) {D cap : Int} {b a : List Int} (hs : Swap (partB l) (partA l) D cap b a) {p : Int} (h1 : AtPrice p (partB l) b) (h2 : AtPrice p (partA l) a) : Earns p (offersOf l) (outOf l b a) := by
  refine earns_of p l _ (out_length l b a) (fun j hj => ?_)
  have e1 := h.sumC (fun q => decide (q < p)) j hj
  have e2 := h.sumC (fun q => decide (q ≤ p)) j hj
  have u1 := sumU_le j (fun q => decide (q ≤ p)) (partB l) b hs.ub.len (fun i hi => ⟨(hs.ub.rng i hi).1, (hs.ub.rng i hi).2, fun hc => (h1 i hi).2 (by simp at hc; omega)⟩)
  have u2 := sumU_le j (fun q => decide (q ≤ p)) (partA l) a hs.ua.len (fun i hi => ⟨(hs.ua.rng i hi).1, (hs.ua.rng i hi).2, fun hc => (h2 i hi).2 (by simp at hc; omega)⟩)
  have v1 := sumU_ge j (fun q => decide (q < p)) (partB l) b hs.ub.len (fun i hi => ⟨(hs.ub.rng i hi).1, (hs.ub.rng i hi).2, fun hc => (h1 i hi).1 (by simpa using hc)⟩)
  have v2 := sumU_ge j (fun q => decide (q < p)) (partA l) a hs.ua.len (fun i hi => ⟨(hs.ua.rng i hi).1, (hs.ua.rng i hi).2, fun hc => (h2 i hi).1 (by simpa using hc)⟩)
  rw [out_at h b a j hj, lowO_st, highO_st]; omega
end Go.Proofs.Ytfcifmbddikflaa.P
namespace Go.Proofs.Ytfcifmbddikflaa.P
open Go.RowKit Go.Proofs.YtfcifmbddikflaaW.PrintWords Go.Proofs.YtfcifmbddikflaaW.PrintMore Go.Proofs.Ytfcifmbddikflaa.Opn Go.Proofs.Ytfcifmbddikflaa.Evp
theorem served_ev : Ev (fun k => qbe.f k) true := Ev.of (fun k => qbe.mono k) (k := 40) (by decide +kernel)
end Go.Proofs.Ytfcifmbddikflaa.P
namespace Go.Proofs.Ytfcifmbddikflaa.P
set_option linter.unusedVariables false
open Go.RowKit Go.Proofs.YtfcifmbddikflaaW.PrintWords Go.Proofs.YtfcifmbddikflaaW.PrintMore Go.Proofs.Ytfcifmbddikflaa.Opn Go.Proofs.Ytfcifmbddikflaa.Evp
theorem two_ev : Ev (fun k => qa4.f (⟨#[65]⟩ : ByteArray)) (⟨#[65]⟩, [⟨10, 5⟩, ⟨10, 8⟩]) := ⟨0, fun k _ => rfl⟩
theorem possible_two : Ev (fun k => qaI.f k ([(⟨(⟨(⟨#[65]⟩ : ByteArray), [⟨10, 5⟩, ⟨10, 8⟩]⟩ : Offer), 5⟩ : RU)])) (5, 0) := Ev.of (fun k => qaI.mono _ k) (k := 40) (by decide +kernel)
theorem rfree_loop (l : List RU) (demand : Int) (hlen : (l.length : Int) ≤ 2932031007317) (r : Bool) (he : Ev (fun k => (qap.f k l demand 0).bind fun bt342 => ((qaM.f k (offersOf l) demand).bind fun bt347 => ((qaH.f k l).bind fun t352 => (if t352 = 0 then (if bt342.2.2 = bt347.2.2 then (some (bt342.2.1 == bt347.2.1)) else (some false)) else (some true))))) r) : ∀ (d : Nat) (i : Int), 0 ≤ i → i ≤ (l.length : Int) → (l.length : Int) - i = d → Ev (fun k => qaz.l0 k l demand (offersOf (l.take i.toNat)) l (l.length : Int) i) r := by
  intro d; induction d with
  | zero =>
    intro i h0 h1 hd; refine Ev.step (fun k => by rw [qaz.l0]) (Ev.neg (by omega) ?_)
    rw [List.take_of_length_le (by omega)]; exact he
  | succ d ih =>
    intro i h0 h1 hd; have w1 : wrap64 (i + 1) = i + 1 := w64 (by omega) (by omega)
    have hl : (offersOf (l.take i.toNat)).length ≤ l.length := by rw [offersOf_length, List.length_take]; omega
    refine Ev.step (fun k => by rw [qaz.l0]) ?_
    refine Ev.pos (by omega) (Ev.pos h0 (Ev.pos (by omega) (Ev.pos (by omega) ?_)))
    rw [w1, ← take_snoc h0 (by omega)]; exact ih (i + 1) (by omega) (by omega) (by omega)
theorem reserveFree_pure : ReserveFree.Pure := by
  intro l demand hl _; have hlen : (l.length : Int) ≤ 2932031007317 := by
    have := hl.1
    omega
  have ho : okOffers (offersOf l) := by
    intro o h; obtain ⟨u, hu, rfl⟩ := List.mem_map.1 h
    exact (hl.2 u hu).1.1
  refine Ev.rounds ?_
  unfold qaz.f
  refine Ev.bind served_ev (Ev.pos rfl (Ev.bind two_ev (Ev.bind possible_two (Ev.pos rfl ?_))))
  refine Ev.step (fun k => by rw [qaz.j0]) (Ev.neg (by decide) ?_)
  have main := rfree_loop l demand hlen true ?_ l.length 0 (by omega) (by omega) (by omega)
  · rw [show offersOf (l.take (0 : Int).toNat) = [] by simp [offersOf]] at main
    exact main
  obtain ⟨c, e, hc, hce, h1, h2⟩ := rcheck_some l ho hlen
  obtain ⟨ps, n, f, hb, hdc, hbb⟩ := best_any (offersOf l) ho demand
  by_cases he : e = 0
  · subst he; obtain ⟨hok, hc0, hru⟩ := h2 rfl
    subst hc0; have hF : Fit l := ⟨hok, hc, hru, hce⟩
    have hsum := hF.sumA; have nA := sumP_nonneg hF.A.ok
    have nB := sumP_nonneg hF.B.ok
    have lB := hF.B.len; have lA := hF.A.len; have chk : ∀ q : Int, (¬ (0 ≤ demand ∧ demand ≤ 1000000) ∧ q = 4 ∨ (0 ≤ demand ∧ demand ≤ 1000000) ∧ q = if demand > sumA (offersOf l) then 8 else 0) → Ev (fun k => qaN.f k (offersOf l) demand) q := by
      intro q hq; unfold qaN.f
      refine Ev.bind hc (Ev.pos rfl ?_)
      have j0 : ∀ bb : Bool, (bb = true ↔ ¬ (0 ≤ demand ∧ demand ≤ 1000000)) → Ev (fun k => qaN.j0 k (offersOf l) demand bb) q := by
        intro bb hbb; refine Ev.step (fun k => by rw [qaN.j0]) ?_
        rcases hq with ⟨g1, rfl⟩ | ⟨g1, rfl⟩
        · exact Ev.pos (hbb.2 g1) (Ev.now _)
        · refine Ev.neg (fun h => hbb.1 h g1) (Ev.bind (dispatch_sum_ev hok) ?_)
          by_cases g : demand > sumA (offersOf l)
          · simp only [if_pos g]; exact Ev.now _
          · simp only [if_neg g]; exact Ev.now _
      exact Ev.ite (fun g => j0 _ (by simp; omega)) (fun g => j0 _ (by simp; omega))
    by_cases hr : 0 ≤ demand ∧ demand ≤ 1000000
    · rcases rbest_in hF hr.1 hr.2 (need := 0) (by omega) (by omega) with ⟨hno, hev⟩ | ⟨hno, r, hev, b, a, hend, rfl⟩
      · have hgt : demand > sumA (offersOf l) := by
          have := mx_ge 0 (demand - sumP (partB l))
          unfold lostR at hno
          omega
        have hf : f = 8 := Ev.det hdc (chk 8 (Or.inr ⟨hr, by rw [if_pos hgt]⟩))
        subst hf; rcases hbb with ⟨_, rfl, rfl⟩ | ⟨h, _⟩
        · exact Ev.bind hev (Ev.bind hb (Ev.bind hce (Ev.pos rfl (Ev.pos rfl (Ev.now _)))))
        · omega
      · have hle : ¬ demand > sumA (offersOf l) := by
          have := mx_ge 0 (demand - sumP (partB l))
          unfold lostR at hno
          omega
        have hf : f = 0 := Ev.det hdc (chk 0 (Or.inr ⟨hr, by rw [if_neg hle]⟩))
        subst hf; have hbo : BestOf (offersOf l) demand ps n := by
          rcases hbb with ⟨h, _⟩ | ⟨_, h⟩
          · exact absurd rfl h
          · exact h
        have c1 : ∀ x y, x < (partB l).length → y < (partA l).length → 0 < gI b x → gI a y < (gP (partA l) y).f1 → (gP (partB l) x).f2 ≤ (gP (partA l) y).f2 := by
          rcases hend.fin with hcap | h
          · intro x y hx hy g1 g2; have := (all_full _ _ hend.sw.ua.len (fun j hj => (hend.sw.ua.rng j hj).2)).2 (by omega) y hy
            omega
          · exact h
        obtain ⟨p, hp1, hp2⟩ := at_price hF.B hF.A hend.sw c1
        have hE := out_earns hF hend.sw hp1 hp2
        have hin := out_inA hF hend.sw.ub hend.sw.ua
        have hsm : sumI (outOf l b a) = demand := by rw [out_sum hF hend.sw.ub.len hend.sw.ua.len, hend.sw.sum]
        have g1 := hbo.least hin hsm
        have g2 := earns_least hok.v hE hbo.inA
        rw [hsm, hbo.sum, hbo.cost] at g2; have hn : costA (offersOf l) (outOf l b a) = n := by omega
        refine Ev.bind hev (Ev.bind hb (Ev.bind hce (Ev.pos rfl (Ev.pos rfl ?_))))
        show Ev (fun k => some (costA (offersOf l) (outOf l b a) == n)) true
        rw [hn, beq_self_eq_true]; exact Ev.now _
    · have hf : f = 4 := Ev.det hdc (chk 4 (Or.inl ⟨hr, rfl⟩))
      subst hf; rcases hbb with ⟨_, rfl, rfl⟩ | ⟨h, _⟩
      · exact Ev.bind (rbest_range hF (by omega)) (Ev.bind hb (Ev.bind hce (Ev.pos rfl (Ev.pos rfl (Ev.now _)))))
      · omega
  · exact Ev.bind (rbest_bad hce he demand 0) (Ev.bind hb (Ev.bind hce (Ev.neg he (Ev.now _))))
end Go.Proofs.Ytfcifmbddikflaa.P
namespace Go.Proofs.Ytfcifmbddikflaa.Pure
theorem ReserveFree : P.ReserveFree.Pure := P.reserveFree_pure
end Go.Proofs.Ytfcifmbddikflaa.Pure
