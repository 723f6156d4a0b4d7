/- Texts of the claim, put together: LReserve4, LReserve5, LKept, LKept2, LWithin, PureReserveKept. -/
import Derived.Test.YtfcifmbddikflaaCReserveKept32
import Derived.Test.YtfcifmbddikflaaCReserveKept19
import Derived.Test.YtfcifmbddikflaaCReserveKept27
import Derived.Test.YtfcifmbddikflaaCReserveKept28
import Derived.Test.YtfcifmbddikflaaCReserveKept30
import Derived.Test.YtfcifmbddikflaaCReserveKept29
namespace Go.Proofs.Ytfcifmbddikflaa.P
set_option linter.unusedVariables false
set_option linter.unusedSimpArgs false
open Go.RowKit Go.Proofs.YtfcifmbddikflaaW.PrintWords Go.Proofs.YtfcifmbddikflaaW.PrintMore Go.Proofs.Ytfcifmbddikflaa.Opn Go.Proofs.Ytfcifmbddikflaa.Evp
def sumC (u : Int) (c : Int → Bool) : List Part → Int
  | [] => 0
  | p :: r => (if p.f0 = u ∧ c p.f2 = true then p.f1 else 0) + sumC u c r
def stO (c : Int → Bool) : List OStep → Int
  | [] => 0
  | s :: r => (if c s.f1 = true then s.f0 else 0) + stO c r
theorem sumC_append (u : Int) (c : Int → Bool) : ∀ (a b : List Part), sumC u c (a ++ b) = sumC u c a + sumC u c b
  | [], b => by simp [sumC]
  | p :: a, b => by simp only [List.cons_append, sumC, sumC_append u c a b]; omega
theorem sumC_perm (u : Int) (c : Int → Bool) {a b : List Part} (h : a.Perm b) : sumC u c a = sumC u c b := by
  induction h with
  | nil => rfl
  | cons x _ ih => simp only [sumC, ih]
  | swap x y l => simp only [sumC]; omega
  | trans _ _ h1 h2 => rw [h1, h2]
theorem sumO_st : ∀ st : List OStep, sumO st = stO (fun _ => true) st
  | [] => rfl
  | s :: r => by simp only [sumO, stO, sumO_st r, if_true]
theorem step_sumC (i u : Int) (c : Int → Bool) : ∀ (st : List OStep) (knee : Int), 0 ≤ knee → RangeO st → sumC u c (stepB i knee st) + sumC u c (stepA i knee st) = if i = u then stO c st else 0
  | [], knee, _, _ => by simp [stepB, stepA, sumC, stO]
  | s :: r, knee, hk, hr => by
    have hs := hr s List.mem_cons_self
    have hm := mn_le knee s.f0
    have ih := step_sumC i u c r (knee - mn knee s.f0) (by omega) hr.tail
    simp only [stepB, stepA, sumC_append, stO]
    by_cases e : i = u
    · simp only [if_pos e] at ih ⊢
      by_cases hc : c s.f1 = true
      · rw [if_pos hc]; have q1 : sumC u c (if mn knee s.f0 > 0 then [⟨i, mn knee s.f0, s.f1⟩] else []) = if mn knee s.f0 > 0 then mn knee s.f0 else 0 := by
          split
          · simp only [sumC, if_pos (show i = u ∧ c s.f1 = true from ⟨e, hc⟩)]; omega
          ·rfl
        have q2 : sumC u c (if mn knee s.f0 < s.f0 then [⟨i, s.f0 - mn knee s.f0, s.f1⟩] else []) = if mn knee s.f0 < s.f0 then s.f0 - mn knee s.f0 else 0 := by
          split
          · simp only [sumC, if_pos (show i = u ∧ c s.f1 = true from ⟨e, hc⟩)]; omega
          ·rfl
        rw [q1, q2]; split <;> split <;> omega
      · rw [if_neg hc]; have q1 : sumC u c (if mn knee s.f0 > 0 then [⟨i, mn knee s.f0, s.f1⟩] else []) = 0 := by
          split
          · simp only [sumC, if_neg (show ¬ (i = u ∧ c s.f1 = true) from fun h => hc h.2)]; omega
          ·rfl
        have q2 : sumC u c (if mn knee s.f0 < s.f0 then [⟨i, s.f0 - mn knee s.f0, s.f1⟩] else []) = 0 := by
          split
          · simp only [sumC, if_neg (show ¬ (i = u ∧ c s.f1 = true) from fun h => hc h.2)]; omega
          ·rfl
        rw [q1, q2]; omega
    · simp only [if_neg e] at ih ⊢
      have q1 : sumC u c (if mn knee s.f0 > 0 then [⟨i, mn knee s.f0, s.f1⟩] else []) = 0 := by
        split
        · simp only [sumC, if_neg (show ¬ (i = u ∧ c s.f1 = true) from fun h => e h.1)]; omega
        ·rfl
      have q2 : sumC u c (if mn knee s.f0 < s.f0 then [⟨i, s.f0 - mn knee s.f0, s.f1⟩] else []) = 0 := by
        split
        · simp only [sumC, if_neg (show ¬ (i = u ∧ c s.f1 = true) from fun h => e h.1)]; omega
        ·rfl
      rw [q1, q2]; omega
theorem unit_sumC (c : Int → Bool) (u : Int) : ∀ (l : List RU) (i : Int), (∀ v ∈ l, RangeO v.f0.f1 ∧ 0 ≤ roomU v ∧ roomU v ≤ sumO v.f0.f1) → sumC u c (unitB i l) + sumC u c (unitA i l) = if i ≤ u ∧ u < i + l.length then stO c (l.getD (u - i).toNat z32).f0.f1 else 0
  | [], i, _ => by
    rw [if_neg (by simp)]; simp [unitA, unitB, sumC]
  | v :: r, i, h => by
    have ih := unit_sumC c u r (i + 1) (fun w hw => h w (List.mem_cons_of_mem _ hw))
    have hv := h v List.mem_cons_self
    have hs := step_sumC i u c v.f0.f1 (sumO v.f0.f1 - roomU v) (by omega) hv.1
    simp only [unitA, unitB, sumC_append, List.length_cons]
    by_cases e : i = u
    · rw [if_pos e] at hs; rw [if_neg (by omega)] at ih; rw [if_pos (by omega)]; rw [show (u - i).toNat = 0 by omega]; simp only [List.getD_cons_zero]
      omega
    · rw [if_neg e] at hs; by_cases hin : i + 1 ≤ u ∧ u < i + 1 + r.length
      · rw [if_pos hin] at ih; rw [if_pos (by omega), show (u - i).toNat = (u - (i + 1)).toNat + 1 by omega]; simp only [List.getD_cons_succ]
        omega
      · rw [if_neg hin] at ih; rw [if_neg (by omega)]; omega
def partB (l : List RU) : List Part := Srt.ssort ltP (unitB 0 l)
def partA (l : List RU) : List Part := Srt.ssort ltP (unitA 0 l)
theorem Fit.steps {l : List RU} (h : Fit l) : ∀ u ∈ l, u.f0.f1.length ≤ 12 := fun u hu => (h.valid hu).1
theorem Fit.B {l : List RU} (h : Fit l) : Parts l.length (partB l) := Parts.sort (by have := unitB_length h.steps 0; have := h.len; omega) (unit_ok _ l 0 (by omega) (by omega) h.units).1
theorem Fit.A {l : List RU} (h : Fit l) : Parts l.length (partA l) := Parts.sort (by have := unitA_length h.steps 0; have := h.len; omega) (unit_ok _ l 0 (by omega) (by omega) h.units).2
theorem Fit.sumA {l : List RU} (h : Fit l) : sumP (partA l) = roomA l ∧ sumP (partB l) + sumP (partA l) = sumA (offersOf l) := by
  unfold partA partB
  rw [sumP_perm (Srt.qbu ltP_swo _), sumP_perm (Srt.qbu ltP_swo _)]; exact unit_sums l 0 h.units
theorem Fit.sumC {l : List RU} (h : Fit l) (c : Int → Bool) (u : Nat) (hu : u < l.length) : sumC u c (partB l) + sumC u c (partA l) = stO c (l.getD u z32).f0.f1 := by
  unfold partA partB
  rw [sumC_perm _ _ (Srt.qbu ltP_swo _), sumC_perm _ _ (Srt.qbu ltP_swo _), unit_sumC c u l 0 h.units, if_pos (by omega)]; congr 4
theorem sumU_le (u : Int) (c : Int → Bool) : ∀ (L : List Part) (v : List Int), v.length = L.length → (∀ j, j < L.length → 0 ≤ gI v j ∧ gI v j ≤ (gP L j).f1 ∧ (c (gP L j).f2 = false → gI v j = 0)) → sumU u L v ≤ sumC u c L
  | [], v, _, _ => by simp [sumU, sumC]
  | p :: L, x :: v, hl, h => by
    have h0 := h 0 (by simp)
    have ih := sumU_le u c L v (by simpa using hl) (fun j hj => by have := h (j + 1) (by simpa using hj); simpa [gI, gP] using this)
    simp only [gI, gP, List.getD_cons_zero] at h0
    simp only [sumU, sumC]
    cases hc : c p.f2 with
    | true => simp only [and_true]; split <;> omega
    | false =>
      have := h0.2.2 hc
      simp only [Bool.false_eq_true, and_false, if_false]
      split <;> omega
  | _ :: _, [], hl, _ => by simp at hl
theorem sumU_ge (u : Int) (c : Int → Bool) : ∀ (L : List Part) (v : List Int), v.length = L.length → (∀ j, j < L.length → 0 ≤ gI v j ∧ gI v j ≤ (gP L j).f1 ∧ (c (gP L j).f2 = true → gI v j = (gP L j).f1)) → sumC u c L ≤ sumU u L v
  | [], v, _, _ => by simp [sumU, sumC]
  | p :: L, x :: v, hl, h => by
    have h0 := h 0 (by simp)
    have ih := sumU_ge u c L v (by simpa using hl) (fun j hj => by have := h (j + 1) (by simpa using hj); simpa [gI, gP] using this)
    simp only [gI, gP, List.getD_cons_zero] at h0
    simp only [sumU, sumC]
    cases hc : c p.f2 with
    | true => 
      have := h0.2.2 hc
      simp only [and_true]; split <;> omega
    | false =>
      simp only [Bool.false_eq_true, and_false, if_false]
      split <;> omega
  | _ :: _, [], hl, _ => by simp at hl
theorem all_full : ∀ (L : List Part) (v : List Int), v.length = L.length → (∀ j, j < L.length → gI v j ≤ (gP L j).f1) → sumI v ≤ sumP L ∧ (sumI v = sumP L → ∀ j, j < L.length → gI v j = (gP L j).f1)
  | [], [], _, _ => ⟨by simp [sumI, sumP], fun _ j hj => by simp at hj⟩
  | p :: L, x :: v, hl, h => by
    have h0 := h 0 (by simp)
    have ih := all_full L v (by simpa using hl) (fun j hj => by have := h (j + 1) (by simpa using hj); simpa [gI, gP] using this)
    simp only [gI, gP, List.getD_cons_zero] at h0
    simp only [sumI, sumP]
    refine ⟨by omega, fun he j hj => ?_⟩
    cases j with
    | zero => simp only [gI, gP, List.getD_cons_zero]; omega
    | succ j =>
      have := ih.2 (by omega) j (by simpa using hj)
      simpa [gI, gP] using this
  | [], _ :: _, hl, _ => by simp at hl
  | _ :: _, [], hl, _ => by simp at hl
def outOf (l : List RU) (b a : List Int) : List Int := addP (partA l) a (addP (partB l) b (List.replicate l.length 0))
theorem out_length (l : List RU) (b a : List Int) : (outOf l b a).length = l.length := by unfold outOf; rw [qbS, qbS, List.length_replicate]
theorem gI_zeros (n u : Nat) : gI (List.replicate n 0) u = 0 := by
  unfold gI
  rw [List.getD_eq_getElem?_getD, List.getElem?_replicate]; split <;> rfl
theorem out_at {l : List RU} (h : Fit l) (b a : List Int) (u : Nat) (hu : u < l.length) : gI (outOf l b a) u = sumU u (partB l) b + sumU u (partA l) a := by
  unfold outOf
  rw [addP_at (n := l.length) _ _ _ h.A.ok (by rw [qbS, List.length_replicate]) u (by omega), addP_at (n := l.length) _ _ _ h.B.ok (by rw [List.length_replicate]) u (by omega), gI_zeros]
  omega
theorem sumI_zeros : ∀ n : Nat, sumI (List.replicate n 0) = 0
  | 0 => rfl
  | n + 1 => by simp only [List.replicate_succ, sumI, sumI_zeros n]; omega
theorem out_sum {l : List RU} (h : Fit l) {b a : List Int} (hb : b.length = (partB l).length) (ha : a.length = (partA l).length) : sumI (outOf l b a) = sumI b + sumI a := by
  unfold outOf
  rw [addP_sum (n := l.length) _ _ _ h.A.ok (by rw [qbS, List.length_replicate]) ha.symm, addP_sum (n := l.length) _ _ _ h.B.ok (by rw [List.length_replicate]) hb.symm, sumI_zeros]
  omega
theorem inA_of : ∀ (l : List RU) (xs : List Int), xs.length = l.length → (∀ j, j < l.length → 0 ≤ gI xs j ∧ gI xs j ≤ sumO (l.getD j z32).f0.f1) → InA (offersOf l) xs
  | [], [], _, _ => trivial
  | u :: l, x :: xs, hl, h => by
    have h0 := h 0 (by simp)
    simp only [gI, List.getD_cons_zero] at h0
    exact ⟨h0.1, h0.2, inA_of l xs (by simpa using hl) (fun j hj => by have := h (j + 1) (by simpa using hj); simpa [gI] using this)⟩
  | [], _ :: _, hl, _ => by simp at hl
  | _ :: _, [], hl, _ => by simp at hl
theorem out_inA {l : List RU} (h : Fit l) {b a : List Int} (hb : Use (partB l) b) (ha : Use (partA l) a) : InA (offersOf l) (outOf l b a) := by
  refine inA_of l _ (out_length l b a) (fun j hj => ?_)
  have e := h.sumC (fun _ => true) j hj
  have u1 := sumU_le j (fun _ => true) (partB l) b hb.len (fun i hi => ⟨(hb.rng i hi).1, (hb.rng i hi).2, fun hc => by cases hc⟩)
  have u2 := sumU_le j (fun _ => true) (partA l) a ha.len (fun i hi => ⟨(ha.rng i hi).1, (ha.rng i hi).2, fun hc => by cases hc⟩)
  have v1 := sumU_ge j (fun _ => false) (partB l) b hb.len (fun i hi => ⟨(hb.rng i hi).1, (hb.rng i hi).2, fun hc => by cases hc⟩)
  have v2 := sumU_ge j (fun _ => false) (partA l) a ha.len (fun i hi => ⟨(ha.rng i hi).1, (ha.rng i hi).2, fun hc => by cases hc⟩)
  have z : ∀ L : List Part, sumC j (fun _ => false) L = 0 := by
    intro L; induction L with
    | nil => rfl
    | cons p L ih => simp only [sumC, Bool.false_eq_true, and_false, if_false, ih]; omega
  rw [z] at v1 v2; rw [out_at h b a j hj, sumO_st]; omega
theorem fill_step {n : Int} {P : List Part} (hP : Parts n P) {V o : List Int} {i : Int} (h0 : 0 ≤ i) (h1 : i < (P.length : Int)) (hV : V.length = P.length) (ho : (o.length : Int) = n) (hVn : ∀ v ∈ V, 0 ≤ v) (hon : ∀ x ∈ o, 0 ≤ x) (hs : sumI o + sumI (V.drop i.toNat) ≤ 1000000000) : 0 ≤ (qag P i).f0 ∧ (qag P i).f0 < (o.length : Int) ∧ wrap64 (rd o (qag P i).f0 + rd V i) = gI o (qag P i).f0.toNat + rd V i ∧ 0 ≤ rd V i ∧ (∀ x ∈ o.set (qag P i).f0.toNat (gI o (qag P i).f0.toNat + rd V i), 0 ≤ x) ∧ sumI (o.set (qag P i).f0.toNat (gI o (qag P i).f0.toNat + rd V i)) + sumI (V.drop (i + 1).toNat) ≤ 1000000000 ∧ addP (P.drop i.toNat) (V.drop i.toNat) o = addP (P.drop (i + 1).toNat) (V.drop (i + 1).toNat) (o.set (qag P i).f0.toNat (gI o (qag P i).f0.toNat + rd V i)) := by
  have hp := hP.ok _ (rp_in h0 h1)
  unfold PartOk at hp
  have dV : V.drop i.toNat = rd V i :: V.drop (i + 1).toNat := drop_getD (0 : Int) h0 (by omega)
  rw [dV] at hs; simp only [sumI] at hs
  have hv : 0 ≤ rd V i := hVn _ (getD_mem (d := (0 : Int)) h0 (by omega))
  have hg : gI o (qag P i).f0.toNat ∈ o := gI_mem (by omega)
  have h2 := sumI_le_all hon _ hg
  have h3 := hon _ hg
  have e : rd o (qag P i).f0 = gI o (qag P i).f0.toNat := rfl
  have h4 : 0 ≤ sumI (V.drop (i + 1).toNat) := by
    cases hd : V.drop (i + 1).toNat with
    | nil => simp [sumI]
    | cons y t => exact (sumI_le_all (v := y :: t) (fun x hx => hVn x (List.mem_of_mem_drop (hd ▸ hx))) y List.mem_cons_self).2
  refine ⟨hp.1, by omega, ?_, hv, ?_, ?_, ?_⟩
  · rw [e]; exact w64 (by omega) (by omega)
  · intro x hx; rcases List.mem_or_eq_of_mem_set hx with hx | rfl
    · exact hon x hx
    · omega
  · rw [sumI_set (by omega)]; omega
  ·rw [dropPt h0 h1, dV]; rfl
theorem best_l0 {l : List RU} (h : Fit l) (b a : List Int) (hb : Use (partB l) b) (r : List Int × Int × Int) : ∀ (d : Nat) (i : Int) (o : List Int), 0 ≤ i → i ≤ ((partB l).length : Int) → ((partB l).length : Int) - i = d → o.length = l.length → (∀ x ∈ o, 0 ≤ x) → sumI o + sumI (b.drop i.toNat) ≤ 1000000000 → Ev (fun k => qaj.l1 k l a (addP ((partB l).drop i.toNat) (b.drop i.toNat) o) (partA l) ((partA l).length : Int) 0) r → Ev (fun k => qaj.l0 k l (partA l) b a o (partB l) ((partB l).length : Int) i) r := by
  have hB := h.B; have hlen := hB.len; have hbl := hb.len; intro d; induction d with
  | zero =>
    intro i o h0 h1 hd hol hon hs he; refine Ev.step (fun k => by rw [qaj.l0]) ?_
    rw [drop_end (by omega)] at he; have : addP [] (b.drop i.toNat) o = o := by cases (b.drop i.toNat) <;> rfl
    rw [this] at he; exact Ev.neg (by omega) he
  | succ d ih =>
    intro i o h0 h1 hd hol hon hs he; obtain ⟨q1, q2, q3, q4, q5, q6, q7⟩ := fill_step hB h0 (show i < ((partB l).length : Int) by omega) hbl (by omega) hb.nonneg hon hs
    rw [q7] at he; refine Ev.step (fun k => by rw [qaj.l0]) ?_
    refine Ev.pos (by omega) (Ev.pos h0 (Ev.pos (by omega) (Ev.pos q1 (Ev.pos q2 (Ev.pos (by omega) ?_)))))
    rw [q3, w64 (x := i + 1) (by omega) (by omega)]; exact ih (i + 1) _ (by omega) (by omega) (by omega) (by rw [List.length_set]; exact hol) q5 q6 he
theorem best_l1 {l : List RU} (h : Fit l) (a : List Int) (ha : Use (partA l) a) (r : List Int × Int × Int) : ∀ (d : Nat) (i : Int) (o : List Int), 0 ≤ i → i ≤ ((partA l).length : Int) → ((partA l).length : Int) - i = d → o.length = l.length → (∀ x ∈ o, 0 ≤ x) → sumI o + sumI (a.drop i.toNat) ≤ 1000000000 → Ev (fun k => qaj.l2 k (addP ((partA l).drop i.toNat) (a.drop i.toNat) o) 0 l (l.length : Int) 0) r → Ev (fun k => qaj.l1 k l a o (partA l) ((partA l).length : Int) i) r := by
  have hA := h.A; have hlen := hA.len; have hal := ha.len; intro d; induction d with
  | zero =>
    intro i o h0 h1 hd hol hon hs he; refine Ev.step (fun k => by rw [qaj.l1]) ?_
    rw [drop_end (by omega)] at he; have : addP [] (a.drop i.toNat) o = o := by cases (a.drop i.toNat) <;> rfl
    rw [this] at he; exact Ev.neg (by omega) he
  | succ d ih =>
    intro i o h0 h1 hd hol hon hs he; obtain ⟨q1, q2, q3, q4, q5, q6, q7⟩ := fill_step hA h0 (show i < ((partA l).length : Int) by omega) hal (by omega) ha.nonneg hon hs
    rw [q7] at he; refine Ev.step (fun k => by rw [qaj.l1]) ?_
    refine Ev.pos (by omega) (Ev.pos h0 (Ev.pos (by omega) (Ev.pos q1 (Ev.pos q2 (Ev.pos (by omega) ?_)))))
    rw [q3, w64 (x := i + 1) (by omega) (by omega)]; exact ih (i + 1) _ (by omega) (by omega) (by omega) (by rw [List.length_set]; exact hol) q5 q6 he
theorem best_l2 {l : List RU} (h : Fit l) (o : List Int) (hol : o.length = l.length) : ∀ (d : Nat) (i acc : Int), 0 ≤ i → i ≤ (l.length : Int) → (l.length : Int) - i = d → InA (offersOf (l.drop i.toNat)) (o.drop i.toNat) → -(100000000000 * i) ≤ acc → acc ≤ 100000000000 * i → Ev (fun k => qaj.l2 k o acc l (l.length : Int) i) (o, acc + costA (offersOf (l.drop i.toNat)) (o.drop i.toNat), 0) := by
  have hlen := h.len; intro d; induction d with
  | zero =>
    intro i acc h0 h1 hd hin ha hb; refine Ev.step (fun k => by rw [qaj.l2]) ?_
    rw [drop_end (by omega)]; have e : costA (offersOf ([] : List RU)) (o.drop i.toNat) = 0 := by cases (o.drop i.toNat) <;> rfl
    rw [e, Int.add_zero]; exact Ev.neg (by omega) (Ev.now _)
  | succ d ih =>
    intro i acc h0 h1 hd hin ha hb; have hu := rd_in h0 (show i < (l.length : Int) by omega)
    have hv := h.valid hu
    have hck := (h.ok.2 _ (List.mem_map_of_mem (f := fun u => u.f0) hu)).ev
    have dO : o.drop i.toNat = rd o i :: o.drop (i + 1).toNat := drop_getD (0 : Int) h0 (by omega)
    rw [dropU h0 (by omega), dO] at hin ⊢
    have hin1 : 0 ≤ rd o i := hin.1
    have hin2 : rd o i ≤ sumO (qam l i).f0.f1 := hin.2.1
    have hcb := costO_bound (p := rd o i) hv.range hin1
    have hsum := hv.sum; refine Ev.step (fun k => by rw [qaj.l2]) ?_
    refine Ev.pos (by omega) (Ev.pos h0 (Ev.pos (by omega) (Ev.pos (by omega) (Ev.bind (offer_Cost_in hck hv hin1 hin2) ?_))))
    have w1 : wrap64 (acc + costO (qam l i).f0.f1 (rd o i)) = acc + costO (qam l i).f0.f1 (rd o i) := w64 (by omega) (by omega)
    have w2 : wrap64 (i + 1) = i + 1 := w64 (by omega) (by omega)
    simp only [w1, w2]
    have := ih (i + 1) (acc + costO (qam l i).f0.f1 (rd o i)) (by omega) (by omega) (by omega) hin.2.2 (by omega) (by omega)
    rw [show acc + costA (offersOf (qam l i :: l.drop (i + 1).toNat)) (rd o i :: o.drop (i + 1).toNat) = acc + costO (qam l i).f0.f1 (rd o i) + costA (offersOf (l.drop (i + 1).toNat)) (o.drop (i + 1).toNat) by rw [Int.add_assoc]; rfl]
    exact this
theorem best_out {l : List RU} (h : Fit l) {b a : List Int} (hb : Use (partB l) b) (ha : Use (partA l) a) (hs : sumI b + sumI a ≤ 1000000000) : Ev (fun k => qaj.l0 k l (partA l) b a (List.replicate l.length 0) (partB l) ((partB l).length : Int) 0) (outOf l b a, costA (offersOf l) (outOf l b a), 0) := by
  have hin := out_inA h hb ha
  have e2 := best_l2 h (outOf l b a) (out_length l b a) l.length 0 0 (by omega) (by omega) (by omega) (by simpa using hin) (by omega) (by omega)
  simp only [Int.toNat_zero, List.drop_zero, Int.zero_add] at e2
  have hz : ∀ x ∈ List.replicate l.length (0 : Int), 0 ≤ x := fun x hx => by rw [List.eq_of_mem_replicate hx]; omega
  have l1 : ((List.replicate l.length (0 : Int)).length : Int) = l.length := by simp
  have s1 := addP_sum (n := l.length) (partB l) b (List.replicate l.length 0) h.B.ok l1 hb.len.symm
  rw [sumI_zeros] at s1; have ha0 : 0 ≤ sumI a := by
    cases hd : a with
    | nil => simp [sumI]
    | cons y t => exact (sumI_le_all (v := y :: t) (fun x hx => ha.nonneg x (hd ▸ hx)) y List.mem_cons_self).2
  refine best_l0 h b a hb _ _ 0 _ (by omega) (by omega) rfl (by simp) hz ?_ ?_
  · simp only [Int.toNat_zero, List.drop_zero, sumI_zeros]; omega
  · simp only [Int.toNat_zero, List.drop_zero]
    refine best_l1 h a ha _ _ 0 _ (by omega) (by omega) rfl (by rw [qbS]; simp) (addP_nonneg (n := l.length) _ _ _ h.B.ok l1 hb.nonneg hz) ?_ ?_
    · simp only [Int.toNat_zero, List.drop_zero]; omega
    · simp only [Int.toNat_zero, List.drop_zero]
      exact e2
def lostR (l : List RU) (demand : Int) : Int := mx 0 (demand - sumP (partB l))
theorem rbest_in {l : List RU} (h : Fit l) {demand need : Int} (h0 : 0 ≤ demand) (h1 : demand ≤ 1000000) (h2 : 0 ≤ need) (h3 : need ≤ 1000000) :
    ((need > roomA l ∨ lostR l demand > roomA l - need) ∧ Ev (fun k => qaj.f k l demand need) ([], 0, 8)) ∨
    (¬ (need > roomA l ∨ lostR l demand > roomA l - need) ∧ EvP (fun k => qaj.f k l demand need) (fun r => ∃ b a, Ended (partB l) (partA l) demand (roomA l - need) b a ∧ r = (outOf l b a, costA (offersOf l) (outOf l b a), 0))) := by
  have hB := h.B; have hA := h.A; have hsum := h.sumA; have nB := sumP_nonneg hB.ok
  have nA := sumP_nonneg hA.ok
  have lB := hB.len; have lA := hA.len; have hlen := h.len; obtain ⟨tb1, tb2, tb3⟩ := takeP_use (n := l.length) (partB l) (demand - lostR l demand) hB.ok (by unfold lostR; have := mx_ge 0 (demand - sumP (partB l)); omega)
  obtain ⟨ta1, ta2, ta3⟩ := takeP_use (n := l.length) (partA l) (lostR l demand) hA.ok (by unfold lostR; have := mx_ge 0 (demand - sumP (partB l)); omega)
  have hm := mx_ge 0 (demand - sumP (partB l))
  have hlost : lostR l demand = mx 0 (demand - sumP (partB l)) := rfl
  have m1 := mn_le (demand - lostR l demand) (sumP (partB l))
  have m2 := mn_le (lostR l demand) (sumP (partA l))
  have top : ∀ {r : List Int × Int × Int}, Ev (fun k => qaj.j0 k l demand need (roomA l) false) r → Ev (fun k => qaj.f k l demand need) r := by
    intro r hr; unfold qaj.f
    refine Ev.bind (possible_ev h) (Ev.pos rfl (Ev.neg (by omega) (Ev.neg (by omega) (Ev.neg (by omega) ?_))))
    rw [decide_eq_false (by omega)]; exact hr
  have mid : ∀ {r : List Int × Int × Int}, (∀ bb : Bool, (bb = true ↔ (need > roomA l ∨ lostR l demand > roomA l - need)) → Ev (fun k => qaj.j1 k l demand need (roomA l) (partB l) (partA l) (lostR l demand) bb) r) → Ev (fun k => qaj.j0 k l demand need (roomA l) false) r := by
    intro r hr; refine Ev.step (fun k => by rw [qaj.j0]) (Ev.neg (by simp) (Ev.bind (parts_ev h) (Ev.bind (total_ev hB) ?_)))
    have w1 : wrap64 (demand - sumP (partB l)) = demand - sumP (partB l) := w64 (by omega) (by omega)
    have w2 : wrap64 (roomA l - need) = roomA l - need := w64 (by omega) (by omega)
    show Ev (fun k => if need > roomA l then qaj.j1 k l demand need (roomA l) (partB l) (partA l) (mx 0 (wrap64 (demand - sumP (partB l)))) true else qaj.j1 k l demand need (roomA l) (partB l) (partA l) (mx 0 (wrap64 (demand - sumP (partB l)))) (decide (mx 0 (wrap64 (demand - sumP (partB l))) > wrap64 (roomA l - need)))) r
    rw [w1, w2]; exact Ev.ite (fun hh => hr true (by simp; exact Or.inl hh)) (fun hh => hr _ (by rw [decide_eq_true_iff]; exact ⟨Or.inr, fun q => q.resolve_left hh⟩))
  by_cases hno : need > roomA l ∨ lostR l demand > roomA l - need
  · refine Or.inl ⟨hno, top (mid (fun bb hbb => ?_))⟩
    rw [hbb.2 hno]; exact Ev.step (fun k => by rw [qaj.j1]) (Ev.pos rfl (Ev.now _))
  · refine Or.inr ⟨hno, ?_⟩
    have hsw : Swap (partB l) (partA l) demand (roomA l - need) (takeP (partB l) (demand - lostR l demand)) (takeP (partA l) (lostR l demand)) := by
      refine ⟨tb1, ta1, fun x y hx hy g1 g2 => ?_, by rw [tb2, ta2]; omega, by rw [ta2]; omega⟩
      by_cases e : lostR l demand = 0
      · have := ta3 e x; omega
      · have := (all_full _ _ tb1.len (fun j hj => (tb1.rng j hj).2)).2 (by rw [tb2]; omega) y hy
        omega
    obtain ⟨ba, hba, hend⟩ := better_ev hB hA hsw (most := roomA l - need - lostR l demand) (by rw [ta2]; omega) (by omega)
    refine ⟨_, top (mid (fun bb hbb => ?_)), ba.1, ba.2, hend, rfl⟩
    have hbf : bb = false := by
      cases bb with
      | false => rfl
      | true => exact absurd (hbb.1 rfl) hno
    rw [hbf]; refine Ev.step (fun k => by rw [qaj.j1]) (Ev.neg (by simp) ?_)
    have w3 : wrap64 (demand - lostR l demand) = demand - lostR l demand := w64 (by omega) (by omega)
    have w4 : wrap64 (wrap64 (roomA l - need) - lostR l demand) = roomA l - need - lostR l demand := by rw [w64 (x := roomA l - need) (by omega) (by omega), w64 (by omega) (by omega)]
    rw [w3, w4]; refine Ev.bind (taken_ev hB (by omega) (by omega)) (Ev.bind (taken_ev hA (by omega) (by omega)) (Ev.bind hba (Ev.pos (by omega) (Ev.pos (by simp; omega) ?_))))
    have := best_out h hend.sw.ub hend.sw.ua (by have := hend.sw.sum; omega)
    rw [show ((l.length : Int)).toNat = l.length by omega]; exact this
theorem rbest_range {l : List RU} (h : Fit l) {demand need : Int} (hr : ¬ (0 ≤ demand ∧ demand ≤ 1000000 ∧ 0 ≤ need ∧ need ≤ 1000000)) : Ev (fun k => qaj.f k l demand need) ([], 0, 4) := by
  have j0 : ∀ bb : Bool, bb = true → Ev (fun k => qaj.j0 k l demand need (roomA l) bb) ([], 0, 4) := fun bb hb => Ev.step (fun k => by rw [qaj.j0]) (Ev.pos hb (Ev.now _))
  unfold qaj.f
  refine Ev.bind (possible_ev h) (Ev.pos rfl (Ev.ite (fun _ => j0 _ rfl) (fun _ => Ev.ite (fun _ => j0 _ rfl) (fun _ => Ev.ite (fun _ => j0 _ rfl) (fun _ => j0 _ (decide_eq_true (by omega)))))))
theorem rbest_bad {l : List RU} {e : Int} (h : Ev (fun k => qaF.f k l) e) (he : e ≠ 0) (demand need : Int) : Ev (fun k => qaj.f k l demand need) ([], 0, e) := by
  unfold qaj.f
  exact Ev.bind (possible_bad h he) (Ev.neg he (Ev.now _))
end Go.Proofs.Ytfcifmbddikflaa.P
namespace Go.Proofs.Ytfcifmbddikflaa.P
set_option linter.unusedVariables false
set_option linter.unusedSimpArgs false
open Go.RowKit Go.Proofs.YtfcifmbddikflaaW.PrintWords Go.Proofs.YtfcifmbddikflaaW.PrintMore Go.Proofs.Ytfcifmbddikflaa.Opn Go.Proofs.Ytfcifmbddikflaa.Evp
theorem greatest_of : ∀ xs : List Int, xs = [] ∨ ∃ m ∈ xs, ∀ x ∈ xs, x ≤ m
  | [] => Or.inl rfl
  | x :: xs => by
    refine Or.inr ?_
    rcases greatest_of xs with rfl | ⟨m, hm, h⟩
    · exact ⟨x, by simp, fun y hy => by rw [List.mem_singleton] at hy; omega⟩
    · by_cases e : x ≤ m
      · exact ⟨m, List.mem_cons_of_mem _ hm, fun y hy => by
          rcases List.mem_cons.1 hy with rfl | hy
          · exact e
          · exact h y hy⟩
      · exact ⟨x, List.mem_cons_self, fun y hy => by
          rcases List.mem_cons.1 hy with rfl | hy
          · exact Int.le_refl _
          · have := h y hy; omega⟩
def usedP (L : List Part) (v : List Int) : List Int := ((List.range L.length).filter (fun j => decide (0 < gI v j))).map (fun j => (gP L j).f2)
theorem qbK {L : List Part} {v : List Int} {q : Int} : q ∈ usedP L v ↔ ∃ j, j < L.length ∧ 0 < gI v j ∧ (gP L j).f2 = q := by
  unfold usedP
  simp only [List.mem_map, List.mem_filter, List.mem_range, decide_eq_true_eq]
  constructor
  · rintro ⟨j, ⟨h1, h2⟩, h3⟩; exact ⟨j, h1, h2, h3⟩
  · rintro ⟨j, h1, h2, h3⟩; exact ⟨j, ⟨h1, h2⟩, h3⟩
theorem use_self {n : Int} {L : List Part} (hL : Parts n L) {v : List Int} (h : Use L v) {x y : Nat} (hx : x < L.length) (hy : y < L.length) (h1 : 0 < gI v x) (h2 : gI v y < (gP L y).f1) : (gP L x).f2 ≤ (gP L y).f2 := by
  by_cases e : x ≤ y
  · exact up_le hL e hy
  · have := h.grd y x (by omega) hx h1
    omega
def AtPrice (p : Int) (L : List Part) (v : List Int) : Prop := ∀ j, j < L.length → ((gP L j).f2 < p → gI v j = (gP L j).f1) ∧ (p < (gP L j).f2 → gI v j = 0)
theorem at_price {n : Int} {B A : List Part} (hB : Parts n B) (hA : Parts n A) {D cap : Int} {b a : List Int} (h : Swap B A D cap b a) (c1 : ∀ x y, x < B.length → y < A.length → 0 < gI b x → gI a y < (gP A y).f1 → (gP B x).f2 ≤ (gP A y).f2) : ∃ p, AtPrice p B b ∧ AtPrice p A a := by
  rcases greatest_of (usedP B b ++ usedP A a) with h0 | ⟨p, hp, hmax⟩
  · have z : ∀ q, q ∉ usedP B b ++ usedP A a := fun q hq => by rw [h0] at hq; cases hq
    refine ⟨-2000000, fun j hj => ?_, fun j hj => ?_⟩
    · have o := gP_ok hB hj
      have r := h.ub.rng j hj
      unfold PartOk at o
      refine ⟨fun _ => by omega, fun _ => ?_⟩
      by_cases e : 0 < gI b j
      · exact absurd (List.mem_append_left _ (qbK.2 ⟨j, hj, e, rfl⟩)) (z _)
      · omega
    · have o := gP_ok hA hj
      have r := h.ua.rng j hj
      unfold PartOk at o
      refine ⟨fun _ => by omega, fun _ => ?_⟩
      by_cases e : 0 < gI a j
      · exact absurd (List.mem_append_right _ (qbK.2 ⟨j, hj, e, rfl⟩)) (z _)
      · omega
  · refine ⟨p, fun j hj => ?_, fun j hj => ?_⟩
    · have r := h.ub.rng j hj
      refine ⟨fun hlt => ?_, fun hgt => ?_⟩
      · by_cases e : gI b j < (gP B j).f1
        · rcases List.mem_append.1 hp with hp | hp
          · obtain ⟨x, hx, h1, h2⟩ := qbK.1 hp
            have := use_self hB h.ub hx hj h1 e; omega
          · obtain ⟨x, hx, h1, h2⟩ := qbK.1 hp
            have := h.c2 x j hx hj h1 e; omega
        · omega
      · by_cases e : 0 < gI b j
        · have := hmax _ (List.mem_append_left _ (qbK.2 ⟨j, hj, e, rfl⟩)); omega
        · omega
    · have r := h.ua.rng j hj
      refine ⟨fun hlt => ?_, fun hgt => ?_⟩
      · by_cases e : gI a j < (gP A j).f1
        · rcases List.mem_append.1 hp with hp | hp
          · obtain ⟨x, hx, h1, h2⟩ := qbK.1 hp
            have := c1 x j hx hj h1 e; omega
          · obtain ⟨x, hx, h1, h2⟩ := qbK.1 hp
            have := use_self hA h.ua hx hj h1 e; omega
        · omega
      · by_cases e : 0 < gI a j
        · have := hmax _ (List.mem_append_right _ (qbK.2 ⟨j, hj, e, rfl⟩)); omega
        · omega
end Go.Proofs.Ytfcifmbddikflaa.P
namespace Go.Proofs.Ytfcifmbddikflaa.P
set_option linter.unusedVariables false
set_option linter.unusedSimpArgs false
open Go.RowKit Go.Proofs.YtfcifmbddikflaaW.PrintWords Go.Proofs.YtfcifmbddikflaaW.PrintMore Go.Proofs.Ytfcifmbddikflaa.Opn Go.Proofs.Ytfcifmbddikflaa.Evp
def gainS (q : Int) : List OStep → Int
  | [] => 0
  | s :: r => (if s.f1 < q then (q - s.f1) * s.f0 else 0) + gainS q r
theorem mul_pos_le {d v f : Int} (hd : 0 ≤ d) (h : v ≤ f) : d * v ≤ d * f := Int.mul_le_mul_of_nonneg_left h hd
theorem mul_neg_le {d v : Int} (hd : d ≤ 0) (h : 0 ≤ v) : d * v ≤ 0 := Int.mul_nonpos_of_nonpos_of_nonneg hd h
theorem part_le {q p v f : Int} (h0 : 0 ≤ v) (h1 : v ≤ f) : q * v - (if p < q then (q - p) * f else 0) ≤ p * v := by
  have e : (q - p) * v = q * v - p * v := Int.sub_mul ..
  split
  · have := mul_pos_le (d := q - p) (by omega) h1
    omega
  · have := mul_neg_le (d := q - p) (by omega) h0
    omega
theorem part_eq {q p v f : Int} (h0 : 0 ≤ v) (h1 : v ≤ f) (h2 : p < q → v = f) (h3 : q < p → v = 0) : q * v - (if p < q then (q - p) * f else 0) = p * v := by
  have e : (q - p) * v = q * v - p * v := Int.sub_mul ..
  split
  · rw [← h2 (by omega), e]; omega
  · by_cases hp : q < p
    · rw [h3 hp]; simp
    · have : p = q := by omega
      subst this; omega
theorem costO_ge (q : Int) : ∀ {st : List OStep} {x : Int}, RangeO st → 0 ≤ x → q * x - gainS q st ≤ costO st x + q * (x - mn x (sumO st))
  | [], x, _, h0 => by
    have : mn x (sumO []) = 0 := by have := mn_le x (sumO []); simp only [sumO] at this ⊢; omega
    rw [this]; simp only [gainS, costO]
    simp
  | s :: r, x, hr, h0 => by
    have hs := hr s List.mem_cons_self
    have hm := mn_le x s.f0
    have ih := costO_ge q (st := r) (x := x - mn x s.f0) hr.tail (by omega)
    have hn := sumO_nonneg hr.tail
    have m1 := mn_le (x - mn x s.f0) (sumO r)
    have m2 := mn_le x (s.f0 + sumO r)
    have e1 : x - mn x s.f0 - mn (x - mn x s.f0) (sumO r) = x - mn x (s.f0 + sumO r) := by omega
    rw [e1] at ih; have hp := part_le (q := q) (p := s.f1) (v := mn x s.f0) (f := s.f0) (by omega) (by omega)
    have e2 : q * (x - mn x s.f0) = q * x - q * mn x s.f0 := Int.mul_sub ..
    have e3 : mn x s.f0 * s.f1 = s.f1 * mn x s.f0 := Int.mul_comm ..
    simp only [gainS, costO, sumO]
    omega
theorem costO_at (q : Int) : ∀ {st : List OStep} {x : Int}, RangeO st → Rising st → lowO st q ≤ x → x ≤ highO st q → costO st x = q * x - gainS q st
  | [], x, _, _, h0, h1 => by
    simp only [lowO, highO] at h0 h1
    have : x = 0 := by omega
    subst this; simp [gainS, costO]
  | s :: r, x, hr, hri, h0, h1 => by
    have hs := hr s List.mem_cons_self
    have hb := lowO_bounds (p := q) hr.tail
    have hm := mn_le x s.f0
    simp only [lowO, highO] at h0 h1
    have e2 : q * (x - mn x s.f0) = q * x - q * mn x s.f0 := Int.mul_sub ..
    have e3 : mn x s.f0 * s.f1 = s.f1 * mn x s.f0 := Int.mul_comm ..
    simp only [gainS, costO]
    by_cases c1 : s.f1 < q
    · rw [if_pos c1] at h0 ⊢
      rw [if_pos (by omega)] at h1; have ih := costO_at q (st := r) (x := x - mn x s.f0) hr.tail hri.2 (by omega) (by omega)
      have hp := part_eq (q := q) (p := s.f1) (v := mn x s.f0) (f := s.f0) (by omega) (by omega) (fun _ => by omega) (fun h => by omega)
      rw [if_pos c1] at hp; omega
    · rw [if_neg c1] at h0 ⊢
      have hz : lowO r q = 0 := lowO_zero (fun t ht => by have := hri.1 t ht; omega)
      by_cases c2 : s.f1 ≤ q
      · rw [if_pos c2] at h1; have ih := costO_at q (st := r) (x := x - mn x s.f0) hr.tail hri.2 (by omega) (by omega)
        have : s.f1 = q := by omega
        rw [this] at e3 ⊢
        omega
      · rw [if_neg c2] at h1; have hz2 : highO r q = 0 := highO_zero (fun t ht => by have := hri.1 t ht; omega)
        have x0 : x = 0 := by omega
        have ih := costO_at q (st := r) (x := x - mn x s.f0) hr.tail hri.2 (by omega) (by omega)
        have m0 : mn x s.f0 = 0 := by omega
        rw [m0] at ih e2 e3 ⊢
        omega
theorem price_at : ∀ {st : List OStep} {x : Int}, RangeO st → Rising st → 0 ≤ x → x ≤ sumO st → ∃ q, lowO st q ≤ x ∧ x ≤ highO st q
  | [], x, _, _, h0, h1 => ⟨0, by simp only [lowO]; omega, by simp only [highO, sumO] at *; omega⟩
  | s :: r, x, hr, hri, h0, h1 => by
    have hs := hr s List.mem_cons_self
    simp only [sumO] at h1
    by_cases c : x ≤ s.f0
    · refine ⟨s.f1, ?_, ?_⟩
      · simp only [lowO]
        rw [if_neg (by omega), lowO_zero (fun t ht => hri.1 t ht)]; omega
      · have hb := lowO_bounds (p := s.f1) hr.tail
        simp only [highO]
        rw [if_pos (by omega)]; omega
    · obtain ⟨q, h2, h3⟩ := price_at (st := r) (x := x - s.f0) hr.tail hri.2 (by omega) (by omega)
      have hq : s.f1 ≤ q := by
        refine Classical.byContradiction fun hn => ?_
        have := highO_zero (p := q) (st := r) (fun t ht => by have := hri.1 t ht; omega)
        omega
      refine ⟨q, ?_, ?_⟩
      · simp only [lowO]
        split <;> omega
      · simp only [highO]
        rw [if_pos hq]; omega
def costU (u : Int) : List Part → List Int → Int
  | p :: P, v :: V => (if p.f0 = u then p.f2 * v else 0) + costU u P V
  | _, _ => 0
def gainU (u q : Int) : List Part → Int
  | [] => 0
  | p :: r => (if p.f0 = u then (if p.f2 < q then (q - p.f2) * p.f1 else 0) else 0) + gainU u q r
theorem gainU_append (u q : Int) : ∀ (a b : List Part), gainU u q (a ++ b) = gainU u q a + gainU u q b
  | [], b => by simp [gainU]
  | p :: a, b => by simp only [List.cons_append, gainU, gainU_append u q a b]; omega
theorem gainU_perm (u q : Int) {a b : List Part} (h : a.Perm b) : gainU u q a = gainU u q b := by
  induction h with
  | nil => rfl
  | cons x _ ih => simp only [gainU, ih]
  | swap x y l => simp only [gainU]; omega
  | trans _ _ h1 h2 => rw [h1, h2]
theorem costU_ge (u q : Int) : ∀ (L : List Part) (v : List Int), v.length = L.length → (∀ j, j < L.length → 0 ≤ gI v j ∧ gI v j ≤ (gP L j).f1) → q * sumU u L v - gainU u q L ≤ costU u L v
  | [], v, _, _ => by simp [sumU, gainU, costU]
  | p :: L, x :: v, hl, h => by
    have h0 := h 0 (by simp)
    have ih := costU_ge u q L v (by simpa using hl) (fun j hj => by have := h (j + 1) (by simpa using hj); simpa [gI, gP] using this)
    simp only [gI, gP, List.getD_cons_zero] at h0
    have hp := part_le (q := q) (p := p.f2) h0.1 h0.2
    simp only [sumU, gainU, costU]
    by_cases e : p.f0 = u
    · simp only [if_pos e]
      have : q * (x + sumU u L v) = q * x + q * sumU u L v := Int.mul_add ..
      omega
    · simp only [if_neg e, Int.zero_add]
      exact ih
  | _ :: _, [], hl, _ => by simp at hl
def AtU (u q : Int) (L : List Part) (v : List Int) : Prop := ∀ j, j < L.length → (gP L j).f0 = u → ((gP L j).f2 < q → gI v j = (gP L j).f1) ∧ (q < (gP L j).f2 → gI v j = 0)
theorem costU_at (u q : Int) : ∀ (L : List Part) (v : List Int), v.length = L.length → (∀ j, j < L.length → 0 ≤ gI v j ∧ gI v j ≤ (gP L j).f1) → AtU u q L v → q * sumU u L v - gainU u q L = costU u L v
  | [], v, _, _, _ => by simp [sumU, gainU, costU]
  | p :: L, x :: v, hl, h, ha => by
    have h0 := h 0 (by simp)
    have a0 := ha 0 (by simp)
    have ih := costU_at u q L v (by simpa using hl) (fun j hj => by have := h (j + 1) (by simpa using hj); simpa [gI, gP] using this) (fun j hj => by have := ha (j + 1) (by simpa using hj); simpa [gI, gP] using this)
    simp only [gI, gP, List.getD_cons_zero] at h0 a0
    simp only [sumU, gainU, costU]
    by_cases e : p.f0 = u
    · have hp := part_eq (q := q) (p := p.f2) h0.1 h0.2 (a0 e).1 (a0 e).2
      simp only [if_pos e]
      have : q * (x + sumU u L v) = q * x + q * sumU u L v := Int.mul_add ..
      omega
    · simp only [if_neg e, Int.zero_add]
      exact ih
  | _ :: _, [], hl, _, _ => by simp at hl
theorem step_gain (i u q : Int) : ∀ (st : List OStep) (knee : Int), 0 ≤ knee → RangeO st → gainU u q (stepB i knee st) + gainU u q (stepA i knee st) = if i = u then gainS q st else 0
  | [], knee, _, _ => by simp [stepB, stepA, gainU, gainS]
  | s :: r, knee, hk, hr => by
    have hs := hr s List.mem_cons_self
    have hm := mn_le knee s.f0
    have ih := step_gain i u q r (knee - mn knee s.f0) (by omega) hr.tail
    simp only [stepB, stepA, gainU_append, gainS]
    by_cases e : i = u
    · simp only [if_pos e] at ih ⊢
      have q1 : gainU u q (if mn knee s.f0 > 0 then [⟨i, mn knee s.f0, s.f1⟩] else []) = if s.f1 < q then (q - s.f1) * mn knee s.f0 else 0 := by
        by_cases c : mn knee s.f0 > 0
        · rw [if_pos c]; simp only [gainU, if_pos e]; omega
        · rw [if_neg c, show mn knee s.f0 = 0 by omega]; simp [gainU]
      have q2 : gainU u q (if mn knee s.f0 < s.f0 then [⟨i, s.f0 - mn knee s.f0, s.f1⟩] else []) = if s.f1 < q then (q - s.f1) * (s.f0 - mn knee s.f0) else 0 := by
        by_cases c : mn knee s.f0 < s.f0
        · rw [if_pos c]; simp only [gainU, if_pos e]; omega
        · rw [if_neg c, show s.f0 - mn knee s.f0 = 0 by omega]; simp [gainU]
      have e1 : (q - s.f1) * (s.f0 - mn knee s.f0) = (q - s.f1) * s.f0 - (q - s.f1) * mn knee s.f0 := Int.mul_sub ..
      rw [q1, q2]; split <;> omega
    · simp only [if_neg e] at ih ⊢
      have q1 : gainU u q (if mn knee s.f0 > 0 then [⟨i, mn knee s.f0, s.f1⟩] else []) = 0 := by
        split
        · simp only [gainU, if_neg e]; omega
        ·rfl
      have q2 : gainU u q (if mn knee s.f0 < s.f0 then [⟨i, s.f0 - mn knee s.f0, s.f1⟩] else []) = 0 := by
        split
        · simp only [gainU, if_neg e]; omega
        ·rfl
      rw [q1, q2]; omega
theorem unit_gain (q : Int) (u : Int) : ∀ (l : List RU) (i : Int), (∀ v ∈ l, RangeO v.f0.f1 ∧ 0 ≤ roomU v ∧ roomU v ≤ sumO v.f0.f1) → gainU u q (unitB i l) + gainU u q (unitA i l) = if i ≤ u ∧ u < i + l.length then gainS q (l.getD (u - i).toNat z32).f0.f1 else 0
  | [], i, _ => by
    rw [if_neg (by simp)]; simp [unitA, unitB, gainU]
  | v :: r, i, h => by
    have ih := unit_gain q u r (i + 1) (fun w hw => h w (List.mem_cons_of_mem _ hw))
    have hv := h v List.mem_cons_self
    have hs := step_gain i u q v.f0.f1 (sumO v.f0.f1 - roomU v) (by omega) hv.1
    simp only [unitA, unitB, gainU_append, List.length_cons]
    by_cases e : i = u
    · rw [if_pos e] at hs; rw [if_neg (by omega)] at ih; rw [if_pos (by omega)]; rw [show (u - i).toNat = 0 by omega]; simp only [List.getD_cons_zero]
      omega
    · rw [if_neg e] at hs; by_cases hin : i + 1 ≤ u ∧ u < i + 1 + r.length
      · rw [if_pos hin] at ih; rw [if_pos (by omega), show (u - i).toNat = (u - (i + 1)).toNat + 1 by omega]; simp only [List.getD_cons_succ]
        omega
      · rw [if_neg hin] at ih; rw [if_neg (by omega)]; omega
theorem Fit.gain {l : List RU} (h : Fit l) (q : Int) (u : Nat) (hu : u < l.length) : gainU u q (partB l) + gainU u q (partA l) = gainS q (l.getD u z32).f0.f1 := by
  unfold partA partB
  rw [gainU_perm _ _ (Srt.qbu ltP_swo _), gainU_perm _ _ (Srt.qbu ltP_swo _), unit_gain q u l 0 h.units, if_pos (by omega)]; congr 4
theorem step_unit (i : Int) : ∀ (st : List OStep) (knee : Int), (∀ p ∈ stepB i knee st, p.f0 = i ∧ ∃ s ∈ st, p.f2 = s.f1) ∧ (∀ p ∈ stepA i knee st, p.f0 = i ∧ ∃ s ∈ st, p.f2 = s.f1)
  | [], knee => ⟨fun p hp => by simp [stepB] at hp, fun p hp => by simp [stepA] at hp⟩
  | s :: r, knee => by
    have ih := step_unit i r (knee - mn knee s.f0)
    constructor
    · intro p hp; simp only [stepB] at hp
      rcases List.mem_append.1 hp with hp | hp
      · split at hp
        · rw [List.mem_singleton] at hp; subst hp; exact ⟨rfl, s, List.mem_cons_self, rfl⟩
        · cases hp
      · obtain ⟨h1, t, ht, h2⟩ := ih.1 p hp
        exact ⟨h1, t, List.mem_cons_of_mem _ ht, h2⟩
    · intro p hp; simp only [stepA] at hp
      rcases List.mem_append.1 hp with hp | hp
      · split at hp
        · rw [List.mem_singleton] at hp; subst hp; exact ⟨rfl, s, List.mem_cons_self, rfl⟩
        · cases hp
      · obtain ⟨h1, t, ht, h2⟩ := ih.2 p hp
        exact ⟨h1, t, List.mem_cons_of_mem _ ht, h2⟩
theorem stepB_none (i : Int) : ∀ (st : List OStep), RangeO st → stepB i 0 st = []
  | [], _ => rfl
  | s :: r, hr => by
    have hs := hr s List.mem_cons_self
    have hm := mn_le 0 s.f0
    have m0 : mn 0 s.f0 = 0 := by omega
    simp only [stepB, m0]
    rw [if_neg (by omega), show (0 : Int) - 0 = 0 by omega, stepB_none i r hr.tail]; rfl
theorem step_order (i : Int) : ∀ (st : List OStep) (knee : Int), 0 ≤ knee → RangeO st → Rising st → ∀ p ∈ stepB i knee st, ∀ r ∈ stepA i knee st, p.f2 ≤ r.f2
  | [], knee, _, _, _ => fun p hp => by simp [stepB] at hp
  | s :: st, knee, hk, hr, hri => by
    have hs := hr s List.mem_cons_self
    have hm := mn_le knee s.f0
    have ih := step_order i st (knee - mn knee s.f0) (by omega) hr.tail hri.2
    intro p hp r hra; simp only [stepB] at hp
    simp only [stepA] at hra
    rcases List.mem_append.1 hra with hra | hra
    · split at hra
      · rename_i hlt
        rw [List.mem_singleton] at hra; subst hra; have : knee - mn knee s.f0 = 0 := by omega
        rw [this, stepB_none i st hr.tail, List.append_nil] at hp; split at hp
        · rw [List.mem_singleton] at hp; subst hp; exact Int.le_refl _
        · cases hp
      · cases hra
    · rcases List.mem_append.1 hp with hp | hp
      · split at hp
        · rw [List.mem_singleton] at hp; subst hp; obtain ⟨_, t, ht, e⟩ := (step_unit i st (knee - mn knee s.f0)).2 r hra
          have := hri.1 t ht
          dsimp only
          omega
        · cases hp
      · exact ih p hp r hra
theorem unit_order : ∀ (l : List RU) (i : Int), (∀ v ∈ l, RangeO v.f0.f1 ∧ Rising v.f0.f1 ∧ 0 ≤ sumO v.f0.f1 - roomU v) → ∀ p ∈ unitB i l, ∀ r ∈ unitA i l, (i ≤ p.f0 ∧ i ≤ r.f0) ∧ (p.f0 = r.f0 → p.f2 ≤ r.f2)
  | [], i, _ => fun p hp => by simp [unitB] at hp
  | v :: l, i, h => by
    have hv := h v List.mem_cons_self
    have ih := unit_order l (i + 1) (fun w hw => h w (List.mem_cons_of_mem _ hw))
    have hi : ∀ (m : List RU) (i : Int), (∀ p ∈ unitB i m, i ≤ p.f0) ∧ (∀ p ∈ unitA i m, i ≤ p.f0) := by
      intro m; induction m with
      | nil => intro i; exact ⟨fun p hp => by simp [unitB] at hp, fun p hp => by simp [unitA] at hp⟩
      | cons w m ihm =>
        intro i; have := ihm (i + 1)
        constructor
        · intro p hp; simp only [unitB] at hp
          rcases List.mem_append.1 hp with hp | hp
          · have := ((step_unit i _ _).1 p hp).1; omega
          · have := this.1 p hp; omega
        · intro p hp; simp only [unitA] at hp
          rcases List.mem_append.1 hp with hp | hp
          · have := ((step_unit i _ _).2 p hp).1; omega
          · have := this.2 p hp; omega
    have ho := step_order i v.f0.f1 (sumO v.f0.f1 - roomU v) hv.2.2 hv.1 hv.2.1
    intro p hp r hr; refine ⟨⟨(hi _ _).1 p hp, (hi _ _).2 r hr⟩, fun e => ?_⟩
    simp only [unitB] at hp
    simp only [unitA] at hr
    rcases List.mem_append.1 hp with hp | hp
    · rcases List.mem_append.1 hr with hr | hr
      · exact ho p hp r hr
      · have h1 := ((step_unit i _ _).1 p hp).1
        have h2 := (hi l (i + 1)).2 r hr
        omega
    · rcases List.mem_append.1 hr with hr | hr
      · have h1 := ((step_unit i _ _).2 r hr).1
        have h2 := (hi l (i + 1)).1 p hp
        omega
      · exact (ih p hp r hr).2 e
theorem gP_mem {L : List Part} {j : Nat} (h : j < L.length) : gP L j ∈ L := by
  unfold gP
  rw [List.getD_eq_getElem?_getD, List.getElem?_eq_getElem h]; exact List.getElem_mem _
theorem Fit.order {l : List RU} (h : Fit l) {x y : Nat} (hx : x < (partB l).length) (hy : y < (partA l).length) (e : (gP (partB l) x).f0 = (gP (partA l) y).f0) : (gP (partB l) x).f2 ≤ (gP (partA l) y).f2 := by
  have h1 := (Srt.qbu ltP_swo _).mem_iff.1 (gP_mem hx)
  have h2 := (Srt.qbu ltP_swo _).mem_iff.1 (gP_mem hy)
  exact (unit_order l 0 (fun v hv => ⟨(h.valid hv).range, (h.valid hv).rising, by have := (room_bound h hv); omega⟩) _ h1 _ h2).2 e
end Go.Proofs.Ytfcifmbddikflaa.P
namespace Go.Proofs.Ytfcifmbddikflaa.P
set_option linter.unusedVariables false
set_option linter.unusedSimpArgs false
open Go.RowKit Go.Proofs.YtfcifmbddikflaaW.PrintWords Go.Proofs.YtfcifmbddikflaaW.PrintMore Go.Proofs.Ytfcifmbddikflaa.Opn Go.Proofs.Ytfcifmbddikflaa.Evp
theorem least_of (xs : List Int) : xs = [] ∨ ∃ m ∈ xs, ∀ x ∈ xs, m ≤ x := by
  rcases greatest_of (xs.map (fun x => -x)) with h | ⟨m, hm, h⟩
  · left
    simpa using h
  · right
    obtain ⟨y, hy, rfl⟩ := List.mem_map.1 hm
    refine ⟨y, hy, fun x hx => ?_⟩
    have := h (-x) (List.mem_map_of_mem (f := fun x => -x) hx)
    omega
def openP (L : List Part) (v : List Int) : List Int := ((List.range L.length).filter (fun j => decide (gI v j < (gP L j).f1))).map (fun j => (gP L j).f2)
theorem mem_openP {L : List Part} {v : List Int} {q : Int} : q ∈ openP L v ↔ ∃ j, j < L.length ∧ gI v j < (gP L j).f1 ∧ (gP L j).f2 = q := by
  unfold openP
  simp only [List.mem_map, List.mem_filter, List.mem_range, decide_eq_true_eq]
  constructor
  · rintro ⟨j, ⟨h1, h2⟩, h3⟩; exact ⟨j, h1, h2, h3⟩
  · rintro ⟨j, h1, h2, h3⟩; exact ⟨j, ⟨h1, h2⟩, h3⟩
theorem two_prices {n : Int} {B A : List Part} (hB : Parts n B) (hA : Parts n A) {D cap : Int} {b a : List Int} (h : Swap B A D cap b a) : ∃ pa pb, pa ≤ pb ∧ AtPrice pb B b ∧ AtPrice pa A a := by
  have hb : ∃ pb, AtPrice pb B b ∧ pb ≤ 2000000 ∧ (pb = 2000000 ∨ pb ∈ openP B b) := by
    rcases least_of (openP B b) with h0 | ⟨pb, hp, hmin⟩
    · refine ⟨2000000, fun j hj => ?_, by omega, Or.inl rfl⟩
      have o := gP_ok hB hj
      have r := h.ub.rng j hj
      unfold PartOk at o
      refine ⟨fun _ => ?_, fun _ => by omega⟩
      by_cases e : gI b j < (gP B j).f1
      · have : (gP B j).f2 ∈ openP B b := mem_openP.2 ⟨j, hj, e, rfl⟩
        rw [h0] at this; cases this
      · omega
    · obtain ⟨y, hy, hy1, hy2⟩ := mem_openP.1 hp
      have oy := gP_ok hB hy
      unfold PartOk at oy
      refine ⟨pb, fun j hj => ?_, by omega, Or.inr hp⟩
      have r := h.ub.rng j hj
      refine ⟨fun hlt => ?_, fun hgt => ?_⟩
      · by_cases e : gI b j < (gP B j).f1
        · have := hmin _ (mem_openP.2 ⟨j, hj, e, rfl⟩); omega
        · omega
      · by_cases e : 0 < gI b j
        · have := use_self hB h.ub hj hy e hy1; omega
        · omega
  have ha : ∃ pa, AtPrice pa A a ∧ (pa = -2000000 ∨ pa ∈ usedP A a) := by
    rcases greatest_of (usedP A a) with h0 | ⟨pa, hp, hmax⟩
    · refine ⟨-2000000, fun j hj => ?_, Or.inl rfl⟩
      have o := gP_ok hA hj
      have r := h.ua.rng j hj
      unfold PartOk at o
      refine ⟨fun _ => by omega, fun _ => ?_⟩
      by_cases e : 0 < gI a j
      · have : (gP A j).f2 ∈ usedP A a := qbK.2 ⟨j, hj, e, rfl⟩
        rw [h0] at this; cases this
      · omega
    · obtain ⟨x, hx, hx1, hx2⟩ := qbK.1 hp
      refine ⟨pa, fun j hj => ?_, Or.inr hp⟩
      have r := h.ua.rng j hj
      refine ⟨fun hlt => ?_, fun hgt => ?_⟩
      · by_cases e : gI a j < (gP A j).f1
        · have := use_self hA h.ua hx hj hx1 e; omega
        · omega
      · by_cases e : 0 < gI a j
        · have := hmax _ (qbK.2 ⟨j, hj, e, rfl⟩); omega
        · omega
  obtain ⟨pb, hb1, hb2, hb3⟩ := hb
  obtain ⟨pa, ha1, ha2⟩ := ha
  refine ⟨pa, pb, ?_, hb1, ha1⟩
  rcases ha2 with rfl | ha2
  · rcases hb3 with rfl | hb3
    · omega
    · obtain ⟨y, hy, _, hy2⟩ := mem_openP.1 hb3
      have oy := gP_ok hB hy
      unfold PartOk at oy
      omega
  · obtain ⟨x, hx, hx1, hx2⟩ := qbK.1 ha2
    have ox := gP_ok hA hx
    unfold PartOk at ox
    rcases hb3 with rfl | hb3
    · omega
    · obtain ⟨y, hy, hy1, hy2⟩ := mem_openP.1 hb3
      have := h.c2 x y hx hy hx1 hy1
      omega
theorem unit_price {l : List RU} (h : Fit l) {D cap : Int} {b a : List Int} (hs : Swap (partB l) (partA l) D cap b a) (u : Int) : ∃ q, AtU u q (partB l) b ∧ AtU u q (partA l) a := by
  obtain ⟨pa, pb, hle, h1, h2⟩ := two_prices h.B h.A hs
  by_cases hall : ∀ j, j < (partA l).length → (gP (partA l) j).f0 = u → pb ≤ (gP (partA l) j).f2
  · refine ⟨pb, fun j hj _ => h1 j hj, fun j hj e => ⟨fun hlt => ?_, fun hgt => (h2 j hj).2 (by omega)⟩⟩
    have := hall j hj e
    omega
  · obtain ⟨y, hy⟩ := Classical.not_forall.1 hall
    obtain ⟨hy1, hy⟩ := Classical.not_imp.1 hy
    obtain ⟨hy2, hy3⟩ := Classical.not_imp.1 hy
    -- all parts of the unit below are used
    have full : ∀ j, j < (partB l).length → (gP (partB l) j).f0 = u → gI b j = (gP (partB l) j).f1 := by
      intro j hj e; have := h.order hj hy1 (by omega)
      exact (h1 j hj).1 (by omega)
    have hM : ∃ M, (∀ j, j < (partB l).length → (gP (partB l) j).f0 = u → (gP (partB l) j).f2 ≤ M) ∧ (∀ j, j < (partA l).length → (gP (partA l) j).f0 = u → M ≤ (gP (partA l) j).f2) := by
      have mem : ∀ q, q ∈ ((List.range (partA l).length).filter (fun j => decide ((gP (partA l) j).f0 = u))).map (fun j => (gP (partA l) j).f2) ↔ ∃ j, j < (partA l).length ∧ (gP (partA l) j).f0 = u ∧ (gP (partA l) j).f2 = q := by
        intro q; simp only [List.mem_map, List.mem_filter, List.mem_range, decide_eq_true_eq]
        constructor
        · rintro ⟨j, ⟨h1, h2⟩, h3⟩; exact ⟨j, h1, h2, h3⟩
        · rintro ⟨j, h1, h2, h3⟩; exact ⟨j, ⟨h1, h2⟩, h3⟩
      rcases least_of (((List.range (partA l).length).filter (fun j => decide ((gP (partA l) j).f0 = u))).map (fun j => (gP (partA l) j).f2)) with h0 | ⟨m, hm, hmin⟩
      · have : (gP (partA l) y).f2 ∈ ((List.range (partA l).length).filter (fun j => decide ((gP (partA l) j).f0 = u))).map (fun j => (gP (partA l) j).f2) := (mem _).2 ⟨y, hy1, hy2, rfl⟩
        rw [h0] at this; cases this
      · obtain ⟨z, hz1, hz2, hz3⟩ := (mem m).1 hm
        refine ⟨m, fun j hj e => ?_, fun j hj e => hmin _ ((mem _).2 ⟨j, hj, e, rfl⟩)⟩
        have := h.order hj hz1 (by omega)
        omega
    obtain ⟨M, hM1, hM2⟩ := hM
    by_cases hc : M ≤ pa
    · refine ⟨pa, fun j hj e => ⟨fun _ => full j hj e, fun hgt => ?_⟩, fun j hj _ => h2 j hj⟩
      have := hM1 j hj e
      omega
    · refine ⟨M, fun j hj e => ⟨fun _ => full j hj e, fun hgt => ?_⟩, fun j hj e => ⟨fun hlt => ?_, fun hgt => (h2 j hj).2 ?_⟩⟩
      · have := hM1 j hj e
        omega
      · have := hM2 j hj e
        omega
      · have := hM2 j hj e
        omega
theorem AtPrice.unit {p : Int} {L : List Part} {v : List Int} (h : AtPrice p L v) (u : Int) : AtU u p L v := fun j hj _ => h j hj
theorem unit_in {l : List RU} {u : Nat} (hu : u < l.length) : l.getD u z32 ∈ l := by
  rw [List.getD_eq_getElem?_getD, List.getElem?_eq_getElem hu]; exact List.getElem_mem _
theorem out_range {l : List RU} (h : Fit l) {b a : List Int} (hb : Use (partB l) b) (ha : Use (partA l) a) (u : Nat) (hu : u < l.length) : 0 ≤ gI (outOf l b a) u ∧ gI (outOf l b a) u ≤ sumO (l.getD u z32).f0.f1 := by
  have e := h.sumC (fun _ => true) u hu
  have u1 := sumU_le u (fun _ => true) (partB l) b hb.len (fun i hi => ⟨(hb.rng i hi).1, (hb.rng i hi).2, fun hc => by cases hc⟩)
  have u2 := sumU_le u (fun _ => true) (partA l) a ha.len (fun i hi => ⟨(ha.rng i hi).1, (ha.rng i hi).2, fun hc => by cases hc⟩)
  have v1 := sumU_ge u (fun _ => false) (partB l) b hb.len (fun i hi => ⟨(hb.rng i hi).1, (hb.rng i hi).2, fun hc => by cases hc⟩)
  have v2 := sumU_ge u (fun _ => false) (partA l) a ha.len (fun i hi => ⟨(ha.rng i hi).1, (ha.rng i hi).2, fun hc => by cases hc⟩)
  have z : ∀ L : List Part, sumC u (fun _ => false) L = 0 := by
    intro L; induction L with
    | nil => rfl
    | cons p L ih => simp only [sumC, Bool.false_eq_true, and_false, if_false, ih]; omega
  rw [z] at v1 v2; rw [out_at h b a u hu, sumO_st]; omega
theorem cost_le {l : List RU} (h : Fit l) {b a : List Int} (hb : Use (partB l) b) (ha : Use (partA l) a) (u : Nat) (hu : u < l.length) : costO (l.getD u z32).f0.f1 (gI (outOf l b a) u) ≤ costU u (partB l) b + costU u (partA l) a := by
  have hv := h.valid (unit_in hu)
  have hr := out_range h hb ha u hu
  obtain ⟨q, q1, q2⟩ := price_at hv.range hv.rising hr.1 hr.2
  have e := costO_at q hv.range hv.rising q1 q2
  have g1 := costU_ge u q (partB l) b hb.len hb.rng
  have g2 := costU_ge u q (partA l) a ha.len ha.rng
  have g := h.gain q u hu
  have o := out_at h b a u hu
  have m : q * gI (outOf l b a) u = q * sumU u (partB l) b + q * sumU u (partA l) a := by rw [o]; exact Int.mul_add ..
  omega
theorem cost_eq {l : List RU} (h : Fit l) {D cap : Int} {b a : List Int} (hs : Swap (partB l) (partA l) D cap b a) (u : Nat) (hu : u < l.length) : costU u (partB l) b + costU u (partA l) a ≤ costO (l.getD u z32).f0.f1 (gI (outOf l b a) u) := by
  have hv := h.valid (unit_in hu)
  have hr := out_range h hs.ub hs.ua u hu
  obtain ⟨q, q1, q2⟩ := unit_price h hs u
  have e := costO_ge q (x := gI (outOf l b a) u) hv.range hr.1
  have g1 := costU_at u q (partB l) b hs.ub.len hs.ub.rng q1
  have g2 := costU_at u q (partA l) a hs.ua.len hs.ua.rng q2
  have g := h.gain q u hu
  have o := out_at h b a u hu
  have m : q * gI (outOf l b a) u = q * sumU u (partB l) b + q * sumU u (partA l) a := by rw [o]; exact Int.mul_add ..
  have m2 := mn_le (gI (outOf l b a) u) (sumO (l.getD u z32).f0.f1)
  have m3 : gI (outOf l b a) u - mn (gI (outOf l b a) u) (sumO (l.getD u z32).f0.f1) = 0 := by omega
  rw [m3, Int.mul_zero] at e; omega
theorem costs_differ (p q : Int) : ∀ (l : List RU) (xs ys b1 b2 a1 a2 : List Int), xs.length = l.length → ys.length = l.length → b1.length = l.length → b2.length = l.length → a1.length = l.length → a2.length = l.length → (∀ j, j < l.length → p * gI b1 j + q * gI a1 j - (p * gI b2 j + q * gI a2 j) ≤ costO (l.getD j z32).f0.f1 (gI xs j) - costO (l.getD j z32).f0.f1 (gI ys j)) → p * sumI b1 + q * sumI a1 - (p * sumI b2 + q * sumI a2) ≤ costA (offersOf l) xs - costA (offersOf l) ys
  | [], [], [], [], [], [], [], _, _, _, _, _, _, _ => by simp [sumI, costA, offersOf]
  | u :: l, x :: xs, y :: ys, b :: b1, c :: b2, a :: a1, d :: a2, h1, h2, h3, h4, h5, h6, h => by
    have h0 := h 0 (by simp)
    have ih := costs_differ p q l xs ys b1 b2 a1 a2 (by simpa using h1) (by simpa using h2) (by simpa using h3) (by simpa using h4) (by simpa using h5) (by simpa using h6) (fun j hj => by have := h (j + 1) (by simpa using hj); simpa [gI] using this)
    simp only [gI, List.getD_cons_zero] at h0
    have e1 : costA (offersOf (u :: l)) (x :: xs) = costO u.f0.f1 x + costA (offersOf l) xs := rfl
    have e2 : costA (offersOf (u :: l)) (y :: ys) = costO u.f0.f1 y + costA (offersOf l) ys := rfl
    simp only [sumI, Int.mul_add, e1, e2]
    omega
  | [], _ :: _, _, _, _, _, _, h, _, _, _, _, _, _ => by simp at h
  | _ :: _, [], _, _, _, _, _, h, _, _, _, _, _, _ => by simp at h
  | [], _, _ :: _, _, _, _, _, _, h, _, _, _, _, _ => by simp at h
  | _ :: _, _, [], _, _, _, _, _, h, _, _, _, _, _ => by simp at h
  | [], _, _, _ :: _, _, _, _, _, _, h, _, _, _, _ => by simp at h
  | _ :: _, _, _, [], _, _, _, _, _, h, _, _, _, _ => by simp at h
  | [], _, _, _, _ :: _, _, _, _, _, _, h, _, _, _ => by simp at h
  | _ :: _, _, _, _, [], _, _, _, _, _, h, _, _, _ => by simp at h
  | [], _, _, _, _, _ :: _, _, _, _, _, _, h, _, _ => by simp at h
  | _ :: _, _, _, _, _, [], _, _, _, _, _, h, _, _ => by simp at h
  | [], _, _, _, _, _, _ :: _, _, _, _, _, _, h, _ => by simp at h
  | _ :: _, _, _, _, _, _, [], _, _, _, _, _, h, _ => by simp at h
def shareOf (l : List RU) (L : List Part) (v : List Int) : List Int := addP L v (List.replicate l.length 0)
theorem share_at {l : List RU} {L : List Part} (hL : Parts l.length L) (v : List Int) (u : Nat) (hu : u < l.length) : gI (shareOf l L v) u = sumU u L v := by
  unfold shareOf
  rw [addP_at (n := l.length) _ _ _ hL.ok (by simp) u (by omega), gI_zeros]; omega
theorem share_sum {l : List RU} {L : List Part} (hL : Parts l.length L) {v : List Int} (hv : v.length = L.length) : sumI (shareOf l L v) = sumI v := by
  unfold shareOf
  rw [addP_sum (n := l.length) _ _ _ hL.ok (by simp) hv.symm, sumI_zeros]; omega
theorem share_len (l : List RU) (L : List Part) (v : List Int) : (shareOf l L v).length = l.length := by unfold shareOf; rw [qbS, List.length_replicate]
theorem less_cost {l : List RU} (h : Fit l) {D cap cap' : Int} (hcap : cap ≤ cap') {b a b' a' : List Int} (hs : Swap (partB l) (partA l) D cap b a) (he : Ended (partB l) (partA l) D cap' b' a') : costA (offersOf l) (outOf l b' a') ≤ costA (offersOf l) (outOf l b a) := by
  have hp : ∃ pa pb, (pa = pb ∨ pa ≤ pb ∧ sumI a' = cap') ∧ AtPrice pb (partB l) b' ∧ AtPrice pa (partA l) a' := by
    rcases he.fin with hf | hf
    · obtain ⟨pa, pb, h1, h2, h3⟩ := two_prices h.B h.A he.sw
      exact ⟨pa, pb, Or.inr ⟨h1, hf⟩, h2, h3⟩
    · obtain ⟨p, h2, h3⟩ := at_price h.B h.A he.sw hf
      exact ⟨p, p, Or.inl rfl, h2, h3⟩
  obtain ⟨pa, pb, hab, h1, h2⟩ := hp
  have hd := costs_differ pb pa l (outOf l b a) (outOf l b' a') (shareOf l (partB l) b) (shareOf l (partB l) b') (shareOf l (partA l) a) (shareOf l (partA l) a') (out_length l b a) (out_length l b' a') (share_len ..) (share_len ..) (share_len ..) (share_len ..) (fun u hu => by
    rw [share_at h.B b u hu, share_at h.B b' u hu, share_at h.A a u hu, share_at h.A a' u hu]; have c1 := cost_eq h hs u hu
    have c2 := cost_le h he.sw.ub he.sw.ua u hu
    have g1 := costU_ge u pb (partB l) b hs.ub.len hs.ub.rng
    have g2 := costU_ge u pa (partA l) a hs.ua.len hs.ua.rng
    have g3 := costU_at u pb (partB l) b' he.sw.ub.len he.sw.ub.rng (h1.unit u)
    have g4 := costU_at u pa (partA l) a' he.sw.ua.len he.sw.ua.rng (h2.unit u)
    omega)
  rw [share_sum h.B hs.ub.len, share_sum h.B he.sw.ub.len, share_sum h.A hs.ua.len, share_sum h.A he.sw.ua.len] at hd; have s1 := hs.sum; have s2 := he.sw.sum; have s3 := hs.cap; have e1 : pb * sumI b = pb * D - pb * sumI a := by rw [show sumI b = D - sumI a by omega]; exact Int.mul_sub ..
  have e2 : pb * sumI b' = pb * D - pb * sumI a' := by rw [show sumI b' = D - sumI a' by omega]; exact Int.mul_sub ..
  rcases hab with rfl | ⟨hle, hfull⟩
  · omega
  · have : 0 ≤ (pb - pa) * (sumI a' - sumI a) := Int.mul_nonneg (by omega) (by omega)
    have e3 : (pb - pa) * (sumI a' - sumI a) = pb * sumI a' - pa * sumI a' - (pb * sumI a - pa * sumI a) := by
      rw [Int.mul_sub, Int.sub_mul, Int.sub_mul]
    omega
def heldA : List RU → List Int → Int
  | u :: l, x :: xs => mn u.f1 (sumO u.f0.f1 - x) + heldA l xs
  | _, _ => 0
theorem powers_loop {l : List RU} (h : Fit l) (o : List Int) (hol : o.length = l.length) : ∀ (d : Nat) (i : Int), 0 ≤ i → i ≤ (l.length : Int) → (l.length : Int) - i = d → InA (offersOf (l.drop i.toNat)) (o.drop i.toNat) → Ev (fun k => qaK.l0 k o l (l.length : Int) i) 0 := by
  have hlen := h.len; intro d; induction d with
  | zero =>
    intro i h0 h1 hd hin; exact Ev.step (fun k => by rw [qaK.l0]) (Ev.neg (by omega) (Ev.now _))
  | succ d ih =>
    intro i h0 h1 hd hin; have hv := h.valid (rd_in h0 (show i < (l.length : Int) by omega))
    have dO : o.drop i.toNat = rd o i :: o.drop (i + 1).toNat := drop_getD (0 : Int) h0 (by omega)
    rw [dropU h0 (by omega), dO] at hin; have hin1 : 0 ≤ rd o i := hin.1
    have hin2 : rd o i ≤ sumO (qam l i).f0.f1 := hin.2.1
    refine Ev.step (fun k => by rw [qaK.l0]) ?_
    refine Ev.pos (by omega) (Ev.pos h0 (Ev.pos (by omega) (Ev.pos (by omega) (Ev.neg (by omega) (Ev.bind (offer_Most_ev _ hv) (Ev.neg (by omega) ?_))))))
    rw [w64 (x := i + 1) (by omega) (by omega)]; exact ih (i + 1) (by omega) (by omega) (by omega) hin.2.2
theorem held_loop {l : List RU} (h : Fit l) (o : List Int) (hol : o.length = l.length) : ∀ (d : Nat) (i acc : Int), 0 ≤ i → i ≤ (l.length : Int) → (l.length : Int) - i = d → InA (offersOf (l.drop i.toNat)) (o.drop i.toNat) → 0 ≤ acc → acc ≤ 100000 * i → Ev (fun k => qaO.l0 k o acc l (l.length : Int) i) (acc + heldA (l.drop i.toNat) (o.drop i.toNat), 0) := by
  have hlen := h.len; intro d; induction d with
  | zero =>
    intro i acc h0 h1 hd hin ha hb; refine Ev.step (fun k => by rw [qaO.l0]) (Ev.neg (by omega) ?_)
    rw [drop_end (by omega)]; simp only [heldA, Int.add_zero]
    exact Ev.now _
  | succ d ih =>
    intro i acc h0 h1 hd hin ha hb; have hu := rd_in h0 (show i < (l.length : Int) by omega)
    have hv := h.valid hu
    have hru := h.ru _ hu
    have hsum := hv.sum; have dO : o.drop i.toNat = rd o i :: o.drop (i + 1).toNat := drop_getD (0 : Int) h0 (by omega)
    rw [dropU h0 (by omega), dO] at hin ⊢
    have hin1 : 0 ≤ rd o i := hin.1
    have hin2 : rd o i ≤ sumO (qam l i).f0.f1 := hin.2.1
    have hm := mn_le (qam l i).f1 (sumO (qam l i).f0.f1 - rd o i)
    refine Ev.step (fun k => by rw [qaO.l0]) ?_
    refine Ev.pos (by omega) (Ev.pos h0 (Ev.pos (by omega) (Ev.bind (offer_Most_ev _ hv) (Ev.pos (by omega) ?_))))
    rw [w64 (x := sumO (qam l i).f0.f1 - rd o i) (by omega) (by omega), w64 (x := acc + _) (by omega) (by omega), w64 (x := i + 1) (by omega) (by omega)]; simp only [heldA]
    rw [← Int.add_assoc]; exact ih (i + 1) _ (by omega) (by omega) (by omega) hin.2.2 (by omega) (by omega)
theorem held_ev {l : List RU} (h : Fit l) {o : List Int} (hol : o.length = l.length) (hin : InA (offersOf l) o) : Ev (fun k => qaO.f k l o) (heldA l o, 0) := by
  unfold qaO.f qaK.f
  have e1 := powers_loop h o hol l.length 0 (by omega) (by omega) (by omega) (by simpa using hin)
  have e2 := held_loop h o hol l.length 0 0 (by omega) (by omega) (by omega) (by simpa using hin) (by omega) (by omega)
  refine Ev.bind (a := 0) (Ev.bind h.chk (Ev.pos rfl (Ev.pos (by omega) e1))) (Ev.pos rfl ?_)
  simpa using e2
theorem heldA_ge : ∀ (l : List RU) (xs av : List Int), xs.length = l.length → av.length = l.length → (∀ u ∈ l, 0 ≤ u.f1) → (∀ j, j < l.length → 0 ≤ gI av j ∧ gI xs j ≤ sumO (l.getD j z32).f0.f1 - roomU (l.getD j z32) + gI av j) → roomA l - sumI av ≤ heldA l xs
  | [], [], [], _, _, _, _ => by simp [roomA, sumI, heldA]
  | u :: l, x :: xs, a :: av, h1, h2, hu, h => by
    have h0 := h 0 (by simp)
    have ih := heldA_ge l xs av (by simpa using h1) (by simpa using h2) (fun v hv => hu v (List.mem_cons_of_mem _ hv)) (fun j hj => by have := h (j + 1) (by simpa using hj); simpa [gI] using this)
    simp only [gI, List.getD_cons_zero] at h0
    have m1 := mn_le u.f1 (sumO u.f0.f1)
    have m2 := mn_le u.f1 (sumO u.f0.f1 - x)
    have e : roomU u = mn u.f1 (sumO u.f0.f1) := rfl
    simp only [roomA, sumI, heldA]
    omega
  | [], _ :: _, _, h, _, _, _ => by simp at h
  | _ :: _, [], _, h, _, _, _ => by simp at h
  | [], _, _ :: _, _, h, _, _ => by simp at h
  | _ :: _, _, [], _, h, _, _ => by simp at h
theorem sumC_one (i u : Int) : ∀ (L : List Part), (∀ p ∈ L, p.f0 = i) → sumC u (fun _ => true) L = if i = u then sumP L else 0
  | [], _ => by simp [sumC, sumP]
  | p :: L, h => by
    have h0 := h p List.mem_cons_self
    have ih := sumC_one i u L (fun q hq => h q (List.mem_cons_of_mem _ hq))
    simp only [sumC, sumP, and_true, h0, ih]
    split <;> omega
theorem unit_below (u : Int) : ∀ (l : List RU) (i : Int), (∀ v ∈ l, RangeO v.f0.f1 ∧ 0 ≤ roomU v ∧ roomU v ≤ sumO v.f0.f1) → sumC u (fun _ => true) (unitB i l) = if i ≤ u ∧ u < i + l.length then sumO (l.getD (u - i).toNat z32).f0.f1 - roomU (l.getD (u - i).toNat z32) else 0
  | [], i, _ => by
    rw [if_neg (by simp)]; simp [unitB, sumC]
  | v :: r, i, h => by
    have ih := unit_below u r (i + 1) (fun w hw => h w (List.mem_cons_of_mem _ hw))
    have hv := h v List.mem_cons_self
    have hs := sumC_one i u (stepB i (sumO v.f0.f1 - roomU v) v.f0.f1) (fun p hp => ((step_unit i _ _).1 p hp).1)
    have hq := (step_sums i v.f0.f1 (sumO v.f0.f1 - roomU v) (by omega) hv.1).1
    have hm := mn_le (sumO v.f0.f1 - roomU v) (sumO v.f0.f1)
    simp only [unitB, sumC_append, List.length_cons, hs]
    by_cases e : i = u
    · rw [if_pos e]; rw [if_neg (by omega)] at ih; rw [if_pos (by omega)]; rw [show (u - i).toNat = 0 by omega]; simp only [List.getD_cons_zero]
      omega
    · rw [if_neg e]; by_cases hin : i + 1 ≤ u ∧ u < i + 1 + r.length
      · rw [if_pos hin] at ih; rw [if_pos (by omega), show (u - i).toNat = (u - (i + 1)).toNat + 1 by omega]; simp only [List.getD_cons_succ]
        omega
      · rw [if_neg hin] at ih; rw [if_neg (by omega)]; omega
theorem held_ge {l : List RU} (h : Fit l) {D cap : Int} {b a : List Int} (hs : Swap (partB l) (partA l) D cap b a) : roomA l - cap ≤ heldA l (outOf l b a) := by
  have hg := heldA_ge l (outOf l b a) (shareOf l (partA l) a) (out_length l b a) (share_len ..) (fun u hu => (h.ru u hu).1) (fun u hu => by
    rw [share_at h.A a u hu, out_at h b a u hu]; have v2 := sumU_ge u (fun _ => false) (partA l) a hs.ua.len (fun i hi => ⟨(hs.ua.rng i hi).1, (hs.ua.rng i hi).2, fun hc => by cases hc⟩)
    have z : ∀ L : List Part, sumC u (fun _ => false) L = 0 := by
      intro L; induction L with
      | nil => rfl
      | cons p L ih => simp only [sumC, Bool.false_eq_true, and_false, if_false, ih]; omega
    rw [z] at v2; have u1 := sumU_le u (fun _ => true) (partB l) b hs.ub.len (fun i hi => ⟨(hs.ub.rng i hi).1, (hs.ub.rng i hi).2, fun hc => by cases hc⟩)
    have e : sumC u (fun _ => true) (partB l) = sumO (l.getD u z32).f0.f1 - roomU (l.getD u z32) := by
      unfold partB
      rw [sumC_perm _ _ (Srt.qbu ltP_swo _), unit_below u l 0 h.units, if_pos (by omega)]; rw [show ((u : Int) - 0).toNat = u by omega]
    omega)
  rw [share_sum h.A hs.ua.len] at hg; have := hs.cap
  omega
end Go.Proofs.Ytfcifmbddikflaa.P
namespace Go.Proofs.Ytfcifmbddikflaa.P
open Go.RowKit Go.Proofs.YtfcifmbddikflaaW.PrintWords Go.Proofs.YtfcifmbddikflaaW.PrintMore Go.Proofs.Ytfcifmbddikflaa.Opn Go.Proofs.Ytfcifmbddikflaa.Evp
theorem tmod_pos {a n : Int} (hn : 0 < n) : -n < Int.tmod a n ∧ Int.tmod a n < n := by
  have h1 := Int.natAbs_tmod a n
  have h2 : Int.natAbs a % Int.natAbs n < Int.natAbs n := Nat.mod_lt _ (by omega)
  omega
theorem within_some {low high : Int} (a : Int) (h1 : -1000000000000 ≤ low) (h2 : low ≤ high) (h3 : high ≤ 1000000000000) : ∃ r, qa7.f a low high = some r ∧ low ≤ r ∧ r ≤ high := by
  unfold qa7.f
  rw [w64 (x := high - low) (by omega) (by omega), w64 (x := high - low + 1) (by omega) (by omega), if_neg (by omega)]; have ha := tmod_pos (a := a) (n := high - low + 1) (by omega)
  rw [w64 (x := Int.tmod a (high - low + 1) + (high - low + 1)) (by omega) (by omega)]; have hb := tmod_pos (a := Int.tmod a (high - low + 1) + (high - low + 1)) (n := high - low + 1) (by omega)
  have hc : 0 ≤ Int.tmod (Int.tmod a (high - low + 1) + (high - low + 1)) (high - low + 1) := Int.tmod_nonneg _ (by omega)
  rw [w64 (by omega) (by omega)]; exact ⟨_, rfl, by omega, by omega⟩
end Go.Proofs.Ytfcifmbddikflaa.P
namespace Go.Proofs.Ytfcifmbddikflaa.P
set_option linter.unusedVariables false
open Go.RowKit Go.Proofs.YtfcifmbddikflaaW.PrintWords Go.Proofs.YtfcifmbddikflaaW.PrintMore Go.Proofs.Ytfcifmbddikflaa.Opn Go.Proofs.Ytfcifmbddikflaa.Evp
theorem kept_first : Ev (fun k => qaj.f k ([(⟨(⟨(⟨#[65]⟩ : ByteArray), [⟨10, 5⟩]⟩ : Offer), 10⟩ : RU), (⟨(⟨(⟨#[66]⟩ : ByteArray), [⟨10, 8⟩]⟩ : Offer), 10⟩ : RU)]) 8 12) ([8, 0], 40, 0) := Ev.of (fun k => qaj.mono _ _ _ k) (k := 60) (by decide +kernel)
theorem kept_second : Ev (fun k => qaO.f k ([(⟨(⟨(⟨#[65]⟩ : ByteArray), [⟨10, 5⟩]⟩ : Offer), 4⟩ : RU)]) [7]) (3, 0) := Ev.of (fun k => qaO.mono _ _ k) (k := 60) (by decide +kernel)
theorem rkept_loop (l : List RU) (demand need less n h f : Int) (ps : List Int) (hps : ∀ x ∈ ps, 0 ≤ x) (hsum : sumI ps ≤ 1000000000) (hlen : ps.length ≤ 1000) (r : Bool) (he : Ev (fun k => (qa7.f less 0 need).bind fun t396 => ((qaj.f k l demand t396).bind fun bt397 => (if f = 0 then (if h ≥ need then (if sumI ps = demand then (if bt397.2.2 = 0 then (some (decide (bt397.2.1 ≤ n))) else (some false)) else (some false)) else (some false)) else (some false)))) r) : ∀ (d : Nat) (i acc : Int), 0 ≤ i → i ≤ (ps.length : Int) → (ps.length : Int) - i = d → acc + sumI (ps.drop i.toNat) = sumI ps → 0 ≤ acc → Ev (fun k => qar.l0 k l demand need less n h f acc ps (ps.length : Int) i) r := by
  intro d; induction d with
  | zero =>
    intro i acc h0 h1 hd ha hb; refine Ev.step (fun k => by rw [qar.l0]) (Ev.neg (by omega) ?_)
    rw [drop_end (by omega)] at ha; simp only [sumI, Int.add_zero] at ha
    rw [ha]; exact he
  | succ d ih =>
    intro i acc h0 h1 hd ha hb; have dV : ps.drop i.toNat = rd ps i :: ps.drop (i + 1).toNat := drop_getD (0 : Int) h0 (by omega)
    rw [dV] at ha; simp only [sumI] at ha
    have hv : 0 ≤ rd ps i := hps _ (getD_mem (d := (0 : Int)) h0 (by omega))
    have h4 : 0 ≤ sumI (ps.drop (i + 1).toNat) := by
      cases hd : ps.drop (i + 1).toNat with
      | nil => simp [sumI]
      | cons y t => exact (sumI_le_all (v := y :: t) (fun x hx => hps x (List.mem_of_mem_drop (hd ▸ hx))) y List.mem_cons_self).2
    refine Ev.step (fun k => by rw [qar.l0]) ?_
    refine Ev.pos (by omega) (Ev.pos h0 (Ev.pos (by omega) ?_))
    rw [w64 (x := acc + rd ps i) (by omega) (by omega), w64 (x := i + 1) (by omega) (by omega)]; exact ih (i + 1) _ (by omega) (by omega) (by omega) (by omega) (by omega)
theorem inA_nonneg : ∀ {l : List Offer} {xs : List Int}, InA l xs → ∀ x ∈ xs, 0 ≤ x
  | [], [], _, x, hx => by cases hx
  | o :: l, y :: xs, h, x, hx => by
    rcases List.mem_cons.1 hx with rfl | hx
    · exact h.1
    · exact inA_nonneg h.2.2 x hx
  | [], _ :: _, h, _, _ => h.elim
  | _ :: _, [], h, _, _ => h.elim
theorem reserveKept_pure : ReserveKept.Pure := by
  intro l demand need less hl _ _ _; have hlen : (l.length : Int) ≤ 2932031007317 := by
    have := hl.1
    omega
  have ho : okOffers (offersOf l) := by
    intro o h; obtain ⟨u, hu, rfl⟩ := List.mem_map.1 h
    exact (hl.2 u hu).1.1
  refine Ev.rounds ?_
  unfold qar.f
  refine Ev.binds (Ev.bind kept_first (Ev.pos rfl ?_))
  refine Ev.step (fun k => by rw [qar.j0]) (Ev.neg (by decide) (Ev.bind kept_second (Ev.pos rfl ?_)))
  refine Ev.step (fun k => by rw [qar.j1]) (Ev.neg (by decide) ?_)
  obtain ⟨c, e, hc, hce, h1, h2⟩ := rcheck_some l ho hlen
  by_cases he : e = 0
  · subst he; obtain ⟨hok, hc0, hru⟩ := h2 rfl
    subst hc0; have hF : Fit l := ⟨hok, hc, hru, hce⟩
    by_cases hr : 0 ≤ demand ∧ demand ≤ 1000000 ∧ 0 ≤ need ∧ need ≤ 1000000
    · obtain ⟨d0, d1, n0, n1⟩ := hr
      rcases rbest_in hF d0 d1 n0 n1 with ⟨hno, hev⟩ | ⟨hno, r, hev, b, a, hend, rfl⟩
      · exact Ev.bind hev (Ev.neg (by decide) (Ev.pos rfl (Ev.now _)))
      · refine Ev.bind hev (Ev.pos rfl ?_)
        have hin := out_inA hF hend.sw.ub hend.sw.ua
        have hol := out_length l b a
        have hsm : sumI (outOf l b a) = demand := by rw [out_sum hF hend.sw.ub.len hend.sw.ua.len, hend.sw.sum]
        have hhe := held_ge hF hend.sw
        refine Ev.bind (held_ev hF hol hin) ?_
        have hFl := hF.len; refine rkept_loop l demand need less _ _ _ (outOf l b a) (inA_nonneg hin) (by omega) (by omega) true ?_ (outOf l b a).length 0 0 (by omega) (by omega) (by omega) (by simp) (by omega)
        obtain ⟨nn, hw, w0, w1⟩ := within_some less (low := 0) (high := need) (by omega) n0 (by omega)
        refine Ev.bind (a := nn) ⟨0, fun _ _ => hw⟩ ?_
        rcases rbest_in hF d0 d1 w0 (show nn ≤ 1000000 by omega) with ⟨hno2, hev2⟩ | ⟨hno2, r2, hev2, b2, a2, hend2, rfl⟩
        · exact absurd hno2 (by omega)
        · have hle := less_cost hF (show roomA l - need ≤ roomA l - nn by omega) hend.sw hend2
          refine Ev.bind hev2 (Ev.pos rfl (Ev.pos (by show need ≤ heldA l (outOf l b a); omega) (Ev.pos hsm (Ev.pos rfl ?_))))
          show Ev (fun k => some (decide (costA (offersOf l) (outOf l b2 a2) ≤ costA (offersOf l) (outOf l b a)))) true
          rw [decide_eq_true hle]; exact Ev.now _
    · exact Ev.bind (rbest_range hF hr) (Ev.neg (by decide) (Ev.pos rfl (Ev.now _)))
  · exact Ev.bind (rbest_bad hce he demand need) (Ev.neg he (Ev.pos rfl (Ev.now _)))
end Go.Proofs.Ytfcifmbddikflaa.P
namespace Go.Proofs.Ytfcifmbddikflaa.Pure
theorem ReserveKept : P.ReserveKept.Pure := P.reserveKept_pure
end Go.Proofs.Ytfcifmbddikflaa.Pure
