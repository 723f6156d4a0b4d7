import Derived.Test.YtamgbcgfjhpedaaDoorVpR3
namespace Go.Proofs.YtamgbcgfjhpedaaDoor.VE
open Go Go.RowKit
set_option linter.unusedVariables false
attribute [local irreducible] wrap64
/-! ### rat: Check on any text, CheckAll, Add (no statement is proved here) -/
attribute [local irreducible] rd
theorem gcd_tail {x5 x6 : ByteArray} (h5 : DecOk x5) (h6 : DecOk x6) : EvP (fun k => if x6 = ByteArray.mk #[48] then some (3 : Int) else if x6 = ByteArray.mk #[49] then some 3 else (nat_Read.f k x5).bind fun r5 => (nat_Read.f k x6).bind fun r6 => (nat_N_Gcd.f k r5 r6).bind fun r7 => (nat_Of.f k 1).bind fun r8 => (nat_N_Cmp.f k r7 r8).bind fun r9 => if r9 = 0 then some 0 else some 3) (fun r => r = 0 → x6 ≠ ByteArray.mk #[48] ∧ x6 ≠ ByteArray.mk #[49] ∧ Nat.gcd (vB (bytesL x5)) (vB (bytesL x6)) = 1) := by
  have l5 : dl (vB (bytesL x5)) ≤ 2000 := size_dl (by rw [← h5.2.1, bytesL_len]; exact h5.2.2)
  have l6 : dl (vB (bytesL x6)) ≤ 2000 := size_dl (by rw [← h6.2.1, bytesL_len]; exact h6.2.2)
  have z5 := h5.2.2
  have z6 := h6.2.2
  have lg : dl (Nat.gcd (vB (bytesL x5)) (vB (bytesL x6))) ≤ 2000 := by
    by_cases h0 : vB (bytesL x5) = 0
    · rw [h0, Nat.gcd_zero_left]; exact l6
    · exact Nat.le_trans (dl_mono (Nat.le_of_dvd (by omega) (Nat.gcd_dvd_left _ _))) l5
  unfold dl at l5 l6 lg
  refine EvP.ite (fun h => EvP.ret (fun e => by omega)) (fun c0 => EvP.ite (fun h => EvP.ret (fun e => by omega)) (fun c1 => EvP.bindE (read_ev h5.1 (by omega)) (EvP.bindE (read_ev h6.1 (by omega)) (EvP.bindE (gcd_ev (by omega) (by omega)) (EvP.bindE of1 (EvP.bindE (cmp_ev (by omega)) (EvP.ite (fun h => EvP.ret (fun _ => ⟨c0, c1, ?_⟩)) (fun h => EvP.ret (fun e => by omega)))))))))
  have h : cmpI (Nat.gcd (vB (bytesL x5)) (vB (bytesL x6)) : Nat) ((1 : Nat) : Int) = 0 := h
  unfold cmpI at h
  split at h
  · omega
  · split at h <;> omega
theorem l6_ex (neg : Bool) (x5 x6 : ByteArray) (sl : Bool) (r3 r4 : Int) (h3 : r3 = 0 → DecOk x5) (h4 : sl = true → r4 = 0 → DecOk x6) : EvP (fun k => rat_Check.l6 k neg x5 x6 sl r3 r4) (fun r => r = 0 → r3 = 0 ∧ r4 = 0 ∧ (neg = true → x5 ≠ ByteArray.mk #[48]) ∧ (sl = true → x6 ≠ ByteArray.mk #[48] ∧ x6 ≠ ByteArray.mk #[49] ∧ Nat.gcd (vB (bytesL x5)) (vB (bytesL x6)) = 1)) := by
  refine EvP.step (fun k => rat_Check.l6_eq k _ _ _ _ _ _) (EvP.ite (fun _ => EvP.ret (fun e => by omega)) (fun _ => EvP.ite (fun _ => EvP.ret (fun e => by omega)) (fun _ => EvP.ite (fun hn => EvP.ite (fun _ => EvP.ret (fun e => by omega)) (fun h5 => EvP.ite (fun e3 => EvP.ite (fun e4 => EvP.ite (fun hs => ?_) (fun hs => EvP.ret (fun _ => ⟨e3, e4, fun _ => h5, fun e => absurd e hs⟩))) (fun _ => EvP.ret (fun e => by omega))) (fun _ => EvP.ret (fun e => by omega)))) (fun hn => EvP.ite (fun e3 => EvP.ite (fun e4 => EvP.ite (fun hs => ?_) (fun hs => EvP.ret (fun _ => ⟨e3, e4, fun e => absurd e hn, fun e => absurd e hs⟩))) (fun _ => EvP.ret (fun e => by omega))) (fun _ => EvP.ret (fun e => by omega))))))
  · exact (gcd_tail (h3 e3) (h4 hs e4)).mono (fun r hr e => ⟨e3, e4, fun _ => h5, fun _ => hr e⟩)
  · exact (gcd_tail (h3 e3) (h4 hs e4)).mono (fun r hr e => ⟨e3, e4, fun e => absurd e hn, fun _ => hr e⟩)
theorem ratCheck_ex {p : ByteArray} (hb : p.size ≤ 140737488355328) : EvP (fun k => rat_Check.f k p) (fun r => r = 0 → ∃ q, OutOk p q) := by
  have hl := bytesL_len p
  obtain ⟨s, neg, hcp, hps⟩ : ∃ s neg, Ev (fun k => strings_CutPrefix.f k p (ByteArray.mk #[45])) (s, neg) ∧ bytesL p = (if neg = true then [45] else []) ++ bytesL s := by
    by_cases h : (bytesL p).head? = some 45
    · cases hc : bytesL p with
      | nil => rw [hc] at h; cases h
      | cons x t =>
        rw [hc, List.head?_cons, Option.some.injEq] at h
        subst h
        exact ⟨_, _, cutp_neg hc, by rw [bytesL_of (byte_tail (a := [45]) hc).2]; rfl⟩
    · exact ⟨_, _, cutp_pos h, rfl⟩
  have hsl : s.size ≤ p.size := by
    rw [← bytesL_len, ← bytesL_len, hps, List.length_append]; omega
  have mk : ∀ (m d : Nat), (neg = true → m ≠ 0) → d ≠ 0 → Nat.gcd m d = 1 → (txtN m).length ≤ 2000 → (txtN d).length ≤ 2000 → bytesL s = txtN m ++ (if d = 1 then [] else 47 :: txtN d) → ∃ q, OutOk p q := by
    intro m d hm hd hg f1 f2 e
    refine ⟨⟨sg neg m, d, hd, by rw [sg_abs]; exact hg⟩, ?_, by show (txtN (sg neg m).natAbs).length ≤ 2000; rw [sg_abs]; exact f1, f2⟩
    rw [← of_bytesL p, hps, e]
    show _ = ofBytes ((if sg neg m < 0 then [45] else []) ++ (txtN (sg neg m).natAbs ++ (if d = 1 then [] else 47 :: txtN d)))
    rw [sg_abs]
    have : sg neg m < 0 ↔ neg = true := by
      unfold sg
      cases neg
      · simp
      · have := hm rfl
        simp; omega
    simp only [this]
  refine EvP.bindE hcp ?_
  by_cases h47 : (47 : Int) ∈ bytesL s
  · rcases idx47 s with ⟨h1, _⟩ | ⟨a, b, h1, h2, _⟩
    · exact absurd h47 h1
    · have bb := (byte_tail (a := a ++ [47]) (b := b) (by rw [h1]; simp)).2
      have ba := (byte_tail h1).1
      have hal : a.length + b.length + 1 = s.size := by rw [← bytesL_len, h1, List.length_append, List.length_cons]; omega
      refine EvP.bindE (cut_yes (s := s) h1 h2 (by omega)) ?_
      obtain ⟨r3, hr3, _, g3⟩ := check_ev (s := ofBytes a) (by rw [of_size ba]; omega)
      obtain ⟨r4, hr4, _, g4⟩ := check_ev (s := ofBytes b) (by rw [of_size bb]; omega)
      refine EvP.bindE hr3 (EvP.pos rfl (EvP.bindE hr4 ((l6_ex neg (ofBytes a) (ofBytes b) true r3 r4 g3.1 (fun _ => g4.1)).mono (fun r hr e => ?_))))
      obtain ⟨e3, e4, e5, e6⟩ := hr e
      obtain ⟨c0, c1, hg⟩ := e6 rfl
      have d1 := g3.1 e3
      have d2 := g4.1 e4
      unfold DecOk at d1 d2
      rw [← bytesL_len, bytesL_of ba] at d1
      rw [← bytesL_len, bytesL_of bb] at d2
      rw [bytesL_of ba, bytesL_of bb] at hg
      have hne0 : vB b ≠ 0 := fun h0 => c0 (by rw [d2.2.1, h0, b48])
      have hne1 : vB b ≠ 1 := fun h0 => c1 (by rw [d2.2.1, h0, b49])
      refine mk (vB a) (vB b) (fun hn h0 => e5 hn (by rw [d1.2.1, h0, b48])) hne0 hg (by rw [← d1.2.1]; exact d1.2.2) (by rw [← d2.2.1]; exact d2.2.2) ?_
      rw [if_neg hne1, ← d1.2.1, ← d2.2.1]
      exact h1
  · refine EvP.bindE (cut_no (s := s) h47) ?_
    obtain ⟨r3, hr3, _, g3⟩ := check_ev (s := s) (by omega)
    refine EvP.bindE hr3 (EvP.neg (by simp) ((l6_ex neg s ByteArray.empty false r3 0 g3.1 (fun e => by cases e)).mono (fun r hr e => ?_)))
    obtain ⟨e3, _, e5, _⟩ := hr e
    have d1 := g3.1 e3
    refine mk (vB (bytesL s)) 1 (fun hn h0 => e5 hn (by rw [← of_bytesL s, d1.2.1, h0, b48])) (by omega) (Nat.gcd_one_right _) (by rw [← d1.2.1, bytesL_len]; exact d1.2.2) (by rw [txt_one]; simp) ?_
    rw [if_pos rfl, List.append_nil, ← d1.2.1]
theorem checkAll_run (xs : List ByteArray) (hb : xs.length ≤ 140737488355328) (hs : ∀ x ∈ xs, x.size ≤ 140737488355328) : ∀ (m j : Nat), j + m = xs.length → EvP (fun k => rat_CheckAll.l2 k xs (xs.length : Int) (j : Int)) (fun r => r = 0 → ∀ x ∈ xs.drop j, ∃ q, OutOk x q)
  | 0, j, hj => by
    rw [List.drop_eq_nil_of_le (by omega)]
    exact EvP.step (fun k => rat_CheckAll.l2_eq k _ _ _) (EvP.neg (by omega) (EvP.ret (fun _ x hx => by cases hx)))
  | m + 1, j, hj => by
    have hdr := rStr_drop (xs := xs) (i := (j : Int)) (by omega) (by omega)
    rw [show ((j : Int)).toNat = j from rfl, show ((j : Int) + 1).toNat = j + 1 from rfl] at hdr
    have hm := rStr_mem (xs := xs) (i := (j : Int)) (by omega) (by omega)
    rw [hdr]
    refine EvP.step (fun k => rat_CheckAll.l2_eq k _ _ _) (EvP.pos (by omega) (EvP.pos (by omega) (EvP.pos (by omega) (EvP.bind (ratCheck_ex (hs _ hm)) (fun r hr => ?_)))))
    refine EvP.ite (fun h => ?_) (fun h => EvP.ret (fun e => absurd e h))
    rw [w64 (by omega) (by omega)]
    refine (checkAll_run xs hb hs m (j + 1) (by omega)).mono (fun r' hr' e x hx => ?_)
    rcases List.mem_cons.1 hx with rfl | hx
    · exact hr h
    · exact hr' e x hx
theorem checkAll_ex {xs : List ByteArray} (hb : xs.length ≤ 140737488355328) (hs : ∀ x ∈ xs, x.size ≤ 140737488355328) : EvP (fun k => rat_CheckAll.f k xs) (fun r => r = 0 → ∀ x ∈ xs, ∃ q, OutOk x q) := by
  have := checkAll_run xs hb hs xs.length 0 (Nat.zero_add _)
  rw [List.drop_zero] at this
  exact this
theorem checkAll_ok_run (xs : List ByteArray) (hb : xs.length ≤ 140737488355328) (hs : ∀ x ∈ xs, ∃ q, OutOk x q) : ∀ (m j : Nat), j + m = xs.length → Ev (fun k => rat_CheckAll.l2 k xs (xs.length : Int) (j : Int)) 0
  | 0, j, hj => Ev.step (fun k => rat_CheckAll.l2_eq k _ _ _) (Ev.neg (by omega) (Ev.now _))
  | m + 1, j, hj => by
    obtain ⟨q, hq⟩ := hs _ (rStr_mem (xs := xs) (i := (j : Int)) (by omega) (by omega))
    refine Ev.step (fun k => rat_CheckAll.l2_eq k _ _ _) (Ev.pos (by omega) (Ev.pos (by omega) (Ev.pos (by omega) (Ev.bind (ratCheck_ok hq) (Ev.pos rfl ?_)))))
    rw [w64 (by omega) (by omega)]
    exact checkAll_ok_run xs hb hs m (j + 1) (by omega)
theorem checkAll_ok {xs : List ByteArray} (hb : xs.length ≤ 140737488355328) (hs : ∀ x ∈ xs, ∃ q, OutOk x q) : Ev (fun k => rat_CheckAll.f k xs) 0 := checkAll_ok_run xs hb hs xs.length 0 (Nat.zero_add _)
theorem two_ok {a b : ByteArray} {p q : Rat} (ha : OutOk a p) (hb : OutOk b q) : ∀ x ∈ [a, b], ∃ q, OutOk x q := by
  intro x hx
  simp only [List.mem_cons, List.not_mem_nil, or_false] at hx
  rcases hx with rfl | rfl
  · exact ⟨_, ha⟩
  · exact ⟨_, hb⟩
theorem ratAdd_ev {a b : ByteArray} {p q : Rat} (ha : OutOk a p) (hb : OutOk b q) : Ev (fun k => rat_Add.f k a b) (if Fit (p + q) then (ofBytes (outL (p + q)), 0) else (ByteArray.empty, 2)) := by
  refine EvP.ev (EvP.bind (P := fun r => r = (if Fit (p + q) then (ofBytes (outL (p + q)), 0) else (ByteArray.empty, 2))) (EvP.bindE (checkAll_ok (by simp) (two_ok ha hb)) (EvP.pos rfl (EvP.bind (in_ev ha) (fun x hx => EvP.bind (in_ev hb) (fun y hy => EvP.bind (addQ_ev hx hy (by omega)) (fun z hz => EvP.bindE (told_ev hz (by omega)) (EvP.ret rfl))))))) (fun r hr => EvP.ret hr))
end Go.Proofs.YtamgbcgfjhpedaaDoor.VE
