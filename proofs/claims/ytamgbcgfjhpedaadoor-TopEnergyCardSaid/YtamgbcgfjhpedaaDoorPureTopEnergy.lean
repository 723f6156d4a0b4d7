/- The pure statement of the law TopEnergy; what its row says is proved behind it. -/
import Derived.Test.YtamgbcgfjhpedaaDoorVpIs
namespace Go.Proofs.YtamgbcgfjhpedaaDoor.VE
open Go Go.RowKit
set_option linter.unusedVariables false
attribute [local irreducible] wrap64
attribute [local irreducible] rd
abbrev SwL := List (Int × Int × Int × Int × ByteArray)
def sumS (xs : SwL) : Nat → Int
  | 0 => 0
  | n + 1 => sumS xs n + (rY19 xs (n : Int)).2.2.1
def sumD (xs : List (Int × Int × Int)) : Nat → Int
  | 0 => 0
  | n + 1 => sumD xs n + (rY5 xs (n : Int)).2.2
theorem sumD_rng (xs : List (Int × Int × Int)) (M : Nat) (h : DemP M 1200000 xs) : ∀ n : Nat, n ≤ M → 0 ≤ sumD xs n ∧ sumD xs n ≤ 1200000 * n
  | 0, _ => by show 0 ≤ (0 : Int) ∧ (0 : Int) ≤ _; omega
  | n + 1, hn => by
    have ih := sumD_rng xs M h n (by omega)
    have := h.2 n (by omega)
    show 0 ≤ sumD xs n + _ ∧ sumD xs n + _ ≤ 1200000 * ((n + 1 : Nat) : Int)
    omega
theorem sumS_set (xs : SwL) (p : Nat) (v : Int × Int × Int × Int × ByteArray) (hp : p < xs.length) : ∀ n : Nat, sumS (xs.set p v) n = sumS xs n + (if p < n then v.2.2.1 - (rY19 xs (p : Int)).2.2.1 else 0)
  | 0 => by rw [if_neg (by omega)]; rfl
  | n + 1 => by
    show sumS (xs.set p v) n + (rY19 (xs.set p v) (n : Int)).2.2.1 = sumS xs n + (rY19 xs (n : Int)).2.2.1 + _
    rw [sumS_set xs p v hp n, set_rdS xs p v hp n]
    by_cases h : n = p
    · subst h
      rw [if_neg (by omega), if_pos rfl, if_pos (by omega)]; omega
    · rw [if_neg h]
      by_cases h2 : p < n
      · rw [if_pos h2, if_pos (by omega)]; omega
      · rw [if_neg h2, if_neg (by omega)]; omega
def AllE (sums : List (Int × Int × Int)) (M : Nat) (B : Int) (xs : SwL) : Prop := xs.length = M ∧ ∀ i : Nat, i < M → 1 ≤ (rY19 xs (i : Int)).1 ∧ (rY19 xs (i : Int)).1 ≤ 50 ∧ (rY19 xs (i : Int)).2.1 = 0 ∧ 0 ≤ (rY19 xs (i : Int)).2.2.1 ∧ (rY19 xs (i : Int)).2.2.1 ≤ B ∧ (rY19 xs (i : Int)).2.2.2.1 = (rY5 sums (i : Int)).2.2 ∧ (rY19 xs (i : Int)).2.2.2.2 = ByteArray.mk #[48]
theorem sumS_rng (sums : List (Int × Int × Int)) (M : Nat) (B : Int) (xs : SwL) (hx : AllE sums M B xs) : ∀ n : Nat, n ≤ M → 0 ≤ sumS xs n ∧ sumS xs n ≤ B * n
  | 0, _ => by show 0 ≤ (0 : Int) ∧ (0 : Int) ≤ B * 0; omega
  | n + 1, hn => by
    have ih := sumS_rng sums M B xs hx n (by omega)
    obtain ⟨_, _, _, h4, h5, _⟩ := hx.2 n (by omega)
    have e : B * ((n + 1 : Nat) : Int) = B * (n : Int) + B := by rw [show ((n + 1 : Nat) : Int) = (n : Int) + 1 from rfl, Int.mul_add, Int.mul_one]
    show 0 ≤ sumS xs n + _ ∧ sumS xs n + _ ≤ B * ((n + 1 : Nat) : Int)
    omega
theorem te35 (sums : List (Int × Int × Int)) (M : Nat) (hM : M ≤ 24) (hs : DemP M 1200000 sums) (xs : SwL) (hx : AllE sums M 1000 xs) (sup : Int) (hsup : sup = sumS xs M) : ∀ (m j : Nat), j + m = M →
    EvP (fun k => gridhalltop_TopEnergy.l35 k sup (sumD sums M) (ofBytes (outL ((sumS xs j - sumD sums j : Int) : Rat))) (xs.length : Int) (j : Int) xs) (fun r => r = true)
  | 0, j, hj => by
    have c0 := sumS_rng sums M 1000 xs hx j (by omega)
    have c1 := sumD_rng sums M hs j (by omega)
    have hl := hx.1
    have hj : j = M := by omega
    subst hj
    have R := ratOf_ev (n := sumS xs j - sumD sums j) (by omega) (by omega)
    rw [if_pos (fit_int (by omega) (by omega))] at R
    refine EvP.step (fun k => gridhalltop_TopEnergy.l35_eq k _ _ _ _ _ _) (EvP.neg (by omega) ?_)
    rw [hsup, w64 (x := sumS xs j - sumD sums j) (by omega) (by omega)]
    exact EvP.bindE R (EvP.pos rfl (EvP.ret (decide_eq_true rfl)))
  | m + 1, j, hj => by
    have c0 := sumS_rng sums M 1000 xs hx j (by omega)
    have c1 := sumD_rng sums M hs j (by omega)
    have c2 := sumS_rng sums M 1000 xs hx (j + 1) (by omega)
    have c3 := sumD_rng sums M hs (j + 1) (by omega)
    have hl := hx.1
    obtain ⟨e1, e2, e3, e4, e5, e6, e7⟩ := hx.2 j (by omega)
    have hsj := hs.2 j (by omega)
    have T : swT (rY19 xs (j : Int)) := ⟨e1, e2, e3, e4, e5, by omega, by omega⟩
    have O0 : OutOk (rY19 xs (j : Int)).2.2.2.2 0 := by rw [e7]; exact ok_zero
    refine EvP.step (fun k => gridhalltop_TopEnergy.l35_eq k _ _ _ _ _ _) (EvP.pos (by omega) (EvP.pos (by omega) (EvP.pos (by omega) (EvP.bind (swStep_ev T O0) (fun r hr => ?_)))))
    by_cases hb : 100000 < (rY19 xs (j : Int)).2.2.2.1
    · have e := hr.1 hb
      have C := swCheck_ev T O0
      rw [if_pos hb] at C
      refine EvP.neg (by omega) (EvP.bindE C (EvP.ret ?_))
      rw [e]; rfl
    · have e := hr.2 hb
      subst e
      have T' : swT ((rY19 xs (j : Int)).1, (rY19 xs (j : Int)).2.1, (rY19 xs (j : Int)).2.2.1, (rY19 xs (j : Int)).2.2.2.1, ofBytes (outL ((((rY19 xs (j : Int)).2.2.1 - (rY19 xs (j : Int)).2.2.2.1 : Int) : Rat) / ((rY19 xs (j : Int)).1 : Rat)))) := T
      have Mo := swMom_ev T' hb (d := (rY19 xs (j : Int)).2.2.1 - (rY19 xs (j : Int)).2.2.2.1) (by omega) ⟨rfl, fit_part (by omega) (by omega)⟩
      have A := ratAdd_ev (show OutOk (ofBytes (outL ((sumS xs j - sumD sums j : Int) : Rat))) ((sumS xs j - sumD sums j : Int) : Rat) from ⟨rfl, fit_int (by omega) (by omega)⟩) (show OutOk (ofBytes (outL (((rY19 xs (j : Int)).2.2.1 - (rY19 xs (j : Int)).2.2.2.1 : Int) : Rat))) (((rY19 xs (j : Int)).2.2.1 - (rY19 xs (j : Int)).2.2.2.1 : Int) : Rat) from ⟨rfl, fit_int (by omega) (by omega)⟩)
      have ej : (sumS xs j - sumD sums j) + ((rY19 xs (j : Int)).2.2.1 - (rY19 xs (j : Int)).2.2.2.1) = sumS xs (j + 1) - sumD sums (j + 1) := by
        show _ = (sumS xs j + (rY19 xs (j : Int)).2.2.1) - (sumD sums j + (rY5 sums (j : Int)).2.2)
        omega
      rw [← Rat.intCast_add, ej, if_pos (fit_int (by omega) (by omega))] at A
      refine EvP.pos rfl (EvP.bindE Mo (EvP.pos rfl (EvP.bindE A (EvP.pos rfl ?_))))
      rw [w64 (x := (j : Int) + 1) (by omega) (by omega)]
      exact te35 sums M hM hs xs hx sup hsup m (j + 1) (by omega)
theorem te22 (n : NetT) (h : NetOk n) (hg : n.2.2.2.1.length ≤ 4) (pl : List Int × Int) (hp : PlP n pl) (sums : List (Int × Int × Int)) (hs : DemP pl.2.toNat 1200000 sums) (pw : List Int) : ∀ (m j : Nat) (xs : SwL), j + m = n.2.2.2.1.length → AllE sums pl.2.toNat (200 * j) xs →
    EvP (fun k => gridhalltop_TopEnergy.l22 k pw pl.1 (sumS xs pl.2.toNat) (sumD sums pl.2.toNat) n.2.2.2.1 (n.2.2.2.1.length : Int) (j : Int) n.1 n.2.1 n.2.2.1 n.2.2.2.1 n.2.2.2.2.1 n.2.2.2.2.2 xs) (fun r => r = true)
  | 0, j, xs, hj, hx => by
    have c0 := sumS_rng sums _ _ xs hx pl.2.toNat (Nat.le_refl _)
    have h24 := hp.2.2.1
    have hx' : AllE sums pl.2.toNat 1000 xs := ⟨hx.1, fun i hi => by
      obtain ⟨e1, e2, e3, e4, e5, e6, e7⟩ := hx.2 i hi
      exact ⟨e1, e2, e3, e4, by omega, e6, e7⟩⟩
    have hb : sumS xs pl.2.toNat ≤ 200 * (j : Int) * 24 := Int.le_trans c0.2 (Int.mul_le_mul_of_nonneg_left (by omega) (by omega))
    refine EvP.step (fun k => gridhalltop_TopEnergy.l22_eq k _ _ _ _ _ _ _ _ _ _ _ _ _ _) (EvP.neg (by omega) ?_)
    exact te35 sums pl.2.toNat (by omega) hs xs hx' _ rfl pl.2.toNat 0 (Nat.zero_add _)
  | m + 1, j, xs, hj, hx => by
    have h24 := hp.2.2.1
    have hd := h.gn _ (rY13_mem (xs := n.2.2.2.1) (i := (j : Int)) (by omega) (by omega))
    obtain ⟨p, p1, p2⟩ := pl_at hp hd.1
    have hi := idxS_mem hd.1
    have hpl := hp.1
    have hl0 := h.l0
    have hxl := hx.1
    have hxp := hx.2 p (by omega)
    have step : ∀ q : Int, 0 ≤ q → q ≤ 200 → EvP (fun k => gridhalltop_TopEnergy.l27 k pw pl.1 (sumS xs pl.2.toNat) (sumD sums pl.2.toNat) q n.2.2.2.1 (n.2.2.2.1.length : Int) (j : Int) n.1 n.2.1 n.2.2.1 n.2.2.2.1 n.2.2.2.2.1 n.2.2.2.2.2 xs (rY13 n.2.2.2.1 (j : Int)).1 (rY13 n.2.2.2.1 (j : Int)).2.1 (rY13 n.2.2.2.1 (j : Int)).2.2.1 (rY13 n.2.2.2.1 (j : Int)).2.2.2.1 (rY13 n.2.2.2.1 (j : Int)).2.2.2.2) (fun r => r = true) := by
      intro q q0 q1
      have c0 := sumS_rng sums _ _ xs hx pl.2.toNat (Nat.le_refl _)
      have hb : sumS xs pl.2.toNat ≤ 200 * (j : Int) * 24 := Int.le_trans c0.2 (Int.mul_le_mul_of_nonneg_left (by omega) (by omega))
      obtain ⟨e1, e2, e3, e4, e5, e6, e7⟩ := hxp
      refine EvP.step (fun k => gridhalltop_TopEnergy.l27_eq k _ _ _ _ _ _ _ _ _ _ _ _ _ _ _ _ _ _ _ _) (EvP.bindE (nix_ev n.1 _ (by omega)) (EvP.neg (by omega) (EvP.pos hi.1 (EvP.pos (by omega) ?_))))
      rw [p1]
      refine EvP.neg (by omega) (EvP.pos hi.1 (EvP.pos (by omega) (EvP.pos (by omega) (EvP.pos (by omega) (EvP.pos (by omega) (EvP.pos (by omega) ?_))))))
      rw [show ((p : Int)).toNat = p from rfl, w64 (x := sumS xs pl.2.toNat + q) (by omega) (by omega), w64 (x := (rY19 xs (p : Int)).2.2.1 + q) (by omega) (by omega), w64 (x := (j : Int) + 1) (by omega) (by omega)]
      have es := sumS_set xs p ((rY19 xs (p : Int)).1, (rY19 xs (p : Int)).2.1, (rY19 xs (p : Int)).2.2.1 + q, (rY19 xs (p : Int)).2.2.2) (by omega) pl.2.toNat
      rw [if_pos (by omega)] at es
      have es' : sumS xs pl.2.toNat + q = sumS (xs.set p ((rY19 xs (p : Int)).1, (rY19 xs (p : Int)).2.1, (rY19 xs (p : Int)).2.2.1 + q, (rY19 xs (p : Int)).2.2.2)) pl.2.toNat := by rw [es]; show _ = _ + ((rY19 xs (p : Int)).2.2.1 + q - (rY19 xs (p : Int)).2.2.1); omega
      rw [es']
      refine te22 n h hg pl hp sums hs pw m (j + 1) _ (by omega) ⟨by rw [List.length_set]; exact hxl, fun i hi => ?_⟩
      have hxi := hx.2 i hi
      rw [set_rdS xs p _ (by omega) i]
      by_cases hip : i = p
      · subst hip
        rw [if_pos rfl]
        refine ⟨e1, e2, e3, ?_, ?_, e6, e7⟩
        · show 0 ≤ _ + q; omega
        · show _ + q ≤ 200 * ((j + 1 : Nat) : Int); omega
      · rw [if_neg hip]
        obtain ⟨f1, f2, f3, f4, f5, f6, f7⟩ := hxi
        exact ⟨f1, f2, f3, f4, by omega, f6, f7⟩
    refine EvP.step (fun k => gridhalltop_TopEnergy.l22_eq k _ _ _ _ _ _ _ _ _ _ _ _ _ _) (EvP.pos (by omega) (EvP.pos (by omega) (EvP.pos (by omega) (EvP.ite (fun hlt => EvP.pos (by omega) (EvP.pos hlt (EvP.bind (cut_ev _ 0 200 (by omega) (by omega) (by omega) (by omega)) (fun q hq => step q hq.1 hq.2)))) (fun _ => step 0 (by omega) (by omega))))))
def AllF (sums : List (Int × Int × Int)) (M j : Nat) (xs : SwL) : Prop := xs.length = M ∧ ∀ i : Nat, i < j → 1 ≤ (rY19 xs (i : Int)).1 ∧ (rY19 xs (i : Int)).1 ≤ 50 ∧ (rY19 xs (i : Int)).2.1 = 0 ∧ (rY19 xs (i : Int)).2.2.1 = 0 ∧ (rY19 xs (i : Int)).2.2.2.1 = (rY5 sums (i : Int)).2.2 ∧ (rY19 xs (i : Int)).2.2.2.2 = ByteArray.mk #[48]
theorem allF_sum (sums : List (Int × Int × Int)) (M : Nat) (xs : SwL) (h : AllF sums M M xs) : ∀ n : Nat, n ≤ M → sumS xs n = 0
  | 0, _ => rfl
  | n + 1, hn => by
    have := (h.2 n (by omega)).2.2.2.1
    show sumS xs n + _ = 0
    rw [allF_sum sums M xs h n (by omega), this]; rfl
theorem te14 (n : NetT) (h : NetOk n) (hg : n.2.2.2.1.length ≤ 4) (pl : List Int × Int) (hp : PlP n pl) (sums : List (Int × Int × Int)) (hs : DemP pl.2.toNat 1200000 sums) (pw ins : List Int) : ∀ (m j : Nat) (xs : SwL), j + m = pl.2.toNat → AllF sums pl.2.toNat j xs →
    EvP (fun k => gridhalltop_TopEnergy.l14 k pw ins pl.1 0 (sumD sums j) sums (sums.length : Int) (j : Int) n.1 n.2.1 n.2.2.1 n.2.2.2.1 n.2.2.2.2.1 n.2.2.2.2.2 xs) (fun r => r = true)
  | 0, j, xs, hj, hx => by
    have hsl := hs.1
    have hj : j = pl.2.toNat := by omega
    subst hj
    have e := allF_sum sums _ xs hx pl.2.toNat (Nat.le_refl _)
    have T := te22 n h hg pl hp sums hs pw _ 0 xs (Nat.zero_add _) ⟨hx.1, fun i hi => by
      obtain ⟨f1, f2, f3, f4, f5, f6⟩ := hx.2 i hi
      exact ⟨f1, f2, f3, by omega, by omega, f5, f6⟩⟩
    rw [e] at T
    exact EvP.step (fun k => gridhalltop_TopEnergy.l14_eq k _ _ _ _ _ _ _ _ _ _ _ _ _ _ _) (EvP.neg (by omega) T)
  | m + 1, j, xs, hj, hx => by
    have h24 := hp.2.2.1
    have hsl := hs.1
    have hxl := hx.1
    have hsj := hs.2 j (by omega)
    have c1 := sumD_rng sums _ hs j (by omega)
    have ed : sumD sums j + (rY5 sums (j : Int)).2.2 = sumD sums (j + 1) := rfl
    have fin : ∀ I : Int, 1 ≤ I → I ≤ 50 → ∀ ys : SwL, ys.length = pl.2.toNat → (∀ i : Nat, i ≠ j → rY19 ys (i : Int) = rY19 xs (i : Int)) → rY19 ys (j : Int) = (I, 0, 0, (rY5 sums (j : Int)).2.2, ByteArray.mk #[48]) → AllF sums pl.2.toNat (j + 1) ys := fun I i0 i1 ys hl hne he => ⟨hl, fun i hi => by
      by_cases e : i = j
      · rw [e, he]
        exact ⟨i0, i1, rfl, rfl, rfl, rfl⟩
      · rw [hne i e]
        exact hx.2 i (by omega)⟩
    have s1 := set_rdS xs j (10, 0, 0, (rY5 sums (j : Int)).2.2, ByteArray.mk #[48]) (by omega)
    refine EvP.step (fun k => gridhalltop_TopEnergy.l14_eq k _ _ _ _ _ _ _ _ _ _ _ _ _ _ _) (EvP.pos (by omega) (EvP.pos (by omega) (EvP.pos (by omega) (EvP.pos (by omega) (EvP.pos (by omega) ?_)))))
    rw [show ((j : Int)).toNat = j from rfl, w64 (x := (j : Int) + 1) (by omega) (by omega), w64 (x := sumD sums j + (rY5 sums (j : Int)).2.2) (by omega) (by omega), ed]
    refine EvP.ite (fun hlt => EvP.pos (by omega) (EvP.pos hlt (EvP.bind (cut_ev _ 1 50 (by omega) (by omega) (by omega) (by omega)) (fun q hq => EvP.pos (by omega) (EvP.pos (by rw [List.length_set]; omega) ?_))))) (fun _ => ?_)
    · have s2 := set_rdS (xs.set j (10, 0, 0, (rY5 sums (j : Int)).2.2, ByteArray.mk #[48])) j (q, (rY19 (xs.set j (10, 0, 0, (rY5 sums (j : Int)).2.2, ByteArray.mk #[48])) (j : Int)).2) (by rw [List.length_set]; omega)
      refine te14 n h hg pl hp sums hs pw ins m (j + 1) _ (by omega) (fin q hq.1 hq.2 _ (by rw [List.length_set, List.length_set]; exact hxl) (fun i hi => by rw [s2, if_neg hi, s1, if_neg hi]) ?_)
      rw [s2, if_pos rfl, s1, if_pos rfl]
    · exact te14 n h hg pl hp sums hs pw ins m (j + 1) _ (by omega) (fin 10 (by omega) (by omega) _ (by rw [List.length_set]; exact hxl) (fun i hi => by rw [s1, if_neg hi]) (by rw [s1, if_pos rfl]))
/-- The row's pure statement. -/
def TopEnergy.Pure : Prop := ∀ (a0 : List ByteArray × (List (ByteArray × ByteArray × ByteArray × Bool × Bool)) × (List (ByteArray × ByteArray × ByteArray × Int × Int × Int × Int × Int × Int)) × (List (ByteArray × ByteArray × Int × Int × Int)) × (List (ByteArray × ByteArray × Int)) × List (ByteArray × ByteArray × Int × Int × Int)) (a1 : List Int) (a2 : List Int), OkV BY (.pair (.list 9 .str) (.pair (.list 150 (.pair .str (.pair .str (.pair .str (.pair .bool .bool))))) (.pair (.list 107 (.pair .str (.pair .str (.pair .str (.pair (.int .i64) (.pair (.int .i64) (.pair (.int .i64) (.pair (.int .i64) (.pair (.int .i64) (.int .i64)))))))))) (.pair (.list 76 (.pair .str (.pair .str (.pair (.int .i64) (.pair (.int .i64) (.int .i64)))))) (.pair (.list 109 (.pair .str (.pair .str (.int .i64)))) (.list 175 (.pair .str (.pair .str (.pair (.int .i64) (.pair (.int .i64) (.int .i64))))))))))) a0 → OkV BY (.list 3 (.int .i64)) a1 → OkV BY (.list 3 (.int .i64)) a2 → ∃ k, gridhalltop_TopEnergy.f k a0 a1 a2 = some true
theorem halfStep : Ev (fun k => swing_Step.f k (10, 0, 105, 100, ByteArray.mk #[48])) ((10, 0, 105, 100, ByteArray.mk #[49, 47, 50]), 0) := Ev.far 100 (fun k => by kernel_rfl)
theorem Pure.TopEnergy : TopEnergy.Pure := by
  intro a0 a1 a2 ok0 ok1 ok2
  refine EvP.rounds (EvP.bindE halfStep (EvP.pos rfl (EvP.pos rfl ?_)))
  obtain ⟨m1, m2, m3⟩ := mn_le (a0.2.2.2.1.length : Int) 4
  obtain ⟨n1, n2, n3⟩ := mn_le (a0.2.2.2.2.1.length : Int) 4
  generalize mn (a0.2.2.2.1.length : Int) 4 = g at m1 m2 m3 ⊢
  generalize mn (a0.2.2.2.2.1.length : Int) 4 = l at n1 n2 n3 ⊢
  refine EvP.pos m1 (EvP.pos (by omega) (EvP.pos n1 (EvP.pos (by omega) ?_)))
  have hz : NetSz (a0.1, a0.2.1, a0.2.2.1, a0.2.2.2.1.take g.toNat, a0.2.2.2.2.1.take l.toNat, a0.2.2.2.2.2) := ⟨fun x hx => Nat.le_trans (ok0.1.2 x hx) (by omega), fun x hx => Nat.le_trans (ok0.2.1.2 x hx).1 (by omega), fun x hx => Nat.le_trans (ok0.2.2.1.2 x hx).1 (by omega), fun x hx => Nat.le_trans (ok0.2.2.2.1.2 x (List.mem_of_mem_take hx)).1 (by omega), fun x hx => Nat.le_trans (ok0.2.2.2.2.1.2 x (List.mem_of_mem_take hx)).1 (by omega), fun x hx => Nat.le_trans (ok0.2.2.2.2.2.2 x hx).1 (by omega)⟩
  have hgl : (a0.2.2.2.1.take g.toNat).length ≤ 4 := by rw [List.length_take]; omega
  generalize hn : ((a0.1, a0.2.1, a0.2.2.1, a0.2.2.2.1.take g.toNat, a0.2.2.2.2.1.take l.toNat, a0.2.2.2.2.2) : NetT) = n at hz
  have f1 : a0.1 = n.1 := by rw [← hn]
  have f2 : a0.2.1 = n.2.1 := by rw [← hn]
  have f3 : a0.2.2.1 = n.2.2.1 := by rw [← hn]
  have f4 : a0.2.2.2.1.take g.toNat = n.2.2.2.1 := by rw [← hn]
  have f5 : a0.2.2.2.2.1.take l.toNat = n.2.2.2.2.1 := by rw [← hn]
  have f6 : a0.2.2.2.2.2 = n.2.2.2.2.2 := by rw [← hn]
  rw [f4] at hgl
  rw [f1, f2, f3, f4, f5, f6]
  obtain ⟨r, hr, hok⟩ := netCheck_ex n hz
  by_cases e : r = 0
  · subst e
    have hok := hok rfl
    have hl0 := hok.l0
    obtain ⟨pl, hpl, hp⟩ := places_ex hok hr
    have h24 := hp.2.2.1
    refine EvP.bind (islOf_ex hok hr hpl hp) (fun s hs => ?_)
    have hsl := hs.2.1
    refine EvP.bindE (Ev.bind hr (Ev.pos rfl (Ev.bind hpl (Ev.now _)))) (EvP.pos hs.1 (EvP.pos rfl (EvP.pos (by show (pl.1.length : Int) = _; rw [hp.1]) (EvP.pos (by omega) (EvP.pos (by omega) (EvP.pos (by omega) ?_))))))
    refine te14 n hok hgl pl hp s.1 hs.2 a1 a2 _ 0 _ (Nat.zero_add _) ⟨by rw [List.length_replicate, hsl]; rfl, fun i hi => by omega⟩
  · refine EvP.bindE (a := ([], r)) (Ev.bind hr (Ev.neg e (Ev.now _))) (EvP.bindE (a := ([], r)) (Ev.bind hr (Ev.neg e (Ev.now _))) (EvP.neg e (EvP.pos rfl (EvP.ret rfl))))
end Go.Proofs.YtamgbcgfjhpedaaDoor.VE
