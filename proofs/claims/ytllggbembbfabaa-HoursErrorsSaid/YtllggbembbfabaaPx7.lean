-- Written by xprint.py of this session out of the kit's printer.
import Derived.Test.YtllggbembbfabaaPx0
import Derived.Test.YtllggbembbfabaaPx1
import Derived.Test.YtllggbembbfabaaPx4
import Derived.Test.YtllggbembbfabaaPx6
import Derived.Test.YtllggbembbfabaaWEqStruct
import Derived.Test.YtllggbembbfabaaWRepsOne
import Derived.Test.YtllggbembbfabaaWGuard
namespace Go.Proofs.Ytllggbembbfabaa.P
open Go.RowKit Go.Proofs.YtllggbembbfabaaW.PrintWords Go.Proofs.YtllggbembbfabaaW.PrintLast Go.Proofs.YtllggbembbfabaaW.PrintMore
attribute [local go_sem] max2_int min2_int max_two min_two max_three min_three max_four min_four   -- for this text's walks alone
set_option linter.unusedVariables false
set_option linter.unusedSimpArgs false

attribute [local go_sem high] eqA30
/-! ### gridhallkeep3_HoursErrors: function 3 -/
mutual
def gridhallkeep3_HoursErrors.j0 : Nat → List Int → List Int → Bool → Option (Bool)
  | 0, _, _, _ => none
  | k + 1, x0, x1, x40 => if x40 = true then (some false) else ((hours_Band.f k (([5] : List Int)) 2).bind fun bt127 => (if bt127.2 = 0 then (if (bt127.1.length : Int) = 1 then (if 0 < (bt127.1.length : Int) then (gridhallkeep3_HoursErrors.j1 k x0 x1 (!(((rd_T30 bt127.1 0).f0) == 3) || (!(((rd_T30 bt127.1 0).f1) == 7)))) else (none)) else (gridhallkeep3_HoursErrors.j1 k x0 x1 true)) else (gridhallkeep3_HoursErrors.j1 k x0 x1 true)))
def gridhallkeep3_HoursErrors.j1 : Nat → List Int → List Int → Bool → Option (Bool)
  | 0, _, _, _ => none
  | k + 1, x0, x1, x59 => if x59 = true then (some false) else ((hours_Errors.f k x0 x1).bind fun bt132 => (if bt132.2.2.2 = 0 then (if bt132.1 > bt132.2.2.1 then (gridhallkeep3_HoursErrors.j2 k x0 x1 bt132.1 true) else (if bt132.2.1 > bt132.2.2.1 then (gridhallkeep3_HoursErrors.j2 k x0 x1 bt132.1 true) else (gridhallkeep3_HoursErrors.j2 k x0 x1 bt132.1 (decide ((wrap64 (-bt132.2.1)) > bt132.2.2.1))))) else (if bt132.1 = 0 then (if bt132.2.1 = 0 then (some (bt132.2.2.1 == 0)) else (some false)) else (some false))))
def gridhallkeep3_HoursErrors.j2 : Nat → List Int → List Int → Int → Bool → Option (Bool)
  | 0, _, _, _, _ => none
  | k + 1, x0, x1, x11, x93 => if x93 = true then (some false) else ((hours_Band.f k x0 (mn x11 100000)).bind fun bt136 => (if bt136.2 = 0 then (gridhallkeep3_HoursErrors.j3 k x1 bt136.1 bt136.2 (decide (x11 > 100000))) else (gridhallkeep3_HoursErrors.j3 k x1 bt136.1 bt136.2 true)))
def gridhallkeep3_HoursErrors.j3 : Nat → List Int → List (S30) → Int → Bool → Option (Bool)
  | 0, _, _, _, _ => none
  | k + 1, x1, x15, x16, x106 => if x106 = true then (some (x16 == 0)) else (gridhallkeep3_HoursErrors.l0 k x15 x1 (x1.length : Int) 0)
def gridhallkeep3_HoursErrors.l0 : Nat → List (S30) → List Int → Int → Int → Option (Bool)
  | 0, _, _, _, _ => none
  | k + 1, x15, x109, x110, x111 => if x111 < x110 then (if 0 ≤ x111 then (if x111 < (x109.length : Int) then (if (rd x109 x111) ≥ 0 then (if x111 < (x15.length : Int) then (if (rd x109 x111) < ((rd_T30 x15 x111).f0) then (some false) else (if (rd x109 x111) > ((rd_T30 x15 x111).f1) then (some false) else (gridhallkeep3_HoursErrors.l0 k x15 x109 x110 (wrap64 (x111 + 1))))) else (none)) else (gridhallkeep3_HoursErrors.l0 k x15 x109 x110 (wrap64 (x111 + 1)))) else (none)) else (none)) else (some true)
end
def gridhallkeep3_HoursErrors.f (k : Nat) (l0 : List Int) (l1 : List Int) : Option (Bool) := (hours_Errors.f k (([5, 5] : List Int)) (([7, 4] : List Int))).bind fun bt120 => (if bt120.2.2.2 = 0 then (if bt120.1 = 2 then (if bt120.2.1 = 1 then (gridhallkeep3_HoursErrors.j0 k l0 l1 (bt120.2.2.1 != 5)) else (gridhallkeep3_HoursErrors.j0 k l0 l1 true)) else (gridhallkeep3_HoursErrors.j0 k l0 l1 true)) else (gridhallkeep3_HoursErrors.j0 k l0 l1 true))
theorem gridhallkeep3_HoursErrors.mono_l : ∀ k, (∀ y0 y1 y2, LeO (gridhallkeep3_HoursErrors.j0 k y0 y1 y2) (gridhallkeep3_HoursErrors.j0 (k + 1) y0 y1 y2)) ∧ (∀ y0 y1 y2, LeO (gridhallkeep3_HoursErrors.j1 k y0 y1 y2) (gridhallkeep3_HoursErrors.j1 (k + 1) y0 y1 y2)) ∧ (∀ y0 y1 y2 y3, LeO (gridhallkeep3_HoursErrors.j2 k y0 y1 y2 y3) (gridhallkeep3_HoursErrors.j2 (k + 1) y0 y1 y2 y3)) ∧ (∀ y0 y1 y2 y3, LeO (gridhallkeep3_HoursErrors.j3 k y0 y1 y2 y3) (gridhallkeep3_HoursErrors.j3 (k + 1) y0 y1 y2 y3)) ∧ (∀ y0 y1 y2 y3, LeO (gridhallkeep3_HoursErrors.l0 k y0 y1 y2 y3) (gridhallkeep3_HoursErrors.l0 (k + 1) y0 y1 y2 y3))
  | 0 => ⟨fun _ _ _ r h => by simp [gridhallkeep3_HoursErrors.j0] at h, fun _ _ _ r h => by simp [gridhallkeep3_HoursErrors.j1] at h, fun _ _ _ _ r h => by simp [gridhallkeep3_HoursErrors.j2] at h, fun _ _ _ _ r h => by simp [gridhallkeep3_HoursErrors.j3] at h, fun _ _ _ _ r h => by simp [gridhallkeep3_HoursErrors.l0] at h⟩
  | k + 1 => by
    obtain ⟨ih0, ih1, ih2, ih3, ih4⟩ := gridhallkeep3_HoursErrors.mono_l k
    refine ⟨?_, ?_, ?_, ?_, ?_⟩
    · intro y0 y1 y2
      unfold gridhallkeep3_HoursErrors.j0
      repeat' first
      | (with_reducible exact ih0 _ _ _)
      | (with_reducible exact ih1 _ _ _)
      | (with_reducible exact ih2 _ _ _ _)
      | (with_reducible exact ih3 _ _ _ _)
      | (with_reducible exact ih4 _ _ _ _)
      | (with_reducible exact hours_Band.mono _ _ _)
      | (with_reducible exact hours_Errors.mono _ _ _)
      | (with_reducible exact LeO.refl _)
      | (with_reducible exact LeO.none _)
      | (with_reducible refine LeO.ite ?_ ?_)
      | (with_reducible refine LeO.bind ?_ (fun _ => ?_))
      | exact ih0 _ _ _
      | exact ih1 _ _ _
      | exact ih2 _ _ _ _
      | exact ih3 _ _ _ _
      | exact ih4 _ _ _ _
      | exact hours_Band.mono _ _ _
      | exact hours_Errors.mono _ _ _
      | exact LeO.none _
      | refine LeO.ite ?_ ?_
      | refine LeO.bind ?_ (fun _ => ?_)
    · intro y0 y1 y2
      unfold gridhallkeep3_HoursErrors.j1
      repeat' first
      | (with_reducible exact ih0 _ _ _)
      | (with_reducible exact ih1 _ _ _)
      | (with_reducible exact ih2 _ _ _ _)
      | (with_reducible exact ih3 _ _ _ _)
      | (with_reducible exact ih4 _ _ _ _)
      | (with_reducible exact hours_Band.mono _ _ _)
      | (with_reducible exact hours_Errors.mono _ _ _)
      | (with_reducible exact LeO.refl _)
      | (with_reducible exact LeO.none _)
      | (with_reducible refine LeO.ite ?_ ?_)
      | (with_reducible refine LeO.bind ?_ (fun _ => ?_))
      | exact ih0 _ _ _
      | exact ih1 _ _ _
      | exact ih2 _ _ _ _
      | exact ih3 _ _ _ _
      | exact ih4 _ _ _ _
      | exact hours_Band.mono _ _ _
      | exact hours_Errors.mono _ _ _
      | exact LeO.none _
      | refine LeO.ite ?_ ?_
      | refine LeO.bind ?_ (fun _ => ?_)
    · intro y0 y1 y2 y3
      unfold gridhallkeep3_HoursErrors.j2
      repeat' first
      | (with_reducible exact ih0 _ _ _)
      | (with_reducible exact ih1 _ _ _)
      | (with_reducible exact ih2 _ _ _ _)
      | (with_reducible exact ih3 _ _ _ _)
      | (with_reducible exact ih4 _ _ _ _)
      | (with_reducible exact hours_Band.mono _ _ _)
      | (with_reducible exact hours_Errors.mono _ _ _)
      | (with_reducible exact LeO.refl _)
      | (with_reducible exact LeO.none _)
      | (with_reducible refine LeO.ite ?_ ?_)
      | (with_reducible refine LeO.bind ?_ (fun _ => ?_))
      | exact ih0 _ _ _
      | exact ih1 _ _ _
      | exact ih2 _ _ _ _
      | exact ih3 _ _ _ _
      | exact ih4 _ _ _ _
      | exact hours_Band.mono _ _ _
      | exact hours_Errors.mono _ _ _
      | exact LeO.none _
      | refine LeO.ite ?_ ?_
      | refine LeO.bind ?_ (fun _ => ?_)
    · intro y0 y1 y2 y3
      unfold gridhallkeep3_HoursErrors.j3
      repeat' first
      | (with_reducible exact ih0 _ _ _)
      | (with_reducible exact ih1 _ _ _)
      | (with_reducible exact ih2 _ _ _ _)
      | (with_reducible exact ih3 _ _ _ _)
      | (with_reducible exact ih4 _ _ _ _)
      | (with_reducible exact hours_Band.mono _ _ _)
      | (with_reducible exact hours_Errors.mono _ _ _)
      | (with_reducible exact LeO.refl _)
      | (with_reducible exact LeO.none _)
      | (with_reducible refine LeO.ite ?_ ?_)
      | (with_reducible refine LeO.bind ?_ (fun _ => ?_))
      | exact ih0 _ _ _
      | exact ih1 _ _ _
      | exact ih2 _ _ _ _
      | exact ih3 _ _ _ _
      | exact ih4 _ _ _ _
      | exact hours_Band.mono _ _ _
      | exact hours_Errors.mono _ _ _
      | exact LeO.none _
      | refine LeO.ite ?_ ?_
      | refine LeO.bind ?_ (fun _ => ?_)
    · intro y0 y1 y2 y3
      unfold gridhallkeep3_HoursErrors.l0
      repeat' first
      | (with_reducible exact ih0 _ _ _)
      | (with_reducible exact ih1 _ _ _)
      | (with_reducible exact ih2 _ _ _ _)
      | (with_reducible exact ih3 _ _ _ _)
      | (with_reducible exact ih4 _ _ _ _)
      | (with_reducible exact hours_Band.mono _ _ _)
      | (with_reducible exact hours_Errors.mono _ _ _)
      | (with_reducible exact LeO.refl _)
      | (with_reducible exact LeO.none _)
      | (with_reducible refine LeO.ite ?_ ?_)
      | (with_reducible refine LeO.bind ?_ (fun _ => ?_))
      | exact ih0 _ _ _
      | exact ih1 _ _ _
      | exact ih2 _ _ _ _
      | exact ih3 _ _ _ _
      | exact ih4 _ _ _ _
      | exact hours_Band.mono _ _ _
      | exact hours_Errors.mono _ _ _
      | exact LeO.none _
      | refine LeO.ite ?_ ?_
      | refine LeO.bind ?_ (fun _ => ?_)
theorem gridhallkeep3_HoursErrors.mono : ∀ a0 a1 k, LeO (gridhallkeep3_HoursErrors.f k a0 a1) (gridhallkeep3_HoursErrors.f (k + 1) a0 a1) := by
  intro a0 a1 k
  obtain ⟨ih0, ih1, ih2, ih3, ih4⟩ := gridhallkeep3_HoursErrors.mono_l k
  unfold gridhallkeep3_HoursErrors.f
  repeat' first
      | (with_reducible exact ih0 _ _ _)
      | (with_reducible exact ih1 _ _ _)
      | (with_reducible exact ih2 _ _ _ _)
      | (with_reducible exact ih3 _ _ _ _)
      | (with_reducible exact ih4 _ _ _ _)
      | (with_reducible exact hours_Band.mono _ _ _)
      | (with_reducible exact hours_Errors.mono _ _ _)
      | (with_reducible exact LeO.refl _)
      | (with_reducible exact LeO.none _)
      | (with_reducible refine LeO.ite ?_ ?_)
      | (with_reducible refine LeO.bind ?_ (fun _ => ?_))
      | exact ih0 _ _ _
      | exact ih1 _ _ _
      | exact ih2 _ _ _ _
      | exact ih3 _ _ _ _
      | exact ih4 _ _ _ _
      | exact hours_Band.mono _ _ _
      | exact hours_Errors.mono _ _ _
      | exact LeO.none _
      | refine LeO.ite ?_ ?_
      | refine LeO.bind ?_ (fun _ => ?_)
set_option maxHeartbeats 8000000 in
set_option maxRecDepth 100000 in
theorem gridhallkeep3_HoursErrors.calls (k : Nat) (A0 : Option Addr) (c0 : Nat) (l0 : List Int) (A1 : Option Addr) (c1 : Nat) (l1 : List Int) (r : Bool) (w : World) (hr0 : Kd.C (Kd.int .i64) w A0 l0.length l0) (hc0 : l0.length ≤ c0) (hr1 : Kd.C (Kd.int .i64) w A1 l1.length l1) (hc1 : l1.length ≤ c1) (h : gridhallkeep3_HoursErrors.f k l0 l1 = some r) :
    Calls Try.prog 3 #[.slice A0 l0.length c0, .slice A1 l1.length c1] w fun e w' => e = .returned (.bool r) ∧ Below w.heap.size w w' := by
  have hu30 := Try.underlying30
  have HR0 := Aside0.mk hr0
  have HC0 := Aside0.mk hc0
  clear hr0 hc0
  have HR1 := Aside0.mk hr1
  have HC1 := Aside0.mk hc1
  clear hr1 hc1
  have HB := Aside0.mk (Below.refl w.heap.size w)
  have H : ((hours_Errors.f k (([5, 5] : List Int)) (([7, 4] : List Int))).bind fun bt120 => (if bt120.2.2.2 = 0 then (if bt120.1 = 2 then (if bt120.2.1 = 1 then (gridhallkeep3_HoursErrors.j0 k l0 l1 (bt120.2.2.1 != 5)) else (gridhallkeep3_HoursErrors.j0 k l0 l1 true)) else (gridhallkeep3_HoursErrors.j0 k l0 l1 true)) else (gridhallkeep3_HoursErrors.j0 k l0 l1 true))) = some r := h
  clear h
  obtain ⟨y114, hy114⟩ : ∃ y_ : List Int, y_ = (([5, 5] : List Int)) := ⟨_, rfl⟩
  replace H : ((hours_Errors.f k y114 (([7, 4] : List Int))).bind fun bt120 => (if bt120.2.2.2 = 0 then (if bt120.1 = 2 then (if bt120.2.1 = 1 then (gridhallkeep3_HoursErrors.j0 k l0 l1 (bt120.2.2.1 != 5)) else (gridhallkeep3_HoursErrors.j0 k l0 l1 true)) else (gridhallkeep3_HoursErrors.j0 k l0 l1 true)) else (gridhallkeep3_HoursErrors.j0 k l0 l1 true))) = some r := by first | (rw [hy114]; with_reducible exact H) | (have H2_ := (Option.bind_some _ _).symm.trans H; rw [hy114]; with_reducible exact H2_) | (have H2_ := (Option.bind_some _ _).symm.trans H; with_reducible exact H2_) | with_reducible exact H | (rw [hy114]; exact H) | exact H
  have Ny114 := Aside0.mk hy114
  clear hy114
  obtain ⟨y117, hy117⟩ : ∃ y_ : List Int, y_ = (([7, 4] : List Int)) := ⟨_, rfl⟩
  replace H : ((hours_Errors.f k y114 y117).bind fun bt120 => (if bt120.2.2.2 = 0 then (if bt120.1 = 2 then (if bt120.2.1 = 1 then (gridhallkeep3_HoursErrors.j0 k l0 l1 (bt120.2.2.1 != 5)) else (gridhallkeep3_HoursErrors.j0 k l0 l1 true)) else (gridhallkeep3_HoursErrors.j0 k l0 l1 true)) else (gridhallkeep3_HoursErrors.j0 k l0 l1 true))) = some r := by first | (rw [hy117]; with_reducible exact H) | (have H2_ := (Option.bind_some _ _).symm.trans H; rw [hy117]; with_reducible exact H2_) | (have H2_ := (Option.bind_some _ _).symm.trans H; with_reducible exact H2_) | with_reducible exact H | (rw [hy117]; exact H) | exact H
  have Ny117 := Aside0.mk hy117
  clear hy117
  replace H := Option.bind_eq_some_iff.mp H
  obtain ⟨⟨t120, t121, t122, t123⟩, A30, H⟩ := H
  replace H : (if t123 = 0 then (if t120 = 2 then (if t121 = 1 then (gridhallkeep3_HoursErrors.j0 k l0 l1 (t122 != 5)) else (gridhallkeep3_HoursErrors.j0 k l0 l1 true)) else (gridhallkeep3_HoursErrors.j0 k l0 l1 true)) else (gridhallkeep3_HoursErrors.j0 k l0 l1 true)) = some r := H
  have A3 := Aside0.mk A30
  clear A30
  have HC4 := Aside0.mk H
  clear H
  go_enter Try.func3, Try.ntmps3
  go_upto_region 2 with (first | ((with_reducible refine gate_dst (N := 20) rfl ?_); (try (refine gate_guard (by rfl) ?_; dsimp only)); refine Kd.R_lit (Kd.int .i64) _ 3 ?hg (N := 20) ?hd (xs := ([5, 5] : List Int)) (inner := [.int .i64 5, .int .i64 5]) (ok := fun _ => True) (okp := fun _ => True) ?hr ?hp (fun _ hk => hk) trivial (Below.refl _ _) (Nat.le_refl _) (by simp) ?_; (case hd => rfl); (case hg => rfl); (case hr => first | (go_simp; done) | (go_simp; rfl)); (case hp => exact (Reps.one (show Kd.M (Kd.int .i64) _ _ _ 5 [.int .i64 5] from rfl) (Reps.one (show Kd.M (Kd.int .i64) _ _ _ 5 [.int .i64 5] from rfl) (Reps.none _ _)))); intro v115 w5 ho6 hb hg_ hnew_; clear hg_ hnew_; (first | rw [← Ny114.out] at ho6 | (simp only [Int.reduceToNat] at ho6; rw [← Ny114.out] at ho6)); have n0_ := Aside0.mk (Kd.R_lower ho6 (below_size (by repeat (first | (with_reducible first | exact HB.out | apply below_alloc | apply pw_below_drewN | apply below_drew1) | exact HB.out)))); have n1_ := Aside0.mk (below_step (by repeat (first | (with_reducible first | exact HB.out | apply below_alloc | apply pw_below_drewN | apply below_drew1) | exact HB.out)) hb); clear HB; have HO116 := n0_; have HB := n1_; clear n0_ n1_; clear hb ho6) | ((with_reducible refine gate_dst (N := 21) rfl ?_); (try (refine gate_guard (by rfl) ?_; dsimp only)); refine Kd.R_lit (Kd.int .i64) _ 3 ?hg (N := 21) ?hd (xs := ([7, 4] : List Int)) (inner := [.int .i64 7, .int .i64 4]) (ok := fun _ => True) (okp := fun _ => True) ?hr ?hp (fun _ hk => hk) trivial (Below.refl _ _) (Nat.le_refl _) (by simp) ?_; (case hd => rfl); (case hg => rfl); (case hr => first | (go_simp; done) | (go_simp; rfl)); (case hp => exact (Reps.one (show Kd.M (Kd.int .i64) _ _ _ 7 [.int .i64 7] from rfl) (Reps.one (show Kd.M (Kd.int .i64) _ _ _ 4 [.int .i64 4] from rfl) (Reps.none _ _)))); intro v118 w7 ho8 hb hg_ hnew_; clear hg_ hnew_; (first | rw [← Ny117.out] at ho8 | (simp only [Int.reduceToNat] at ho8; rw [← Ny117.out] at ho8)); have n0_ := Aside0.mk (Kd.R_elder' (by (with_reducible repeat (first | apply Kd.R_alloc | apply Kd.R_drewN | apply Kd.R_drew)); exact HO116.out) (Kd.R_base ho8) hb); have n1_ := Aside0.mk (Kd.R_lower (Kd.R_new' ho8 (Kd.R_lt (by (with_reducible repeat (first | apply Kd.R_alloc | apply Kd.R_drewN | apply Kd.R_drew)); exact HO116.out))) (below_size (by repeat (first | (with_reducible first | exact HB.out | apply below_alloc | apply pw_below_drewN | apply below_drew1) | exact HB.out)))); have n2_ := Aside0.mk (below_step (by repeat (first | (with_reducible first | exact HB.out | apply below_alloc | apply pw_below_drewN | apply below_drew1) | exact HB.out)) hb); clear HO116; clear HB; have HO116 := n0_; have HO119 := n1_; have HB := n2_; clear n0_ n1_ n2_; clear hb ho8; obtain ⟨Ao9, co9, eo9⟩ := Kd.R_slice HO116.out; subst eo9; obtain ⟨Ao10, co10, eo10⟩ := Kd.R_slice HO119.out; subst eo10) | ((with_reducible refine gate_callee (f := 14) rfl ?_); refine goesL_ (some 22) rfl rfl Try.func14 (by kernel_rfl) rfl #[.slice Ao9 y114.length co9, .slice Ao10 y117.length co10] rfl (by (try simp only [List.map_toArray, List.map_cons, List.map_nil]); first | done | rfl | (simp only [List.length_drop, List.length_take]; rfl)) ?_; (with_reducible refine (hours_Errors.calls k _ _ y114 _ _ y117 t120 t121 t122 t123 _ ?side1 ?side2 ?side3 ?side4 A3.out).mono ?_); (case side1 => repeat (first | exact (Kd.R_reads' HO116.out).2.2 | (with_reducible refine Kd.C_alloc ?_ _) | (with_reducible refine Kd.C_drewN ?_ _) | (with_reducible refine Kd.C_drew ?_))); (case side2 => exact (Kd.R_reads' HO116.out).2.1); (case side3 => repeat (first | exact (Kd.R_reads' HO119.out).2.2 | (with_reducible refine Kd.C_alloc ?_ _) | (with_reducible refine Kd.C_drewN ?_ _) | (with_reducible refine Kd.C_drew ?_))); (case side4 => exact (Kd.R_reads' HO119.out).2.1); rintro e w11 ⟨rfl, hb⟩; refine ⟨_, rfl, ?_⟩; have n0_ := Aside0.mk (Kd.R_below (by (with_reducible repeat (first | apply Kd.R_alloc | apply Kd.R_drewN | apply Kd.R_drew)); exact HO116.out) hb); have n1_ := Aside0.mk (Kd.R_below (by (with_reducible repeat (first | apply Kd.R_alloc | apply Kd.R_drewN | apply Kd.R_drew)); exact HO119.out) hb); have n2_ := Aside0.mk (below_step (by repeat (first | (with_reducible first | exact HB.out | apply below_alloc | apply pw_below_drewN | apply below_drew1) | exact HB.out)) hb); clear HO116; clear HO119; clear HB; have HO116 := n0_; have HO119 := n1_; have HB := n2_; clear n0_ n1_ n2_; (try clear hb); (try clear hb2); (try clear hk); (try clear hi)))
  (try simp only [Act.put, List.setIfInBounds_toArray, List.set_cons_zero, List.set_cons_succ])
  go_cut [40] (fun v40 wc => ∃ (kq : Nat) (x40_3 : Bool), v40 = .bool x40_3 ∧ Aside0 (gridhallkeep3_HoursErrors.j0 kq l0 l1 x40_3 = some r) ∧ Aside0 (kq ≤ k) ∧ Aside0 (Below w.heap.size w wc))
  case first =>
    have H := HC4.out
    clear HC4
    by_cases c12 : t123 = 0
    · rw [if_pos c12] at H
      have c12b0 : (t123 == 0) = true := beq_iff_eq.mpr c12
      have c12b1 : (t123 != 0) = false := bne_eq_false_iff_eq.mpr c12
      clear c12
      (first | rw [c12b0] | (simp only [i64_w, i32_w]; rw [c12b0]) | skip)
      by_cases c13 : t120 = 2
      · rw [if_pos c13] at H
        have c13b0 : (t120 == 2) = true := beq_iff_eq.mpr c13
        have c13b1 : (t120 != 2) = false := bne_eq_false_iff_eq.mpr c13
        clear c13
        by_cases c14 : t121 = 1
        · rw [if_pos c14] at H
          have c14b0 : (t121 == 1) = true := beq_iff_eq.mpr c14
          have c14b1 : (t121 != 1) = false := bne_eq_false_iff_eq.mpr c14
          clear c14
          have H' := Aside0.mk H
          clear H
          go_wp2
          (refine Met.intro ?_; go_step; first | ((repeat apply Exists.intro); refine ⟨?rel, rfl⟩) | ((try simp only [c14b1] at H' ⊢); (try simp only [c14b0] at H' ⊢); (try simp only [c13b1] at H' ⊢); (try simp only [c13b0] at H' ⊢); (try simp only [c12b1] at H' ⊢); (try simp only [c12b0] at H' ⊢); (repeat apply Exists.intro); refine ⟨?rel, rfl⟩))
          case rel => exact ⟨_, ((t122 != 5)), (by first | rfl | (simp; done) | (simp [*]; done)), H', ⟨by first | omega | exact Nat.le_refl _⟩, ⟨by repeat (first | (with_reducible first | exact HB.out | apply below_alloc | apply pw_below_drewN | apply below_drew1) | exact HB.out)⟩⟩
        · rw [if_neg c14] at H
          have c14b0 : (t121 == 1) = false := beq_eq_false_iff_ne.mpr c14
          have c14b1 : (t121 != 1) = true := bne_iff_ne.mpr c14
          have H' := Aside0.mk H
          clear H
          go_wp2
          (refine Met.intro ?_; go_step; first | ((repeat apply Exists.intro); refine ⟨?rel, rfl⟩) | ((try simp only [c14b1] at H' ⊢); (try simp only [c14b0] at H' ⊢); (try simp only [c13b1] at H' ⊢); (try simp only [c13b0] at H' ⊢); (try simp only [c12b1] at H' ⊢); (try simp only [c12b0] at H' ⊢); (repeat apply Exists.intro); refine ⟨?rel, rfl⟩))
          case rel => exact ⟨_, (true), (by first | rfl | (simp; done) | (simp [*]; done)), H', ⟨by first | omega | exact Nat.le_refl _⟩, ⟨by repeat (first | (with_reducible first | exact HB.out | apply below_alloc | apply pw_below_drewN | apply below_drew1) | exact HB.out)⟩⟩
      · rw [if_neg c13] at H
        have c13b0 : (t120 == 2) = false := beq_eq_false_iff_ne.mpr c13
        have c13b1 : (t120 != 2) = true := bne_iff_ne.mpr c13
        have H' := Aside0.mk H
        clear H
        go_wp2
        (refine Met.intro ?_; go_step; first | ((repeat apply Exists.intro); refine ⟨?rel, rfl⟩) | ((try simp only [c13b1] at H' ⊢); (try simp only [c13b0] at H' ⊢); (try simp only [c12b1] at H' ⊢); (try simp only [c12b0] at H' ⊢); (repeat apply Exists.intro); refine ⟨?rel, rfl⟩))
        case rel => exact ⟨_, (true), (by first | rfl | (simp; done) | (simp [*]; done)), H', ⟨by first | omega | exact Nat.le_refl _⟩, ⟨by repeat (first | (with_reducible first | exact HB.out | apply below_alloc | apply pw_below_drewN | apply below_drew1) | exact HB.out)⟩⟩
    · rw [if_neg c12] at H
      have c12b0 : (t123 == 0) = false := beq_eq_false_iff_ne.mpr c12
      have c12b1 : (t123 != 0) = true := bne_iff_ne.mpr c12
      (first | rw [c12b0] | (simp only [i64_w, i32_w]; rw [c12b0]) | skip)
      have H' := Aside0.mk H
      clear H
      go_wp2
      (refine Met.intro ?_; go_step; first | ((repeat apply Exists.intro); refine ⟨?rel, rfl⟩) | ((try simp only [c12b1] at H' ⊢); (try simp only [c12b0] at H' ⊢); (repeat apply Exists.intro); refine ⟨?rel, rfl⟩))
      case rel => exact ⟨_, (true), (by first | rfl | (simp; done) | (simp [*]; done)), H', ⟨by first | omega | exact Nat.le_refl _⟩, ⟨by repeat (first | (with_reducible first | exact HB.out | apply below_alloc | apply pw_below_drewN | apply below_drew1) | exact HB.out)⟩⟩
  case rest =>
    clear HC4
    try clear c1
    try clear p2
    try clear c3
    try clear p3
    try clear c12
    try clear c12b0
    try clear c12b1
    try clear c13
    try clear c13b0
    try clear c13b1
    try clear c14
    try clear c14b0
    try clear c14b1
    obtain ⟨kq, x40_3, rfl, HA, HJ3, HB⟩ := hcut
    cases kq with
    | zero => exact absurd HA.out (by simp [gridhallkeep3_HoursErrors.j0])
    | succ kj3 =>
      have H := HA.out
      clear HA
      simp only [gridhallkeep3_HoursErrors.j0] at H
      by_cases c15 : x40_3 = true
      · subst c15
        have H1 : (some false) = some r := by rw [if_pos rfl] at H; exact H
        clear H
        have H := H1
        clear H1
        obtain rfl := Option.some.inj H
        go_wp2
        go_ret
        exact ⟨by first | rfl | (simp [errW_none, errW_some] <;> rfl) | (simp [*, errW_none, errW_some] <;> rfl), by repeat (first | (with_reducible first | exact HB.out | apply below_alloc | apply pw_below_drewN | apply below_drew1) | exact HB.out)⟩
      · replace c15 := Bool.eq_false_iff.mpr c15
        subst c15
        have H1 : ((hours_Band.f kj3 (([5] : List Int)) 2).bind fun bt127 => (if bt127.2 = 0 then (if (bt127.1.length : Int) = 1 then (if 0 < (bt127.1.length : Int) then (gridhallkeep3_HoursErrors.j1 kj3 l0 l1 (!(((rd_T30 bt127.1 0).f0) == 3) || (!(((rd_T30 bt127.1 0).f1) == 7)))) else (none)) else (gridhallkeep3_HoursErrors.j1 kj3 l0 l1 true)) else (gridhallkeep3_HoursErrors.j1 kj3 l0 l1 true))) = some r := by rw [if_neg (show ¬ (false = true) by decide)] at H; exact H
        clear H
        have H := H1
        clear H1
        obtain ⟨y124, hy124⟩ : ∃ y_ : List Int, y_ = (([5] : List Int)) := ⟨_, rfl⟩
        replace H : ((hours_Band.f kj3 y124 2).bind fun bt127 => (if bt127.2 = 0 then (if (bt127.1.length : Int) = 1 then (if 0 < (bt127.1.length : Int) then (gridhallkeep3_HoursErrors.j1 kj3 l0 l1 (!(((rd_T30 bt127.1 0).f0) == 3) || (!(((rd_T30 bt127.1 0).f1) == 7)))) else (none)) else (gridhallkeep3_HoursErrors.j1 kj3 l0 l1 true)) else (gridhallkeep3_HoursErrors.j1 kj3 l0 l1 true))) = some r := by first | (rw [hy124]; with_reducible exact H) | (have H2_ := (Option.bind_some _ _).symm.trans H; rw [hy124]; with_reducible exact H2_) | (have H2_ := (Option.bind_some _ _).symm.trans H; with_reducible exact H2_) | with_reducible exact H | (rw [hy124]; exact H) | exact H
        have Ny124 := Aside0.mk hy124
        clear hy124
        replace H := Option.bind_eq_some_iff.mp H
        obtain ⟨⟨t127, t128⟩, A160, H⟩ := H
        replace H : (if t128 = 0 then (if (t127.length : Int) = 1 then (if 0 < (t127.length : Int) then (gridhallkeep3_HoursErrors.j1 kj3 l0 l1 (!(((rd_T30 t127 0).f0) == 3) || (!(((rd_T30 t127 0).f1) == 7)))) else (none)) else (gridhallkeep3_HoursErrors.j1 kj3 l0 l1 true)) else (gridhallkeep3_HoursErrors.j1 kj3 l0 l1 true)) = some r := H
        have A16 := Aside0.mk A160
        clear A160
        have HC17 := Aside0.mk H
        clear H
        go_upto_region 5 with (first | ((with_reducible refine gate_dst (N := 42) rfl ?_); (try (refine gate_guard (by rfl) ?_; dsimp only)); refine Kd.R_lit (Kd.int .i64) _ 3 ?hg (N := 42) ?hd (xs := ([5] : List Int)) (inner := [.int .i64 5]) (ok := fun _ => True) (okp := fun _ => True) ?hr ?hp (fun _ hk => hk) trivial (Below.refl _ _) (Nat.le_refl _) (by simp) ?_; (case hd => rfl); (case hg => rfl); (case hr => first | (go_simp; done) | (go_simp; rfl)); (case hp => exact (Reps.one (show Kd.M (Kd.int .i64) _ _ _ 5 [.int .i64 5] from rfl) (Reps.none _ _))); intro v125 w18 ho19 hb hg_ hnew_; clear hg_ hnew_; (first | rw [← Ny124.out] at ho19 | (simp only [Int.reduceToNat] at ho19; rw [← Ny124.out] at ho19)); have n0_ := Aside0.mk (Kd.R_lower ho19 (below_size (by repeat (first | (with_reducible first | exact HB.out | apply below_alloc | apply pw_below_drewN | apply below_drew1) | exact HB.out)))); have n1_ := Aside0.mk (below_step (by repeat (first | (with_reducible first | exact HB.out | apply below_alloc | apply pw_below_drewN | apply below_drew1) | exact HB.out)) hb); clear HB; have HO126 := n0_; have HB := n1_; clear n0_ n1_; clear hb ho19; obtain ⟨Ao20, co20, eo20⟩ := Kd.R_slice HO126.out; subst eo20) | ((with_reducible refine gate_callee (f := 15) rfl ?_); refine goesL_ (some 43) rfl rfl Try.func15 (by kernel_rfl) rfl #[.slice Ao20 y124.length co20, .int .i64 2] rfl (by (try simp only [List.map_toArray, List.map_cons, List.map_nil]); first | done | rfl | (simp only [List.length_drop, List.length_take]; rfl)) ?_; (with_reducible refine (hours_Band.calls kj3 _ _ y124 2 t127 t128 _ ?side1 ?side2 A16.out).mono ?_); (case side1 => repeat (first | exact (Kd.R_reads' HO126.out).2.2 | (with_reducible refine Kd.C_alloc ?_ _) | (with_reducible refine Kd.C_drewN ?_ _) | (with_reducible refine Kd.C_drew ?_))); (case side2 => exact (Kd.R_reads' HO126.out).2.1); rintro e w21 ⟨v129, rfl, ho0, hb⟩; refine ⟨_, rfl, ?_⟩; have n0_ := Aside0.mk (Kd.R_below (by (with_reducible repeat (first | apply Kd.R_alloc | apply Kd.R_drewN | apply Kd.R_drew)); exact HO126.out) hb); have n1_ := Aside0.mk (Kd.R_lower ho0 (below_size (by repeat (first | (with_reducible first | exact HB.out | apply below_alloc | apply pw_below_drewN | apply below_drew1) | exact HB.out)))); have n2_ := Aside0.mk (below_step (by repeat (first | (with_reducible first | exact HB.out | apply below_alloc | apply pw_below_drewN | apply below_drew1) | exact HB.out)) hb); clear HO126; clear HB; have HO126 := n0_; have HO130 := n1_; have HB := n2_; clear n0_ n1_ n2_; (try clear hb); (try clear hb2); (try clear hk); (try clear hi); (try clear ho0)))
        (try simp only [Act.put, List.setIfInBounds_toArray, List.set_cons_zero, List.set_cons_succ])
        go_cut [59] (fun v59 wc => ∃ (kq : Nat) (x59_16 : Bool), v59 = .bool x59_16 ∧ Aside0 (gridhallkeep3_HoursErrors.j1 kq l0 l1 x59_16 = some r) ∧ Aside0 (kq ≤ kj3) ∧ Aside0 (Below w.heap.size w wc))
        case first =>
          have H := HC17.out
          clear HC17
          by_cases c22 : t128 = 0
          · rw [if_pos c22] at H
            have c22b0 : (t128 == 0) = true := beq_iff_eq.mpr c22
            have c22b1 : (t128 != 0) = false := bne_eq_false_iff_eq.mpr c22
            clear c22
            (first | rw [c22b0] | (simp only [i64_w, i32_w]; rw [c22b0]) | skip)
            by_cases c23 : (t127.length : Int) = 1
            · rw [if_pos c23] at H
              have c23b0 : ((t127.length : Int) == 1) = true := beq_iff_eq.mpr c23
              have c23b1 : ((t127.length : Int) != 1) = false := bne_eq_false_iff_eq.mpr c23
              clear c23
              by_cases c24 : 0 < (t127.length : Int)
              · rw [if_pos c24] at H
                have c24b0 : decide (0 < (t127.length : Int)) = true := decide_eq_true c24
                have c24b1 : decide (0 < t127.length) = true := decide_eq_true (by omega)
                clear c24
                have H' := Aside0.mk H
                clear H
                obtain ⟨Ao25, co25, eo25⟩ := Kd.R_slice HO130.out
                subst eo25
                have p131 : 0 ≤ (0 : Int) := (by omega)
                have q131 : 0 < (t127.length : Int) := of_decide_eq_true (by first | (with_reducible assumption) | assumption)
                obtain ⟨ad131, e131, hx131_0, hx131_1⟩ := at_T30 (Kd.R_reads' HO130.out).2.2 0 p131 q131
                cases e131
                have qi131 : (0 < t127.length) = True := eq_true (by omega)
                (try rw [show ((0 : Int)).toNat = 0 from rfl] at hx131_0)
                (try rw [show 0 * 2 = 0 from rfl] at hx131_0)
                (try rw [Addr.add_zero'] at hx131_0)
                (try rw [show ((0 : Int)).toNat = 0 from rfl] at hx131_1)
                (try rw [show 0 * 2 = 0 from rfl] at hx131_1)
                (try rw [Addr.add_zero'] at hx131_1)
                replace p131 := eq_true p131
                replace q131 := eq_true q131
                go_wp2
                (refine Met.intro ?_; go_step; first | ((repeat apply Exists.intro); refine ⟨?rel, rfl⟩) | ((try simp only [c24b1] at H' ⊢); (try simp only [c24b0] at H' ⊢); (try simp only [c23b1] at H' ⊢); (try simp only [c23b0] at H' ⊢); (try simp only [c22b1] at H' ⊢); (try simp only [c22b0] at H' ⊢); (repeat apply Exists.intro); refine ⟨?rel, rfl⟩))
                case rel => exact ⟨_, ((!(((rd_T30 t127 0).f0) == 3) || (!(((rd_T30 t127 0).f1) == 7)))), (by first | rfl | (simp; done) | (simp [*]; done)), H', ⟨by have := HJ3.out; first | omega | exact Nat.le_refl _⟩, ⟨by repeat (first | (with_reducible first | exact HB.out | apply below_alloc | apply pw_below_drewN | apply below_drew1) | exact HB.out)⟩⟩
              · rw [if_neg c24] at H
                exact absurd H (by simp)
            · rw [if_neg c23] at H
              have c23b0 : ((t127.length : Int) == 1) = false := beq_eq_false_iff_ne.mpr c23
              have c23b1 : ((t127.length : Int) != 1) = true := bne_iff_ne.mpr c23
              have H' := Aside0.mk H
              clear H
              obtain ⟨Ao26, co26, eo26⟩ := Kd.R_slice HO130.out
              subst eo26
              go_wp2
              (refine Met.intro ?_; go_step; first | ((repeat apply Exists.intro); refine ⟨?rel, rfl⟩) | ((try simp only [c23b1] at H' ⊢); (try simp only [c23b0] at H' ⊢); (try simp only [c22b1] at H' ⊢); (try simp only [c22b0] at H' ⊢); (repeat apply Exists.intro); refine ⟨?rel, rfl⟩))
              case rel => exact ⟨_, (true), (by first | rfl | (simp; done) | (simp [*]; done)), H', ⟨by have := HJ3.out; first | omega | exact Nat.le_refl _⟩, ⟨by repeat (first | (with_reducible first | exact HB.out | apply below_alloc | apply pw_below_drewN | apply below_drew1) | exact HB.out)⟩⟩
          · rw [if_neg c22] at H
            have c22b0 : (t128 == 0) = false := beq_eq_false_iff_ne.mpr c22
            have c22b1 : (t128 != 0) = true := bne_iff_ne.mpr c22
            (first | rw [c22b0] | (simp only [i64_w, i32_w]; rw [c22b0]) | skip)
            have H' := Aside0.mk H
            clear H
            go_wp2
            (refine Met.intro ?_; go_step; first | ((repeat apply Exists.intro); refine ⟨?rel, rfl⟩) | ((try simp only [c22b1] at H' ⊢); (try simp only [c22b0] at H' ⊢); (repeat apply Exists.intro); refine ⟨?rel, rfl⟩))
            case rel => exact ⟨_, (true), (by first | rfl | (simp; done) | (simp [*]; done)), H', ⟨by have := HJ3.out; first | omega | exact Nat.le_refl _⟩, ⟨by repeat (first | (with_reducible first | exact HB.out | apply below_alloc | apply pw_below_drewN | apply below_drew1) | exact HB.out)⟩⟩
        case rest =>
          clear HC17
          try clear c1
          try clear p1
          try clear q1
          try clear hx1
          try clear qi1
          try clear c2
          try clear p2
          try clear c3
          try clear p3
          try clear c12
          try clear c12b0
          try clear c12b1
          try clear c13
          try clear c13b0
          try clear c13b1
          try clear p13
          try clear q13
          try clear hx13
          try clear qi13
          try clear c14
          try clear c14b0
          try clear c14b1
          try clear c15
          try clear c22
          try clear c22b0
          try clear c22b1
          try clear c23
          try clear c23b0
          try clear c23b1
          try clear c24
          try clear c24b0
          try clear c24b1
          try clear hx131_0
          try clear hx131_1
          try clear p131
          try clear p2
          try clear p3
          try clear q131
          obtain ⟨kq, x59_16, rfl, HA, HJ16, HB⟩ := hcut
          cases kq with
          | zero => exact absurd HA.out (by simp [gridhallkeep3_HoursErrors.j1])
          | succ kj16 =>
            have H := HA.out
            clear HA
            simp only [gridhallkeep3_HoursErrors.j1] at H
            by_cases c27 : x59_16 = true
            · subst c27
              have H1 : (some false) = some r := by rw [if_pos rfl] at H; exact H
              clear H
              have H := H1
              clear H1
              obtain rfl := Option.some.inj H
              go_wp2
              go_ret
              exact ⟨by first | rfl | (simp [errW_none, errW_some] <;> rfl) | (simp [*, errW_none, errW_some] <;> rfl), by repeat (first | (with_reducible first | exact HB.out | apply below_alloc | apply pw_below_drewN | apply below_drew1) | exact HB.out)⟩
            · replace c27 := Bool.eq_false_iff.mpr c27
              subst c27
              have H1 : ((hours_Errors.f kj16 l0 l1).bind fun bt132 => (if bt132.2.2.2 = 0 then (if bt132.1 > bt132.2.2.1 then (gridhallkeep3_HoursErrors.j2 kj16 l0 l1 bt132.1 true) else (if bt132.2.1 > bt132.2.2.1 then (gridhallkeep3_HoursErrors.j2 kj16 l0 l1 bt132.1 true) else (gridhallkeep3_HoursErrors.j2 kj16 l0 l1 bt132.1 (decide ((wrap64 (-bt132.2.1)) > bt132.2.2.1))))) else (if bt132.1 = 0 then (if bt132.2.1 = 0 then (some (bt132.2.2.1 == 0)) else (some false)) else (some false)))) = some r := by rw [if_neg (show ¬ (false = true) by decide)] at H; exact H
              clear H
              have H := H1
              clear H1
              replace H := Option.bind_eq_some_iff.mp H
              obtain ⟨⟨t132, t133, t134, t135⟩, A280, H⟩ := H
              replace H : (if t135 = 0 then (if t132 > t134 then (gridhallkeep3_HoursErrors.j2 kj16 l0 l1 t132 true) else (if t133 > t134 then (gridhallkeep3_HoursErrors.j2 kj16 l0 l1 t132 true) else (gridhallkeep3_HoursErrors.j2 kj16 l0 l1 t132 (decide ((wrap64 (-t133)) > t134))))) else (if t132 = 0 then (if t133 = 0 then (some (t134 == 0)) else (some false)) else (some false))) = some r := H
              have A28 := Aside0.mk A280
              clear A280
              by_cases c29 : t135 = 0
              · rw [if_pos c29] at H
                have c29b0 : (t135 == 0) = true := beq_iff_eq.mpr c29
                have c29b1 : (t135 != 0) = false := bne_eq_false_iff_eq.mpr c29
                clear c29
                have HC30 := Aside0.mk H
                clear H
                go_upto_region 10 with (first | ((with_reducible refine gate_callee (f := 14) rfl ?_); refine goesL_ (some 63) rfl rfl Try.func14 (by kernel_rfl) rfl #[.slice A0 l0.length c0, .slice A1 l1.length c1] rfl (by (try simp only [List.map_toArray, List.map_cons, List.map_nil]); first | done | rfl | (simp only [List.length_drop, List.length_take]; rfl)) ?_; (with_reducible refine (hours_Errors.calls kj16 _ _ l0 _ _ l1 t132 t133 t134 t135 _ ?side1 ?side2 ?side3 ?side4 A28.out).mono ?_); (case side1 => repeat (first | exact (Kd.C_below HR0.out HB.out) | (with_reducible refine Kd.C_alloc ?_ _) | (with_reducible refine Kd.C_drewN ?_ _) | (with_reducible refine Kd.C_drew ?_))); (case side2 => exact HC0.out); (case side3 => repeat (first | exact (Kd.C_below HR1.out HB.out) | (with_reducible refine Kd.C_alloc ?_ _) | (with_reducible refine Kd.C_drewN ?_ _) | (with_reducible refine Kd.C_drew ?_))); (case side4 => exact HC1.out); rintro e w31 ⟨rfl, hb⟩; refine ⟨_, rfl, ?_⟩; have n0_ := Aside0.mk (below_step (by repeat (first | (with_reducible first | exact HB.out | apply below_alloc | apply pw_below_drewN | apply below_drew1) | exact HB.out)) hb); clear HB; have HB := n0_; clear n0_; (try clear hb); (try clear hb2); (try clear hk); (try clear hi)))
                (try simp only [Act.put, List.setIfInBounds_toArray, List.set_cons_zero, List.set_cons_succ])
                go_cut [93] (fun v93 wc => ∃ (kq : Nat) (x93_29 : Bool), v93 = .bool x93_29 ∧ Aside0 (gridhallkeep3_HoursErrors.j2 kq l0 l1 t132 x93_29 = some r) ∧ Aside0 (kq ≤ kj16) ∧ Aside0 (Below w.heap.size w wc))
                case first =>
                  have H := HC30.out
                  clear HC30
                  by_cases c32 : t132 > t134
                  · rw [if_pos c32] at H
                    have c32b0 : decide (t134 < t132) = true := decide_eq_true c32
                    clear c32
                    (first | rw [c32b0] | (simp only [i64_w, i32_w]; rw [c32b0]) | skip)
                    have H' := Aside0.mk H
                    clear H
                    go_wp2
                    (refine Met.intro ?_; go_step; first | ((repeat apply Exists.intro); refine ⟨?rel, rfl⟩) | ((try simp only [c32b0] at H' ⊢); (try simp only [c29b1] at H' ⊢); (try simp only [c29b0] at H' ⊢); (repeat apply Exists.intro); refine ⟨?rel, rfl⟩))
                    case rel => exact ⟨_, (true), (by first | rfl | (simp; done) | (simp [*]; done)), H', ⟨by have := HJ3.out; have := HJ16.out; first | omega | exact Nat.le_refl _⟩, ⟨by repeat (first | (with_reducible first | exact HB.out | apply below_alloc | apply pw_below_drewN | apply below_drew1) | exact HB.out)⟩⟩
                  · rw [if_neg c32] at H
                    have c32b0 : decide (t134 < t132) = false := decide_eq_false c32
                    clear c32
                    (first | rw [c32b0] | (simp only [i64_w, i32_w]; rw [c32b0]) | skip)
                    by_cases c33 : t133 > t134
                    · rw [if_pos c33] at H
                      have c33b0 : decide (t134 < t133) = true := decide_eq_true c33
                      clear c33
                      have H' := Aside0.mk H
                      clear H
                      go_wp2
                      (refine Met.intro ?_; go_step; first | ((repeat apply Exists.intro); refine ⟨?rel, rfl⟩) | ((try simp only [c33b0] at H' ⊢); (try simp only [c32b0] at H' ⊢); (try simp only [c29b1] at H' ⊢); (try simp only [c29b0] at H' ⊢); (repeat apply Exists.intro); refine ⟨?rel, rfl⟩))
                      case rel => exact ⟨_, (true), (by first | rfl | (simp; done) | (simp [*]; done)), H', ⟨by have := HJ3.out; have := HJ16.out; first | omega | exact Nat.le_refl _⟩, ⟨by repeat (first | (with_reducible first | exact HB.out | apply below_alloc | apply pw_below_drewN | apply below_drew1) | exact HB.out)⟩⟩
                    · rw [if_neg c33] at H
                      have c33b0 : decide (t134 < t133) = false := decide_eq_false c33
                      clear c33
                      have H' := Aside0.mk H
                      clear H
                      go_wp2
                      (refine Met.intro ?_; go_step; first | ((repeat apply Exists.intro); refine ⟨?rel, rfl⟩) | ((try simp only [c33b0] at H' ⊢); (try simp only [c32b0] at H' ⊢); (try simp only [c29b1] at H' ⊢); (try simp only [c29b0] at H' ⊢); (repeat apply Exists.intro); refine ⟨?rel, rfl⟩))
                      case rel => exact ⟨_, (decide ((wrap64 (-t133)) > t134)), (by first | rfl | (simp; done) | (simp [*]; done)), H', ⟨by have := HJ3.out; have := HJ16.out; first | omega | exact Nat.le_refl _⟩, ⟨by repeat (first | (with_reducible first | exact HB.out | apply below_alloc | apply pw_below_drewN | apply below_drew1) | exact HB.out)⟩⟩
                case rest =>
                  clear HC30
                  try clear c1
                  try clear p1
                  try clear q1
                  try clear hx1
                  try clear qi1
                  try clear c2
                  try clear p2
                  try clear c3
                  try clear p3
                  try clear p6
                  try clear c12
                  try clear c12b0
                  try clear c12b1
                  try clear c13
                  try clear c13b0
                  try clear c13b1
                  try clear p13
                  try clear q13
                  try clear hx13
                  try clear qi13
                  try clear c14
                  try clear c14b0
                  try clear c14b1
                  try clear c15
                  try clear c22
                  try clear c22b0
                  try clear c22b1
                  try clear c23
                  try clear c23b0
                  try clear c23b1
                  try clear c24
                  try clear c24b0
                  try clear c24b1
                  try clear c27
                  try clear c29
                  try clear c29b0
                  try clear c29b1
                  try clear c32
                  try clear c32b0
                  try clear c33
                  try clear c33b0
                  try clear hx131_0
                  try clear hx131_1
                  try clear p1
                  try clear p13
                  try clear p131
                  try clear p2
                  try clear p3
                  try clear q1
                  try clear q13
                  try clear q131
                  obtain ⟨kq, x93_29, rfl, HA, HJ29, HB⟩ := hcut
                  cases kq with
                  | zero => exact absurd HA.out (by simp [gridhallkeep3_HoursErrors.j2])
                  | succ kj29 =>
                    have H := HA.out
                    clear HA
                    simp only [gridhallkeep3_HoursErrors.j2] at H
                    by_cases c34 : x93_29 = true
                    · subst c34
                      have H1 : (some false) = some r := by rw [if_pos rfl] at H; exact H
                      clear H
                      have H := H1
                      clear H1
                      obtain rfl := Option.some.inj H
                      go_wp2
                      go_ret
                      exact ⟨by first | rfl | (simp [errW_none, errW_some] <;> rfl) | (simp [*, errW_none, errW_some] <;> rfl), by repeat (first | (with_reducible first | exact HB.out | apply below_alloc | apply pw_below_drewN | apply below_drew1) | exact HB.out)⟩
                    · replace c34 := Bool.eq_false_iff.mpr c34
                      subst c34
                      have H1 : ((hours_Band.f kj29 l0 (mn t132 100000)).bind fun bt136 => (if bt136.2 = 0 then (gridhallkeep3_HoursErrors.j3 kj29 l1 bt136.1 bt136.2 (decide (t132 > 100000))) else (gridhallkeep3_HoursErrors.j3 kj29 l1 bt136.1 bt136.2 true))) = some r := by rw [if_neg (show ¬ (false = true) by decide)] at H; exact H
                      clear H
                      have H := H1
                      clear H1
                      obtain ⟨ji35, hji35⟩ : ∃ j_ : Int, (mn t132 100000) = j_ := ⟨_, rfl⟩
                      replace H : ((hours_Band.f kj29 l0 (ji35)).bind fun bt136 => (if bt136.2 = 0 then (gridhallkeep3_HoursErrors.j3 kj29 l1 bt136.1 bt136.2 (decide (t132 > 100000))) else (gridhallkeep3_HoursErrors.j3 kj29 l1 bt136.1 bt136.2 true))) = some r := by first | (rw [hji35] at H; exact H) | (simp only [hji35] at H ⊢; exact H)
                      have hji35_ : (if 100000 < t132 then 100000 else t132) = ji35 := hji35
                      replace H := Option.bind_eq_some_iff.mp H
                      obtain ⟨⟨t136, t137⟩, A360, H⟩ := H
                      replace H : (if t137 = 0 then (gridhallkeep3_HoursErrors.j3 kj29 l1 t136 t137 (decide (t132 > 100000))) else (gridhallkeep3_HoursErrors.j3 kj29 l1 t136 t137 true)) = some r := H
                      have A36 := Aside0.mk A360
                      clear A360
                      have HC37 := Aside0.mk H
                      clear H
                      go_upto_region 13 with (first | ((with_reducible refine gate_callee (f := 15) rfl ?_); refine goesL_ (some 98) rfl rfl Try.func15 (by kernel_rfl) rfl #[.slice A0 l0.length c0, .int .i64 ji35] rfl (by (try simp only [List.map_toArray, List.map_cons, List.map_nil]); first | done | (simp only [hji35]; rfl) | rfl | (simp only [List.length_drop, List.length_take]; rfl)) ?_; (with_reducible refine (hours_Band.calls kj29 _ _ l0 ji35 t136 t137 _ ?side1 ?side2 A36.out).mono ?_); (case side1 => repeat (first | exact (Kd.C_below HR0.out HB.out) | (with_reducible refine Kd.C_alloc ?_ _) | (with_reducible refine Kd.C_drewN ?_ _) | (with_reducible refine Kd.C_drew ?_))); (case side2 => exact HC0.out); rintro e w38 ⟨v138, rfl, ho0, hb⟩; refine ⟨_, rfl, ?_⟩; have n0_ := Aside0.mk (Kd.R_lower ho0 (below_size (by repeat (first | (with_reducible first | exact HB.out | apply below_alloc | apply pw_below_drewN | apply below_drew1) | exact HB.out)))); have n1_ := Aside0.mk (below_step (by repeat (first | (with_reducible first | exact HB.out | apply below_alloc | apply pw_below_drewN | apply below_drew1) | exact HB.out)) hb); clear HB; have HO139 := n0_; have HB := n1_; clear n0_ n1_; (try clear hb); (try clear hb2); (try clear hk); (try clear hi); (try clear ho0)))
                      (try simp only [Act.put, List.setIfInBounds_toArray, List.set_cons_zero, List.set_cons_succ])
                      go_cut [106] (fun v106 wc => ∃ (kq : Nat) (x106_36 : Bool), v106 = .bool x106_36 ∧ Aside0 (gridhallkeep3_HoursErrors.j3 kq l1 t136 t137 x106_36 = some r) ∧ Aside0 (kq ≤ kj29) ∧ Aside0 (Kd.R k30 30 wc w.heap.size (fun _ => True) v138 t136) ∧ Aside0 (Below w.heap.size w wc))
                      case first =>
                        have H := HC37.out
                        clear HC37
                        by_cases c39 : t137 = 0
                        · rw [if_pos c39] at H
                          have c39b0 : (t137 == 0) = true := beq_iff_eq.mpr c39
                          have c39b1 : (t137 != 0) = false := bne_eq_false_iff_eq.mpr c39
                          clear c39
                          (first | rw [c39b0] | (simp only [i64_w, i32_w]; rw [c39b0]) | skip)
                          have H' := Aside0.mk H
                          clear H
                          go_wp2
                          (refine Met.intro ?_; go_step; first | ((repeat apply Exists.intro); refine ⟨?rel, rfl⟩) | ((try simp only [c39b1] at H' ⊢); (try simp only [c39b0] at H' ⊢); (try simp only [c29b1] at H' ⊢); (try simp only [c29b0] at H' ⊢); (repeat apply Exists.intro); refine ⟨?rel, rfl⟩))
                          case rel => exact ⟨_, (decide (t132 > 100000)), (by first | rfl | (simp; done) | (simp [*]; done)), H', ⟨by have := HJ3.out; have := HJ16.out; have := HJ29.out; first | omega | exact Nat.le_refl _⟩, ⟨by (with_reducible repeat (first | apply Kd.R_alloc | apply Kd.R_drewN | apply Kd.R_drew)); exact HO139.out⟩, ⟨by repeat (first | (with_reducible first | exact HB.out | apply below_alloc | apply pw_below_drewN | apply below_drew1) | exact HB.out)⟩⟩
                        · rw [if_neg c39] at H
                          have c39b0 : (t137 == 0) = false := beq_eq_false_iff_ne.mpr c39
                          have c39b1 : (t137 != 0) = true := bne_iff_ne.mpr c39
                          (first | rw [c39b0] | (simp only [i64_w, i32_w]; rw [c39b0]) | skip)
                          have H' := Aside0.mk H
                          clear H
                          go_wp2
                          (refine Met.intro ?_; go_step; first | ((repeat apply Exists.intro); refine ⟨?rel, rfl⟩) | ((try simp only [c39b1] at H' ⊢); (try simp only [c39b0] at H' ⊢); (try simp only [c29b1] at H' ⊢); (try simp only [c29b0] at H' ⊢); (repeat apply Exists.intro); refine ⟨?rel, rfl⟩))
                          case rel => exact ⟨_, (true), (by first | rfl | (simp; done) | (simp [*]; done)), H', ⟨by have := HJ3.out; have := HJ16.out; have := HJ29.out; first | omega | exact Nat.le_refl _⟩, ⟨by (with_reducible repeat (first | apply Kd.R_alloc | apply Kd.R_drewN | apply Kd.R_drew)); exact HO139.out⟩, ⟨by repeat (first | (with_reducible first | exact HB.out | apply below_alloc | apply pw_below_drewN | apply below_drew1) | exact HB.out)⟩⟩
                      case rest =>
                        clear HC37
                        try clear c1
                        try clear p1
                        try clear q1
                        try clear hx1
                        try clear qi1
                        try clear c2
                        try clear p2
                        try clear c3
                        try clear p3
                        try clear p6
                        try clear c12
                        try clear c12b0
                        try clear c12b1
                        try clear c13
                        try clear c13b0
                        try clear c13b1
                        try clear p13
                        try clear q13
                        try clear hx13
                        try clear qi13
                        try clear c14
                        try clear c14b0
                        try clear c14b1
                        try clear c15
                        try clear c22
                        try clear c22b0
                        try clear c22b1
                        try clear c23
                        try clear c23b0
                        try clear c23b1
                        try clear c24
                        try clear c24b0
                        try clear c24b1
                        try clear c27
                        try clear c29
                        try clear c29b0
                        try clear c29b1
                        try clear c32
                        try clear c32b0
                        try clear c33
                        try clear c33b0
                        try clear c34
                        try clear c39
                        try clear c39b0
                        try clear c39b1
                        try clear hx131_0
                        try clear hx131_1
                        try clear p1
                        try clear p13
                        try clear p131
                        try clear p2
                        try clear p3
                        try clear p6
                        try clear q1
                        try clear q13
                        try clear q131
                        obtain ⟨kq, x106_36, rfl, HA, HJ36, HO_15, HB⟩ := hcut
                        cases kq with
                        | zero => exact absurd HA.out (by simp [gridhallkeep3_HoursErrors.j3])
                        | succ kj36 =>
                          have H := HA.out
                          clear HA
                          simp only [gridhallkeep3_HoursErrors.j3] at H
                          by_cases c40 : x106_36 = true
                          · subst c40
                            have H1 : (some (t137 == 0)) = some r := by rw [if_pos rfl] at H; exact H
                            clear H
                            have H := H1
                            clear H1
                            obtain rfl := Option.some.inj H
                            go_wp2
                            go_ret
                            exact ⟨by first | rfl | (simp [errW_none, errW_some] <;> rfl) | (simp only [← hji35]; first | rfl | (simp [errW_none, errW_some] <;> rfl)) | (simp [*, errW_none, errW_some] <;> rfl), by repeat (first | (with_reducible first | exact HB.out | apply below_alloc | apply pw_below_drewN | apply below_drew1) | exact HB.out)⟩
                          · replace c40 := Bool.eq_false_iff.mpr c40
                            subst c40
                            have H1 : (gridhallkeep3_HoursErrors.l0 kj36 t136 l1 (l1.length : Int) 0) = some r := by rw [if_neg (show ¬ (false = true) by decide)] at H; exact H
                            clear H
                            have H := H1
                            clear H1
                            have H' := Aside0.mk H
                            clear H
                            go_wp2
                            go_loopg [111] kj36 (fun kq v111 w' => ∃ (x111_5 : Int), v111 = .int .i64 x111_5 ∧ Aside0 (gridhallkeep3_HoursErrors.l0 kq t136 l1 (l1.length : Int) x111_5 = some r) ∧ Aside0 (kq ≤ kj36) ∧ Aside0 (Kd.R k30 30 w' w.heap.size (fun _ => True) v138 t136) ∧ Aside0 (Below w.heap.size w w'))
                            case atStart => exact ⟨(0), (by first | rfl | (simp; done) | (simp [*]; done)), H', ⟨Nat.le_refl _⟩, ⟨by (with_reducible repeat (first | apply Kd.R_alloc | apply Kd.R_drewN | apply Kd.R_drew)); exact HO_15.out⟩, ⟨by repeat (first | (with_reducible first | exact HB.out | apply below_alloc | apply pw_below_drewN | apply below_drew1) | exact HB.out)⟩⟩
                            case round =>
                              clear H'
                              try clear c1
                              try clear p1
                              try clear q1
                              try clear hx1
                              try clear qi1
                              try clear c2
                              try clear p2
                              try clear c3
                              try clear p3
                              try clear c4
                              try clear p6
                              try clear c12
                              try clear c12b0
                              try clear c12b1
                              try clear c13
                              try clear c13b0
                              try clear c13b1
                              try clear p13
                              try clear q13
                              try clear hx13
                              try clear qi13
                              try clear c14
                              try clear c14b0
                              try clear c14b1
                              try clear c15
                              try clear c22
                              try clear c22b0
                              try clear c22b1
                              try clear c23
                              try clear c23b0
                              try clear c23b1
                              try clear c24
                              try clear c24b0
                              try clear c24b1
                              try clear c27
                              try clear c29
                              try clear c29b0
                              try clear c29b1
                              try clear c32
                              try clear c32b0
                              try clear c33
                              try clear c33b0
                              try clear c34
                              try clear c39
                              try clear c39b0
                              try clear c39b1
                              try clear c40
                              try clear hx131_0
                              try clear hx131_1
                              try clear p1
                              try clear p13
                              try clear p131
                              try clear p2
                              try clear p3
                              try clear p6
                              try clear q1
                              try clear q13
                              try clear q131
                              obtain ⟨x111_5, rfl, HA, HK5, HO_15, HB⟩ := hrel
                              cases gk with
                              | zero => exact absurd HA.out (by simp [gridhallkeep3_HoursErrors.l0])
                              | succ k5 =>
                                have H := HA.out
                                clear HA
                                simp only [gridhallkeep3_HoursErrors.l0] at H
                                by_cases c41 : x111_5 < (l1.length : Int)
                                · rw [if_pos c41] at H
                                  have c41b0 : decide (x111_5 < (l1.length : Int)) = true := decide_eq_true c41
                                  clear c41
                                  by_cases c42 : 0 ≤ x111_5
                                  · rw [if_pos c42] at H
                                    have c42b0 : decide (0 ≤ x111_5) = true := decide_eq_true c42
                                    clear c42
                                    by_cases c43 : x111_5 < (l1.length : Int)
                                    · rw [if_pos c43] at H
                                      have c43b0 : decide (x111_5 < (l1.length : Int)) = true := decide_eq_true c43
                                      clear c43
                                      by_cases c44 : (rd l1 x111_5) ≥ 0
                                      · rw [if_pos c44] at H
                                        have c44b0 : decide (0 ≤ (rd l1 x111_5)) = true := decide_eq_true c44
                                        clear c44
                                        by_cases c45 : x111_5 < (t136.length : Int)
                                        · rw [if_pos c45] at H
                                          have c45b0 : decide (x111_5 < (t136.length : Int)) = true := decide_eq_true c45
                                          clear c45
                                          by_cases c46 : (rd l1 x111_5) < ((rd_T30 t136 x111_5).f0)
                                          · rw [if_pos c46] at H
                                            have c46b0 : decide ((rd l1 x111_5) < ((rd_T30 t136 x111_5).f0)) = true := decide_eq_true c46
                                            clear c46
                                            obtain rfl := Option.some.inj H
                                            have p140 : 0 ≤ (x111_5 : Int) := of_decide_eq_true (by first | (with_reducible assumption) | assumption)
                                            have q140 : x111_5 < (l1.length : Int) := of_decide_eq_true (by first | (with_reducible assumption) | assumption)
                                            obtain ⟨ad140, e140, hx140_0⟩ := Kd.at_int HR1.out x111_5 p140 q140
                                            cases e140
                                            replace hx140_0 := (HB.out.cell (World.block_lt_of_cell? w _ hx140_0)).trans hx140_0
                                            replace p140 := eq_true p140
                                            replace q140 := eq_true q140
                                            obtain ⟨Ao47, co47, eo47⟩ := Kd.R_slice HO_15.out
                                            subst eo47
                                            have p141 : 0 ≤ (x111_5 : Int) := of_decide_eq_true (by first | (with_reducible assumption) | assumption)
                                            have q141 : x111_5 < (t136.length : Int) := of_decide_eq_true (by first | (with_reducible assumption) | assumption)
                                            obtain ⟨ad141, e141, hx141_0, hx141_1⟩ := at_T30 (Kd.R_reads' HO_15.out).2.2 x111_5 p141 q141
                                            cases e141
                                            replace p141 := eq_true p141
                                            replace q141 := eq_true q141
                                            go_wp2
                                            go_ret
                                            exact ⟨by first | rfl | (simp [errW_none, errW_some] <;> rfl) | (simp only [← hji35]; first | rfl | (simp [errW_none, errW_some] <;> rfl)) | (simp [*, errW_none, errW_some] <;> rfl), by repeat (first | (with_reducible first | exact HB.out | apply below_alloc | apply pw_below_drewN | apply below_drew1) | exact HB.out)⟩
                                          · rw [if_neg c46] at H
                                            have c46b0 : decide ((rd l1 x111_5) < ((rd_T30 t136 x111_5).f0)) = false := decide_eq_false c46
                                            clear c46
                                            by_cases c48 : (rd l1 x111_5) > ((rd_T30 t136 x111_5).f1)
                                            · rw [if_pos c48] at H
                                              have c48b0 : decide (((rd_T30 t136 x111_5).f1) < (rd l1 x111_5)) = true := decide_eq_true c48
                                              clear c48
                                              obtain rfl := Option.some.inj H
                                              have p140 : 0 ≤ (x111_5 : Int) := of_decide_eq_true (by first | (with_reducible assumption) | assumption)
                                              have q140 : x111_5 < (l1.length : Int) := of_decide_eq_true (by first | (with_reducible assumption) | assumption)
                                              obtain ⟨ad140, e140, hx140_0⟩ := Kd.at_int HR1.out x111_5 p140 q140
                                              cases e140
                                              replace hx140_0 := (HB.out.cell (World.block_lt_of_cell? w _ hx140_0)).trans hx140_0
                                              replace p140 := eq_true p140
                                              replace q140 := eq_true q140
                                              obtain ⟨Ao49, co49, eo49⟩ := Kd.R_slice HO_15.out
                                              subst eo49
                                              have p141 : 0 ≤ (x111_5 : Int) := of_decide_eq_true (by first | (with_reducible assumption) | assumption)
                                              have q141 : x111_5 < (t136.length : Int) := of_decide_eq_true (by first | (with_reducible assumption) | assumption)
                                              obtain ⟨ad141, e141, hx141_0, hx141_1⟩ := at_T30 (Kd.R_reads' HO_15.out).2.2 x111_5 p141 q141
                                              cases e141
                                              replace p141 := eq_true p141
                                              replace q141 := eq_true q141
                                              have p142 : 0 ≤ (x111_5 : Int) := of_decide_eq_true (by first | (with_reducible assumption) | assumption)
                                              have q142 : x111_5 < (t136.length : Int) := of_decide_eq_true (by first | (with_reducible assumption) | assumption)
                                              obtain ⟨ad142, e142, hx142_0, hx142_1⟩ := at_T30 (Kd.R_reads' HO_15.out).2.2 x111_5 p142 q142
                                              obtain rfl : ad141 = ad142 := (by injection e142)
                                              replace p142 := eq_true p142
                                              replace q142 := eq_true q142
                                              go_wp2
                                              go_ret
                                              exact ⟨by first | rfl | (simp [errW_none, errW_some] <;> rfl) | (simp only [← hji35]; first | rfl | (simp [errW_none, errW_some] <;> rfl)) | (simp [*, errW_none, errW_some] <;> rfl), by repeat (first | (with_reducible first | exact HB.out | apply below_alloc | apply pw_below_drewN | apply below_drew1) | exact HB.out)⟩
                                            · rw [if_neg c48] at H
                                              have c48b0 : decide (((rd_T30 t136 x111_5).f1) < (rd l1 x111_5)) = false := decide_eq_false c48
                                              clear c48
                                              have H' := Aside0.mk H
                                              clear H
                                              have p140 : 0 ≤ (x111_5 : Int) := of_decide_eq_true (by first | (with_reducible assumption) | assumption)
                                              have q140 : x111_5 < (l1.length : Int) := of_decide_eq_true (by first | (with_reducible assumption) | assumption)
                                              obtain ⟨ad140, e140, hx140_0⟩ := Kd.at_int HR1.out x111_5 p140 q140
                                              cases e140
                                              replace hx140_0 := (HB.out.cell (World.block_lt_of_cell? w _ hx140_0)).trans hx140_0
                                              replace p140 := eq_true p140
                                              replace q140 := eq_true q140
                                              obtain ⟨Ao50, co50, eo50⟩ := Kd.R_slice HO_15.out
                                              subst eo50
                                              have p141 : 0 ≤ (x111_5 : Int) := of_decide_eq_true (by first | (with_reducible assumption) | assumption)
                                              have q141 : x111_5 < (t136.length : Int) := of_decide_eq_true (by first | (with_reducible assumption) | assumption)
                                              obtain ⟨ad141, e141, hx141_0, hx141_1⟩ := at_T30 (Kd.R_reads' HO_15.out).2.2 x111_5 p141 q141
                                              cases e141
                                              replace p141 := eq_true p141
                                              replace q141 := eq_true q141
                                              have p142 : 0 ≤ (x111_5 : Int) := of_decide_eq_true (by first | (with_reducible assumption) | assumption)
                                              have q142 : x111_5 < (t136.length : Int) := of_decide_eq_true (by first | (with_reducible assumption) | assumption)
                                              obtain ⟨ad142, e142, hx142_0, hx142_1⟩ := at_T30 (Kd.R_reads' HO_15.out).2.2 x111_5 p142 q142
                                              obtain rfl : ad141 = ad142 := (by injection e142)
                                              replace p142 := eq_true p142
                                              replace q142 := eq_true q142
                                              go_wp2
                                              go_roundg k5
                                              case measure => have := HJ3.out; have := HJ16.out; have := HJ29.out; have := HJ36.out; have := HK5.out; omega
                                              case rel => exact ⟨(wrap64 (x111_5 + 1)), (by first | rfl | (simp; done) | (simp [*]; done)), H', ⟨by have := HJ3.out; have := HJ16.out; have := HJ29.out; have := HJ36.out; have := HK5.out; omega⟩, ⟨by (with_reducible repeat (first | apply Kd.R_alloc | apply Kd.R_drewN | apply Kd.R_drew)); exact HO_15.out⟩, ⟨by repeat (first | (with_reducible first | exact HB.out | apply below_alloc | apply pw_below_drewN | apply below_drew1) | exact HB.out)⟩⟩
                                        · rw [if_neg c45] at H
                                          exact absurd H (by simp)
                                      · rw [if_neg c44] at H
                                        have c44b0 : decide (0 ≤ (rd l1 x111_5)) = false := decide_eq_false c44
                                        clear c44
                                        have H' := Aside0.mk H
                                        clear H
                                        have p140 : 0 ≤ (x111_5 : Int) := of_decide_eq_true (by first | (with_reducible assumption) | assumption)
                                        have q140 : x111_5 < (l1.length : Int) := of_decide_eq_true (by first | (with_reducible assumption) | assumption)
                                        obtain ⟨ad140, e140, hx140_0⟩ := Kd.at_int HR1.out x111_5 p140 q140
                                        cases e140
                                        replace hx140_0 := (HB.out.cell (World.block_lt_of_cell? w _ hx140_0)).trans hx140_0
                                        replace p140 := eq_true p140
                                        replace q140 := eq_true q140
                                        go_wp2
                                        go_roundg k5
                                        case measure => have := HJ3.out; have := HJ16.out; have := HJ29.out; have := HJ36.out; have := HK5.out; omega
                                        case rel => exact ⟨(wrap64 (x111_5 + 1)), (by first | rfl | (simp; done) | (simp [*]; done)), H', ⟨by have := HJ3.out; have := HJ16.out; have := HJ29.out; have := HJ36.out; have := HK5.out; omega⟩, ⟨by (with_reducible repeat (first | apply Kd.R_alloc | apply Kd.R_drewN | apply Kd.R_drew)); exact HO_15.out⟩, ⟨by repeat (first | (with_reducible first | exact HB.out | apply below_alloc | apply pw_below_drewN | apply below_drew1) | exact HB.out)⟩⟩
                                    · rw [if_neg c43] at H
                                      exact absurd H (by simp)
                                  · rw [if_neg c42] at H
                                    exact absurd H (by simp)
                                · rw [if_neg c41] at H
                                  have c41b0 : decide (x111_5 < (l1.length : Int)) = false := decide_eq_false c41
                                  clear c41
                                  obtain rfl := Option.some.inj H
                                  go_wp2
                                  go_ret
                                  exact ⟨by first | rfl | (simp [errW_none, errW_some] <;> rfl) | (simp only [← hji35]; first | rfl | (simp [errW_none, errW_some] <;> rfl)) | (simp [*, errW_none, errW_some] <;> rfl), by repeat (first | (with_reducible first | exact HB.out | apply below_alloc | apply pw_below_drewN | apply below_drew1) | exact HB.out)⟩
              · rw [if_neg c29] at H
                have c29b0 : (t135 == 0) = false := beq_eq_false_iff_ne.mpr c29
                have c29b1 : (t135 != 0) = true := bne_iff_ne.mpr c29
                by_cases c51 : t132 = 0
                · rw [if_pos c51] at H
                  have c51b0 : (t132 == 0) = true := beq_iff_eq.mpr c51
                  have c51b1 : (t132 != 0) = false := bne_eq_false_iff_eq.mpr c51
                  clear c51
                  by_cases c52 : t133 = 0
                  · rw [if_pos c52] at H
                    have c52b0 : (t133 == 0) = true := beq_iff_eq.mpr c52
                    have c52b1 : (t133 != 0) = false := bne_eq_false_iff_eq.mpr c52
                    clear c52
                    obtain rfl := Option.some.inj H
                    go_wp2_with (first | ((with_reducible refine gate_callee (f := 14) rfl ?_); refine goesL_ (some 63) rfl rfl Try.func14 (by kernel_rfl) rfl #[.slice A0 l0.length c0, .slice A1 l1.length c1] rfl (by (try simp only [List.map_toArray, List.map_cons, List.map_nil]); first | done | rfl | (simp only [List.length_drop, List.length_take]; rfl)) ?_; (with_reducible refine (hours_Errors.calls kj16 _ _ l0 _ _ l1 t132 t133 t134 t135 _ ?side1 ?side2 ?side3 ?side4 A28.out).mono ?_); (case side1 => repeat (first | exact (Kd.C_below HR0.out HB.out) | (with_reducible refine Kd.C_alloc ?_ _) | (with_reducible refine Kd.C_drewN ?_ _) | (with_reducible refine Kd.C_drew ?_))); (case side2 => exact HC0.out); (case side3 => repeat (first | exact (Kd.C_below HR1.out HB.out) | (with_reducible refine Kd.C_alloc ?_ _) | (with_reducible refine Kd.C_drewN ?_ _) | (with_reducible refine Kd.C_drew ?_))); (case side4 => exact HC1.out); rintro e w53 ⟨rfl, hb⟩; refine ⟨_, rfl, ?_⟩; have n0_ := Aside0.mk (below_step (by repeat (first | (with_reducible first | exact HB.out | apply below_alloc | apply pw_below_drewN | apply below_drew1) | exact HB.out)) hb); clear HB; have HB := n0_; clear n0_; (try clear hb); (try clear hb2); (try clear hk); (try clear hi)))
                    go_ret
                    exact ⟨by first | rfl | (simp [errW_none, errW_some] <;> rfl) | (simp [*, errW_none, errW_some] <;> rfl), by repeat (first | (with_reducible first | exact HB.out | apply below_alloc | apply pw_below_drewN | apply below_drew1) | exact HB.out)⟩
                  · rw [if_neg c52] at H
                    have c52b0 : (t133 == 0) = false := beq_eq_false_iff_ne.mpr c52
                    have c52b1 : (t133 != 0) = true := bne_iff_ne.mpr c52
                    obtain rfl := Option.some.inj H
                    go_wp2_with (first | ((with_reducible refine gate_callee (f := 14) rfl ?_); refine goesL_ (some 63) rfl rfl Try.func14 (by kernel_rfl) rfl #[.slice A0 l0.length c0, .slice A1 l1.length c1] rfl (by (try simp only [List.map_toArray, List.map_cons, List.map_nil]); first | done | rfl | (simp only [List.length_drop, List.length_take]; rfl)) ?_; (with_reducible refine (hours_Errors.calls kj16 _ _ l0 _ _ l1 t132 t133 t134 t135 _ ?side1 ?side2 ?side3 ?side4 A28.out).mono ?_); (case side1 => repeat (first | exact (Kd.C_below HR0.out HB.out) | (with_reducible refine Kd.C_alloc ?_ _) | (with_reducible refine Kd.C_drewN ?_ _) | (with_reducible refine Kd.C_drew ?_))); (case side2 => exact HC0.out); (case side3 => repeat (first | exact (Kd.C_below HR1.out HB.out) | (with_reducible refine Kd.C_alloc ?_ _) | (with_reducible refine Kd.C_drewN ?_ _) | (with_reducible refine Kd.C_drew ?_))); (case side4 => exact HC1.out); rintro e w54 ⟨rfl, hb⟩; refine ⟨_, rfl, ?_⟩; have n0_ := Aside0.mk (below_step (by repeat (first | (with_reducible first | exact HB.out | apply below_alloc | apply pw_below_drewN | apply below_drew1) | exact HB.out)) hb); clear HB; have HB := n0_; clear n0_; (try clear hb); (try clear hb2); (try clear hk); (try clear hi)))
                    go_ret
                    exact ⟨by first | rfl | (simp [errW_none, errW_some] <;> rfl) | (simp [*, errW_none, errW_some] <;> rfl), by repeat (first | (with_reducible first | exact HB.out | apply below_alloc | apply pw_below_drewN | apply below_drew1) | exact HB.out)⟩
                · rw [if_neg c51] at H
                  have c51b0 : (t132 == 0) = false := beq_eq_false_iff_ne.mpr c51
                  have c51b1 : (t132 != 0) = true := bne_iff_ne.mpr c51
                  obtain rfl := Option.some.inj H
                  go_wp2_with (first | ((with_reducible refine gate_callee (f := 14) rfl ?_); refine goesL_ (some 63) rfl rfl Try.func14 (by kernel_rfl) rfl #[.slice A0 l0.length c0, .slice A1 l1.length c1] rfl (by (try simp only [List.map_toArray, List.map_cons, List.map_nil]); first | done | rfl | (simp only [List.length_drop, List.length_take]; rfl)) ?_; (with_reducible refine (hours_Errors.calls kj16 _ _ l0 _ _ l1 t132 t133 t134 t135 _ ?side1 ?side2 ?side3 ?side4 A28.out).mono ?_); (case side1 => repeat (first | exact (Kd.C_below HR0.out HB.out) | (with_reducible refine Kd.C_alloc ?_ _) | (with_reducible refine Kd.C_drewN ?_ _) | (with_reducible refine Kd.C_drew ?_))); (case side2 => exact HC0.out); (case side3 => repeat (first | exact (Kd.C_below HR1.out HB.out) | (with_reducible refine Kd.C_alloc ?_ _) | (with_reducible refine Kd.C_drewN ?_ _) | (with_reducible refine Kd.C_drew ?_))); (case side4 => exact HC1.out); rintro e w55 ⟨rfl, hb⟩; refine ⟨_, rfl, ?_⟩; have n0_ := Aside0.mk (below_step (by repeat (first | (with_reducible first | exact HB.out | apply below_alloc | apply pw_below_drewN | apply below_drew1) | exact HB.out)) hb); clear HB; have HB := n0_; clear n0_; (try clear hb); (try clear hb2); (try clear hk); (try clear hi)))
                  go_ret
                  exact ⟨by first | rfl | (simp [errW_none, errW_some] <;> rfl) | (simp [*, errW_none, errW_some] <;> rfl), by repeat (first | (with_reducible first | exact HB.out | apply below_alloc | apply pw_below_drewN | apply below_drew1) | exact HB.out)⟩

end Go.Proofs.Ytllggbembbfabaa.P
