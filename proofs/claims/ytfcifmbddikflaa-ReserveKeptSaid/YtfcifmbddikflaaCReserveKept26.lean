/- Texts of the claim, put together: Px30, Px31. -/
import Derived.Test.YtfcifmbddikflaaCReserveKept14
import Derived.Test.YtfcifmbddikflaaCReserveKept16
import Derived.Test.YtfcifmbddikflaaCReserveKept17
import Derived.Test.YtfcifmbddikflaaCReserveKept21
namespace Go.Proofs.Ytfcifmbddikflaa.P
open Go.RowKit Go.Proofs.YtfcifmbddikflaaW.PrintWords Go.Proofs.YtfcifmbddikflaaW.PrintLast Go.Proofs.YtfcifmbddikflaaW.PrintMore
attribute [local go_sem] qbi qbg qbp qbo qa5 qa4 qbh qbf
set_option linter.unusedVariables false
set_option linter.unusedSimpArgs false
def qaM.l0 : Nat → Int → List Int → List (S102) → Int → Int → Option (List Int)
 | 0, _, _, _, _, _ => none
 | k + 1, x1, x5, x11, x12, x13 => if x13 < x12 then (if 0 ≤ x13 then (if x13 < (x11.length : Int) then (if x13 < (x5.length : Int) then ((some (x5.set (x13 : Int).toNat (mn ((qag x11 x13).f1) x1) : List Int)).bind fun y278 => (qaM.l0 k (wrap64 (x1 - (rd y278 x13))) y278 x11 x12 (wrap64 (x13 + 1)))) else (none)) else (none)) else (none)) else (some x5)
def qaM.f (k : Nat) (l0 : List (S102)) (a1 : Int) : Option (List Int) := if 0 ≤ (l0.length : Int) then (if ((l0.length : Int) : Int).toNat ≤ 35184372088832 then (qaM.l0 k a1 (List.replicate ((l0.length : Int) : Int).toNat 0) l0 (l0.length : Int) 0) else (none)) else (none)
theorem qaM.qbe : ∀ k, (∀ y0 y1 y2 y3 y4, LeO (qaM.l0 k y0 y1 y2 y3 y4) (qaM.l0 (k + 1) y0 y1 y2 y3 y4))
 | 0 => fun _ _ _ _ _ r h => by simp [qaM.l0] at h
 | k + 1 => by
  have ih0 := qaM.qbe k
  ·intro y0 y1 y2 y3 y4; unfold qaM.l0
   repeat' first
   | (with_reducible exact ih0 _ _ _ _ _)
   | (with_reducible exact LeO.refl _)
   | (with_reducible exact LeO.none _)
   | (with_reducible refine LeO.ite ?_ ?_)
   | (with_reducible refine LeO.bind ?_ (fun _ => ?_))
   | exact ih0 _ _ _ _ _
   | exact LeO.none _
   | refine LeO.ite ?_ ?_
   | refine LeO.bind ?_ (fun _ => ?_)
theorem qaM.mono : ∀ a0 a1 k, LeO (qaM.f k a0 a1) (qaM.f (k + 1) a0 a1) := by
 intro a0 a1 k; have ih0 := qaM.qbe k
 unfold qaM.f
 repeat' first
   | (with_reducible exact ih0 _ _ _ _ _)
   | (with_reducible exact LeO.refl _)
   | (with_reducible exact LeO.none _)
   | (with_reducible refine LeO.ite ?_ ?_)
   | (with_reducible refine LeO.bind ?_ (fun _ => ?_))
   | exact ih0 _ _ _ _ _
   | exact LeO.none _
   | refine LeO.ite ?_ ?_
   | refine LeO.bind ?_ (fun _ => ?_)
set_option maxHeartbeats 8000000 in
set_option maxRecDepth 100000 in
theorem qaM.calls (k : Nat) (A0 : Option Addr) (c0 : Nat) (l0 : List (S102)) (a1 : Int) (r : List Int) (w : World) (hr0 : Kd.C k102 w A0 l0.length l0) (hc0 : l0.length ≤ c0) (h : qaM.f k l0 a1 = some r) :
  Calls Try.prog 44 #[.slice A0 l0.length c0, .int .i64 a1] w fun e w' => ∃ v0_ : Value, e = .returned (v0_) ∧ Kd.R (Kd.int .i64) 3 w' w.heap.size (fun _ => True) v0_ r ∧ Below w.heap.size w w' := by
 have hu102 := Try.underlying102; have HR0 := qac.mk hr0
 have HC0 := qac.mk hc0
 clear hr0 hc0; have HB := qac.mk (Below.refl w.heap.size w)
 have H : (if 0 ≤ (l0.length : Int) then (if ((l0.length : Int) : Int).toNat ≤ 35184372088832 then (qaM.l0 k a1 (List.replicate ((l0.length : Int) : Int).toNat 0) l0 (l0.length : Int) 0) else (none)) else (none)) = some r := h
 clear h; by_cases c3 : 0 ≤ (l0.length : Int)
 ·rw [if_pos c3] at H; have c3b0 := eq_true c3
  have c3b1 : decide (0 ≤ (l0.length : Int)) = true := decide_eq_true c3; clear c3; by_cases c4 : ((l0.length : Int) : Int).toNat ≤ 35184372088832
  ·rw [if_pos c4] at H; have c4b0 := eq_true c4
   have c4b1 : decide (((l0.length : Int) : Int).toNat ≤ 35184372088832) = true := decide_eq_true c4; clear c4; obtain ⟨y273, hy273⟩ : ∃ y_ : List Int, y_ = (List.replicate ((l0.length : Int) : Int).toNat 0) := ⟨_, rfl⟩
   replace H : (qaM.l0 k a1 y273 l0 (l0.length : Int) 0) = some r := by first | (rw [hy273]; with_reducible exact H) | (have H2_ := (Option.bind_some _ _).symm.trans H; rw [hy273]; with_reducible exact H2_) | (have H2_ := (Option.bind_some _ _).symm.trans H; with_reducible exact H2_) | with_reducible exact H | (rw [hy273]; exact H) | exact H
   have Ny273 := qac.mk hy273
   clear hy273; have H' := qac.mk H; clear H; go_enter Try.func44, Try.ntmps44; go_wp2_with (first | ((with_reducible refine qaV (N := 10) rfl ?_); refine Kd.R_make (Kd.int .i64) _ 3 rfl (N := 10) rfl 34 _ _ rfl (l0.length : Int) rfl rfl Try.underlying34 (.int .i64 0) 8 info3 rfl (by decide) (by omega) 0 (ok := fun _ => True) (okp := fun _ => True) rfl (fun _ hk => hk) trivial (of_decide_eq_true (by first | (with_reducible assumption) | assumption)) (Nat.le_trans (Nat.mul_le_mul_right _ (of_decide_eq_true (by first | (with_reducible assumption) | assumption) : (l0.length : Int).toNat ≤ 35184372088832)) (by omega)) (Below.refl _ _) (Nat.le_refl _) ?_; intro v274 w5 ho6 hb hg_ hnew_; clear hg_ hnew_; (first | rw [← Ny273.out] at ho6 | (simp only [Int.reduceToNat] at ho6; rw [← Ny273.out] at ho6)); have n0_ := qac.mk (Kd.qbG ho6 (qav (by repeat (first | (with_reducible first | exact HB.out | apply qae | apply qab | apply qad) | exact HB.out)))); have n1_ := qac.mk (qaB (by repeat (first | (with_reducible first | exact HB.out | apply qae | apply qab | apply qad) | exact HB.out)) hb); clear HB; have HO275 := n0_; have HB := n1_; clear n0_ n1_; clear hb ho6))
   (try simp only [Act.put, List.setIfInBounds_toArray, List.set_cons_zero, List.set_cons_succ])
   go_loopg [1, 13] k (fun kq v1 v13 w' => ∃ (x1_1 : Int) (x5_1 : List Int) (x13_1 : Int), v1 = .int .i64 x1_1 ∧ v13 = .int .i64 x13_1 ∧ qac (qaM.l0 kq x1_1 x5_1 l0 (l0.length : Int) x13_1 = some r) ∧ qac (kq ≤ k) ∧ qac (Kd.R (Kd.int .i64) 3 w' w.heap.size (fun _ => True) v274 x5_1) ∧ qac (Below w.heap.size w w'))
   case atStart => exact ⟨(a1), (y273), (0), (by first | rfl | (simp; done) | (simp [*]; done)), (by first | rfl | (simp; done) | (simp [*]; done)), H', ⟨Nat.le_refl _⟩, ⟨by (with_reducible repeat (first | apply Kd.qax | apply Kd.qaw | apply Kd.qaA)); exact HO275.out⟩, ⟨by repeat (first | (with_reducible first | exact HB.out | apply qae | apply qab | apply qad) | exact HB.out)⟩⟩
   case round =>
    clear H'; (try clear p2); (try clear c3); (try clear c3b0); (try clear c3b1); (try clear c4); (try clear c4b0); (try clear c4b1); obtain ⟨x1_1, x5_1, x13_1, rfl, rfl, HA, HK1, HO_5, HB⟩ := hrel
    cases gk with
    | zero => exact absurd HA.out (by simp [qaM.l0])
    | succ k1 =>
     have H := HA.out; clear HA; simp only [qaM.l0] at H
     by_cases c7 : x13_1 < (l0.length : Int)
     ·rw [if_pos c7] at H; have c7b0 : decide (x13_1 < (l0.length : Int)) = true := decide_eq_true c7; clear c7; by_cases c8 : 0 ≤ x13_1
      ·rw [if_pos c8] at H; have c8b0 : decide (0 ≤ x13_1) = true := decide_eq_true c8; clear c8; by_cases c9 : x13_1 < (l0.length : Int)
       ·rw [if_pos c9] at H; have c9b0 : decide (x13_1 < (l0.length : Int)) = true := decide_eq_true c9; clear c9; obtain ⟨ji10, hji10⟩ : ∃ j_ : Int, (mn ((qag l0 x13_1).f1) x1_1) = j_ := ⟨_, rfl⟩
        first | rw [hji10] at H | simp only [hji10] at H
        have hji10_ : (if x1_1 < ((qag l0 x13_1).f1) then x1_1 else ((qag l0 x13_1).f1)) = ji10 := hji10
        by_cases c11 : x13_1 < (x5_1.length : Int)
        ·rw [if_pos c11] at H; have c11b0 : decide (x13_1 < (x5_1.length : Int)) = true := decide_eq_true c11; clear c11; obtain ⟨y278, hy278⟩ : ∃ y_ : List Int, y_ = (x5_1.set (x13_1 : Int).toNat (ji10)) := ⟨_, rfl⟩
         replace H : (qaM.l0 k1 (wrap64 (x1_1 - (rd y278 x13_1))) y278 l0 (l0.length : Int) (wrap64 (x13_1 + 1))) = some r := by first | (rw [hy278]; with_reducible exact H) | (have H2_ := (Option.bind_some _ _).symm.trans H; rw [hy278]; with_reducible exact H2_) | (have H2_ := (Option.bind_some _ _).symm.trans H; with_reducible exact H2_) | with_reducible exact H | (rw [hy278]; exact H) | exact H
         have Ny278 := qac.mk hy278
         clear hy278; have H' := qac.mk H; clear H; have p276 : 0 ≤ (x13_1 : Int) := of_decide_eq_true (by first | (with_reducible assumption) | assumption)
         have q276 : x13_1 < (l0.length : Int) := of_decide_eq_true (by first | (with_reducible assumption) | assumption)
         obtain ⟨ad276, e276, hx276_0, hx276_1, hx276_2⟩ := qbm HR0.out x13_1 p276 q276
         cases e276
         replace hx276_0 := (HB.out.cell (World.block_lt_of_cell? w _ hx276_0)).trans hx276_0
         replace hx276_1 := (HB.out.cell (World.block_lt_of_cell? w _ hx276_1)).trans hx276_1
         replace hx276_2 := (HB.out.cell (World.block_lt_of_cell? w _ hx276_2)).trans hx276_2
         replace p276 := eq_true p276; replace q276 := eq_true q276; go_wp2_with (first | ((with_reducible refine qaV (N := 7) rfl ?_); refine qaU ?hg (N := 7) ?hd (cs := #[.int .i64 0, .int .i64 0, .int .i64 0]) (t := 102) ?hr ?_; (case hd => rfl); (case hg => rfl); (case hr => first | (go_simp; done) | (go_simp; rfl)); intro gb277 hg w13 hbox hb; have n0_ := qac.mk (Kd.qa8 (by (with_reducible repeat (first | apply Kd.qax | apply Kd.qaw | apply Kd.qaA)); exact HO_5.out) hb); have n1_ := qac.mk (qaB (by repeat (first | (with_reducible first | exact HB.out | apply qae | apply qab | apply qad) | exact HB.out)) hb); have n2_ := qac.mk (hbox); have n3_ := qac.mk ((by rw [hg]; exact (qav (by repeat (first | (with_reducible first | exact HB.out | apply qae | apply qab | apply qad) | exact HB.out))) : w.heap.size ≤ gb277)); have n4_ := qac.mk ((by rw [hg]; exact (qav (by repeat (first | (with_reducible first | exact HB.out | apply qae | apply qab | apply qad) | exact HB.out))) : w.heap.size ≤ gb277)); clear HO_5; clear HB; have HO_5 := n0_; have HB := n1_; have BK277 := n2_; have GW277 := n3_; have GE277 := n4_; clear n0_ n1_ n2_ n3_ n4_; clear hb hbox hg; have hcz14_0 : w13.cell? ⟨gb277, 0, none⟩ = some (.int .i64 0) := (qas BK277.out 0).trans rfl; have hcz14_1 : w13.cell? ⟨gb277, 1, none⟩ = some (.int .i64 0) := (qas BK277.out 1).trans rfl; have hcz14_2 : w13.cell? ⟨gb277, 2, none⟩ = some (.int .i64 0) := (qas BK277.out 2).trans rfl; have hfz14_0 := qat BK277.out 0; have hfz14_1 := qat BK277.out 1; have hfz14_2 := qat BK277.out 2) | ((with_reducible refine gate_store (t := 102) (p := 7) rfl ?_); refine store_event (t := 102) (p := 7) (v := ?vo_w15) (w1 := (((w13.setCell ⟨gb277, 0, none⟩ (.int .i64 ((qag l0 x13_1).f0))).setCell ⟨gb277, 1, none⟩ (.int .i64 ((qag l0 x13_1).f1))).setCell ⟨gb277, 2, none⟩ (.int .i64 ((qag l0 x13_1).f2)))) ?hg ?ho ?hn ?hr ?_; (case ho => rfl); (case hg => rfl); (case hn => rfl); (case hr => first | (go_simp; done) | (go_simp; rfl)); intro w15 hw; have n0_ : qac (Kd.R (Kd.int .i64) 3 w15 w.heap.size (fun _ => True) v274 x5_1) := ⟨(by rw [hw]; exact (by (with_reducible repeat (first | apply Kd.qax | apply Kd.qaw | apply Kd.qaA)); exact Kd.qaY (Kd.R_far (p := ⟨gb277, 2, none⟩) (Kd.R_far (p := ⟨gb277, 1, none⟩) (Kd.R_far (p := ⟨gb277, 0, none⟩) (Kd.qbs HO_5.out BK277.out (by decide)) (fun _ hk => hk.2) (.int .i64 ((qag l0 x13_1).f0))) (fun _ hk => hk.2) (.int .i64 ((qag l0 x13_1).f1))) (fun _ hk => hk.2) (.int .i64 ((qag l0 x13_1).f2))) (fun _ hk => trivial)))⟩; have n1_ : qac (w15.heap[gb277]? = some (.cells #[.int .i64 ((qag l0 x13_1).f0), .int .i64 ((qag l0 x13_1).f1), .int .i64 ((qag l0 x13_1).f2)] 102 (0, 0))) := ⟨(by rw [hw]; exact (by (with_reducible repeat (first | refine qan ?_ _ | refine qap ?_ | refine qao ?_ _)); refine qa1 (cs := #[.int .i64 ((qag l0 x13_1).f0), .int .i64 ((qag l0 x13_1).f1), .int .i64 0]) ?_ 2 _ rfl; (with_reducible repeat (first | refine qan ?_ _ | refine qap ?_ | refine qao ?_ _)); refine qa1 (cs := #[.int .i64 ((qag l0 x13_1).f0), .int .i64 0, .int .i64 0]) ?_ 1 _ rfl; (with_reducible repeat (first | refine qan ?_ _ | refine qap ?_ | refine qao ?_ _)); refine qa1 (cs := #[.int .i64 0, .int .i64 0, .int .i64 0]) ?_ 0 _ rfl; (with_reducible repeat (first | refine qan ?_ _ | refine qap ?_ | refine qao ?_ _)); exact BK277.out))⟩; have n2_ : qac (Below w.heap.size w w15) := ⟨(by rw [hw]; exact (by repeat (first | (with_reducible first | exact HB.out | apply qae | apply qab | apply qad | refine qah ?_ GE277.out) | exact HB.out)))⟩; clear hw; clear HO_5; clear BK277; clear HB; have HO_5 := n0_; have BK277 := n1_; have HB := n2_; clear n0_ n1_ n2_; have hcz16_0 : w15.cell? ⟨gb277, 0, none⟩ = some (.int .i64 ((qag l0 x13_1).f0)) := (qas BK277.out 0).trans rfl; have hcz16_1 : w15.cell? ⟨gb277, 1, none⟩ = some (.int .i64 ((qag l0 x13_1).f1)) := (qas BK277.out 1).trans rfl; have hcz16_2 : w15.cell? ⟨gb277, 2, none⟩ = some (.int .i64 ((qag l0 x13_1).f2)) := (qas BK277.out 2).trans rfl; have hfz16_0 := qat BK277.out 0; have hfz16_1 := qat BK277.out 1; have hfz16_2 := qat BK277.out 2; have p12 : 0 ≤ (x13_1 : Int) := of_decide_eq_true (by first | (with_reducible assumption) | assumption); have q12 : (x13_1 : Int) < ((x5_1.length : Int) : Int) := of_decide_eq_true (by first | (with_reducible assumption) | assumption); obtain ⟨go12, co12, eo12, gb12, gl12, cl12, HG12⟩ := Kd.R_form HO_5.out (by omega); (first | cases eo12 | (injection eo12 with ea_ en_ ec_; (first | subst ea_ | (injection ea_ with ea_; subst ea_)); subst ec_; clear en_)); have GB12 := qac.mk gb12; have GG12 := qac.mk HG12; clear gb12 gl12 HG12; obtain ⟨hx12_0, hf12_0⟩ := Kd.R_celln 0 HO_5.out (x13_1 : Int) p12 q12; replace p12 := eq_true p12; replace q12 := eq_true q12; obtain ⟨hy17_, hz17_⟩ := Kd.R_celln 0 HO_5.out (x13_1 : Int) (of_decide_eq_true (by first | (with_reducible assumption) | assumption)) (of_decide_eq_true (by first | (with_reducible assumption) | assumption)); have HP17 := Kd.R_putg HO_5.out (x13_1 : Int) ji10) | ((with_reducible refine gate_store (t := 3) (p := 24) rfl ?_); refine store_event (t := 3) (p := 24) (v := ?vo_w18) (w1 := (w15.setCell ⟨go12, (x13_1 : Int).toNat, none⟩ (.int .i64 ji10))) ?hg ?ho ?hn ?hr ?_; (case ho => rfl); (case hg => rfl); (case hn => rfl); (case hr => first | (go_simp; done) | (go_simp; rfl)); intro w18 hw; have hg : w15.grownBy w18 (some go12) := (by rw [hw]; exact HP17.2); have hp_ : Kd.R (Kd.int .i64) 3 w18 w.heap.size (fun _ => True) (.slice (some ⟨go12, 0, none⟩) x5_1.length co12) y278 := (by rw [hw, Ny278.out]; exact HP17.1); clear HP17; have n0_ := qac.mk (hp_); have n1_ := qac.mk (qbN (g := gb277) (o := .cells #[.int .i64 ((qag l0 x13_1).f0), .int .i64 ((qag l0 x13_1).f1), .int .i64 ((qag l0 x13_1).f2)] 102 (0, 0)) (by (with_reducible repeat (first | refine qan ?_ _ | refine qap ?_ | refine qao ?_ _)); exact BK277.out) hg (Kd.R_ne HO_5.out BK277.out (by decide))); have n2_ := qac.mk ((by rw [hw]; exact qah (HB.out) GB12.out : Below w.heap.size w w18)); clear HO_5; clear BK277; clear HB; have HO_5 := n0_; have BK277 := n1_; have HB := n2_; clear n0_ n1_ n2_; clear hg hw hp_; have p279 : 0 ≤ (x13_1 : Int) := of_decide_eq_true (by first | (with_reducible assumption) | assumption); have q279 : x13_1 < (y278.length : Int) := (by have h_ : (x13_1 : Int) < ((x5_1.length : Int) : Int) := of_decide_eq_true (by first | (with_reducible assumption) | assumption); first | (have e_ := (Kd.qaN HO_5.out).1; omega) | simpa only [Ny278.out, List.length_set] using h_); have ql279 : ((x13_1 : Int) < ((x5_1.length : Int) : Int)) = True := eq_true (of_decide_eq_true (by first | (with_reducible assumption) | assumption)); obtain ⟨ad279, e279, hx279_0⟩ := Kd.qbJ (Kd.qaN HO_5.out).2.2 x13_1 p279 q279; obtain rfl : (⟨go12, 0, none⟩ : Addr) = ad279 := (by injection e279); (first | simp only [add_plain] at hx279_0 | simp only [add_at] at hx279_0 | simp only [Addr.add, Nat.zero_add] at hx279_0 | skip); replace p279 := eq_true p279; replace q279 := eq_true q279))
         go_roundg k1
         case measure => have := HK1.out; omega
         case rel => exact ⟨(wrap64 (x1_1 - (rd y278 x13_1))), (y278), (wrap64 (x13_1 + 1)), (by first | rfl | (simp; done) | (simp [*]; done)), (by first | rfl | (simp; done) | (simp [*]; done)), H', ⟨by have := HK1.out; omega⟩, ⟨by (with_reducible repeat (first | apply Kd.qax | apply Kd.qaw | apply Kd.qaA)); exact HO_5.out⟩, ⟨by repeat (first | (with_reducible first | exact HB.out | apply qae | apply qab | apply qad | refine qah ?_ GE277.out) | exact HB.out)⟩⟩
        ·rw [if_neg c11] at H; exact absurd H (by simp)
       ·rw [if_neg c9] at H; exact absurd H (by simp)
      ·rw [if_neg c8] at H; exact absurd H (by simp)
     ·rw [if_neg c7] at H; have c7b0 : decide (x13_1 < (l0.length : Int)) = false := decide_eq_false c7; clear c7; obtain rfl := Option.some.inj H
      go_wp2; go_ret
      exact ⟨_, by first | rfl | (simp [qaz, qay] <;> rfl) | (simp [*, qaz, qay] <;> rfl), by (with_reducible repeat (first | apply Kd.qax | apply Kd.qaw | apply Kd.qaA)); exact HO_5.out, by repeat (first | (with_reducible first | exact HB.out | apply qae | apply qab | apply qad) | exact HB.out)⟩
  ·rw [if_neg c4] at H; exact absurd H (by simp)
 ·rw [if_neg c3] at H; exact absurd H (by simp)
mutual
def qaq.l0 : Nat → List (S102) → List (S102) → List Int → List Int → Int → Int → Int → Option (List Int × List Int)
 | 0, _, _, _, _, _, _, _ => none
 | k + 1, x0, x1, x2, x3, x4, x10, x11 => if x10 ≥ 0 then (if x11 < (x1.length : Int) then (qaq.j1 k x0 x1 x2 x3 x4 x10 x11 (decide (x4 > 0))) else (qaq.j1 k x0 x1 x2 x3 x4 x10 x11 false)) else (qaq.j1 k x0 x1 x2 x3 x4 x10 x11 false)
def qaq.j1 : Nat → List (S102) → List (S102) → List Int → List Int → Int → Int → Int → Bool → Option (List Int × List Int)
 | 0, _, _, _, _, _, _, _, _ => none
 | k + 1, x0, x1, x2, x3, x4, x10, x11, x27 => if x27 = true then (if 0 ≤ x10 then (if x10 < (x2.length : Int) then (if (rd x2 x10) = 0 then (qaq.l0 k x0 x1 x2 x3 x4 (wrap64 (x10 - 1)) x11) else (if 0 ≤ x11 then (if x11 < (x3.length : Int) then (if x11 < (x1.length : Int) then (if (rd x3 x11) = ((qag x1 x11).f1) then (qaq.l0 k x0 x1 x2 x3 x4 x10 (wrap64 (x11 + 1))) else (if x10 < (x0.length : Int) then (if ((qag x1 x11).f2) ≥ ((qag x0 x10).f2) then (some (x2, x3)) else (qaq.l0 k x0 x1 (x2.set (x10 : Int).toNat (wrap64 ((rd x2 x10) - (mn (mn (rd x2 x10) (wrap64 (((qag x1 x11).f1) - (rd x3 x11)))) x4)))) (x3.set (x11 : Int).toNat (wrap64 ((rd x3 x11) + (mn (mn (rd x2 x10) (wrap64 (((qag x1 x11).f1) - (rd x3 x11)))) x4)))) (wrap64 (x4 - (mn (mn (rd x2 x10) (wrap64 (((qag x1 x11).f1) - (rd x3 x11)))) x4))) x10 x11)) else (none))) else (none)) else (none)) else (none))) else (none)) else (none)) else (some (x2, x3))
end
def qaq.f (k : Nat) (l0 : List (S102)) (l1 : List (S102)) (l2 : List Int) (l3 : List Int) (a4 : Int) : Option (List Int × List Int) := qaq.l0 k l0 l1 l2 l3 a4 (wrap64 ((l0.length : Int) - 1)) 0
theorem qaq.qbe : ∀ k, (∀ y0 y1 y2 y3 y4 y5 y6, LeO (qaq.l0 k y0 y1 y2 y3 y4 y5 y6) (qaq.l0 (k + 1) y0 y1 y2 y3 y4 y5 y6)) ∧ (∀ y0 y1 y2 y3 y4 y5 y6 y7, LeO (qaq.j1 k y0 y1 y2 y3 y4 y5 y6 y7) (qaq.j1 (k + 1) y0 y1 y2 y3 y4 y5 y6 y7))
 | 0 => ⟨fun _ _ _ _ _ _ _ r h => by simp [qaq.l0] at h, fun _ _ _ _ _ _ _ _ r h => by simp [qaq.j1] at h⟩
 | k + 1 => by
  obtain ⟨ih0, ih1⟩ := qaq.qbe k
  refine ⟨?_, ?_⟩
  ·intro y0 y1 y2 y3 y4 y5 y6; unfold qaq.l0
   repeat' first
   | (with_reducible exact ih0 _ _ _ _ _ _ _)
   | (with_reducible exact ih1 _ _ _ _ _ _ _ _)
   | (with_reducible exact LeO.refl _)
   | (with_reducible exact LeO.none _)
   | (with_reducible refine LeO.ite ?_ ?_)
   | (with_reducible refine LeO.bind ?_ (fun _ => ?_))
   | exact ih0 _ _ _ _ _ _ _
   | exact ih1 _ _ _ _ _ _ _ _
   | exact LeO.none _
   | refine LeO.ite ?_ ?_
   | refine LeO.bind ?_ (fun _ => ?_)
  ·intro y0 y1 y2 y3 y4 y5 y6 y7; unfold qaq.j1
   repeat' first
   | (with_reducible exact ih0 _ _ _ _ _ _ _)
   | (with_reducible exact ih1 _ _ _ _ _ _ _ _)
   | (with_reducible exact LeO.refl _)
   | (with_reducible exact LeO.none _)
   | (with_reducible refine LeO.ite ?_ ?_)
   | (with_reducible refine LeO.bind ?_ (fun _ => ?_))
   | exact ih0 _ _ _ _ _ _ _
   | exact ih1 _ _ _ _ _ _ _ _
   | exact LeO.none _
   | refine LeO.ite ?_ ?_
   | refine LeO.bind ?_ (fun _ => ?_)
theorem qaq.mono : ∀ a0 a1 a2 a3 a4 k, LeO (qaq.f k a0 a1 a2 a3 a4) (qaq.f (k + 1) a0 a1 a2 a3 a4) := by
 intro a0 a1 a2 a3 a4 k; obtain ⟨ih0, ih1⟩ := qaq.qbe k
 unfold qaq.f
 repeat' first
   | (with_reducible exact ih0 _ _ _ _ _ _ _)
   | (with_reducible exact ih1 _ _ _ _ _ _ _ _)
   | (with_reducible exact LeO.refl _)
   | (with_reducible exact LeO.none _)
   | (with_reducible refine LeO.ite ?_ ?_)
   | (with_reducible refine LeO.bind ?_ (fun _ => ?_))
   | exact ih0 _ _ _ _ _ _ _
   | exact ih1 _ _ _ _ _ _ _ _
   | exact LeO.none _
   | refine LeO.ite ?_ ?_
   | refine LeO.bind ?_ (fun _ => ?_)
def qaq.T2 : Bool × List (List Nat × List Nat) := (true, [([], []), ([], []), ([0, 1], [0, 1]), ([2], [2]), ([], []), ([], []), ([4, 5], [4, 5]), ([6], [6]), ([7], [7]), ([], []), ([], []), ([9, 10], [9, 10]), ([11], [11]), ([8, 12], [8, 12]), ([], []), ([3, 13, 14], [3, 13, 14]), ([15, 0, 1, 2, 3, 4, 5, 6, 7, 8, 9, 10, 11, 12, 13, 14, 15], [15])])
def qaq.B2 : List Nat := [0, 0, 3, 7, 0, 0, 48, 112, 240, 0, 0, 1536, 3584, 8176, 0, 32767, 65535]
theorem qaq.tab2 : rtab .any (opsOf Try.f45 2) = qaq.T2 := by kernel_rfl
theorem qaq.bits2 : waitsOk qaq.T2.2 qaq.B2 = true := by kernel_rfl
def qaq.T3 : Bool × List (List Nat × List Nat) := (true, [([], []), ([], []), ([], []), ([], []), ([], []), ([], []), ([4, 5], [4, 5]), ([6], [6]), ([], []), ([7, 8], [7, 8]), ([], []), ([], []), ([10, 11], [10, 11]), ([12], [12]), ([], []), ([13, 14], [13, 14]), ([], []), ([], []), ([16, 17], [16, 17]), ([0, 1, 0, 1, 4, 5, 6, 7, 8, 9, 13], [0, 1]), ([19, 9, 0, 1, 4, 5, 6, 7, 8, 9, 13], [9, 19]), ([2, 3, 0, 1, 2, 3, 4, 5, 6, 7, 8, 9, 10, 11, 12, 13, 14, 15, 19, 20], [2, 3]), ([21, 15, 20, 0, 1, 2, 3, 4, 5, 6, 7, 8, 9, 10, 11, 12, 13, 14, 15, 19, 20], [15, 21]), ([18, 22, 0, 1, 2, 3, 4, 5, 6, 7, 8, 9, 10, 11, 12, 13, 14, 15, 16, 17, 18, 19, 20, 21, 22], [16, 18])])
def qaq.B3 : List Nat := [0, 0, 0, 0, 0, 0, 48, 112, 0, 496, 0, 0, 3072, 7168, 0, 31744, 0, 0, 196608, 16371, 540659, 1638399, 3735551, 8388607]
theorem qaq.tab3 : rtab .any (opsOf Try.f45 3) = qaq.T3 := by kernel_rfl
theorem qaq.bits3 : waitsOk qaq.T3.2 qaq.B3 = true := by kernel_rfl
def qaq.T6 : Bool × List (List Nat × List Nat) := (true, [([], []), ([], []), ([0, 1], [0, 1]), ([2], [2]), ([], []), ([], []), ([4, 5], [4, 5]), ([6], [6]), ([7], [7]), ([3, 8], [3, 8]), ([9], [9])])
def qaq.B6 : List Nat := [0, 0, 3, 7, 0, 0, 48, 112, 240, 511, 1023]
theorem qaq.tab6 : rtab .any (opsOf Try.f45 6) = qaq.T6 := by kernel_rfl
theorem qaq.bits6 : waitsOk qaq.T6.2 qaq.B6 = true := by kernel_rfl
def qaq.T8 : Bool × List (List Nat × List Nat) := (true, [([], []), ([], []), ([0, 1], [0, 1]), ([2], [2]), ([3], [3]), ([], []), ([], []), ([5, 6], [5, 6]), ([7], [7]), ([8], [8]), ([4, 9], [4, 9]), ([10], [10])])
def qaq.B8 : List Nat := [0, 0, 3, 7, 15, 0, 0, 96, 224, 480, 1023, 2047]
theorem qaq.tab8 : rtab .any (opsOf Try.f45 8) = qaq.T8 := by kernel_rfl
theorem qaq.bits8 : waitsOk qaq.T8.2 qaq.B8 = true := by kernel_rfl
set_option maxHeartbeats 8000000 in
set_option maxRecDepth 100000 in
theorem qaq.calls (k : Nat) (A0 : Option Addr) (c0 : Nat) (l0 : List (S102)) (A1 : Option Addr) (c1 : Nat) (l1 : List (S102)) (P2_ : Nat → Prop) (u9000_ : Value) (l2 : List Int) (P3_ : Nat → Prop) (u9001_ : Value) (l3 : List Int) (a4 : Int) (r1 : List Int) (r2 : List Int) (w0 w : World) (hB : Below w0.heap.size w0 w) (hr0 : ∀ W_, Kept w W_ (fun k_ => P2_ k_ ∨ P3_ k_) → Kd.C k102 W_ A0 l0.length l0) (hc0 : l0.length ≤ c0) (hr1 : ∀ W_, Kept w W_ (fun k_ => P2_ k_ ∨ P3_ k_) → Kd.C k102 W_ A1 l1.length l1) (hc1 : l1.length ≤ c1) (ho2 : Kd.R (Kd.int .i64) 3 w w0.heap.size P2_ u9000_ l2) (hp2_3 : ∀ k_, P2_ k_ → ¬ P3_ k_) (ho3 : Kd.R (Kd.int .i64) 3 w w0.heap.size P3_ u9001_ l3) (hp3_2 : ∀ k_, P3_ k_ → ¬ P2_ k_) (h : qaq.f k l0 l1 l2 l3 a4 = some (r1, r2)) :
  Calls Try.prog 45 #[.slice A0 l0.length c0, .slice A1 l1.length c1, u9000_, u9001_, .int .i64 a4] w fun e w' => e = .returned (.tuple #[]) ∧ Kd.R (Kd.int .i64) 3 w' w0.heap.size (fun k_ => ((P2_ k_ ∨ P3_ k_) ∨ w.heap.size ≤ k_)) u9000_ r1 ∧ Kd.R (Kd.int .i64) 3 w' w0.heap.size (fun k_ => ((P2_ k_ ∨ P3_ k_) ∨ w.heap.size ≤ k_)) u9001_ r2 ∧ Below w0.heap.size w0 w' ∧ Kept w w' (fun k_ => P2_ k_ ∨ P3_ k_) := by
 have HR0 := qac.mk hr0
 have HC0 := qac.mk hc0
 clear hr0 hc0; have HR1 := qac.mk hr1
 have HC1 := qac.mk hc1
 clear hr1 hc1; have HO2 := qac.mk (show Kd.R (Kd.int .i64) 3 w w0.heap.size (fun k_ => ((P2_ k_ ∨ P3_ k_) ∨ w.heap.size ≤ k_) ∧ some k_ ≠ (u9001_ : Value).ownBlock) u9000_ l2 from Kd.qaY ho2 (fun k_ hk => ⟨(.inl (.inl hk)), fun e_ => hp2_3 k_ hk (ho3.1 k_ e_.symm)⟩))
 have HO3 := qac.mk (show Kd.R (Kd.int .i64) 3 w w0.heap.size (fun k_ => ((P2_ k_ ∨ P3_ k_) ∨ w.heap.size ≤ k_) ∧ some k_ ≠ (u9000_ : Value).ownBlock) u9001_ l3 from Kd.qaY ho3 (fun k_ hk => ⟨(.inl (.inr hk)), fun e_ => hp3_2 k_ hk (ho2.1 k_ e_.symm)⟩))
 have HK := qac.mk (Kept.refl w (fun k_ => P2_ k_ ∨ P3_ k_))
 have HW0 := qac.mk hB.size
 have HB := qac.mk hB
 clear hB; have H : (qaq.l0 k l0 l1 l2 l3 a4 (wrap64 ((l0.length : Int) - 1)) 0) = some (r1, r2) := h
 clear h; have H' := qac.mk H; clear H; go_enter Try.func45, Try.ntmps45; go_wp2; go_loopg [4, 10, 11] k (fun kq v4 v10 v11 w' => ∃ (x2_1 : List Int) (x3_1 : List Int) (x4_1 : Int) (x10_1 : Int) (x11_1 : Int), v4 = .int .i64 x4_1 ∧ v10 = .int .i64 x10_1 ∧ v11 = .int .i64 x11_1 ∧ qac (qaq.l0 kq l0 l1 x2_1 x3_1 x4_1 x10_1 x11_1 = some (r1, r2)) ∧ qac (kq ≤ k) ∧ qac (Kd.R (Kd.int .i64) 3 w' w0.heap.size (fun k_ => ((P2_ k_ ∨ P3_ k_) ∨ w.heap.size ≤ k_) ∧ some k_ ≠ (u9001_ : Value).ownBlock) u9000_ x2_1) ∧ qac (Kd.R (Kd.int .i64) 3 w' w0.heap.size (fun k_ => ((P2_ k_ ∨ P3_ k_) ∨ w.heap.size ≤ k_) ∧ some k_ ≠ (u9000_ : Value).ownBlock) u9001_ x3_1) ∧ qac (Kept w w' (fun k_ => P2_ k_ ∨ P3_ k_)) ∧ qac (Below w0.heap.size w0 w'))
 case atStart => exact ⟨(l2), (l3), (a4), (wrap64 ((l0.length : Int) - 1)), (0), (by first | rfl | (simp; done) | (simp [*]; done)), (by first | rfl | (simp; done) | (simp [*]; done)), (by first | rfl | (simp; done) | (simp [*]; done)), H', ⟨Nat.le_refl _⟩, ⟨by (with_reducible repeat (first | apply Kd.qax | apply Kd.qaw | apply Kd.qaA)); exact HO2.out⟩, ⟨by (with_reducible repeat (first | apply Kd.qax | apply Kd.qaw | apply Kd.qaA)); exact HO3.out⟩, ⟨by repeat (first | (with_reducible first | exact HK.out | apply Kept.alloc | apply Kept.drewN | apply Kept.drew) | exact HK.out)⟩, ⟨by repeat (first | (with_reducible first | exact HB.out | apply qae | apply qab | apply qad) | exact HB.out)⟩⟩
 case round =>
  clear H'; (try clear c1); (try clear p2); (try clear p3); (try clear c4); obtain ⟨x2_1, x3_1, x4_1, x10_1, x11_1, rfl, rfl, rfl, HA, HK1, HO_2, HO_3, HK, HB⟩ := hrel
  cases gk with
  | zero => exact absurd HA.out (by simp [qaq.l0])
  | succ k1 =>
   have H := HA.out; clear HA; simp only [qaq.l0] at H
   have HC6 := qac.mk H; clear H; go_upto_region 1 with (fail)
   go_cut [27] (fun v27 wc => ∃ (kq : Nat) (x27_5 : Bool), v27 = .bool x27_5 ∧ qac (qaq.j1 kq l0 l1 x2_1 x3_1 x4_1 x10_1 x11_1 x27_5 = some (r1, r2)) ∧ qac (kq ≤ k1) ∧ qac (Kd.R (Kd.int .i64) 3 wc w0.heap.size (fun k_ => ((P2_ k_ ∨ P3_ k_) ∨ w.heap.size ≤ k_) ∧ some k_ ≠ (u9001_ : Value).ownBlock) u9000_ x2_1) ∧ qac (Kd.R (Kd.int .i64) 3 wc w0.heap.size (fun k_ => ((P2_ k_ ∨ P3_ k_) ∨ w.heap.size ≤ k_) ∧ some k_ ≠ (u9000_ : Value).ownBlock) u9001_ x3_1) ∧ qac (Kept w wc (fun k_ => P2_ k_ ∨ P3_ k_)) ∧ qac (Below w0.heap.size w0 wc))
   case first =>
    have H := HC6.out; clear HC6; by_cases c7 : x10_1 ≥ 0
    ·rw [if_pos c7] at H; have c7b0 : decide (0 ≤ x10_1) = true := decide_eq_true c7; clear c7; (first | rw [c7b0] | (simp only [i64_w, i32_w]; rw [c7b0]) | skip)
     by_cases c8 : x11_1 < (l1.length : Int)
     ·rw [if_pos c8] at H; have c8b0 : decide (x11_1 < (l1.length : Int)) = true := decide_eq_true c8; clear c8; have H' := qac.mk H; clear H; go_wp2; (refine Met.intro ?_; go_step; first | ((repeat apply Exists.intro); refine ⟨?rel, rfl⟩) | ((try simp only [c8b0] at H' ⊢); (try simp only [c7b0] at H' ⊢); (repeat apply Exists.intro); refine ⟨?rel, rfl⟩))
      case rel => exact ⟨_, (decide (x4_1 > 0)), (by first | rfl | (simp; done) | (simp [*]; done)), H', ⟨by have := HK1.out; first | omega | exact Nat.le_refl _⟩, ⟨by (with_reducible repeat (first | apply Kd.qax | apply Kd.qaw | apply Kd.qaA)); exact HO_2.out⟩, ⟨by (with_reducible repeat (first | apply Kd.qax | apply Kd.qaw | apply Kd.qaA)); exact HO_3.out⟩, ⟨by repeat (first | (with_reducible first | exact HK.out | apply Kept.alloc | apply Kept.drewN | apply Kept.drew) | exact HK.out)⟩, ⟨by repeat (first | (with_reducible first | exact HB.out | apply qae | apply qab | apply qad) | exact HB.out)⟩⟩
     ·rw [if_neg c8] at H; have c8b0 : decide (x11_1 < (l1.length : Int)) = false := decide_eq_false c8; clear c8; have H' := qac.mk H; clear H; go_wp2; (refine Met.intro ?_; go_step; first | ((repeat apply Exists.intro); refine ⟨?rel, rfl⟩) | ((try simp only [c8b0] at H' ⊢); (try simp only [c7b0] at H' ⊢); (repeat apply Exists.intro); refine ⟨?rel, rfl⟩))
      case rel => exact ⟨_, (false), (by first | rfl | (simp; done) | (simp [*]; done)), H', ⟨by have := HK1.out; first | omega | exact Nat.le_refl _⟩, ⟨by (with_reducible repeat (first | apply Kd.qax | apply Kd.qaw | apply Kd.qaA)); exact HO_2.out⟩, ⟨by (with_reducible repeat (first | apply Kd.qax | apply Kd.qaw | apply Kd.qaA)); exact HO_3.out⟩, ⟨by repeat (first | (with_reducible first | exact HK.out | apply Kept.alloc | apply Kept.drewN | apply Kept.drew) | exact HK.out)⟩, ⟨by repeat (first | (with_reducible first | exact HB.out | apply qae | apply qab | apply qad) | exact HB.out)⟩⟩
    ·rw [if_neg c7] at H; have c7b0 : decide (0 ≤ x10_1) = false := decide_eq_false c7; clear c7; (first | rw [c7b0] | (simp only [i64_w, i32_w]; rw [c7b0]) | skip)
     have H' := qac.mk H; clear H; go_wp2; (refine Met.intro ?_; go_step; first | ((repeat apply Exists.intro); refine ⟨?rel, rfl⟩) | ((try simp only [c7b0] at H' ⊢); (repeat apply Exists.intro); refine ⟨?rel, rfl⟩))
     case rel => exact ⟨_, (false), (by first | rfl | (simp; done) | (simp [*]; done)), H', ⟨by have := HK1.out; first | omega | exact Nat.le_refl _⟩, ⟨by (with_reducible repeat (first | apply Kd.qax | apply Kd.qaw | apply Kd.qaA)); exact HO_2.out⟩, ⟨by (with_reducible repeat (first | apply Kd.qax | apply Kd.qaw | apply Kd.qaA)); exact HO_3.out⟩, ⟨by repeat (first | (with_reducible first | exact HK.out | apply Kept.alloc | apply Kept.drewN | apply Kept.drew) | exact HK.out)⟩, ⟨by repeat (first | (with_reducible first | exact HB.out | apply qae | apply qab | apply qad) | exact HB.out)⟩⟩
   case rest =>
    clear HC6; (try clear c1); (try clear p2); (try clear p3); (try clear c4); (try clear p6); (try clear c7); (try clear c7b0); (try clear c8); (try clear c8b0); (try clear p2); (try clear p3); obtain ⟨kq, x27_5, rfl, HA, HJ5, HO_2, HO_3, HK, HB⟩ := hcut
    cases kq with
    | zero => exact absurd HA.out (by simp [qaq.j1])
    | succ kj5 =>
     have H := HA.out; clear HA; simp only [qaq.j1] at H
     by_cases c9 : x27_5 = true
     ·subst c9; have H1 : (if 0 ≤ x10_1 then (if x10_1 < (x2_1.length : Int) then (if (rd x2_1 x10_1) = 0 then (qaq.l0 kj5 l0 l1 x2_1 x3_1 x4_1 (wrap64 (x10_1 - 1)) x11_1) else (if 0 ≤ x11_1 then (if x11_1 < (x3_1.length : Int) then (if x11_1 < (l1.length : Int) then (if (rd x3_1 x11_1) = ((qag l1 x11_1).f1) then (qaq.l0 kj5 l0 l1 x2_1 x3_1 x4_1 x10_1 (wrap64 (x11_1 + 1))) else (if x10_1 < (l0.length : Int) then (if ((qag l1 x11_1).f2) ≥ ((qag l0 x10_1).f2) then (some (x2_1, x3_1)) else (qaq.l0 kj5 l0 l1 (x2_1.set (x10_1 : Int).toNat (wrap64 ((rd x2_1 x10_1) - (mn (mn (rd x2_1 x10_1) (wrap64 (((qag l1 x11_1).f1) - (rd x3_1 x11_1)))) x4_1)))) (x3_1.set (x11_1 : Int).toNat (wrap64 ((rd x3_1 x11_1) + (mn (mn (rd x2_1 x10_1) (wrap64 (((qag l1 x11_1).f1) - (rd x3_1 x11_1)))) x4_1)))) (wrap64 (x4_1 - (mn (mn (rd x2_1 x10_1) (wrap64 (((qag l1 x11_1).f1) - (rd x3_1 x11_1)))) x4_1))) x10_1 x11_1)) else (none))) else (none)) else (none)) else (none))) else (none)) else (none)) = some (r1, r2) := by rw [if_pos rfl] at H; exact H
      clear H; have H := H1; clear H1; by_cases c10 : 0 ≤ x10_1
      ·rw [if_pos c10] at H; have c10b0 : decide (0 ≤ x10_1) = true := decide_eq_true c10; clear c10; by_cases c11 : x10_1 < (x2_1.length : Int)
       ·rw [if_pos c11] at H; have c11b0 : decide (x10_1 < (x2_1.length : Int)) = true := decide_eq_true c11; clear c11; by_cases c12 : (rd x2_1 x10_1) = 0
        ·rw [if_pos c12] at H; have c12b0 : ((rd x2_1 x10_1) == 0) = true := beq_iff_eq.mpr c12; have c12b1 : ((rd x2_1 x10_1) != 0) = false := bne_eq_false_iff_eq.mpr c12; clear c12; have H' := qac.mk H; clear H; obtain ⟨Ao13, co13, eo13⟩ := Kd.qbc HO_2.out
         subst eo13; have p280 : 0 ≤ (x10_1 : Int) := of_decide_eq_true (by first | (with_reducible assumption) | assumption)
         have q280 : x10_1 < (x2_1.length : Int) := of_decide_eq_true (by first | (with_reducible assumption) | assumption)
         obtain ⟨ad280, e280, hx280_0⟩ := Kd.qbJ (Kd.qaN HO_2.out).2.2 x10_1 p280 q280
         cases e280
         replace p280 := eq_true p280; replace q280 := eq_true q280; go_wp2; go_roundg kj5
         case measure => have := HK1.out; have := HJ5.out; omega
         case rel => exact ⟨(x2_1), (x3_1), (x4_1), (wrap64 (x10_1 - 1)), (x11_1), (by first | rfl | (simp; done) | (simp [*]; done)), (by first | rfl | (simp; done) | (simp [*]; done)), (by first | rfl | (simp; done) | (simp [*]; done)), H', ⟨by have := HK1.out; have := HJ5.out; omega⟩, ⟨by (with_reducible repeat (first | apply Kd.qax | apply Kd.qaw | apply Kd.qaA)); exact HO_2.out⟩, ⟨by (with_reducible repeat (first | apply Kd.qax | apply Kd.qaw | apply Kd.qaA)); exact HO_3.out⟩, ⟨by repeat (first | (with_reducible first | exact HK.out | apply Kept.alloc | apply Kept.drewN | apply Kept.drew) | exact HK.out)⟩, ⟨by repeat (first | (with_reducible first | exact HB.out | apply qae | apply qab | apply qad) | exact HB.out)⟩⟩
        ·rw [if_neg c12] at H; have c12b0 : ((rd x2_1 x10_1) == 0) = false := beq_eq_false_iff_ne.mpr c12; have c12b1 : ((rd x2_1 x10_1) != 0) = true := bne_iff_ne.mpr c12; by_cases c14 : 0 ≤ x11_1
         ·rw [if_pos c14] at H; have c14b0 : decide (0 ≤ x11_1) = true := decide_eq_true c14; clear c14; by_cases c15 : x11_1 < (x3_1.length : Int)
          ·rw [if_pos c15] at H; have c15b0 : decide (x11_1 < (x3_1.length : Int)) = true := decide_eq_true c15; clear c15; by_cases c16 : x11_1 < (l1.length : Int)
           ·rw [if_pos c16] at H; have c16b0 : decide (x11_1 < (l1.length : Int)) = true := decide_eq_true c16; clear c16; by_cases c17 : (rd x3_1 x11_1) = ((qag l1 x11_1).f1)
            ·rw [if_pos c17] at H; have c17b0 : ((rd x3_1 x11_1) == ((qag l1 x11_1).f1)) = true := beq_iff_eq.mpr c17; have c17b1 : ((rd x3_1 x11_1) != ((qag l1 x11_1).f1)) = false := bne_eq_false_iff_eq.mpr c17; clear c17; have H' := qac.mk H; clear H; obtain ⟨Ao18, co18, eo18⟩ := Kd.qbc HO_2.out
             subst eo18; have p280 : 0 ≤ (x10_1 : Int) := of_decide_eq_true (by first | (with_reducible assumption) | assumption)
             have q280 : x10_1 < (x2_1.length : Int) := of_decide_eq_true (by first | (with_reducible assumption) | assumption)
             obtain ⟨ad280, e280, hx280_0⟩ := Kd.qbJ (Kd.qaN HO_2.out).2.2 x10_1 p280 q280
             cases e280
             replace p280 := eq_true p280; replace q280 := eq_true q280; try go_wp2
             have n0_ := qac.mk (Kd.qaA HO_2.out)
             have n1_ := qac.mk (Kd.qaA HO_3.out)
             have n2_ := qac.mk (Kept.drew HK.out)
             have n3_ := qac.mk (qad HB.out)
             clear HO_2; clear HO_3; clear HK; clear HB; have HO_2 := n0_; have HO_3 := n1_; have HK := n2_; have HB := n3_; clear n0_ n1_ n2_ n3_; obtain ⟨Ao20, co20, eo20⟩ := Kd.qbc HO_3.out
             (first | subst eo20 | (injection eo20 with f1_ f2_ f3_; have f4_ := f1_.symm; have f5_ := f3_.symm; clear f1_ f2_ f3_; subst f4_; subst f5_))
             have p281 : 0 ≤ (x11_1 : Int) := of_decide_eq_true (by first | (with_reducible assumption) | assumption)
             have q281 : x11_1 < (x3_1.length : Int) := of_decide_eq_true (by first | (with_reducible assumption) | assumption)
             obtain ⟨ad281, e281, hx281_0⟩ := Kd.qbJ (Kd.qaN HO_3.out).2.2 x11_1 p281 q281
             cases e281
             replace p281 := eq_true p281; replace q281 := eq_true q281; have p282 : 0 ≤ (x11_1 : Int) := of_decide_eq_true (by first | (with_reducible assumption) | assumption)
             have q282 : x11_1 < (l1.length : Int) := of_decide_eq_true (by first | (with_reducible assumption) | assumption)
             obtain ⟨ad282, e282, hx282_0, hx282_1, hx282_2⟩ := qbm (Kd.qbT HR1.out HK.out) x11_1 p282 q282
             have hw282_2 := hx282_2; have hw282_1 := hx282_1; have hw282_0 := hx282_0; cases e282
             replace p282 := eq_true p282; replace q282 := eq_true q282; refine qbD (n := 11) (S := fun w' => w'.cell? (ad281.add (x11_1).toNat) = some (.int .i64 (rd x3_1 x11_1)) ∧ w'.cell? (ad282.add ((x11_1).toNat * 3)) = some (.int .i64 ((qag l1 x11_1).f0)) ∧ w'.cell? ⟨(ad282.add ((x11_1).toNat * 3)).block, (ad282.add ((x11_1).toNat * 3)).off + 1, none⟩ = some (.int .i64 ((qag l1 x11_1).f1)) ∧ w'.cell? ⟨(ad282.add ((x11_1).toNat * 3)).block, (ad282.add ((x11_1).toNat * 3)).off + 2, none⟩ = some (.int .i64 ((qag l1 x11_1).f2))) (ds := []) #[qF,qF,qF,qF,qF,qF,qF,qF,qF,qF,qF] (by kernel_rfl) rfl rfl ⟨hx281_0, hx282_0, hx282_1, hx282_2⟩ (fun hHeld => ?_); refine qbj qaq.tab6 qaq.bits6 (fun HT_ HW_ => ?_)
             generalize wc.drew = w19 at HO_2 HO_3 HK HB hx281_0 hx282_0 hx282_1 hx282_2 hHeld ⊢
             refine qP 0 (some 74) ?_ #[qT,qF,qF,qF,qF,qF,qF,qF,qF,qF,qF] HT_.out rfl rfl (by kernel_rfl) (fun _ _ _ h => h) (Or.inl ⟨by rfl, ?_⟩) ?_ ?_ ?_; rotate_left; ·intro w'; go_simp; with_reducible rfl
             rotate_left; ·simp only [Act.put, qy1, qy2, qy3, i64_w, i32_w]; rfl
             refine qP 1 (some 75) ?_ #[qT,qT,qF,qF,qF,qF,qF,qF,qF,qF,qF] HT_.out rfl rfl (by kernel_rfl) (fun _ _ _ h => h) (Or.inl ⟨by rfl, ?_⟩) ?_ ?_ ?_; rotate_left; ·intro w'; go_simp; with_reducible rfl
             rotate_left; ·simp only [Act.put, qy1, qy2, qy3, i64_w, i32_w]; rfl
             refine qP 2 (some 76) ?_ #[qT,qT,qT,qF,qF,qF,qF,qF,qF,qF,qF] HT_.out rfl rfl (by kernel_rfl) (fun _ _ _ h => h) (Or.inl ⟨by rfl, ?_⟩) ?_ ?_ ?_; rotate_left; ·intro w'; go_simp; with_reducible rfl
             rotate_left; ·simp only [Act.put, qy1, qy2, qy3, i64_w, i32_w]; rfl
             refine qP 4 (some 78) ?_ #[qT,qT,qT,qF,qT,qF,qF,qF,qF,qF,qF] HT_.out rfl rfl (by kernel_rfl) (fun _ _ _ h => h) (Or.inl ⟨by rfl, ?_⟩) ?_ ?_ ?_; rotate_left; ·intro w'; go_simp; with_reducible rfl
             rotate_left; ·simp only [Act.put, qy1, qy2, qy3, i64_w, i32_w]; rfl
             refine qP 5 (some 79) ?_ #[qT,qT,qT,qF,qT,qT,qF,qF,qF,qF,qF] HT_.out rfl rfl (by kernel_rfl) (fun _ _ _ h => h) (Or.inl ⟨by rfl, ?_⟩) ?_ ?_ ?_; rotate_left; ·intro w'; go_simp; with_reducible rfl
             rotate_left; ·simp only [Act.put, qy1, qy2, qy3, i64_w, i32_w]; rfl
             refine qP 6 (some 80) ?_ #[qT,qT,qT,qF,qT,qT,qT,qF,qF,qF,qF] HT_.out rfl rfl (by kernel_rfl) (fun _ _ _ h => h) (Or.inl ⟨by rfl, ?_⟩) ?_ ?_ ?_; rotate_left; ·intro w'; go_simp; with_reducible rfl
             rotate_left; ·simp only [Act.put, qy1, qy2, qy3, i64_w, i32_w]; rfl
             refine qP 7 (some 81) ?_ #[qT,qT,qT,qF,qT,qT,qT,qT,qF,qF,qF] HT_.out rfl rfl (by kernel_rfl) (fun _ _ _ h => h) (Or.inl ⟨by rfl, ?_⟩) ?_ ?_ ?_; rotate_left; ·intro w'; go_simp; with_reducible rfl
             rotate_left; ·simp only [Act.put, qy1, qy2, qy3, i64_w, i32_w]; rfl
             refine take_ (i := 3) (N := some 77) (v := ?_) (a' := ?_) #[qT,qT,qT,qT,qT,qT,qT,qT,qF,qF,qF] rfl rfl (qaT HT_.out HW_.out (by kernel_rfl)) (fun _ _ _ h => h) (Or.inl ⟨by rfl, ?_⟩) hHeld ?_ ?_; rotate_left; ·rintro w' ⟨s0, s1, s2, s3⟩; go_simp; with_reducible rfl
             rotate_left; ·simp only [Act.put, qy1, qy2, qy3, i64_w, i32_w]; rfl
             refine take_ (i := 8) (N := some 82) (v := ?_) (a' := ?_) #[qT,qT,qT,qT,qT,qT,qT,qT,qT,qF,qF] rfl rfl (qaT HT_.out HW_.out (by kernel_rfl)) (fun _ _ _ h => h) (Or.inl ⟨by rfl, ?_⟩) hHeld ?_ ?_; rotate_left; ·rintro w' ⟨s0, s1, s2, s3⟩; go_simp; with_reducible rfl
             rotate_left; ·simp only [Act.put, qy1, qy2, qy3, i64_w, i32_w]; rfl
             refine qP 9 (some 83) ?_ #[qT,qT,qT,qT,qT,qT,qT,qT,qT,qT,qF] HT_.out rfl rfl (by kernel_rfl) (fun _ _ _ h => h) (Or.inl ⟨by rfl, ?_⟩) ?_ ?_ ?_; rotate_left; ·intro w'; go_simp; with_reducible rfl
             rotate_left; ·simp only [Act.put, qy1, qy2, qy3, i64_w, i32_w]; rfl
             refine qP 10 (some 73) ?_ #[qT,qT,qT,qT,qT,qT,qT,qT,qT,qT,qT] HT_.out rfl rfl (by kernel_rfl) (fun _ _ _ h => h) (Or.inl ⟨by rfl, ?_⟩) ?_ ?_ ?_; rotate_left; ·intro w'; go_simp; with_reducible rfl
             rotate_left; ·simp only [Act.put, qy1, qy2, qy3, i64_w, i32_w]; rfl
             refine done_ (qby HT_.out (by kernel_rfl)) ?_
             try go_wp2
             go_roundg kj5
             case measure => have := HK1.out; have := HJ5.out; omega
             case rel => exact ⟨(x2_1), (x3_1), (x4_1), (x10_1), (wrap64 (x11_1 + 1)), (by first | rfl | (simp; done) | (simp [*]; done)), (by first | rfl | (simp; done) | (simp [*]; done)), (by first | rfl | (simp; done) | (simp [*]; done)), H', ⟨by have := HK1.out; have := HJ5.out; omega⟩, ⟨by (with_reducible repeat (first | apply Kd.qax | apply Kd.qaw | apply Kd.qaA)); exact HO_2.out⟩, ⟨by (with_reducible repeat (first | apply Kd.qax | apply Kd.qaw | apply Kd.qaA)); exact HO_3.out⟩, ⟨by repeat (first | (with_reducible first | exact HK.out | apply Kept.alloc | apply Kept.drewN | apply Kept.drew) | exact HK.out)⟩, ⟨by repeat (first | (with_reducible first | exact HB.out | apply qae | apply qab | apply qad) | exact HB.out)⟩⟩
            ·rw [if_neg c17] at H; have c17b0 : ((rd x3_1 x11_1) == ((qag l1 x11_1).f1)) = false := beq_eq_false_iff_ne.mpr c17; have c17b1 : ((rd x3_1 x11_1) != ((qag l1 x11_1).f1)) = true := bne_iff_ne.mpr c17; by_cases c21 : x10_1 < (l0.length : Int)
             ·rw [if_pos c21] at H; have c21b0 : decide (x10_1 < (l0.length : Int)) = true := decide_eq_true c21; clear c21; by_cases c22 : ((qag l1 x11_1).f2) ≥ ((qag l0 x10_1).f2)
              ·rw [if_pos c22] at H; have c22b0 : decide (((qag l0 x10_1).f2) ≤ ((qag l1 x11_1).f2)) = true := decide_eq_true c22; clear c22; simp only [Option.some.injEq, Prod.mk.injEq] at H
               obtain ⟨rfl, rfl⟩ := H; obtain ⟨Ao23, co23, eo23⟩ := Kd.qbc HO_2.out
               subst eo23; have p280 : 0 ≤ (x10_1 : Int) := of_decide_eq_true (by first | (with_reducible assumption) | assumption)
               have q280 : x10_1 < (x2_1.length : Int) := of_decide_eq_true (by first | (with_reducible assumption) | assumption)
               obtain ⟨ad280, e280, hx280_0⟩ := Kd.qbJ (Kd.qaN HO_2.out).2.2 x10_1 p280 q280
               cases e280
               replace p280 := eq_true p280; replace q280 := eq_true q280; try go_wp2
               have n0_ := qac.mk (Kd.qaA HO_2.out)
               have n1_ := qac.mk (Kd.qaA HO_3.out)
               have n2_ := qac.mk (Kept.drew HK.out)
               have n3_ := qac.mk (qad HB.out)
               clear HO_2; clear HO_3; clear HK; clear HB; have HO_2 := n0_; have HO_3 := n1_; have HK := n2_; have HB := n3_; clear n0_ n1_ n2_ n3_; obtain ⟨Ao25, co25, eo25⟩ := Kd.qbc HO_3.out
               (first | subst eo25 | (injection eo25 with f1_ f2_ f3_; have f4_ := f1_.symm; have f5_ := f3_.symm; clear f1_ f2_ f3_; subst f4_; subst f5_))
               have p281 : 0 ≤ (x11_1 : Int) := of_decide_eq_true (by first | (with_reducible assumption) | assumption)
               have q281 : x11_1 < (x3_1.length : Int) := of_decide_eq_true (by first | (with_reducible assumption) | assumption)
               obtain ⟨ad281, e281, hx281_0⟩ := Kd.qbJ (Kd.qaN HO_3.out).2.2 x11_1 p281 q281
               cases e281
               replace p281 := eq_true p281; replace q281 := eq_true q281; have p282 : 0 ≤ (x11_1 : Int) := of_decide_eq_true (by first | (with_reducible assumption) | assumption)
               have q282 : x11_1 < (l1.length : Int) := of_decide_eq_true (by first | (with_reducible assumption) | assumption)
               obtain ⟨ad282, e282, hx282_0, hx282_1, hx282_2⟩ := qbm (Kd.qbT HR1.out HK.out) x11_1 p282 q282
               have hw282_2 := hx282_2; have hw282_1 := hx282_1; have hw282_0 := hx282_0; cases e282
               replace p282 := eq_true p282; replace q282 := eq_true q282; refine qbD (n := 11) (S := fun w' => w'.cell? (ad281.add (x11_1).toNat) = some (.int .i64 (rd x3_1 x11_1)) ∧ w'.cell? (ad282.add ((x11_1).toNat * 3)) = some (.int .i64 ((qag l1 x11_1).f0)) ∧ w'.cell? ⟨(ad282.add ((x11_1).toNat * 3)).block, (ad282.add ((x11_1).toNat * 3)).off + 1, none⟩ = some (.int .i64 ((qag l1 x11_1).f1)) ∧ w'.cell? ⟨(ad282.add ((x11_1).toNat * 3)).block, (ad282.add ((x11_1).toNat * 3)).off + 2, none⟩ = some (.int .i64 ((qag l1 x11_1).f2))) (ds := []) #[qF,qF,qF,qF,qF,qF,qF,qF,qF,qF,qF] (by kernel_rfl) rfl rfl ⟨hx281_0, hx282_0, hx282_1, hx282_2⟩ (fun hHeld => ?_); refine qbj qaq.tab6 qaq.bits6 (fun HT_ HW_ => ?_)
               generalize wc.drew = w24 at HO_2 HO_3 HK HB hx281_0 hx282_0 hx282_1 hx282_2 hHeld ⊢
               refine qP 0 (some 74) ?_ #[qT,qF,qF,qF,qF,qF,qF,qF,qF,qF,qF] HT_.out rfl rfl (by kernel_rfl) (fun _ _ _ h => h) (Or.inl ⟨by rfl, ?_⟩) ?_ ?_ ?_; rotate_left; ·intro w'; go_simp; with_reducible rfl
               rotate_left; ·simp only [Act.put, qy1, qy2, qy3, i64_w, i32_w]; rfl
               refine qP 1 (some 75) ?_ #[qT,qT,qF,qF,qF,qF,qF,qF,qF,qF,qF] HT_.out rfl rfl (by kernel_rfl) (fun _ _ _ h => h) (Or.inl ⟨by rfl, ?_⟩) ?_ ?_ ?_; rotate_left; ·intro w'; go_simp; with_reducible rfl
               rotate_left; ·simp only [Act.put, qy1, qy2, qy3, i64_w, i32_w]; rfl
               refine qP 2 (some 76) ?_ #[qT,qT,qT,qF,qF,qF,qF,qF,qF,qF,qF] HT_.out rfl rfl (by kernel_rfl) (fun _ _ _ h => h) (Or.inl ⟨by rfl, ?_⟩) ?_ ?_ ?_; rotate_left; ·intro w'; go_simp; with_reducible rfl
               rotate_left; ·simp only [Act.put, qy1, qy2, qy3, i64_w, i32_w]; rfl
               refine qP 4 (some 78) ?_ #[qT,qT,qT,qF,qT,qF,qF,qF,qF,qF,qF] HT_.out rfl rfl (by kernel_rfl) (fun _ _ _ h => h) (Or.inl ⟨by rfl, ?_⟩) ?_ ?_ ?_; rotate_left; ·intro w'; go_simp; with_reducible rfl
               rotate_left; ·simp only [Act.put, qy1, qy2, qy3, i64_w, i32_w]; rfl
               refine qP 5 (some 79) ?_ #[qT,qT,qT,qF,qT,qT,qF,qF,qF,qF,qF] HT_.out rfl rfl (by kernel_rfl) (fun _ _ _ h => h) (Or.inl ⟨by rfl, ?_⟩) ?_ ?_ ?_; rotate_left; ·intro w'; go_simp; with_reducible rfl
               rotate_left; ·simp only [Act.put, qy1, qy2, qy3, i64_w, i32_w]; rfl
               refine qP 6 (some 80) ?_ #[qT,qT,qT,qF,qT,qT,qT,qF,qF,qF,qF] HT_.out rfl rfl (by kernel_rfl) (fun _ _ _ h => h) (Or.inl ⟨by rfl, ?_⟩) ?_ ?_ ?_; rotate_left; ·intro w'; go_simp; with_reducible rfl
               rotate_left; ·simp only [Act.put, qy1, qy2, qy3, i64_w, i32_w]; rfl
               refine qP 7 (some 81) ?_ #[qT,qT,qT,qF,qT,qT,qT,qT,qF,qF,qF] HT_.out rfl rfl (by kernel_rfl) (fun _ _ _ h => h) (Or.inl ⟨by rfl, ?_⟩) ?_ ?_ ?_; rotate_left; ·intro w'; go_simp; with_reducible rfl
               rotate_left; ·simp only [Act.put, qy1, qy2, qy3, i64_w, i32_w]; rfl
               refine take_ (i := 3) (N := some 77) (v := ?_) (a' := ?_) #[qT,qT,qT,qT,qT,qT,qT,qT,qF,qF,qF] rfl rfl (qaT HT_.out HW_.out (by kernel_rfl)) (fun _ _ _ h => h) (Or.inl ⟨by rfl, ?_⟩) hHeld ?_ ?_; rotate_left; ·rintro w' ⟨s0, s1, s2, s3⟩; go_simp; with_reducible rfl
               rotate_left; ·simp only [Act.put, qy1, qy2, qy3, i64_w, i32_w]; rfl
               refine take_ (i := 8) (N := some 82) (v := ?_) (a' := ?_) #[qT,qT,qT,qT,qT,qT,qT,qT,qT,qF,qF] rfl rfl (qaT HT_.out HW_.out (by kernel_rfl)) (fun _ _ _ h => h) (Or.inl ⟨by rfl, ?_⟩) hHeld ?_ ?_; rotate_left; ·rintro w' ⟨s0, s1, s2, s3⟩; go_simp; with_reducible rfl
               rotate_left; ·simp only [Act.put, qy1, qy2, qy3, i64_w, i32_w]; rfl
               refine qP 9 (some 83) ?_ #[qT,qT,qT,qT,qT,qT,qT,qT,qT,qT,qF] HT_.out rfl rfl (by kernel_rfl) (fun _ _ _ h => h) (Or.inl ⟨by rfl, ?_⟩) ?_ ?_ ?_; rotate_left; ·intro w'; go_simp; with_reducible rfl
               rotate_left; ·simp only [Act.put, qy1, qy2, qy3, i64_w, i32_w]; rfl
               refine qP 10 (some 73) ?_ #[qT,qT,qT,qT,qT,qT,qT,qT,qT,qT,qT] HT_.out rfl rfl (by kernel_rfl) (fun _ _ _ h => h) (Or.inl ⟨by rfl, ?_⟩) ?_ ?_ ?_; rotate_left; ·intro w'; go_simp; with_reducible rfl
               rotate_left; ·simp only [Act.put, qy1, qy2, qy3, i64_w, i32_w]; rfl
               refine done_ (qby HT_.out (by kernel_rfl)) ?_
               try go_wp2
               have n0_ := qac.mk (Kd.qaA HO_2.out)
               have n1_ := qac.mk (Kd.qaA HO_3.out)
               have n2_ := qac.mk (Kept.drew HK.out)
               have n3_ := qac.mk (qad HB.out)
               clear HO_2; clear HO_3; clear HK; clear HB; have HO_2 := n0_; have HO_3 := n1_; have HK := n2_; have HB := n3_; clear n0_ n1_ n2_ n3_; have p283 : 0 ≤ (x11_1 : Int) := of_decide_eq_true (by first | (with_reducible assumption) | assumption)
               have q283 : x11_1 < (l1.length : Int) := of_decide_eq_true (by first | (with_reducible assumption) | assumption)
               obtain ⟨ad283, e283, hx283_0, hx283_1, hx283_2⟩ := qbm (Kd.qbT HR1.out HK.out) x11_1 p283 q283
               have hw283_2 := hx283_2; have hw283_1 := hx283_1; have hw283_0 := hx283_0; obtain rfl : ad282 = ad283 := (by injection e283)
               replace p283 := eq_true p283; replace q283 := eq_true q283; have p284 : 0 ≤ (x10_1 : Int) := of_decide_eq_true (by first | (with_reducible assumption) | assumption)
               have q284 : x10_1 < (l0.length : Int) := of_decide_eq_true (by first | (with_reducible assumption) | assumption)
               obtain ⟨ad284, e284, hx284_0, hx284_1, hx284_2⟩ := qbm (Kd.qbT HR0.out HK.out) x10_1 p284 q284
               have hw284_2 := hx284_2; have hw284_1 := hx284_1; have hw284_0 := hx284_0; cases e284
               replace p284 := eq_true p284; replace q284 := eq_true q284; refine qbD (n := 12) (S := fun w' => w'.cell? (ad282.add ((x11_1).toNat * 3)) = some (.int .i64 ((qag l1 x11_1).f0)) ∧ w'.cell? ⟨(ad282.add ((x11_1).toNat * 3)).block, (ad282.add ((x11_1).toNat * 3)).off + 1, none⟩ = some (.int .i64 ((qag l1 x11_1).f1)) ∧ w'.cell? ⟨(ad282.add ((x11_1).toNat * 3)).block, (ad282.add ((x11_1).toNat * 3)).off + 2, none⟩ = some (.int .i64 ((qag l1 x11_1).f2)) ∧ w'.cell? (ad284.add ((x10_1).toNat * 3)) = some (.int .i64 ((qag l0 x10_1).f0)) ∧ w'.cell? ⟨(ad284.add ((x10_1).toNat * 3)).block, (ad284.add ((x10_1).toNat * 3)).off + 1, none⟩ = some (.int .i64 ((qag l0 x10_1).f1)) ∧ w'.cell? ⟨(ad284.add ((x10_1).toNat * 3)).block, (ad284.add ((x10_1).toNat * 3)).off + 2, none⟩ = some (.int .i64 ((qag l0 x10_1).f2))) (ds := []) #[qF,qF,qF,qF,qF,qF,qF,qF,qF,qF,qF,qF] (by kernel_rfl) rfl rfl ⟨hx283_0, hx283_1, hx283_2, hx284_0, hx284_1, hx284_2⟩ (fun hHeld => ?_); refine qbj qaq.tab8 qaq.bits8 (fun HT_ HW_ => ?_)
               generalize w24.drew = w26 at HO_2 HO_3 HK HB hx283_0 hx283_1 hx283_2 hx284_0 hx284_1 hx284_2 hHeld ⊢
               refine qP 0 (some 87) ?_ #[qT,qF,qF,qF,qF,qF,qF,qF,qF,qF,qF,qF] HT_.out rfl rfl (by kernel_rfl) (fun _ _ _ h => h) (Or.inl ⟨by rfl, ?_⟩) ?_ ?_ ?_; rotate_left; ·intro w'; go_simp; with_reducible rfl
               rotate_left; ·simp only [Act.put, qy1, qy2, qy3, i64_w, i32_w]; rfl
               refine qP 1 (some 88) ?_ #[qT,qT,qF,qF,qF,qF,qF,qF,qF,qF,qF,qF] HT_.out rfl rfl (by kernel_rfl) (fun _ _ _ h => h) (Or.inl ⟨by rfl, ?_⟩) ?_ ?_ ?_; rotate_left; ·intro w'; go_simp; with_reducible rfl
               rotate_left; ·simp only [Act.put, qy1, qy2, qy3, i64_w, i32_w]; rfl
               refine qP 2 (some 89) ?_ #[qT,qT,qT,qF,qF,qF,qF,qF,qF,qF,qF,qF] HT_.out rfl rfl (by kernel_rfl) (fun _ _ _ h => h) (Or.inl ⟨by rfl, ?_⟩) ?_ ?_ ?_; rotate_left; ·intro w'; go_simp; with_reducible rfl
               rotate_left; ·simp only [Act.put, qy1, qy2, qy3, i64_w, i32_w]; rfl
               refine qP 3 (some 90) ?_ #[qT,qT,qT,qT,qF,qF,qF,qF,qF,qF,qF,qF] HT_.out rfl rfl (by kernel_rfl) (fun _ _ _ h => h) (Or.inl ⟨by rfl, ?_⟩) ?_ ?_ ?_; rotate_left; ·intro w'; go_simp; with_reducible rfl
               rotate_left; ·simp only [Act.put, qy1, qy2, qy3, i64_w, i32_w]; rfl
               refine qP 5 (some 92) ?_ #[qT,qT,qT,qT,qF,qT,qF,qF,qF,qF,qF,qF] HT_.out rfl rfl (by kernel_rfl) (fun _ _ _ h => h) (Or.inl ⟨by rfl, ?_⟩) ?_ ?_ ?_; rotate_left; ·intro w'; go_simp; with_reducible rfl
               rotate_left; ·simp only [Act.put, qy1, qy2, qy3, i64_w, i32_w]; rfl
               refine qP 6 (some 93) ?_ #[qT,qT,qT,qT,qF,qT,qT,qF,qF,qF,qF,qF] HT_.out rfl rfl (by kernel_rfl) (fun _ _ _ h => h) (Or.inl ⟨by rfl, ?_⟩) ?_ ?_ ?_; rotate_left; ·intro w'; go_simp; with_reducible rfl
               rotate_left; ·simp only [Act.put, qy1, qy2, qy3, i64_w, i32_w]; rfl
               refine qP 7 (some 94) ?_ #[qT,qT,qT,qT,qF,qT,qT,qT,qF,qF,qF,qF] HT_.out rfl rfl (by kernel_rfl) (fun _ _ _ h => h) (Or.inl ⟨by rfl, ?_⟩) ?_ ?_ ?_; rotate_left; ·intro w'; go_simp; with_reducible rfl
               rotate_left; ·simp only [Act.put, qy1, qy2, qy3, i64_w, i32_w]; rfl
               refine qP 8 (some 95) ?_ #[qT,qT,qT,qT,qF,qT,qT,qT,qT,qF,qF,qF] HT_.out rfl rfl (by kernel_rfl) (fun _ _ _ h => h) (Or.inl ⟨by rfl, ?_⟩) ?_ ?_ ?_; rotate_left; ·intro w'; go_simp; with_reducible rfl
               rotate_left; ·simp only [Act.put, qy1, qy2, qy3, i64_w, i32_w]; rfl
               refine take_ (i := 4) (N := some 91) (v := ?_) (a' := ?_) #[qT,qT,qT,qT,qT,qT,qT,qT,qT,qF,qF,qF] rfl rfl (qaT HT_.out HW_.out (by kernel_rfl)) (fun _ _ _ h => h) (Or.inl ⟨by rfl, ?_⟩) hHeld ?_ ?_; rotate_left; ·rintro w' ⟨s0, s1, s2, s3, s4, s5⟩; go_simp; with_reducible rfl
               rotate_left; ·simp only [Act.put, qy1, qy2, qy3, i64_w, i32_w]; rfl
               refine take_ (i := 9) (N := some 96) (v := ?_) (a' := ?_) #[qT,qT,qT,qT,qT,qT,qT,qT,qT,qT,qF,qF] rfl rfl (qaT HT_.out HW_.out (by kernel_rfl)) (fun _ _ _ h => h) (Or.inl ⟨by rfl, ?_⟩) hHeld ?_ ?_; rotate_left; ·rintro w' ⟨s0, s1, s2, s3, s4, s5⟩; go_simp; with_reducible rfl
               rotate_left; ·simp only [Act.put, qy1, qy2, qy3, i64_w, i32_w]; rfl
               refine qP 10 (some 97) ?_ #[qT,qT,qT,qT,qT,qT,qT,qT,qT,qT,qT,qF] HT_.out rfl rfl (by kernel_rfl) (fun _ _ _ h => h) (Or.inl ⟨by rfl, ?_⟩) ?_ ?_ ?_; rotate_left; ·intro w'; go_simp; with_reducible rfl
               rotate_left; ·simp only [Act.put, qy1, qy2, qy3, i64_w, i32_w]; rfl
               refine qP 11 (some 86) ?_ #[qT,qT,qT,qT,qT,qT,qT,qT,qT,qT,qT,qT] HT_.out rfl rfl (by kernel_rfl) (fun _ _ _ h => h) (Or.inl ⟨by rfl, ?_⟩) ?_ ?_ ?_; rotate_left; ·intro w'; go_simp; with_reducible rfl
               rotate_left; ·simp only [Act.put, qy1, qy2, qy3, i64_w, i32_w]; rfl
               refine done_ (qby HT_.out (by kernel_rfl)) ?_
               try go_wp2
               first | go_end0 | ((try simp only [Exit.inBlock, Exit.then]); refine bodyPost_ret (results_none rfl _ _ _) rfl ?_)
               exact ⟨by first | rfl | (simp [qaz, qay] <;> rfl) | (simp [*, qaz, qay] <;> rfl), by (with_reducible repeat (first | apply Kd.qax | apply Kd.qaw | apply Kd.qaA)); exact Kd.qaY HO_2.out (fun _ hk => hk.1), by (with_reducible repeat (first | apply Kd.qax | apply Kd.qaw | apply Kd.qaA)); exact Kd.qaY HO_3.out (fun _ hk => hk.1), by repeat (first | (with_reducible first | exact HB.out | apply qae | apply qab | apply qad) | exact HB.out), by repeat (first | (with_reducible first | exact HK.out | apply Kept.alloc | apply Kept.drewN | apply Kept.drew) | exact HK.out)⟩
              ·rw [if_neg c22] at H; have c22b0 : decide (((qag l0 x10_1).f2) ≤ ((qag l1 x11_1).f2)) = false := decide_eq_false c22; clear c22; obtain ⟨ji27, hji27⟩ : ∃ j_ : Int, (mn (rd x2_1 x10_1) (wrap64 (((qag l1 x11_1).f1) - (rd x3_1 x11_1)))) = j_ := ⟨_, rfl⟩
               replace H : (qaq.l0 kj5 l0 l1 (x2_1.set (x10_1 : Int).toNat (wrap64 ((rd x2_1 x10_1) - (mn (ji27) x4_1)))) (x3_1.set (x11_1 : Int).toNat (wrap64 ((rd x3_1 x11_1) + (mn (ji27) x4_1)))) (wrap64 (x4_1 - (mn (ji27) x4_1))) x10_1 x11_1) = some (r1, r2) := by first | (rw [hji27] at H; exact H) | (simp only [hji27] at H ⊢; exact H)
               have hji27_ : (if (wrap64 (((qag l1 x11_1).f1) - (rd x3_1 x11_1))) < (rd x2_1 x10_1) then (wrap64 (((qag l1 x11_1).f1) - (rd x3_1 x11_1))) else (rd x2_1 x10_1)) = ji27 := hji27
               obtain ⟨ji28, hji28⟩ : ∃ j_ : Int, (mn (ji27) x4_1) = j_ := ⟨_, rfl⟩
               replace H : (qaq.l0 kj5 l0 l1 (x2_1.set (x10_1 : Int).toNat (wrap64 ((rd x2_1 x10_1) - (ji28)))) (x3_1.set (x11_1 : Int).toNat (wrap64 ((rd x3_1 x11_1) + (ji28)))) (wrap64 (x4_1 - (ji28))) x10_1 x11_1) = some (r1, r2) := by first | (rw [hji28] at H; exact H) | (simp only [hji28] at H ⊢; exact H)
               have hji28_ : (if x4_1 < (ji27) then x4_1 else (ji27)) = ji28 := hji28
               obtain ⟨y290, hy290⟩ : ∃ y_ : List Int, y_ = (x2_1.set (x10_1 : Int).toNat (wrap64 ((rd x2_1 x10_1) - (ji28)))) := ⟨_, rfl⟩
               replace H : (qaq.l0 kj5 l0 l1 y290 (x3_1.set (x11_1 : Int).toNat (wrap64 ((rd x3_1 x11_1) + (ji28)))) (wrap64 (x4_1 - (ji28))) x10_1 x11_1) = some (r1, r2) := by first | (rw [hy290]; with_reducible exact H) | (have H2_ := (Option.bind_some _ _).symm.trans H; rw [hy290]; with_reducible exact H2_) | (have H2_ := (Option.bind_some _ _).symm.trans H; with_reducible exact H2_) | with_reducible exact H | (rw [hy290]; exact H) | exact H
               have Ny290 := qac.mk hy290
               clear hy290; obtain ⟨y291, hy291⟩ : ∃ y_ : List Int, y_ = (x3_1.set (x11_1 : Int).toNat (wrap64 ((rd x3_1 x11_1) + (ji28)))) := ⟨_, rfl⟩
               replace H : (qaq.l0 kj5 l0 l1 y290 y291 (wrap64 (x4_1 - (ji28))) x10_1 x11_1) = some (r1, r2) := by first | (rw [hy291]; with_reducible exact H) | (have H2_ := (Option.bind_some _ _).symm.trans H; rw [hy291]; with_reducible exact H2_) | (have H2_ := (Option.bind_some _ _).symm.trans H; with_reducible exact H2_) | with_reducible exact H | (rw [hy291]; exact H) | exact H
               have Ny291 := qac.mk hy291
               clear hy291; have H' := qac.mk H; clear H; obtain ⟨Ao31, co31, eo31⟩ := Kd.qbc HO_2.out
               subst eo31; have p280 : 0 ≤ (x10_1 : Int) := of_decide_eq_true (by first | (with_reducible assumption) | assumption)
               have q280 : x10_1 < (x2_1.length : Int) := of_decide_eq_true (by first | (with_reducible assumption) | assumption)
               obtain ⟨ad280, e280, hx280_0⟩ := Kd.qbJ (Kd.qaN HO_2.out).2.2 x10_1 p280 q280
               cases e280
               replace p280 := eq_true p280; replace q280 := eq_true q280; try go_wp2
               have n0_ := qac.mk (Kd.qaA HO_2.out)
               have n1_ := qac.mk (Kd.qaA HO_3.out)
               have n2_ := qac.mk (Kept.drew HK.out)
               have n3_ := qac.mk (qad HB.out)
               clear HO_2; clear HO_3; clear HK; clear HB; have HO_2 := n0_; have HO_3 := n1_; have HK := n2_; have HB := n3_; clear n0_ n1_ n2_ n3_; obtain ⟨Ao33, co33, eo33⟩ := Kd.qbc HO_3.out
               (first | subst eo33 | (injection eo33 with f1_ f2_ f3_; have f4_ := f1_.symm; have f5_ := f3_.symm; clear f1_ f2_ f3_; subst f4_; subst f5_))
               have p281 : 0 ≤ (x11_1 : Int) := of_decide_eq_true (by first | (with_reducible assumption) | assumption)
               have q281 : x11_1 < (x3_1.length : Int) := of_decide_eq_true (by first | (with_reducible assumption) | assumption)
               obtain ⟨ad281, e281, hx281_0⟩ := Kd.qbJ (Kd.qaN HO_3.out).2.2 x11_1 p281 q281
               cases e281
               replace p281 := eq_true p281; replace q281 := eq_true q281; have p282 : 0 ≤ (x11_1 : Int) := of_decide_eq_true (by first | (with_reducible assumption) | assumption)
               have q282 : x11_1 < (l1.length : Int) := of_decide_eq_true (by first | (with_reducible assumption) | assumption)
               obtain ⟨ad282, e282, hx282_0, hx282_1, hx282_2⟩ := qbm (Kd.qbT HR1.out HK.out) x11_1 p282 q282
               have hw282_2 := hx282_2; have hw282_1 := hx282_1; have hw282_0 := hx282_0; cases e282
               replace p282 := eq_true p282; replace q282 := eq_true q282; refine qbD (n := 11) (S := fun w' => w'.cell? (ad281.add (x11_1).toNat) = some (.int .i64 (rd x3_1 x11_1)) ∧ w'.cell? (ad282.add ((x11_1).toNat * 3)) = some (.int .i64 ((qag l1 x11_1).f0)) ∧ w'.cell? ⟨(ad282.add ((x11_1).toNat * 3)).block, (ad282.add ((x11_1).toNat * 3)).off + 1, none⟩ = some (.int .i64 ((qag l1 x11_1).f1)) ∧ w'.cell? ⟨(ad282.add ((x11_1).toNat * 3)).block, (ad282.add ((x11_1).toNat * 3)).off + 2, none⟩ = some (.int .i64 ((qag l1 x11_1).f2))) (ds := []) #[qF,qF,qF,qF,qF,qF,qF,qF,qF,qF,qF] (by kernel_rfl) rfl rfl ⟨hx281_0, hx282_0, hx282_1, hx282_2⟩ (fun hHeld => ?_); refine qbj qaq.tab6 qaq.bits6 (fun HT_ HW_ => ?_)
               generalize wc.drew = w32 at HO_2 HO_3 HK HB hx281_0 hx282_0 hx282_1 hx282_2 hHeld ⊢
               refine qP 0 (some 74) ?_ #[qT,qF,qF,qF,qF,qF,qF,qF,qF,qF,qF] HT_.out rfl rfl (by kernel_rfl) (fun _ _ _ h => h) (Or.inl ⟨by rfl, ?_⟩) ?_ ?_ ?_; rotate_left; ·intro w'; go_simp; with_reducible rfl
               rotate_left; ·simp only [Act.put, qy1, qy2, qy3, i64_w, i32_w]; rfl
               refine qP 1 (some 75) ?_ #[qT,qT,qF,qF,qF,qF,qF,qF,qF,qF,qF] HT_.out rfl rfl (by kernel_rfl) (fun _ _ _ h => h) (Or.inl ⟨by rfl, ?_⟩) ?_ ?_ ?_; rotate_left; ·intro w'; go_simp; with_reducible rfl
               rotate_left; ·simp only [Act.put, qy1, qy2, qy3, i64_w, i32_w]; rfl
               refine qP 2 (some 76) ?_ #[qT,qT,qT,qF,qF,qF,qF,qF,qF,qF,qF] HT_.out rfl rfl (by kernel_rfl) (fun _ _ _ h => h) (Or.inl ⟨by rfl, ?_⟩) ?_ ?_ ?_; rotate_left; ·intro w'; go_simp; with_reducible rfl
               rotate_left; ·simp only [Act.put, qy1, qy2, qy3, i64_w, i32_w]; rfl
               refine qP 4 (some 78) ?_ #[qT,qT,qT,qF,qT,qF,qF,qF,qF,qF,qF] HT_.out rfl rfl (by kernel_rfl) (fun _ _ _ h => h) (Or.inl ⟨by rfl, ?_⟩) ?_ ?_ ?_; rotate_left; ·intro w'; go_simp; with_reducible rfl
               rotate_left; ·simp only [Act.put, qy1, qy2, qy3, i64_w, i32_w]; rfl
               refine qP 5 (some 79) ?_ #[qT,qT,qT,qF,qT,qT,qF,qF,qF,qF,qF] HT_.out rfl rfl (by kernel_rfl) (fun _ _ _ h => h) (Or.inl ⟨by rfl, ?_⟩) ?_ ?_ ?_; rotate_left; ·intro w'; go_simp; with_reducible rfl
               rotate_left; ·simp only [Act.put, qy1, qy2, qy3, i64_w, i32_w]; rfl
               refine qP 6 (some 80) ?_ #[qT,qT,qT,qF,qT,qT,qT,qF,qF,qF,qF] HT_.out rfl rfl (by kernel_rfl) (fun _ _ _ h => h) (Or.inl ⟨by rfl, ?_⟩) ?_ ?_ ?_; rotate_left; ·intro w'; go_simp; with_reducible rfl
               rotate_left; ·simp only [Act.put, qy1, qy2, qy3, i64_w, i32_w]; rfl
               refine qP 7 (some 81) ?_ #[qT,qT,qT,qF,qT,qT,qT,qT,qF,qF,qF] HT_.out rfl rfl (by kernel_rfl) (fun _ _ _ h => h) (Or.inl ⟨by rfl, ?_⟩) ?_ ?_ ?_; rotate_left; ·intro w'; go_simp; with_reducible rfl
               rotate_left; ·simp only [Act.put, qy1, qy2, qy3, i64_w, i32_w]; rfl
               refine take_ (i := 3) (N := some 77) (v := ?_) (a' := ?_) #[qT,qT,qT,qT,qT,qT,qT,qT,qF,qF,qF] rfl rfl (qaT HT_.out HW_.out (by kernel_rfl)) (fun _ _ _ h => h) (Or.inl ⟨by rfl, ?_⟩) hHeld ?_ ?_; rotate_left; ·rintro w' ⟨s0, s1, s2, s3⟩; go_simp; with_reducible rfl
               rotate_left; ·simp only [Act.put, qy1, qy2, qy3, i64_w, i32_w]; rfl
               refine take_ (i := 8) (N := some 82) (v := ?_) (a' := ?_) #[qT,qT,qT,qT,qT,qT,qT,qT,qT,qF,qF] rfl rfl (qaT HT_.out HW_.out (by kernel_rfl)) (fun _ _ _ h => h) (Or.inl ⟨by rfl, ?_⟩) hHeld ?_ ?_; rotate_left; ·rintro w' ⟨s0, s1, s2, s3⟩; go_simp; with_reducible rfl
               rotate_left; ·simp only [Act.put, qy1, qy2, qy3, i64_w, i32_w]; rfl
               refine qP 9 (some 83) ?_ #[qT,qT,qT,qT,qT,qT,qT,qT,qT,qT,qF] HT_.out rfl rfl (by kernel_rfl) (fun _ _ _ h => h) (Or.inl ⟨by rfl, ?_⟩) ?_ ?_ ?_; rotate_left; ·intro w'; go_simp; with_reducible rfl
               rotate_left; ·simp only [Act.put, qy1, qy2, qy3, i64_w, i32_w]; rfl
               refine qP 10 (some 73) ?_ #[qT,qT,qT,qT,qT,qT,qT,qT,qT,qT,qT] HT_.out rfl rfl (by kernel_rfl) (fun _ _ _ h => h) (Or.inl ⟨by rfl, ?_⟩) ?_ ?_ ?_; rotate_left; ·intro w'; go_simp; with_reducible rfl
               rotate_left; ·simp only [Act.put, qy1, qy2, qy3, i64_w, i32_w]; rfl
               refine done_ (qby HT_.out (by kernel_rfl)) ?_
               try go_wp2
               have n0_ := qac.mk (Kd.qaA HO_2.out)
               have n1_ := qac.mk (Kd.qaA HO_3.out)
               have n2_ := qac.mk (Kept.drew HK.out)
               have n3_ := qac.mk (qad HB.out)
               clear HO_2; clear HO_3; clear HK; clear HB; have HO_2 := n0_; have HO_3 := n1_; have HK := n2_; have HB := n3_; clear n0_ n1_ n2_ n3_; have p283 : 0 ≤ (x11_1 : Int) := of_decide_eq_true (by first | (with_reducible assumption) | assumption)
               have q283 : x11_1 < (l1.length : Int) := of_decide_eq_true (by first | (with_reducible assumption) | assumption)
               obtain ⟨ad283, e283, hx283_0, hx283_1, hx283_2⟩ := qbm (Kd.qbT HR1.out HK.out) x11_1 p283 q283
               have hw283_2 := hx283_2; have hw283_1 := hx283_1; have hw283_0 := hx283_0; obtain rfl : ad282 = ad283 := (by injection e283)
               replace p283 := eq_true p283; replace q283 := eq_true q283; have p284 : 0 ≤ (x10_1 : Int) := of_decide_eq_true (by first | (with_reducible assumption) | assumption)
               have q284 : x10_1 < (l0.length : Int) := of_decide_eq_true (by first | (with_reducible assumption) | assumption)
               obtain ⟨ad284, e284, hx284_0, hx284_1, hx284_2⟩ := qbm (Kd.qbT HR0.out HK.out) x10_1 p284 q284
               have hw284_2 := hx284_2; have hw284_1 := hx284_1; have hw284_0 := hx284_0; cases e284
               replace p284 := eq_true p284; replace q284 := eq_true q284; refine qbD (n := 12) (S := fun w' => w'.cell? (ad282.add ((x11_1).toNat * 3)) = some (.int .i64 ((qag l1 x11_1).f0)) ∧ w'.cell? ⟨(ad282.add ((x11_1).toNat * 3)).block, (ad282.add ((x11_1).toNat * 3)).off + 1, none⟩ = some (.int .i64 ((qag l1 x11_1).f1)) ∧ w'.cell? ⟨(ad282.add ((x11_1).toNat * 3)).block, (ad282.add ((x11_1).toNat * 3)).off + 2, none⟩ = some (.int .i64 ((qag l1 x11_1).f2)) ∧ w'.cell? (ad284.add ((x10_1).toNat * 3)) = some (.int .i64 ((qag l0 x10_1).f0)) ∧ w'.cell? ⟨(ad284.add ((x10_1).toNat * 3)).block, (ad284.add ((x10_1).toNat * 3)).off + 1, none⟩ = some (.int .i64 ((qag l0 x10_1).f1)) ∧ w'.cell? ⟨(ad284.add ((x10_1).toNat * 3)).block, (ad284.add ((x10_1).toNat * 3)).off + 2, none⟩ = some (.int .i64 ((qag l0 x10_1).f2))) (ds := []) #[qF,qF,qF,qF,qF,qF,qF,qF,qF,qF,qF,qF] (by kernel_rfl) rfl rfl ⟨hx283_0, hx283_1, hx283_2, hx284_0, hx284_1, hx284_2⟩ (fun hHeld => ?_); refine qbj qaq.tab8 qaq.bits8 (fun HT_ HW_ => ?_)
               generalize w32.drew = w34 at HO_2 HO_3 HK HB hx283_0 hx283_1 hx283_2 hx284_0 hx284_1 hx284_2 hHeld ⊢
               refine qP 0 (some 87) ?_ #[qT,qF,qF,qF,qF,qF,qF,qF,qF,qF,qF,qF] HT_.out rfl rfl (by kernel_rfl) (fun _ _ _ h => h) (Or.inl ⟨by rfl, ?_⟩) ?_ ?_ ?_; rotate_left; ·intro w'; go_simp; with_reducible rfl
               rotate_left; ·simp only [Act.put, qy1, qy2, qy3, i64_w, i32_w]; rfl
               refine qP 1 (some 88) ?_ #[qT,qT,qF,qF,qF,qF,qF,qF,qF,qF,qF,qF] HT_.out rfl rfl (by kernel_rfl) (fun _ _ _ h => h) (Or.inl ⟨by rfl, ?_⟩) ?_ ?_ ?_; rotate_left; ·intro w'; go_simp; with_reducible rfl
               rotate_left; ·simp only [Act.put, qy1, qy2, qy3, i64_w, i32_w]; rfl
               refine qP 2 (some 89) ?_ #[qT,qT,qT,qF,qF,qF,qF,qF,qF,qF,qF,qF] HT_.out rfl rfl (by kernel_rfl) (fun _ _ _ h => h) (Or.inl ⟨by rfl, ?_⟩) ?_ ?_ ?_; rotate_left; ·intro w'; go_simp; with_reducible rfl
               rotate_left; ·simp only [Act.put, qy1, qy2, qy3, i64_w, i32_w]; rfl
               refine qP 3 (some 90) ?_ #[qT,qT,qT,qT,qF,qF,qF,qF,qF,qF,qF,qF] HT_.out rfl rfl (by kernel_rfl) (fun _ _ _ h => h) (Or.inl ⟨by rfl, ?_⟩) ?_ ?_ ?_; rotate_left; ·intro w'; go_simp; with_reducible rfl
               rotate_left; ·simp only [Act.put, qy1, qy2, qy3, i64_w, i32_w]; rfl
               refine qP 5 (some 92) ?_ #[qT,qT,qT,qT,qF,qT,qF,qF,qF,qF,qF,qF] HT_.out rfl rfl (by kernel_rfl) (fun _ _ _ h => h) (Or.inl ⟨by rfl, ?_⟩) ?_ ?_ ?_; rotate_left; ·intro w'; go_simp; with_reducible rfl
               rotate_left; ·simp only [Act.put, qy1, qy2, qy3, i64_w, i32_w]; rfl
               refine qP 6 (some 93) ?_ #[qT,qT,qT,qT,qF,qT,qT,qF,qF,qF,qF,qF] HT_.out rfl rfl (by kernel_rfl) (fun _ _ _ h => h) (Or.inl ⟨by rfl, ?_⟩) ?_ ?_ ?_; rotate_left; ·intro w'; go_simp; with_reducible rfl
               rotate_left; ·simp only [Act.put, qy1, qy2, qy3, i64_w, i32_w]; rfl
               refine qP 7 (some 94) ?_ #[qT,qT,qT,qT,qF,qT,qT,qT,qF,qF,qF,qF] HT_.out rfl rfl (by kernel_rfl) (fun _ _ _ h => h) (Or.inl ⟨by rfl, ?_⟩) ?_ ?_ ?_; rotate_left; ·intro w'; go_simp; with_reducible rfl
               rotate_left; ·simp only [Act.put, qy1, qy2, qy3, i64_w, i32_w]; rfl
               refine qP 8 (some 95) ?_ #[qT,qT,qT,qT,qF,qT,qT,qT,qT,qF,qF,qF] HT_.out rfl rfl (by kernel_rfl) (fun _ _ _ h => h) (Or.inl ⟨by rfl, ?_⟩) ?_ ?_ ?_; rotate_left; ·intro w'; go_simp; with_reducible rfl
               rotate_left; ·simp only [Act.put, qy1, qy2, qy3, i64_w, i32_w]; rfl
               refine take_ (i := 4) (N := some 91) (v := ?_) (a' := ?_) #[qT,qT,qT,qT,qT,qT,qT,qT,qT,qF,qF,qF] rfl rfl (qaT HT_.out HW_.out (by kernel_rfl)) (fun _ _ _ h => h) (Or.inl ⟨by rfl, ?_⟩) hHeld ?_ ?_; rotate_left; ·rintro w' ⟨s0, s1, s2, s3, s4, s5⟩; go_simp; with_reducible rfl
               rotate_left; ·simp only [Act.put, qy1, qy2, qy3, i64_w, i32_w]; rfl
               refine take_ (i := 9) (N := some 96) (v := ?_) (a' := ?_) #[qT,qT,qT,qT,qT,qT,qT,qT,qT,qT,qF,qF] rfl rfl (qaT HT_.out HW_.out (by kernel_rfl)) (fun _ _ _ h => h) (Or.inl ⟨by rfl, ?_⟩) hHeld ?_ ?_; rotate_left; ·rintro w' ⟨s0, s1, s2, s3, s4, s5⟩; go_simp; with_reducible rfl
               rotate_left; ·simp only [Act.put, qy1, qy2, qy3, i64_w, i32_w]; rfl
               refine qP 10 (some 97) ?_ #[qT,qT,qT,qT,qT,qT,qT,qT,qT,qT,qT,qF] HT_.out rfl rfl (by kernel_rfl) (fun _ _ _ h => h) (Or.inl ⟨by rfl, ?_⟩) ?_ ?_ ?_; rotate_left; ·intro w'; go_simp; with_reducible rfl
               rotate_left; ·simp only [Act.put, qy1, qy2, qy3, i64_w, i32_w]; rfl
               refine qP 11 (some 86) ?_ #[qT,qT,qT,qT,qT,qT,qT,qT,qT,qT,qT,qT] HT_.out rfl rfl (by kernel_rfl) (fun _ _ _ h => h) (Or.inl ⟨by rfl, ?_⟩) ?_ ?_ ?_; rotate_left; ·intro w'; go_simp; with_reducible rfl
               rotate_left; ·simp only [Act.put, qy1, qy2, qy3, i64_w, i32_w]; rfl
               refine done_ (qby HT_.out (by kernel_rfl)) ?_
               try go_wp2
               have n0_ := qac.mk (Kd.qaA HO_2.out)
               have n1_ := qac.mk (Kd.qaA HO_3.out)
               have n2_ := qac.mk (Kept.drew HK.out)
               have n3_ := qac.mk (qad HB.out)
               clear HO_2; clear HO_3; clear HK; clear HB; have HO_2 := n0_; have HO_3 := n1_; have HK := n2_; have HB := n3_; clear n0_ n1_ n2_ n3_; have p285 : 0 ≤ (x10_1 : Int) := of_decide_eq_true (by first | (with_reducible assumption) | assumption)
               have q285 : x10_1 < (x2_1.length : Int) := of_decide_eq_true (by first | (with_reducible assumption) | assumption)
               obtain ⟨ad285, e285, hx285_0⟩ := Kd.qbJ (Kd.qaN HO_2.out).2.2 x10_1 p285 q285
               obtain rfl : ad280 = ad285 := (by injection e285)
               replace p285 := eq_true p285; replace q285 := eq_true q285; have p286 : 0 ≤ (x11_1 : Int) := of_decide_eq_true (by first | (with_reducible assumption) | assumption)
               have q286 : x11_1 < (l1.length : Int) := of_decide_eq_true (by first | (with_reducible assumption) | assumption)
               obtain ⟨ad286, e286, hx286_0, hx286_1, hx286_2⟩ := qbm (Kd.qbT HR1.out HK.out) x11_1 p286 q286
               have hw286_2 := hx286_2; have hw286_1 := hx286_1; have hw286_0 := hx286_0; obtain rfl : ad282 = ad286 := (by injection e286)
               replace p286 := eq_true p286; replace q286 := eq_true q286; have p287 : 0 ≤ (x11_1 : Int) := of_decide_eq_true (by first | (with_reducible assumption) | assumption)
               have q287 : x11_1 < (x3_1.length : Int) := of_decide_eq_true (by first | (with_reducible assumption) | assumption)
               obtain ⟨ad287, e287, hx287_0⟩ := Kd.qbJ (Kd.qaN HO_3.out).2.2 x11_1 p287 q287
               obtain rfl : ad281 = ad287 := (by injection e287)
               replace p287 := eq_true p287; replace q287 := eq_true q287; refine qbD (n := 17) (S := fun w' => w'.cell? (ad280.add (x10_1).toNat) = some (.int .i64 (rd x2_1 x10_1)) ∧ w'.cell? (ad282.add ((x11_1).toNat * 3)) = some (.int .i64 ((qag l1 x11_1).f0)) ∧ w'.cell? ⟨(ad282.add ((x11_1).toNat * 3)).block, (ad282.add ((x11_1).toNat * 3)).off + 1, none⟩ = some (.int .i64 ((qag l1 x11_1).f1)) ∧ w'.cell? ⟨(ad282.add ((x11_1).toNat * 3)).block, (ad282.add ((x11_1).toNat * 3)).off + 2, none⟩ = some (.int .i64 ((qag l1 x11_1).f2)) ∧ w'.cell? (ad281.add (x11_1).toNat) = some (.int .i64 (rd x3_1 x11_1))) (ds := []) #[qF,qF,qF,qF,qF,qF,qF,qF,qF,qF,qF,qF,qF,qF,qF,qF,qF] (by kernel_rfl) rfl rfl ⟨hx285_0, hx286_0, hx286_1, hx286_2, hx287_0⟩ (fun hHeld => ?_); refine qbj qaq.tab2 qaq.bits2 (fun HT_ HW_ => ?_)
               generalize w34.drew = w35 at HO_2 HO_3 HK HB hx285_0 hx286_0 hx286_1 hx286_2 hx287_0 hHeld ⊢
               refine qP 0 (some 28) ?_ #[qT,qF,qF,qF,qF,qF,qF,qF,qF,qF,qF,qF,qF,qF,qF,qF,qF] HT_.out rfl rfl (by kernel_rfl) (fun _ _ _ h => h) (Or.inl ⟨by rfl, ?_⟩) ?_ ?_ ?_; rotate_left; ·intro w'; go_simp; with_reducible rfl
               rotate_left; ·simp only [Act.put, qy1, qy2, qy3, i64_w, i32_w]; rfl
               refine qP 1 (some 29) ?_ #[qT,qT,qF,qF,qF,qF,qF,qF,qF,qF,qF,qF,qF,qF,qF,qF,qF] HT_.out rfl rfl (by kernel_rfl) (fun _ _ _ h => h) (Or.inl ⟨by rfl, ?_⟩) ?_ ?_ ?_; rotate_left; ·intro w'; go_simp; with_reducible rfl
               rotate_left; ·simp only [Act.put, qy1, qy2, qy3, i64_w, i32_w]; rfl
               refine qP 2 (some 30) ?_ #[qT,qT,qT,qF,qF,qF,qF,qF,qF,qF,qF,qF,qF,qF,qF,qF,qF] HT_.out rfl rfl (by kernel_rfl) (fun _ _ _ h => h) (Or.inl ⟨by rfl, ?_⟩) ?_ ?_ ?_; rotate_left; ·intro w'; go_simp; with_reducible rfl
               rotate_left; ·simp only [Act.put, qy1, qy2, qy3, i64_w, i32_w]; rfl
               refine qP 4 (some 32) ?_ #[qT,qT,qT,qF,qT,qF,qF,qF,qF,qF,qF,qF,qF,qF,qF,qF,qF] HT_.out rfl rfl (by kernel_rfl) (fun _ _ _ h => h) (Or.inl ⟨by rfl, ?_⟩) ?_ ?_ ?_; rotate_left; ·intro w'; go_simp; with_reducible rfl
               rotate_left; ·simp only [Act.put, qy1, qy2, qy3, i64_w, i32_w]; rfl
               refine qP 5 (some 33) ?_ #[qT,qT,qT,qF,qT,qT,qF,qF,qF,qF,qF,qF,qF,qF,qF,qF,qF] HT_.out rfl rfl (by kernel_rfl) (fun _ _ _ h => h) (Or.inl ⟨by rfl, ?_⟩) ?_ ?_ ?_; rotate_left; ·intro w'; go_simp; with_reducible rfl
               rotate_left; ·simp only [Act.put, qy1, qy2, qy3, i64_w, i32_w]; rfl
               refine qP 6 (some 34) ?_ #[qT,qT,qT,qF,qT,qT,qT,qF,qF,qF,qF,qF,qF,qF,qF,qF,qF] HT_.out rfl rfl (by kernel_rfl) (fun _ _ _ h => h) (Or.inl ⟨by rfl, ?_⟩) ?_ ?_ ?_; rotate_left; ·intro w'; go_simp; with_reducible rfl
               rotate_left; ·simp only [Act.put, qy1, qy2, qy3, i64_w, i32_w]; rfl
               refine qP 7 (some 35) ?_ #[qT,qT,qT,qF,qT,qT,qT,qT,qF,qF,qF,qF,qF,qF,qF,qF,qF] HT_.out rfl rfl (by kernel_rfl) (fun _ _ _ h => h) (Or.inl ⟨by rfl, ?_⟩) ?_ ?_ ?_; rotate_left; ·intro w'; go_simp; with_reducible rfl
               rotate_left; ·simp only [Act.put, qy1, qy2, qy3, i64_w, i32_w]; rfl
               refine qP 9 (some 37) ?_ #[qT,qT,qT,qF,qT,qT,qT,qT,qF,qT,qF,qF,qF,qF,qF,qF,qF] HT_.out rfl rfl (by kernel_rfl) (fun _ _ _ h => h) (Or.inl ⟨by rfl, ?_⟩) ?_ ?_ ?_; rotate_left; ·intro w'; go_simp; with_reducible rfl
               rotate_left; ·simp only [Act.put, qy1, qy2, qy3, i64_w, i32_w]; rfl
               refine qP 10 (some 38) ?_ #[qT,qT,qT,qF,qT,qT,qT,qT,qF,qT,qT,qF,qF,qF,qF,qF,qF] HT_.out rfl rfl (by kernel_rfl) (fun _ _ _ h => h) (Or.inl ⟨by rfl, ?_⟩) ?_ ?_ ?_; rotate_left; ·intro w'; go_simp; with_reducible rfl
               rotate_left; ·simp only [Act.put, qy1, qy2, qy3, i64_w, i32_w]; rfl
               refine qP 11 (some 39) ?_ #[qT,qT,qT,qF,qT,qT,qT,qT,qF,qT,qT,qT,qF,qF,qF,qF,qF] HT_.out rfl rfl (by kernel_rfl) (fun _ _ _ h => h) (Or.inl ⟨by rfl, ?_⟩) ?_ ?_ ?_; rotate_left; ·intro w'; go_simp; with_reducible rfl
               rotate_left; ·simp only [Act.put, qy1, qy2, qy3, i64_w, i32_w]; rfl
               refine qP 14 (some 42) ?_ #[qT,qT,qT,qF,qT,qT,qT,qT,qF,qT,qT,qT,qF,qF,qT,qF,qF] HT_.out rfl rfl (by kernel_rfl) (fun _ _ _ h => h) (Or.inl ⟨by rfl, ?_⟩) ?_ ?_ ?_; rotate_left; ·intro w'; go_simp; with_reducible rfl
               rotate_left; ·simp only [Act.put, qy1, qy2, qy3, i64_w, i32_w]; rfl
               refine take_ (i := 3) (N := some 31) (v := ?_) (a' := ?_) #[qT,qT,qT,qT,qT,qT,qT,qT,qF,qT,qT,qT,qF,qF,qT,qF,qF] rfl rfl (qaT HT_.out HW_.out (by kernel_rfl)) (fun _ _ _ h => h) (Or.inl ⟨by rfl, ?_⟩) hHeld ?_ ?_; rotate_left; ·rintro w' ⟨s0, s1, s2, s3, s4⟩; go_simp; with_reducible rfl
               rotate_left; ·simp only [Act.put, qy1, qy2, qy3, i64_w, i32_w]; rfl
               refine take_ (i := 8) (N := some 36) (v := ?_) (a' := ?_) #[qT,qT,qT,qT,qT,qT,qT,qT,qT,qT,qT,qT,qF,qF,qT,qF,qF] rfl rfl (qaT HT_.out HW_.out (by kernel_rfl)) (fun _ _ _ h => h) (Or.inl ⟨by rfl, ?_⟩) hHeld ?_ ?_; rotate_left; ·rintro w' ⟨s0, s1, s2, s3, s4⟩; go_simp; with_reducible rfl
               rotate_left; ·simp only [Act.put, qy1, qy2, qy3, i64_w, i32_w]; rfl
               refine take_ (i := 12) (N := some 40) (v := ?_) (a' := ?_) #[qT,qT,qT,qT,qT,qT,qT,qT,qT,qT,qT,qT,qT,qF,qT,qF,qF] rfl rfl (qaT HT_.out HW_.out (by kernel_rfl)) (fun _ _ _ h => h) (Or.inl ⟨by rfl, ?_⟩) hHeld ?_ ?_; rotate_left; ·rintro w' ⟨s0, s1, s2, s3, s4⟩; go_simp; with_reducible rfl
               rotate_left; ·simp only [Act.put, qy1, qy2, qy3, i64_w, i32_w]; rfl
               refine qP 13 (some 41) ?_ #[qT,qT,qT,qT,qT,qT,qT,qT,qT,qT,qT,qT,qT,qT,qT,qF,qF] HT_.out rfl rfl (by kernel_rfl) (fun _ _ _ h => h) (Or.inl ⟨by rfl, ?_⟩) ?_ ?_ ?_; rotate_left; ·intro w'; go_simp; with_reducible rfl
               rotate_left; ·simp only [Act.put, qy1, qy2, qy3, i64_w, i32_w]; rfl
               refine qP 15 (some 43) ?_ #[qT,qT,qT,qT,qT,qT,qT,qT,qT,qT,qT,qT,qT,qT,qT,qT,qF] HT_.out rfl rfl (by kernel_rfl) (fun _ _ _ h => h) (Or.inl ⟨by rfl, ?_⟩) ?_ ?_ ?_; rotate_left; ·intro w'; go_simp; with_reducible rfl
               rotate_left; ·simp only [Act.put, qy1, qy2, qy3, i64_w, i32_w]; rfl
               refine qP 16 (some 12) ?_ #[qT,qT,qT,qT,qT,qT,qT,qT,qT,qT,qT,qT,qT,qT,qT,qT,qT] HT_.out rfl rfl (by kernel_rfl) (fun _ _ _ h => h) (Or.inl ⟨by rfl, ?_⟩) ?_ ?_ ?_; rotate_left; ·intro w'; go_simp; with_reducible rfl
               rotate_left; ·simp only [Act.put, qy1, qy2, qy3, i64_w, i32_w]; rfl
               refine done_ (qby HT_.out (by kernel_rfl)) ?_
               try go_wp2
               have n0_ := qac.mk (Kd.qaA HO_2.out)
               have n1_ := qac.mk (Kd.qaA HO_3.out)
               have n2_ := qac.mk (Kept.drew HK.out)
               have n3_ := qac.mk (qad HB.out)
               clear HO_2; clear HO_3; clear HK; clear HB; have HO_2 := n0_; have HO_3 := n1_; have HK := n2_; have HB := n3_; clear n0_ n1_ n2_ n3_; have p288 : 0 ≤ (x10_1 : Int) := of_decide_eq_true (by first | (with_reducible assumption) | assumption)
               have q288 : x10_1 < (x2_1.length : Int) := of_decide_eq_true (by first | (with_reducible assumption) | assumption)
               obtain ⟨ad288, e288, hx288_0⟩ := Kd.qbJ (Kd.qaN HO_2.out).2.2 x10_1 p288 q288
               obtain rfl : ad280 = ad288 := (by injection e288)
               replace p288 := eq_true p288; replace q288 := eq_true q288; have p289 : 0 ≤ (x11_1 : Int) := of_decide_eq_true (by first | (with_reducible assumption) | assumption)
               have q289 : x11_1 < (x3_1.length : Int) := of_decide_eq_true (by first | (with_reducible assumption) | assumption)
               obtain ⟨ad289, e289, hx289_0⟩ := Kd.qbJ (Kd.qaN HO_3.out).2.2 x11_1 p289 q289
               obtain rfl : ad281 = ad289 := (by injection e289)
               replace p289 := eq_true p289; replace q289 := eq_true q289; have p29 : 0 ≤ (x10_1 : Int) := of_decide_eq_true (by first | (with_reducible assumption) | assumption)
               have q29 : (x10_1 : Int) < ((x2_1.length : Int) : Int) := of_decide_eq_true (by first | (with_reducible assumption) | assumption)
               obtain ⟨go29, co29, eo29, gb29, gl29, cl29, HG29⟩ := Kd.R_form HO_2.out (by omega)
               (first | cases eo29 | (injection eo29 with ea_ en_ ec_; (first | subst ea_ | (injection ea_ with ea_; subst ea_)); subst ec_; clear en_))
               have GB29 := qac.mk gb29
               have GG29 := qac.mk HG29
               clear gb29 gl29 HG29; have HMgo29 := qac.mk (show ((P2_ go29 ∨ P3_ go29) ∨ w.heap.size ≤ go29) from (HO_2.out.1 _ rfl).1)
               (first | simp only [add_plain] at hx280_0 | skip)
               (first | simp only [add_plain] at hx285_0 | skip)
               (first | simp only [add_plain] at hx288_0 | skip)
               obtain ⟨hx29_0, hf29_0⟩ := Kd.R_celln 0 HO_2.out (x10_1 : Int) p29 q29
               replace p29 := eq_true p29; replace q29 := eq_true q29; have HP37 := Kd.R_putn HO_2.out (x10_1 : Int) (wrap64 ((rd x2_1 x10_1) - (ji28)))
               rw [← Ny290.out] at HP37; have HQ37 := qac.mk HP37
               clear HP37; have p30 : 0 ≤ (x11_1 : Int) := of_decide_eq_true (by first | (with_reducible assumption) | assumption)
               have q30 : (x11_1 : Int) < ((x3_1.length : Int) : Int) := of_decide_eq_true (by first | (with_reducible assumption) | assumption)
               obtain ⟨go30, co30, eo30, gb30, gl30, cl30, HG30⟩ := Kd.R_form HO_3.out (by omega)
               (first | cases eo30 | (injection eo30 with ea_ en_ ec_; (first | subst ea_ | (injection ea_ with ea_; subst ea_)); subst ec_; clear en_))
               have GB30 := qac.mk gb30
               have GG30 := qac.mk HG30
               clear gb30 gl30 HG30; have HMgo30 := qac.mk (show ((P2_ go30 ∨ P3_ go30) ∨ w.heap.size ≤ go30) from (HO_3.out.1 _ rfl).1)
               (first | simp only [add_plain] at hx281_0 | skip)
               (first | simp only [add_plain] at hx287_0 | skip)
               (first | simp only [add_plain] at hx289_0 | skip)
               obtain ⟨hx30_0, hf30_0⟩ := Kd.R_celln 0 (Kd.R_far (p := ⟨go29, (x10_1 : Int).toNat, none⟩) (Kd.qaY HO_3.out (fun k_ hk => (⟨hk, fun e_ => hk.2 (by rw [e_]; rfl)⟩ : _ ∧ k_ ≠ go29))) (fun _ hk => hk.2) (.int .i64 (wrap64 ((rd x2_1 x10_1) - (ji28))))) (x11_1 : Int) p30 q30
               replace p30 := eq_true p30; replace q30 := eq_true q30; have HP38 := Kd.R_putn (Kd.R_far (p := ⟨go29, (x10_1 : Int).toNat, none⟩) (Kd.qaY HO_3.out (fun k_ hk => (⟨hk, fun e_ => hk.2 (by rw [e_]; rfl)⟩ : _ ∧ k_ ≠ go29))) (fun _ hk => hk.2) (.int .i64 (wrap64 ((rd x2_1 x10_1) - (ji28))))) (x11_1 : Int) (wrap64 ((rd x3_1 x11_1) + (ji28)))
               rw [← Ny291.out] at HP38; have HQ38 := qac.mk HP38
               clear HP38; refine qbD (n := 24) (S := fun w' => w'.cell? ⟨go29, (x10_1).toNat, none⟩ = some (.int .i64 (rd x2_1 x10_1)) ∧ w'.cell? ⟨go30, (x11_1).toNat, none⟩ = some (.int .i64 (rd x3_1 x11_1))) (ds := [20, 22]) #[qF,qF,qF,qF,qF,qF,qF,qF,qF,qF,qF,qF,qF,qF,qF,qF,qF,qF,qF,qF,qF,qF,qF,qF] (by kernel_rfl) rfl rfl ⟨hx288_0, hx289_0⟩ (fun hHeld => ?_); refine qbj qaq.tab3 qaq.bits3 (fun HT_ HW_ => ?_)
               generalize w35.drew = w36 at HO_2 HO_3 HK HB GG29 GG30 HQ37 HQ38 hf29_0 hf30_0 hx280_0 hx281_0 hx285_0 hx287_0 hx288_0 hx289_0 hx29_0 hx30_0 hHeld ⊢
               refine qP 0 (some 44) ?_ #[qT,qF,qF,qF,qF,qF,qF,qF,qF,qF,qF,qF,qF,qF,qF,qF,qF,qF,qF,qF,qF,qF,qF,qF] HT_.out rfl rfl (by kernel_rfl) (fun _ _ _ h => h) (Or.inl ⟨by rfl, ?_⟩) ?_ ?_ ?_; rotate_left; ·intro w'; go_simp; with_reducible rfl
               rotate_left; ·simp only [Act.put, qy1, qy2, qy3, i64_w, i32_w]; rfl
               refine qP 1 (some 45) ?_ #[qT,qT,qF,qF,qF,qF,qF,qF,qF,qF,qF,qF,qF,qF,qF,qF,qF,qF,qF,qF,qF,qF,qF,qF] HT_.out rfl rfl (by kernel_rfl) (fun _ _ _ h => h) (Or.inl ⟨by rfl, ?_⟩) ?_ ?_ ?_; rotate_left; ·intro w'; go_simp; with_reducible rfl
               rotate_left; ·simp only [Act.put, qy1, qy2, qy3, i64_w, i32_w]; rfl
               refine qP 2 (some 46) ?_ #[qT,qT,qT,qF,qF,qF,qF,qF,qF,qF,qF,qF,qF,qF,qF,qF,qF,qF,qF,qF,qF,qF,qF,qF] HT_.out rfl rfl (by kernel_rfl) (fun _ _ _ h => h) (Or.inl ⟨by rfl, ?_⟩) ?_ ?_ ?_; rotate_left; ·intro w'; go_simp; with_reducible rfl
               rotate_left; ·simp only [Act.put, qy1, qy2, qy3, i64_w, i32_w]; rfl
               refine qP 3 (some 47) ?_ #[qT,qT,qT,qT,qF,qF,qF,qF,qF,qF,qF,qF,qF,qF,qF,qF,qF,qF,qF,qF,qF,qF,qF,qF] HT_.out rfl rfl (by kernel_rfl) (fun _ _ _ h => h) (Or.inl ⟨by rfl, ?_⟩) ?_ ?_ ?_; rotate_left; ·intro w'; go_simp; with_reducible rfl
               rotate_left; ·simp only [Act.put, qy1, qy2, qy3, i64_w, i32_w]; rfl
               refine qP 4 (some 48) ?_ #[qT,qT,qT,qT,qT,qF,qF,qF,qF,qF,qF,qF,qF,qF,qF,qF,qF,qF,qF,qF,qF,qF,qF,qF] HT_.out rfl rfl (by kernel_rfl) (fun _ _ _ h => h) (Or.inl ⟨by rfl, ?_⟩) ?_ ?_ ?_; rotate_left; ·intro w'; go_simp; with_reducible rfl
               rotate_left; ·simp only [Act.put, qy1, qy2, qy3, i64_w, i32_w]; rfl
               refine qP 5 (some 49) ?_ #[qT,qT,qT,qT,qT,qT,qF,qF,qF,qF,qF,qF,qF,qF,qF,qF,qF,qF,qF,qF,qF,qF,qF,qF] HT_.out rfl rfl (by kernel_rfl) (fun _ _ _ h => h) (Or.inl ⟨by rfl, ?_⟩) ?_ ?_ ?_; rotate_left; ·intro w'; go_simp; with_reducible rfl
               rotate_left; ·simp only [Act.put, qy1, qy2, qy3, i64_w, i32_w]; rfl
               refine qP 6 (some 50) ?_ #[qT,qT,qT,qT,qT,qT,qT,qF,qF,qF,qF,qF,qF,qF,qF,qF,qF,qF,qF,qF,qF,qF,qF,qF] HT_.out rfl rfl (by kernel_rfl) (fun _ _ _ h => h) (Or.inl ⟨by rfl, ?_⟩) ?_ ?_ ?_; rotate_left; ·intro w'; go_simp; with_reducible rfl
               rotate_left; ·simp only [Act.put, qy1, qy2, qy3, i64_w, i32_w]; rfl
               refine qP 8 (some 52) ?_ #[qT,qT,qT,qT,qT,qT,qT,qF,qT,qF,qF,qF,qF,qF,qF,qF,qF,qF,qF,qF,qF,qF,qF,qF] HT_.out rfl rfl (by kernel_rfl) (fun _ _ _ h => h) (Or.inl ⟨by rfl, ?_⟩) ?_ ?_ ?_; rotate_left; ·intro w'; go_simp; with_reducible rfl
               rotate_left; ·simp only [Act.put, qy1, qy2, qy3, i64_w, i32_w]; rfl
               refine qP 10 (some 54) ?_ #[qT,qT,qT,qT,qT,qT,qT,qF,qT,qF,qT,qF,qF,qF,qF,qF,qF,qF,qF,qF,qF,qF,qF,qF] HT_.out rfl rfl (by kernel_rfl) (fun _ _ _ h => h) (Or.inl ⟨by rfl, ?_⟩) ?_ ?_ ?_; rotate_left; ·intro w'; go_simp; with_reducible rfl
               rotate_left; ·simp only [Act.put, qy1, qy2, qy3, i64_w, i32_w]; rfl
               refine qP 11 (some 55) ?_ #[qT,qT,qT,qT,qT,qT,qT,qF,qT,qF,qT,qT,qF,qF,qF,qF,qF,qF,qF,qF,qF,qF,qF,qF] HT_.out rfl rfl (by kernel_rfl) (fun _ _ _ h => h) (Or.inl ⟨by rfl, ?_⟩) ?_ ?_ ?_; rotate_left; ·intro w'; go_simp; with_reducible rfl
               rotate_left; ·simp only [Act.put, qy1, qy2, qy3, i64_w, i32_w]; rfl
               refine qP 12 (some 56) ?_ #[qT,qT,qT,qT,qT,qT,qT,qF,qT,qF,qT,qT,qT,qF,qF,qF,qF,qF,qF,qF,qF,qF,qF,qF] HT_.out rfl rfl (by kernel_rfl) (fun _ _ _ h => h) (Or.inl ⟨by rfl, ?_⟩) ?_ ?_ ?_; rotate_left; ·intro w'; go_simp; with_reducible rfl
               rotate_left; ·simp only [Act.put, qy1, qy2, qy3, i64_w, i32_w]; rfl
               refine qP 14 (some 58) ?_ #[qT,qT,qT,qT,qT,qT,qT,qF,qT,qF,qT,qT,qT,qF,qT,qF,qF,qF,qF,qF,qF,qF,qF,qF] HT_.out rfl rfl (by kernel_rfl) (fun _ _ _ h => h) (Or.inl ⟨by rfl, ?_⟩) ?_ ?_ ?_; rotate_left; ·intro w'; go_simp; with_reducible rfl
               rotate_left; ·simp only [Act.put, qy1, qy2, qy3, i64_w, i32_w]; rfl
               refine qP 16 (some 60) ?_ #[qT,qT,qT,qT,qT,qT,qT,qF,qT,qF,qT,qT,qT,qF,qT,qF,qT,qF,qF,qF,qF,qF,qF,qF] HT_.out rfl rfl (by kernel_rfl) (fun _ _ _ h => h) (Or.inl ⟨by rfl, ?_⟩) ?_ ?_ ?_; rotate_left; ·intro w'; go_simp; with_reducible rfl
               rotate_left; ·simp only [Act.put, qy1, qy2, qy3, i64_w, i32_w]; rfl
               refine qP 17 (some 61) ?_ #[qT,qT,qT,qT,qT,qT,qT,qF,qT,qF,qT,qT,qT,qF,qT,qF,qT,qT,qF,qF,qF,qF,qF,qF] HT_.out rfl rfl (by kernel_rfl) (fun _ _ _ h => h) (Or.inl ⟨by rfl, ?_⟩) ?_ ?_ ?_; rotate_left; ·intro w'; go_simp; with_reducible rfl
               rotate_left; ·simp only [Act.put, qy1, qy2, qy3, i64_w, i32_w]; rfl
               refine qP 18 (some 62) ?_ #[qT,qT,qT,qT,qT,qT,qT,qF,qT,qF,qT,qT,qT,qF,qT,qF,qT,qT,qT,qF,qF,qF,qF,qF] HT_.out rfl rfl (by kernel_rfl) (fun _ _ _ h => h) (Or.inl ⟨by rfl, ?_⟩) ?_ ?_ ?_; rotate_left; ·intro w'; go_simp; with_reducible rfl
               rotate_left; ·simp only [Act.put, qy1, qy2, qy3, i64_w, i32_w]; rfl
               refine take_ (i := 7) (N := some 51) (v := ?_) (a' := ?_) #[qT,qT,qT,qT,qT,qT,qT,qT,qT,qF,qT,qT,qT,qF,qT,qF,qT,qT,qT,qF,qF,qF,qF,qF] rfl rfl (qaT HT_.out HW_.out (by kernel_rfl)) (fun _ _ _ h => h) (Or.inl ⟨by rfl, ?_⟩) hHeld ?_ ?_; rotate_left; ·rintro w' ⟨s0, s1⟩; go_simp; with_reducible rfl
               rotate_left; ·simp only [Act.put, qy1, qy2, qy3, i64_w, i32_w]; rfl
               refine qP 9 (some 53) ?_ #[qT,qT,qT,qT,qT,qT,qT,qT,qT,qT,qT,qT,qT,qF,qT,qF,qT,qT,qT,qF,qF,qF,qF,qF] HT_.out rfl rfl (by kernel_rfl) (fun _ _ _ h => h) (Or.inl ⟨by rfl, ?_⟩) ?_ ?_ ?_; rotate_left; ·intro w'; go_simp; with_reducible rfl
               rotate_left; ·simp only [Act.put, qy1, qy2, qy3, i64_w, i32_w]; rfl
               refine take_ (i := 13) (N := some 57) (v := ?_) (a' := ?_) #[qT,qT,qT,qT,qT,qT,qT,qT,qT,qT,qT,qT,qT,qT,qT,qF,qT,qT,qT,qF,qF,qF,qF,qF] rfl rfl (qaT HT_.out HW_.out (by kernel_rfl)) (fun _ _ _ h => h) (Or.inl ⟨by rfl, ?_⟩) hHeld ?_ ?_; rotate_left; ·rintro w' ⟨s0, s1⟩; go_simp; with_reducible rfl
               rotate_left; ·simp only [Act.put, qy1, qy2, qy3, i64_w, i32_w]; rfl
               refine qP 15 (some 59) ?_ #[qT,qT,qT,qT,qT,qT,qT,qT,qT,qT,qT,qT,qT,qT,qT,qT,qT,qT,qT,qF,qF,qF,qF,qF] HT_.out rfl rfl (by kernel_rfl) (fun _ _ _ h => h) (Or.inl ⟨by rfl, ?_⟩) ?_ ?_ ?_; rotate_left; ·intro w'; go_simp; with_reducible rfl
               rotate_left; ·simp only [Act.put, qy1, qy2, qy3, i64_w, i32_w]; rfl
               refine qP 19 (some 63) ?_ #[qT,qT,qT,qT,qT,qT,qT,qT,qT,qT,qT,qT,qT,qT,qT,qT,qT,qT,qT,qT,qF,qF,qF,qF] HT_.out rfl rfl (by kernel_rfl) (fun _ _ _ h => h) (Or.inl ⟨by rfl, ?_⟩) ?_ ?_ ?_; rotate_left; ·intro w'; go_simp; with_reducible rfl
               rotate_left; ·simp only [Act.put, qy1, qy2, qy3, i64_w, i32_w]; rfl
               refine last_ (i := 20) (N := none) #[qT,qT,qT,qT,qT,qT,qT,qT,qT,qT,qT,qT,qT,qT,qT,qT,qT,qT,qT,qT,qT,qF,qF,qF] rfl rfl (qbH HT_.out (by kernel_rfl)) (by decide) (fun K hK => ?_)
               refine skip_ (w1 := ?_) (by rfl) rfl ?_ ?_
               rotate_left; ·go_simp; rfl
               refine hK.out _ _ ?_
               clear hK K; refine qP 21 (some 64) ?_ #[qT,qT,qT,qT,qT,qT,qT,qT,qT,qT,qT,qT,qT,qT,qT,qT,qT,qT,qT,qT,qT,qT,qF,qF] HT_.out rfl rfl (by kernel_rfl) (fun _ _ _ h => h) (Or.inl ⟨by rfl, ?_⟩) ?_ ?_ ?_
               rotate_left; ·intro w'; go_simp; with_reducible rfl
               rotate_left; ·simp only [Act.put, qy1, qy2, qy3, i64_w, i32_w]; rfl
               refine last_ (i := 22) (N := none) #[qT,qT,qT,qT,qT,qT,qT,qT,qT,qT,qT,qT,qT,qT,qT,qT,qT,qT,qT,qT,qT,qT,qT,qF] rfl rfl (qbH HT_.out (by kernel_rfl)) (by decide) (fun K hK => ?_)
               refine skip_ (w1 := ?_) (by rfl) rfl ?_ ?_
               rotate_left; ·go_simp; rfl
               refine hK.out _ _ ?_
               clear hK K; refine qP 23 (some 4) ?_ #[qT,qT,qT,qT,qT,qT,qT,qT,qT,qT,qT,qT,qT,qT,qT,qT,qT,qT,qT,qT,qT,qT,qT,qT] HT_.out rfl rfl (by kernel_rfl) (fun _ _ _ h => h) (Or.inl ⟨by rfl, ?_⟩) ?_ ?_ ?_
               rotate_left; ·intro w'; go_simp; with_reducible rfl
               rotate_left; ·simp only [Act.put, qy1, qy2, qy3, i64_w, i32_w]; rfl
               refine done_ (qby HT_.out (by kernel_rfl)) ?_
               try go_wp2
               go_roundg kj5
               case measure => have := HK1.out; have := HJ5.out; omega
               case rel => exact ⟨(y290), (y291), (wrap64 (x4_1 - (ji28))), (x10_1), (x11_1), (by first | rfl | (simp; done) | (simp only [← hji28] <;> (first | rfl | simp)) | (simp [*]; done)), (by first | rfl | (simp; done) | (simp [*]; done)), (by first | rfl | (simp; done) | (simp [*]; done)), H', ⟨by have := HK1.out; have := HJ5.out; omega⟩, ⟨by (with_reducible repeat (first | apply Kd.qax | apply Kd.qaw | apply Kd.qaA)); exact Kd.qaY (Kd.R_far (p := ⟨go30, (x11_1 : Int).toNat, none⟩) (Kd.qaY HQ37.out (fun k_ hk => (⟨hk, fun e_ => hk.2 (by rw [e_]; rfl)⟩ : _ ∧ k_ ≠ go30))) (fun _ hk => hk.2) (.int .i64 (wrap64 ((rd x3_1 x11_1) + (ji28))))) (fun _ hk => ⟨hk.1.1, hk.1.2⟩)⟩, ⟨by (with_reducible repeat (first | apply Kd.qax | apply Kd.qaw | apply Kd.qaA)); exact Kd.qaY HQ38.out (fun _ hk => ⟨hk.1.1, hk.1.2⟩)⟩, ⟨by repeat (first | (with_reducible first | exact HK.out | apply Kept.alloc | apply Kept.drewN | apply Kept.drew | refine Kept.setCell ?_ HMgo29.out _ | refine Kept.setCell ?_ HMgo30.out _) | exact HK.out)⟩, ⟨by repeat (first | (with_reducible first | exact HB.out | apply qae | apply qab | apply qad | refine qah ?_ GB29.out | refine qah ?_ GB30.out) | exact HB.out)⟩⟩
             ·rw [if_neg c21] at H; exact absurd H (by simp)
           ·rw [if_neg c16] at H; exact absurd H (by simp)
          ·rw [if_neg c15] at H; exact absurd H (by simp)
         ·rw [if_neg c14] at H; exact absurd H (by simp)
       ·rw [if_neg c11] at H; exact absurd H (by simp)
      ·rw [if_neg c10] at H; exact absurd H (by simp)
     ·replace c9 := Bool.eq_false_iff.mpr c9
      subst c9; have H1 : (some (x2_1, x3_1)) = some (r1, r2) := by rw [if_neg (show ¬ (false = true) by decide)] at H; exact H
      clear H; have H := H1; clear H1; simp only [Option.some.injEq, Prod.mk.injEq] at H
      obtain ⟨rfl, rfl⟩ := H; go_wp2; first | go_end0 | ((try simp only [Exit.inBlock, Exit.then]); refine bodyPost_ret (results_none rfl _ _ _) rfl ?_)
      exact ⟨by first | rfl | (simp [qaz, qay] <;> rfl) | (simp [*, qaz, qay] <;> rfl), by (with_reducible repeat (first | apply Kd.qax | apply Kd.qaw | apply Kd.qaA)); exact Kd.qaY HO_2.out (fun _ hk => hk.1), by (with_reducible repeat (first | apply Kd.qax | apply Kd.qaw | apply Kd.qaA)); exact Kd.qaY HO_3.out (fun _ hk => hk.1), by repeat (first | (with_reducible first | exact HB.out | apply qae | apply qab | apply qad) | exact HB.out), by repeat (first | (with_reducible first | exact HK.out | apply Kept.alloc | apply Kept.drewN | apply Kept.drew) | exact HK.out)⟩
end Go.Proofs.Ytfcifmbddikflaa.P
