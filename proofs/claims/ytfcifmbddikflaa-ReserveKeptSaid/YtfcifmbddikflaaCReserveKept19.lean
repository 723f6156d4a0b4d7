/- Texts of the claim, put together: Px11, Px4, Px16, Px17. -/
import Derived.Test.YtfcifmbddikflaaCReserveKept14
import Derived.Test.YtfcifmbddikflaaCReserveKept18
import Derived.Test.YtfcifmbddikflaaCReserveKept16
import Derived.Test.YtfcifmbddikflaaCReserveKept17
namespace Go.Proofs.Ytfcifmbddikflaa.P
open Go.RowKit Go.Proofs.YtfcifmbddikflaaW.PrintWords Go.Proofs.YtfcifmbddikflaaW.PrintLast Go.Proofs.YtfcifmbddikflaaW.PrintMore
attribute [local go_sem] qbi qbg qbp qbo qa5 qa4 qbh qbf
set_option linter.unusedVariables false
set_option linter.unusedSimpArgs false
mutual
def qaR.j0 : Nat → Int → Bool → ByteArray → List (S41) → Option (Int × Int)
 | 0, _, _, _, _ => none
 | k + 1, x1, x23, x141000, x141001 => if x23 = true then (some (0, 4)) else (qaR.l0 k x1 0 x141001 (x141001.length : Int) 0)
def qaR.l0 : Nat → Int → Int → List (S41) → Int → Int → Option (Int × Int)
 | 0, _, _, _, _, _ => none
 | k + 1, x1, x7, x25, x26, x27 => if x27 < x26 then (if 0 ≤ x27 then (if x27 < (x25.length : Int) then (qaR.l0 k (wrap64 (x1 - (mn x1 ((qaI x25 x27).f0)))) (wrap64 (x7 + (wrap64 ((mn x1 ((qaI x25 x27).f0)) * ((qaI x25 x27).f1))))) x25 x26 (wrap64 (x27 + 1))) else (none)) else (none)) else (some (x7, 0))
end
def qaR.f (k : Nat) (a0_0 : ByteArray) (l0_1 : List (S41)) (a1 : Int) : Option (Int × Int) := (qaE.f k a0_0 l0_1).bind fun t141 => (if t141 = 0 then (if a1 < 0 then (qaR.j0 k a1 true a0_0 l0_1) else ((qaP.f k a0_0 l0_1).bind fun t142 => (qaR.j0 k a1 (decide (a1 > t142)) a0_0 l0_1))) else (some (0, t141)))
theorem qaR.qbe : ∀ k, (∀ y0 y1 y2 y3, LeO (qaR.j0 k y0 y1 y2 y3) (qaR.j0 (k + 1) y0 y1 y2 y3)) ∧ (∀ y0 y1 y2 y3 y4, LeO (qaR.l0 k y0 y1 y2 y3 y4) (qaR.l0 (k + 1) y0 y1 y2 y3 y4))
 | 0 => ⟨fun _ _ _ _ r h => by simp [qaR.j0] at h, fun _ _ _ _ _ r h => by simp [qaR.l0] at h⟩
 | k + 1 => by
  obtain ⟨ih0, ih1⟩ := qaR.qbe k
  refine ⟨?_, ?_⟩
  ·intro y0 y1 y2 y3; unfold qaR.j0
   repeat' first
   | (with_reducible exact ih0 _ _ _ _)
   | (with_reducible exact ih1 _ _ _ _ _)
   | (with_reducible exact qaE.mono _ _ _)
   | (with_reducible exact qaP.mono _ _ _)
   | (with_reducible exact LeO.refl _)
   | (with_reducible exact LeO.none _)
   | (with_reducible refine LeO.ite ?_ ?_)
   | (with_reducible refine LeO.bind ?_ (fun _ => ?_))
   | exact ih0 _ _ _ _
   | exact ih1 _ _ _ _ _
   | exact qaE.mono _ _ _
   | exact qaP.mono _ _ _
   | exact LeO.none _
   | refine LeO.ite ?_ ?_
   | refine LeO.bind ?_ (fun _ => ?_)
  ·intro y0 y1 y2 y3 y4; unfold qaR.l0
   repeat' first
   | (with_reducible exact ih0 _ _ _ _)
   | (with_reducible exact ih1 _ _ _ _ _)
   | (with_reducible exact qaE.mono _ _ _)
   | (with_reducible exact qaP.mono _ _ _)
   | (with_reducible exact LeO.refl _)
   | (with_reducible exact LeO.none _)
   | (with_reducible refine LeO.ite ?_ ?_)
   | (with_reducible refine LeO.bind ?_ (fun _ => ?_))
   | exact ih0 _ _ _ _
   | exact ih1 _ _ _ _ _
   | exact qaE.mono _ _ _
   | exact qaP.mono _ _ _
   | exact LeO.none _
   | refine LeO.ite ?_ ?_
   | refine LeO.bind ?_ (fun _ => ?_)
theorem qaR.mono : ∀ a0 a1 a2 k, LeO (qaR.f k a0 a1 a2) (qaR.f (k + 1) a0 a1 a2) := by
 intro a0 a1 a2 k; obtain ⟨ih0, ih1⟩ := qaR.qbe k
 unfold qaR.f
 repeat' first
   | (with_reducible exact ih0 _ _ _ _)
   | (with_reducible exact ih1 _ _ _ _ _)
   | (with_reducible exact qaE.mono _ _ _)
   | (with_reducible exact qaP.mono _ _ _)
   | (with_reducible exact LeO.refl _)
   | (with_reducible exact LeO.none _)
   | (with_reducible refine LeO.ite ?_ ?_)
   | (with_reducible refine LeO.bind ?_ (fun _ => ?_))
   | exact ih0 _ _ _ _
   | exact ih1 _ _ _ _ _
   | exact qaE.mono _ _ _
   | exact qaP.mono _ _ _
   | exact LeO.none _
   | refine LeO.ite ?_ ?_
   | refine LeO.bind ?_ (fun _ => ?_)
set_option maxHeartbeats 8000000 in
set_option maxRecDepth 100000 in
theorem qaR.calls (k : Nat) (a0_0 : ByteArray) (A0_1 : Option Addr) (c0_1 : Nat) (l0_1 : List (S41)) (a1 : Int) (r1 : Int) (r2 : Int) (w : World) (hr0_1 : Kd.C k41 w A0_1 l0_1.length l0_1) (hc0_1 : l0_1.length ≤ c0_1) (h : qaR.f k a0_0 l0_1 a1 = some (r1, r2)) :
  Calls Try.prog 46 #[.agg #[.string a0_0, .slice A0_1 l0_1.length c0_1], .int .i64 a1] w fun e w' => e = .returned (.tuple #[.int .i64 r1, .int .i64 r2]) ∧ Below w.heap.size w w' := by
 have hu29 := Try.underlying29; have hu41 := Try.underlying41; have HR0_1 := qac.mk hr0_1
 have HC0_1 := qac.mk hc0_1
 clear hr0_1 hc0_1; have HB := qac.mk (Below.refl w.heap.size w)
 have H : ((qaE.f k a0_0 l0_1).bind fun t141 => (if t141 = 0 then (if a1 < 0 then (qaR.j0 k a1 true a0_0 l0_1) else ((qaP.f k a0_0 l0_1).bind fun t142 => (qaR.j0 k a1 (decide (a1 > t142)) a0_0 l0_1))) else (some (0, t141)))) = some (r1, r2) := h
 clear h; replace H := Option.bind_eq_some_iff.mp H; obtain ⟨t141, A30, H⟩ := H; replace H : (if t141 = 0 then (if a1 < 0 then (qaR.j0 k a1 true a0_0 l0_1) else ((qaP.f k a0_0 l0_1).bind fun t142 => (qaR.j0 k a1 (decide (a1 > t142)) a0_0 l0_1))) else (some (0, t141))) = some (r1, r2) := H
 have A3 := qac.mk A30
 clear A30; by_cases c4 : t141 = 0
 ·rw [if_pos c4] at H; have c4b0 : (t141 == 0) = true := beq_iff_eq.mpr c4; have c4b1 : (t141 != 0) = false := bne_eq_false_iff_eq.mpr c4; clear c4; have HC5 := qac.mk H; clear H; go_enter Try.func46, Try.ntmps46; go_upto_region 4 with (first | ((with_reducible refine qaV (N := 2) rfl ?_); refine qaU ?hg (N := 2) ?hd (cs := #[.string a0_0, .slice A0_1 l0_1.length c0_1]) (t := 29) ?hr ?_; (case hd => rfl); (case hg => rfl); (case hr => first | (go_simp; done) | (go_simp; rfl)); intro gb140 hg w6 hbox hb; have n0_ := qac.mk (qaB (by repeat (first | (with_reducible first | exact HB.out | apply qae | apply qab | apply qad) | exact HB.out)) hb); have n1_ := qac.mk (hbox); have n2_ := qac.mk ((by rw [hg]; exact (qav (by repeat (first | (with_reducible first | exact HB.out | apply qae | apply qab | apply qad) | exact HB.out))) : w.heap.size ≤ gb140)); have n3_ := qac.mk ((by rw [hg]; exact (qav (by repeat (first | (with_reducible first | exact HB.out | apply qae | apply qab | apply qad) | exact HB.out))) : w.heap.size ≤ gb140)); clear HB; have HB := n0_; have BK140 := n1_; have GW140 := n2_; have GE140 := n3_; clear n0_ n1_ n2_ n3_; clear hb hbox hg; have hcz7_0 : w6.cell? ⟨gb140, 0, none⟩ = some (.string a0_0) := (qas BK140.out 0).trans rfl; have hcz7_1 : w6.cell? ⟨gb140, 1, none⟩ = some (.slice A0_1 l0_1.length c0_1) := (qas BK140.out 1).trans rfl; have hfz7_0 := qat BK140.out 0; have hfz7_1 := qat BK140.out 1) | ((with_reducible refine qaL (f := 78) rfl ?_); refine qa9 (some 12) rfl rfl Try.func78 (by kernel_rfl) rfl #[.agg #[.string a0_0, .slice A0_1 l0_1.length c0_1]] rfl (by (try simp only [qy6, qy7, qy8]); first | done | rfl | (simp only [List.length_drop, List.length_take]; rfl)) ?_; (with_reducible refine (qaE.calls k a0_0 _ _ l0_1 t141 _ ?side1 ?side2 A3.out).mono ?_); (case side1 => repeat (first | exact (Kd.qbt HR0_1.out HB.out) | (with_reducible refine Kd.qbl ?_ _) | (with_reducible refine Kd.qbk ?_ _) | (with_reducible refine Kd.qbw ?_))); (case side2 => exact HC0_1.out); rintro e w8 ⟨rfl, hb⟩; refine ⟨_, rfl, ?_⟩; have n0_ := qac.mk (qaS (g := gb140) (o := .cells #[.string a0_0, .slice A0_1 l0_1.length c0_1] 29 (0, 0)) (by (with_reducible repeat (first | refine qan ?_ _ | refine qap ?_ | refine qao ?_ _)); exact BK140.out) hb); have n1_ := qac.mk (qaB (by repeat (first | (with_reducible first | exact HB.out | apply qae | apply qab | apply qad | refine qah ?_ GE140.out) | exact HB.out)) hb); clear BK140; clear HB; have BK140 := n0_; have HB := n1_; clear n0_ n1_; (try clear hb); (try clear hb2); (try clear hk); (try clear hi)))
  (try simp only [Act.put, List.setIfInBounds_toArray, List.set_cons_zero, List.set_cons_succ])
  go_cut [23] (fun v23 wc => ∃ (kq : Nat) (x23_4 : Bool), v23 = .bool x23_4 ∧ qac (qaR.j0 kq a1 x23_4 a0_0 l0_1 = some (r1, r2)) ∧ qac (kq ≤ k) ∧ qac (wc.heap[gb140]? = some (.cells #[.string a0_0, (.slice A0_1 l0_1.length c0_1)] 29 (0, 0))) ∧ qac (Below w.heap.size w wc))
  case first =>
   have H := HC5.out; clear HC5; by_cases c9 : a1 < 0
   ·rw [if_pos c9] at H; have c9b0 : decide (a1 < 0) = true := decide_eq_true c9; clear c9; (first | rw [c9b0] | (simp only [i64_w, i32_w]; rw [c9b0]) | skip)
    have H' := qac.mk H; clear H; go_wp2; (refine Met.intro ?_; go_step; first | ((repeat apply Exists.intro); refine ⟨?rel, rfl⟩) | ((try simp only [c9b0] at H' ⊢); (try simp only [c4b1] at H' ⊢); (try simp only [c4b0] at H' ⊢); (repeat apply Exists.intro); refine ⟨?rel, rfl⟩))
    case rel => exact ⟨_, (true), (by first | rfl | (simp; done) | (simp [*]; done)), H', ⟨by first | omega | exact Nat.le_refl _⟩, ⟨by (with_reducible repeat (first | refine qan ?_ _ | refine qap ?_ | refine qao ?_ _)); exact BK140.out⟩, ⟨by repeat (first | (with_reducible first | exact HB.out | apply qae | apply qab | apply qad | refine qah ?_ GE140.out) | exact HB.out)⟩⟩
   ·rw [if_neg c9] at H; have c9b0 : decide (a1 < 0) = false := decide_eq_false c9; clear c9; (first | rw [c9b0] | (simp only [i64_w, i32_w]; rw [c9b0]) | skip)
    replace H := Option.bind_eq_some_iff.mp H; obtain ⟨t142, A100, H⟩ := H; replace H : (qaR.j0 k a1 (decide (a1 > t142)) a0_0 l0_1) = some (r1, r2) := H
    have A10 := qac.mk A100
    clear A100; have H' := qac.mk H; clear H; have hcz11_0 : w8.cell? ⟨gb140, 0, none⟩ = some (.string a0_0) := (qas BK140.out 0).trans rfl
    have hcz11_1 : w8.cell? ⟨gb140, 1, none⟩ = some (.slice A0_1 l0_1.length c0_1) := (qas BK140.out 1).trans rfl
    have hfz11_0 := qat BK140.out 0
    have hfz11_1 := qat BK140.out 1
    go_wp2_with (first | (go_at_call 54; (with_reducible refine (qaP.calls k a0_0 _ _ l0_1 t142 _ ?side1 ?side2 A10.out).mono ?_); (case side1 => repeat (first | exact (Kd.qbt HR0_1.out HB.out) | (with_reducible refine Kd.qbl ?_ _) | (with_reducible refine Kd.qbk ?_ _) | (with_reducible refine Kd.qbw ?_))); (case side2 => exact HC0_1.out); rintro e w12 ⟨rfl, hb⟩; have n0_ := qac.mk (qaS (g := gb140) (o := .cells #[.string a0_0, .slice A0_1 l0_1.length c0_1] 29 (0, 0)) (by (with_reducible repeat (first | refine qan ?_ _ | refine qap ?_ | refine qao ?_ _)); exact BK140.out) hb); have n1_ := qac.mk (qaB (by repeat (first | (with_reducible first | exact HB.out | apply qae | apply qab | apply qad | refine qah ?_ GE140.out) | exact HB.out)) hb); clear BK140; clear HB; have BK140 := n0_; have HB := n1_; clear n0_ n1_; (try clear hb); (try clear hb2); (try clear hk); (try clear hi)))
    (refine Met.intro ?_; go_step; first | ((repeat apply Exists.intro); refine ⟨?rel, rfl⟩) | ((try simp only [c9b0] at H' ⊢); (try simp only [c4b1] at H' ⊢); (try simp only [c4b0] at H' ⊢); (repeat apply Exists.intro); refine ⟨?rel, rfl⟩))
    case rel => exact ⟨_, (decide (a1 > t142)), (by first | rfl | (simp; done) | (simp [*]; done)), H', ⟨by first | omega | exact Nat.le_refl _⟩, ⟨by (with_reducible repeat (first | refine qan ?_ _ | refine qap ?_ | refine qao ?_ _)); exact BK140.out⟩, ⟨by repeat (first | (with_reducible first | exact HB.out | apply qae | apply qab | apply qad | refine qah ?_ GE140.out) | exact HB.out)⟩⟩
  case rest =>
   clear HC5; (try clear p2); (try clear c4); (try clear c4b0); (try clear c4b1); (try clear c7); (try clear c9); (try clear c9b0); (try clear hcz11_0); (try clear hcz11_1); (try clear hcz7_0); (try clear hcz7_1); (try clear hfz11_0); (try clear hfz11_1); (try clear hfz7_0); (try clear hfz7_1); obtain ⟨kq, x23_4, rfl, HA, HJ4, BK140, HB⟩ := hcut
   cases kq with
   | zero => exact absurd HA.out (by simp [qaR.j0])
   | succ kj4 =>
    have H := HA.out; clear HA; simp only [qaR.j0] at H
    by_cases c13 : x23_4 = true
    ·subst c13; have H1 : (some (0, 4)) = some (r1, r2) := by rw [if_pos rfl] at H; exact H
     clear H; have H := H1; clear H1; simp only [Option.some.injEq, Prod.mk.injEq] at H
     obtain ⟨rfl, rfl⟩ := H; go_wp2; go_ret2
     exact ⟨by first | rfl | (simp [qaz, qay] <;> rfl) | (simp [*, qaz, qay] <;> rfl), by repeat (first | (with_reducible first | exact HB.out | apply qae | apply qab | apply qad | refine qah ?_ GE140.out) | exact HB.out)⟩
    ·replace c13 := Bool.eq_false_iff.mpr c13
     subst c13; have H1 : (qaR.l0 kj4 a1 0 l0_1 (l0_1.length : Int) 0) = some (r1, r2) := by rw [if_neg (show ¬ (false = true) by decide)] at H; exact H
     clear H; have H := H1; clear H1; have H' := qac.mk H; clear H; have hcz14_0 : wc.cell? ⟨gb140, 0, none⟩ = some (.string a0_0) := (qas BK140.out 0).trans rfl
     have hcz14_1 : wc.cell? ⟨gb140, 1, none⟩ = some (.slice A0_1 l0_1.length c0_1) := (qas BK140.out 1).trans rfl
     have hfz14_0 := qat BK140.out 0
     have hfz14_1 := qat BK140.out 1
     go_wp2; go_loopg [1, 7, 27] kj4 (fun kq v1 v7 v27 w' => ∃ (x1_2 : Int) (x7_2 : Int) (x27_2 : Int), v1 = .int .i64 x1_2 ∧ v7 = .int .i64 x7_2 ∧ v27 = .int .i64 x27_2 ∧ qac (qaR.l0 kq x1_2 x7_2 l0_1 (l0_1.length : Int) x27_2 = some (r1, r2)) ∧ qac (kq ≤ kj4) ∧ qac (w'.heap[gb140]? = some (.cells #[.string a0_0, (.slice A0_1 l0_1.length c0_1)] 29 (0, 0))) ∧ qac (Below w.heap.size w w'))
     case atStart => exact ⟨(a1), (0), (0), (by first | rfl | (simp; done) | (simp [*]; done)), (by first | rfl | (simp; done) | (simp [*]; done)), (by first | rfl | (simp; done) | (simp [*]; done)), H', ⟨Nat.le_refl _⟩, ⟨by (with_reducible repeat (first | refine qan ?_ _ | refine qap ?_ | refine qao ?_ _)); exact BK140.out⟩, ⟨by repeat (first | (with_reducible first | exact HB.out | apply qae | apply qab | apply qad | refine qah ?_ GE140.out) | exact HB.out)⟩⟩
     case round =>
      clear H'; (try clear c1); (try clear p2); (try clear c4); (try clear c4b0); (try clear c4b1); (try clear c7); (try clear c9); (try clear c9b0); (try clear c13); (try clear hcz11_0); (try clear hcz11_1); (try clear hcz14_0); (try clear hcz14_1); (try clear hcz7_0); (try clear hcz7_1); (try clear hfz11_0); (try clear hfz11_1); (try clear hfz14_0); (try clear hfz14_1); (try clear hfz7_0); (try clear hfz7_1); (try clear p2); obtain ⟨x1_2, x7_2, x27_2, rfl, rfl, rfl, HA, HK2, BK140, HB⟩ := hrel
      cases gk with
      | zero => exact absurd HA.out (by simp [qaR.l0])
      | succ k2 =>
       have H := HA.out; clear HA; simp only [qaR.l0] at H
       by_cases c15 : x27_2 < (l0_1.length : Int)
       ·rw [if_pos c15] at H; have c15b0 : decide (x27_2 < (l0_1.length : Int)) = true := decide_eq_true c15; clear c15; by_cases c16 : 0 ≤ x27_2
        ·rw [if_pos c16] at H; have c16b0 : decide (0 ≤ x27_2) = true := decide_eq_true c16; clear c16; by_cases c17 : x27_2 < (l0_1.length : Int)
         ·rw [if_pos c17] at H; have c17b0 : decide (x27_2 < (l0_1.length : Int)) = true := decide_eq_true c17; clear c17; obtain ⟨ji18, hji18⟩ : ∃ j_ : Int, (mn x1_2 ((qaI l0_1 x27_2).f0)) = j_ := ⟨_, rfl⟩
          replace H : (qaR.l0 k2 (wrap64 (x1_2 - (ji18))) (wrap64 (x7_2 + (wrap64 ((ji18) * ((qaI l0_1 x27_2).f1))))) l0_1 (l0_1.length : Int) (wrap64 (x27_2 + 1))) = some (r1, r2) := by first | (rw [hji18] at H; exact H) | (simp only [hji18] at H ⊢; exact H)
          have hji18_ : (if ((qaI l0_1 x27_2).f0) < x1_2 then ((qaI l0_1 x27_2).f0) else x1_2) = ji18 := hji18
          have H' := qac.mk H; clear H; have p143 : 0 ≤ (x27_2 : Int) := of_decide_eq_true (by first | (with_reducible assumption) | assumption)
          have q143 : x27_2 < (l0_1.length : Int) := of_decide_eq_true (by first | (with_reducible assumption) | assumption)
          obtain ⟨ad143, e143, hx143_0, hx143_1⟩ := at_T41 HR0_1.out x27_2 p143 q143
          cases e143
          replace hx143_0 := (HB.out.cell (World.block_lt_of_cell? w _ hx143_0)).trans hx143_0
          replace hx143_1 := (HB.out.cell (World.block_lt_of_cell? w _ hx143_1)).trans hx143_1
          replace p143 := eq_true p143; replace q143 := eq_true q143; go_wp2_with (first | ((with_reducible refine qaV (N := 9) rfl ?_); refine qaU ?hg (N := 9) ?hd (cs := #[.int .i64 0, .int .i64 0]) (t := 41) ?hr ?_; (case hd => rfl); (case hg => rfl); (case hr => first | (go_simp; done) | (go_simp; rfl)); intro gb144 hg w19 hbox hb; have n0_ := qac.mk (qaS (g := gb140) (o := .cells #[.string a0_0, .slice (some ad143) l0_1.length c0_1] 29 (0, 0)) (by (with_reducible repeat (first | refine qan ?_ _ | refine qap ?_ | refine qao ?_ _)); exact BK140.out) hb); have n1_ := qac.mk (qaB (by repeat (first | (with_reducible first | exact HB.out | apply qae | apply qab | apply qad | refine qah ?_ GE140.out) | exact HB.out)) hb); have n2_ := qac.mk (hbox); have n3_ := qac.mk ((by rw [hg]; exact (qav (by repeat (first | (with_reducible first | exact HB.out | apply qae | apply qab | apply qad | refine qah ?_ GE140.out) | exact HB.out))) : w.heap.size ≤ gb144)); have n4_ := qac.mk ((by rw [hg]; exact (qav (by repeat (first | (with_reducible first | exact HB.out | apply qae | apply qab | apply qad | refine qah ?_ GE140.out) | exact HB.out))) : w.heap.size ≤ gb144)); have n5_ := qac.mk ((by rw [hg]; exact Nat.ne_of_lt (qbC (g := gb140) (o := .cells #[.string a0_0, .slice (some ad143) l0_1.length c0_1] 29 (0, 0)) (by (with_reducible repeat (first | refine qan ?_ _ | refine qap ?_ | refine qao ?_ _)); exact BK140.out)) : gb140 ≠ gb144)); have n6_ := qac.mk ((by rw [hg]; exact Nat.ne_of_gt (qbC (g := gb140) (o := .cells #[.string a0_0, .slice (some ad143) l0_1.length c0_1] 29 (0, 0)) (by (with_reducible repeat (first | refine qan ?_ _ | refine qap ?_ | refine qao ?_ _)); exact BK140.out)) : gb144 ≠ gb140)); clear BK140; clear HB; have BK140 := n0_; have HB := n1_; have BK144 := n2_; have GW144 := n3_; have GE144 := n4_; have NB140_144 := n5_; have NB144_140 := n6_; clear n0_ n1_ n2_ n3_ n4_ n5_ n6_; clear hb hbox hg; have hnb20 := NB144_140.out; have hnc20 := NB140_144.out; have hcz21_0 : w19.cell? ⟨gb144, 0, none⟩ = some (.int .i64 0) := (qas BK144.out 0).trans rfl; have hcz21_1 : w19.cell? ⟨gb144, 1, none⟩ = some (.int .i64 0) := (qas BK144.out 1).trans rfl; have hfz21_0 := qat BK144.out 0; have hfz21_1 := qat BK144.out 1))
          go_roundg k2
          case measure => have := HJ4.out; have := HK2.out; omega
          case rel => exact ⟨(wrap64 (x1_2 - (ji18))), (wrap64 (x7_2 + (wrap64 ((ji18) * ((qaI l0_1 x27_2).f1))))), (wrap64 (x27_2 + 1)), (by first | rfl | (simp; done) | (simp only [← hji18] <;> (first | rfl | simp)) | (simp [*]; done)), (by first | rfl | (simp; done) | (simp only [← hji18] <;> (first | rfl | simp)) | (simp [*]; done)), (by first | rfl | (simp; done) | (simp [*]; done)), H', ⟨by have := HJ4.out; have := HK2.out; omega⟩, ⟨by (with_reducible repeat (first | refine qan ?_ _ | refine qap ?_ | refine qao ?_ _)); refine qbA ?_ NB140_144.out _; (with_reducible repeat (first | refine qan ?_ _ | refine qap ?_ | refine qao ?_ _)); refine qbA ?_ NB140_144.out _; (with_reducible repeat (first | refine qan ?_ _ | refine qap ?_ | refine qao ?_ _)); exact BK140.out⟩, ⟨by repeat (first | (with_reducible first | exact HB.out | apply qae | apply qab | apply qad | refine qah ?_ GE140.out | refine qah ?_ GE144.out) | exact HB.out)⟩⟩
         ·rw [if_neg c17] at H; exact absurd H (by simp)
        ·rw [if_neg c16] at H; exact absurd H (by simp)
       ·rw [if_neg c15] at H; have c15b0 : decide (x27_2 < (l0_1.length : Int)) = false := decide_eq_false c15; clear c15; simp only [Option.some.injEq, Prod.mk.injEq] at H
        obtain ⟨rfl, rfl⟩ := H; go_wp2; go_ret2
        exact ⟨by first | rfl | (simp [qaz, qay] <;> rfl) | (simp [*, qaz, qay] <;> rfl), by repeat (first | (with_reducible first | exact HB.out | apply qae | apply qab | apply qad | refine qah ?_ GE140.out) | exact HB.out)⟩
 ·rw [if_neg c4] at H; have c4b0 : (t141 == 0) = false := beq_eq_false_iff_ne.mpr c4; have c4b1 : (t141 != 0) = true := bne_iff_ne.mpr c4; simp only [Option.some.injEq, Prod.mk.injEq] at H
  obtain ⟨rfl, rfl⟩ := H; go_enter Try.func46, Try.ntmps46; go_wp2_with (first | ((with_reducible refine qaV (N := 2) rfl ?_); refine qaU ?hg (N := 2) ?hd (cs := #[.string a0_0, .slice A0_1 l0_1.length c0_1]) (t := 29) ?hr ?_; (case hd => rfl); (case hg => rfl); (case hr => first | (go_simp; done) | (go_simp; rfl)); intro gb140 hg w22 hbox hb; have n0_ := qac.mk (qaB (by repeat (first | (with_reducible first | exact HB.out | apply qae | apply qab | apply qad) | exact HB.out)) hb); have n1_ := qac.mk (hbox); have n2_ := qac.mk ((by rw [hg]; exact (qav (by repeat (first | (with_reducible first | exact HB.out | apply qae | apply qab | apply qad) | exact HB.out))) : w.heap.size ≤ gb140)); have n3_ := qac.mk ((by rw [hg]; exact (qav (by repeat (first | (with_reducible first | exact HB.out | apply qae | apply qab | apply qad) | exact HB.out))) : w.heap.size ≤ gb140)); clear HB; have HB := n0_; have BK140 := n1_; have GW140 := n2_; have GE140 := n3_; clear n0_ n1_ n2_ n3_; clear hb hbox hg; have hcz23_0 : w22.cell? ⟨gb140, 0, none⟩ = some (.string a0_0) := (qas BK140.out 0).trans rfl; have hcz23_1 : w22.cell? ⟨gb140, 1, none⟩ = some (.slice A0_1 l0_1.length c0_1) := (qas BK140.out 1).trans rfl; have hfz23_0 := qat BK140.out 0; have hfz23_1 := qat BK140.out 1) | ((with_reducible refine qaL (f := 78) rfl ?_); refine qa9 (some 12) rfl rfl Try.func78 (by kernel_rfl) rfl #[.agg #[.string a0_0, .slice A0_1 l0_1.length c0_1]] rfl (by (try simp only [qy6, qy7, qy8]); first | done | rfl | (simp only [List.length_drop, List.length_take]; rfl)) ?_; (with_reducible refine (qaE.calls k a0_0 _ _ l0_1 t141 _ ?side1 ?side2 A3.out).mono ?_); (case side1 => repeat (first | exact (Kd.qbt HR0_1.out HB.out) | (with_reducible refine Kd.qbl ?_ _) | (with_reducible refine Kd.qbk ?_ _) | (with_reducible refine Kd.qbw ?_))); (case side2 => exact HC0_1.out); rintro e w24 ⟨rfl, hb⟩; refine ⟨_, rfl, ?_⟩; have n0_ := qac.mk (qaS (g := gb140) (o := .cells #[.string a0_0, .slice A0_1 l0_1.length c0_1] 29 (0, 0)) (by (with_reducible repeat (first | refine qan ?_ _ | refine qap ?_ | refine qao ?_ _)); exact BK140.out) hb); have n1_ := qac.mk (qaB (by repeat (first | (with_reducible first | exact HB.out | apply qae | apply qab | apply qad | refine qah ?_ GE140.out) | exact HB.out)) hb); clear BK140; clear HB; have BK140 := n0_; have HB := n1_; clear n0_ n1_; (try clear hb); (try clear hb2); (try clear hk); (try clear hi)))
  go_ret2
  exact ⟨by first | rfl | (simp [qaz, qay] <;> rfl) | (simp [*, qaz, qay] <;> rfl), by repeat (first | (with_reducible first | exact HB.out | apply qae | apply qab | apply qad | refine qah ?_ GE140.out) | exact HB.out)⟩
mutual
def qaH.l0 : Nat → List (S29) → List (S29) → Int → Int → Option (Int)
 | 0, _, _, _, _ => none
 | k + 1, x0, x11, x12, x13 => if x13 < x12 then (if 0 ≤ x13 then (if x13 < (x11.length : Int) then ((qaE.f k ((qbb x11 x13).f0) ((qbb x11 x13).f1)).bind fun t112 => (if t112 = 0 then (if x13 ≤ (x0.length : Int) then ((some (x0.take (x13 : Int).toNat : List (S29))).bind fun y113 => (qaH.l1 k x0 x11 x12 x13 y113 (y113.length : Int) 0 ((qbb x11 x13).f0) ((qbb x11 x13).f1))) else (none)) else (some t112))) else (none)) else (none)) else (some 0)
def qaH.l1 : Nat → List (S29) → List (S29) → Int → Int → List (S29) → Int → Int → ByteArray → List (S41) → Option (Int)
 | 0, _, _, _, _, _, _, _, _, _ => none
 | k + 1, x0, x11, x12, x13, x25, x26, x27, x112000, x112001 => if x27 < x26 then (if 0 ≤ x27 then (if x27 < (x25.length : Int) then (if ((qbb x25 x27).f0).toList = x112000.toList then (some 7) else (qaH.l1 k x0 x11 x12 x13 x25 x26 (wrap64 (x27 + 1)) x112000 x112001)) else (none)) else (none)) else (qaH.l0 k x0 x11 x12 (wrap64 (x13 + 1)))
end
def qaH.f (k : Nat) (l0 : List (S29)) : Option (Int) := if (l0.length : Int) > 10 then (some 2) else (qaH.l0 k l0 l0 (l0.length : Int) 0)
theorem qaH.qbe : ∀ k, (∀ y0 y1 y2 y3, LeO (qaH.l0 k y0 y1 y2 y3) (qaH.l0 (k + 1) y0 y1 y2 y3)) ∧ (∀ y0 y1 y2 y3 y4 y5 y6 y7 y8, LeO (qaH.l1 k y0 y1 y2 y3 y4 y5 y6 y7 y8) (qaH.l1 (k + 1) y0 y1 y2 y3 y4 y5 y6 y7 y8))
 | 0 => ⟨fun _ _ _ _ r h => by simp [qaH.l0] at h, fun _ _ _ _ _ _ _ _ _ r h => by simp [qaH.l1] at h⟩
 | k + 1 => by
  obtain ⟨ih0, ih1⟩ := qaH.qbe k
  refine ⟨?_, ?_⟩
  ·intro y0 y1 y2 y3; unfold qaH.l0
   repeat' first
   | (with_reducible exact ih0 _ _ _ _)
   | (with_reducible exact ih1 _ _ _ _ _ _ _ _ _)
   | (with_reducible exact qaE.mono _ _ _)
   | (with_reducible exact LeO.refl _)
   | (with_reducible exact LeO.none _)
   | (with_reducible refine LeO.ite ?_ ?_)
   | (with_reducible refine LeO.bind ?_ (fun _ => ?_))
   | exact ih0 _ _ _ _
   | exact ih1 _ _ _ _ _ _ _ _ _
   | exact qaE.mono _ _ _
   | exact LeO.none _
   | refine LeO.ite ?_ ?_
   | refine LeO.bind ?_ (fun _ => ?_)
  ·intro y0 y1 y2 y3 y4 y5 y6 y7 y8; unfold qaH.l1
   repeat' first
   | (with_reducible exact ih0 _ _ _ _)
   | (with_reducible exact ih1 _ _ _ _ _ _ _ _ _)
   | (with_reducible exact qaE.mono _ _ _)
   | (with_reducible exact LeO.refl _)
   | (with_reducible exact LeO.none _)
   | (with_reducible refine LeO.ite ?_ ?_)
   | (with_reducible refine LeO.bind ?_ (fun _ => ?_))
   | exact ih0 _ _ _ _
   | exact ih1 _ _ _ _ _ _ _ _ _
   | exact qaE.mono _ _ _
   | exact LeO.none _
   | refine LeO.ite ?_ ?_
   | refine LeO.bind ?_ (fun _ => ?_)
theorem qaH.mono : ∀ a0 k, LeO (qaH.f k a0) (qaH.f (k + 1) a0) := by
 intro a0 k; obtain ⟨ih0, ih1⟩ := qaH.qbe k
 unfold qaH.f
 repeat' first
   | (with_reducible exact ih0 _ _ _ _)
   | (with_reducible exact ih1 _ _ _ _ _ _ _ _ _)
   | (with_reducible exact qaE.mono _ _ _)
   | (with_reducible exact LeO.refl _)
   | (with_reducible exact LeO.none _)
   | (with_reducible refine LeO.ite ?_ ?_)
   | (with_reducible refine LeO.bind ?_ (fun _ => ?_))
   | exact ih0 _ _ _ _
   | exact ih1 _ _ _ _ _ _ _ _ _
   | exact qaE.mono _ _ _
   | exact LeO.none _
   | refine LeO.ite ?_ ?_
   | refine LeO.bind ?_ (fun _ => ?_)
set_option maxHeartbeats 8000000 in
set_option maxRecDepth 100000 in
theorem qaH.calls (k : Nat) (A0 : Option Addr) (c0 : Nat) (l0 : List (S29)) (r : Int) (w : World) (hr0 : Kd.C k29 w A0 l0.length l0) (hc0 : l0.length ≤ c0) (h : qaH.f k l0 = some r) :
  Calls Try.prog 52 #[.slice A0 l0.length c0] w fun e w' => e = .returned (.int .i64 r) ∧ Below w.heap.size w w' := by
 have hu29 := Try.underlying29; have HR0 := qac.mk hr0
 have HC0 := qac.mk hc0
 clear hr0 hc0; have HB := qac.mk (Below.refl w.heap.size w)
 have H : (if (l0.length : Int) > 10 then (some 2) else (qaH.l0 k l0 l0 (l0.length : Int) 0)) = some r := h
 clear h; by_cases c2 : (l0.length : Int) > 10
 ·rw [if_pos c2] at H; have c2b0 : decide (10 < (l0.length : Int)) = true := decide_eq_true c2; have c2b1 : decide (10 < l0.length) = true := decide_eq_true (by omega)
  clear c2; obtain rfl := Option.some.inj H
  go_enter Try.func52, Try.ntmps52; go_wp2; go_ret
  exact ⟨by first | rfl | (simp [qaz, qay] <;> rfl) | (simp [*, qaz, qay] <;> rfl), by repeat (first | (with_reducible first | exact HB.out | apply qae | apply qab | apply qad) | exact HB.out)⟩
 ·rw [if_neg c2] at H; have c2b0 : decide (10 < (l0.length : Int)) = false := decide_eq_false c2; have c2b1 : decide (10 < l0.length) = false := decide_eq_false (by omega)
  clear c2; have H' := qac.mk H; clear H; go_enter Try.func52, Try.ntmps52; go_wp2; go_loopg [13] k (fun kq v13 w' => ∃ (x13_1 : Int), v13 = .int .i64 x13_1 ∧ qac (qaH.l0 kq l0 l0 (l0.length : Int) x13_1 = some r) ∧ qac (kq ≤ k) ∧ qac (Below w.heap.size w w'))
  case atStart => exact ⟨(0), (by first | rfl | (simp; done) | (simp [*]; done)), H', ⟨Nat.le_refl _⟩, ⟨by repeat (first | (with_reducible first | exact HB.out | apply qae | apply qab | apply qad) | exact HB.out)⟩⟩
  case round =>
   clear H'; (try clear c2); (try clear c2b0); (try clear c2b1); (try clear p2); obtain ⟨x13_1, rfl, HA, HK1, HB⟩ := hrel
   cases gk with
   | zero => exact absurd HA.out (by simp [qaH.l0])
   | succ k1 =>
    have H := HA.out; clear HA; simp only [qaH.l0] at H
    by_cases c3 : x13_1 < (l0.length : Int)
    ·rw [if_pos c3] at H; have c3b0 : decide (x13_1 < (l0.length : Int)) = true := decide_eq_true c3; clear c3; by_cases c4 : 0 ≤ x13_1
     ·rw [if_pos c4] at H; have c4b0 : decide (0 ≤ x13_1) = true := decide_eq_true c4; clear c4; by_cases c5 : x13_1 < (l0.length : Int)
      ·rw [if_pos c5] at H; have c5b0 : decide (x13_1 < (l0.length : Int)) = true := decide_eq_true c5; clear c5; replace H := Option.bind_eq_some_iff.mp H; obtain ⟨t112, A60, H⟩ := H; replace H : (if t112 = 0 then (if x13_1 ≤ (l0.length : Int) then ((some (l0.take (x13_1 : Int).toNat : List (S29))).bind fun y113 => (qaH.l1 k1 l0 l0 (l0.length : Int) x13_1 y113 (y113.length : Int) 0 ((qbb l0 x13_1).f0) ((qbb l0 x13_1).f1))) else (none)) else (some t112)) = some r := H
       have A6 := qac.mk A60
       clear A60; by_cases c7 : t112 = 0
       ·rw [if_pos c7] at H; have c7b0 : (t112 == 0) = true := beq_iff_eq.mpr c7; have c7b1 : (t112 != 0) = false := bne_eq_false_iff_eq.mpr c7; clear c7; have c8b0 := eq_true (of_decide_eq_true (by first | (with_reducible assumption) | assumption) : 0 ≤ x13_1)
        by_cases c9 : x13_1 ≤ (l0.length : Int)
        ·rw [if_pos c9] at H; have c9b0 := eq_true c9
         have c9b1 : decide (x13_1 ≤ (l0.length : Int)) = true := decide_eq_true c9; clear c9; obtain ⟨y113, hy113⟩ : ∃ y_ : List (S29), y_ = (l0.take (x13_1 : Int).toNat) := ⟨_, rfl⟩
         replace H : (qaH.l1 k1 l0 l0 (l0.length : Int) x13_1 y113 (y113.length : Int) 0 ((qbb l0 x13_1).f0) ((qbb l0 x13_1).f1)) = some r := by first | (rw [hy113]; with_reducible exact H) | (have H2_ := (Option.bind_some _ _).symm.trans H; rw [hy113]; with_reducible exact H2_) | (have H2_ := (Option.bind_some _ _).symm.trans H; with_reducible exact H2_) | with_reducible exact H | (rw [hy113]; exact H) | exact H
         have Ny113 := qac.mk hy113
         clear hy113; have H' := qac.mk H; clear H; have p110 : 0 ≤ (x13_1 : Int) := of_decide_eq_true (by first | (with_reducible assumption) | assumption)
         have q110 : x13_1 < (l0.length : Int) := of_decide_eq_true (by first | (with_reducible assumption) | assumption)
         obtain ⟨ad110, A110_1, c110_1, e110, hx110_0, hx110_1, hl110_1, hi110_1⟩ := at_T29 HR0.out x13_1 p110 q110
         cases e110
         replace hx110_0 := (HB.out.cell (World.block_lt_of_cell? w _ hx110_0)).trans hx110_0
         replace hx110_1 := (HB.out.cell (World.block_lt_of_cell? w _ hx110_1)).trans hx110_1
         have HR110_1 := qac.mk hi110_1
         have HC110_1 := qac.mk hl110_1
         clear hi110_1 hl110_1; replace p110 := eq_true p110; replace q110 := eq_true q110; go_wp2_with (first | ((with_reducible refine qaV (N := 4) rfl ?_); refine qaU ?hg (N := 4) ?hd (cs := #[.string (⟨#[]⟩ : ByteArray), .slice none 0 0]) (t := 29) ?hr ?_; (case hd => rfl); (case hg => rfl); (case hr => first | (go_simp; done) | (go_simp; rfl)); intro gb111 hg w10 hbox hb; have n0_ := qac.mk (qaB (by repeat (first | (with_reducible first | exact HB.out | apply qae | apply qab | apply qad) | exact HB.out)) hb); have n1_ := qac.mk (hbox); have n2_ := qac.mk ((by rw [hg]; exact (qav (by repeat (first | (with_reducible first | exact HB.out | apply qae | apply qab | apply qad) | exact HB.out))) : w.heap.size ≤ gb111)); have n3_ := qac.mk ((by rw [hg]; exact (qav (by repeat (first | (with_reducible first | exact HB.out | apply qae | apply qab | apply qad) | exact HB.out))) : w.heap.size ≤ gb111)); clear HB; have HB := n0_; have BK111 := n1_; have GW111 := n2_; have GE111 := n3_; clear n0_ n1_ n2_ n3_; clear hb hbox hg; have hcz11_0 : w10.cell? ⟨gb111, 0, none⟩ = some (.string (⟨#[]⟩ : ByteArray)) := (qas BK111.out 0).trans rfl; have hcz11_1 : w10.cell? ⟨gb111, 1, none⟩ = some (.slice none 0 0) := (qas BK111.out 1).trans rfl; have hfz11_0 := qat BK111.out 0; have hfz11_1 := qat BK111.out 1) | ((with_reducible refine qaL (f := 78) rfl ?_); refine qa9 (some 19) rfl rfl Try.func78 (by kernel_rfl) rfl #[.agg #[.string ((qbb l0 x13_1).f0), .slice A110_1 ((qbb l0 x13_1).f1).length c110_1]] rfl (by (try simp only [qy6, qy7, qy8]); first | done | rfl | (simp only [List.length_drop, List.length_take]; rfl)) ?_; (with_reducible refine (qaE.calls k1 ((qbb l0 x13_1).f0) _ _ ((qbb l0 x13_1).f1) t112 _ ?side1 ?side2 A6.out).mono ?_); (case side1 => exact Kd.qbt HR110_1.out (by repeat (first | (with_reducible first | exact HB.out | apply qae | apply qab | apply qad | refine qah ?_ GE111.out) | exact HB.out))); (case side2 => exact HC110_1.out); rintro e w12 ⟨rfl, hb⟩; refine ⟨_, rfl, ?_⟩; have n0_ := qac.mk (qaS (g := gb111) (o := .cells #[.string ((qbb l0 x13_1).f0), .slice A110_1 ((qbb l0 x13_1).f1).length c110_1] 29 (0, 0)) (by (with_reducible repeat (first | refine qan ?_ _ | refine qap ?_ | refine qao ?_ _)); refine qa1 (cs := #[.string ((qbb l0 x13_1).f0), .slice none 0 0]) ?_ 1 _ rfl; (with_reducible repeat (first | refine qan ?_ _ | refine qap ?_ | refine qao ?_ _)); refine qa1 (cs := #[.string (⟨#[]⟩ : ByteArray), .slice none 0 0]) ?_ 0 _ rfl; (with_reducible repeat (first | refine qan ?_ _ | refine qap ?_ | refine qao ?_ _)); exact BK111.out) hb); have n1_ := qac.mk (qaB (by repeat (first | (with_reducible first | exact HB.out | apply qae | apply qab | apply qad | refine qah ?_ GE111.out) | exact HB.out)) hb); clear BK111; clear HB; have BK111 := n0_; have HB := n1_; clear n0_ n1_; (try clear hb); (try clear hb2); (try clear hk); (try clear hi); have q13 : (x13_1 : Int) ≤ ((l0.length : Int) : Int) := of_decide_eq_true (by first | (with_reducible assumption) | assumption); obtain ⟨i013, hi013, _, hsz13, _⟩ := info_parts info29; have hroom13 : l0.length ≤ c0 := HC0.out; have hC13 : Kd.C k29 _ (some ad110) l0.length l0 := HR0.out; have hcut13 := cut_to (P := Try.prog) 33 29 .i64 Try.underlying33 hi013 (some ad110) l0.length c0 x13_1 (of_decide_eq_true (by first | (with_reducible assumption) | assumption)) q13 hroom13; have hr13 := Kd.C_take (m := (x13_1 : Int).toNat) hC13 (by omega); have hy13 : y113.length = (x13_1 : Int).toNat := (by rw [Ny113.out, List.length_take]; omega); rw [← Ny113.out] at hr13; rw [← hy13] at hcut13; have HR116 := qac.mk hr13; have HC116 := qac.mk (show y113.length ≤ c0 from by omega); clear hr13 hC13 hroom13 hi013 hsz13; have KY13 := qac.mk hy13; clear hy13; replace q13 := eq_true q13))
         (try simp only [Act.put, List.setIfInBounds_toArray, List.set_cons_zero, List.set_cons_succ])
         go_loopg [27] k1 (fun kq v27 w' => ∃ (x27_2 : Int), v27 = .int .i64 x27_2 ∧ qac (qaH.l1 kq l0 l0 (l0.length : Int) x13_1 y113 (y113.length : Int) x27_2 ((qbb l0 x13_1).f0) ((qbb l0 x13_1).f1) = some r) ∧ qac (kq ≤ k1) ∧ qac (w'.heap[gb111]? = some (.cells #[.string ((qbb l0 x13_1).f0), (.slice A110_1 ((qbb l0 x13_1).f1).length c110_1)] 29 (0, 0))) ∧ qac (Below w.heap.size w w'))
         case atStart => exact ⟨(0), (by first | rfl | (simp; done) | (simp [*]; done)), H', ⟨Nat.le_refl _⟩, ⟨by (with_reducible repeat (first | refine qan ?_ _ | refine qap ?_ | refine qao ?_ _)); exact BK111.out⟩, ⟨by repeat (first | (with_reducible first | exact HB.out | apply qae | apply qab | apply qad | refine qah ?_ GE111.out) | exact HB.out)⟩⟩
         case round =>
          clear H'; (try clear c1); (try clear p1); (try clear q1); (try clear hx1); (try clear c2); (try clear c2b0); (try clear c2b1); (try clear p2); (try clear c3); (try clear c3b0); (try clear c4); (try clear c4b0); (try clear c5); (try clear c5b0); (try clear c7); (try clear c7b0); (try clear c7b1); (try clear c8); (try clear c8b0); (try clear c9); (try clear c9b0); (try clear c9b1); (try clear c11); (try clear p11); (try clear q11); (try clear hx11); (try clear q13); (try clear hcz11_0); (try clear hcz11_1); (try clear hfz11_0); (try clear hfz11_1); (try clear hx110_0); (try clear hx110_1); (try clear p110); (try clear p2); (try clear q110); (try clear q13); obtain ⟨x27_2, rfl, HA, HK2, BK111, HB⟩ := hrel
          cases gk with
          | zero => exact absurd HA.out (by simp [qaH.l1])
          | succ k2 =>
           have H := HA.out; clear HA; simp only [qaH.l1] at H
           by_cases c14 : x27_2 < (y113.length : Int)
           ·rw [if_pos c14] at H; have c14b0 : decide (x27_2 < (y113.length : Int)) = true := decide_eq_true c14; clear c14; by_cases c15 : 0 ≤ x27_2
            ·rw [if_pos c15] at H; have c15b0 : decide (0 ≤ x27_2) = true := decide_eq_true c15; clear c15; by_cases c16 : x27_2 < (y113.length : Int)
             ·rw [if_pos c16] at H; have c16b0 : decide (x27_2 < (y113.length : Int)) = true := decide_eq_true c16; clear c16; by_cases c17 : ((qbb y113 x27_2).f0).toList = ((qbb l0 x13_1).f0).toList
              ·rw [if_pos c17] at H; have c17b0 : (((qbb y113 x27_2).f0).toList == ((qbb l0 x13_1).f0).toList) = true := beq_iff_eq.mpr c17; have c17b1 : (((qbb y113 x27_2).f0).toList != ((qbb l0 x13_1).f0).toList) = false := bne_eq_false_iff_eq.mpr c17; clear c17; obtain rfl := Option.some.inj H
               have p117 : 0 ≤ (x27_2 : Int) := of_decide_eq_true (by first | (with_reducible assumption) | assumption)
               have q117 : x27_2 < (y113.length : Int) := of_decide_eq_true (by first | (with_reducible assumption) | assumption)
               obtain ⟨ad117, A117_1, c117_1, e117, hx117_0, hx117_1, hl117_1, hi117_1⟩ := at_T29 HR116.out x27_2 p117 q117
               obtain rfl : ad110 = ad117 := (by injection e117)
               replace hx117_0 := (HB.out.cell (World.block_lt_of_cell? w _ hx117_0)).trans hx117_0
               replace hx117_1 := (HB.out.cell (World.block_lt_of_cell? w _ hx117_1)).trans hx117_1
               have HR117_1 := qac.mk hi117_1
               have HC117_1 := qac.mk hl117_1
               clear hi117_1 hl117_1; replace p117 := eq_true p117; replace q117 := eq_true q117; go_wp2_with (first | ((with_reducible refine qaV (N := 7) rfl ?_); refine qaU ?hg (N := 7) ?hd (cs := #[.string (⟨#[]⟩ : ByteArray), .slice none 0 0]) (t := 29) ?hr ?_; (case hd => rfl); (case hg => rfl); (case hr => first | (go_simp; done) | (go_simp; rfl)); intro gb118 hg w18 hbox hb; have n0_ := qac.mk (qaS (g := gb111) (o := .cells #[.string ((qbb l0 x13_1).f0), .slice A110_1 ((qbb l0 x13_1).f1).length c110_1] 29 (0, 0)) (by (with_reducible repeat (first | refine qan ?_ _ | refine qap ?_ | refine qao ?_ _)); exact BK111.out) hb); have n1_ := qac.mk (qaB (by repeat (first | (with_reducible first | exact HB.out | apply qae | apply qab | apply qad | refine qah ?_ GE111.out) | exact HB.out)) hb); have n2_ := qac.mk (hbox); have n3_ := qac.mk ((by rw [hg]; exact (qav (by repeat (first | (with_reducible first | exact HB.out | apply qae | apply qab | apply qad | refine qah ?_ GE111.out) | exact HB.out))) : w.heap.size ≤ gb118)); have n4_ := qac.mk ((by rw [hg]; exact (qav (by repeat (first | (with_reducible first | exact HB.out | apply qae | apply qab | apply qad | refine qah ?_ GE111.out) | exact HB.out))) : w.heap.size ≤ gb118)); have n5_ := qac.mk ((by rw [hg]; exact Nat.ne_of_lt (qbC (g := gb111) (o := .cells #[.string ((qbb l0 x13_1).f0), .slice A110_1 ((qbb l0 x13_1).f1).length c110_1] 29 (0, 0)) (by (with_reducible repeat (first | refine qan ?_ _ | refine qap ?_ | refine qao ?_ _)); exact BK111.out)) : gb111 ≠ gb118)); have n6_ := qac.mk ((by rw [hg]; exact Nat.ne_of_gt (qbC (g := gb111) (o := .cells #[.string ((qbb l0 x13_1).f0), .slice A110_1 ((qbb l0 x13_1).f1).length c110_1] 29 (0, 0)) (by (with_reducible repeat (first | refine qan ?_ _ | refine qap ?_ | refine qao ?_ _)); exact BK111.out)) : gb118 ≠ gb111)); clear BK111; clear HB; have BK111 := n0_; have HB := n1_; have BK118 := n2_; have GW118 := n3_; have GE118 := n4_; have NB111_118 := n5_; have NB118_111 := n6_; clear n0_ n1_ n2_ n3_ n4_ n5_ n6_; clear hb hbox hg; have hnb19 := NB118_111.out; have hnc19 := NB111_118.out; have hcz20_0 : w18.cell? ⟨gb118, 0, none⟩ = some (.string (⟨#[]⟩ : ByteArray)) := (qas BK118.out 0).trans rfl; have hcz20_1 : w18.cell? ⟨gb118, 1, none⟩ = some (.slice none 0 0) := (qas BK118.out 1).trans rfl; have hfz20_0 := qat BK118.out 0; have hfz20_1 := qat BK118.out 1; have hcz21_0 : w18.cell? ⟨gb111, 0, none⟩ = some (.string ((qbb l0 x13_1).f0)) := (qas BK111.out 0).trans rfl; have hcz21_1 : w18.cell? ⟨gb111, 1, none⟩ = some (.slice A110_1 ((qbb l0 x13_1).f1).length c110_1) := (qas BK111.out 1).trans rfl; have hfz21_0 := qat BK111.out 0; have hfz21_1 := qat BK111.out 1))
               go_ret
               exact ⟨by first | rfl | (simp [qaz, qay] <;> rfl) | (simp [*, qaz, qay] <;> rfl), by repeat (first | (with_reducible first | exact HB.out | apply qae | apply qab | apply qad | refine qah ?_ GE111.out | refine qah ?_ GE118.out) | exact HB.out)⟩
              ·rw [if_neg c17] at H; have c17b0 : (((qbb y113 x27_2).f0).toList == ((qbb l0 x13_1).f0).toList) = false := beq_eq_false_iff_ne.mpr c17; have c17b1 : (((qbb y113 x27_2).f0).toList != ((qbb l0 x13_1).f0).toList) = true := bne_iff_ne.mpr c17; have H' := qac.mk H; clear H; have p117 : 0 ≤ (x27_2 : Int) := of_decide_eq_true (by first | (with_reducible assumption) | assumption)
               have q117 : x27_2 < (y113.length : Int) := of_decide_eq_true (by first | (with_reducible assumption) | assumption)
               obtain ⟨ad117, A117_1, c117_1, e117, hx117_0, hx117_1, hl117_1, hi117_1⟩ := at_T29 HR116.out x27_2 p117 q117
               obtain rfl : ad110 = ad117 := (by injection e117)
               replace hx117_0 := (HB.out.cell (World.block_lt_of_cell? w _ hx117_0)).trans hx117_0
               replace hx117_1 := (HB.out.cell (World.block_lt_of_cell? w _ hx117_1)).trans hx117_1
               have HR117_1 := qac.mk hi117_1
               have HC117_1 := qac.mk hl117_1
               clear hi117_1 hl117_1; replace p117 := eq_true p117; replace q117 := eq_true q117; go_wp2_with (first | ((with_reducible refine qaV (N := 7) rfl ?_); refine qaU ?hg (N := 7) ?hd (cs := #[.string (⟨#[]⟩ : ByteArray), .slice none 0 0]) (t := 29) ?hr ?_; (case hd => rfl); (case hg => rfl); (case hr => first | (go_simp; done) | (go_simp; rfl)); intro gb118 hg w22 hbox hb; have n0_ := qac.mk (qaS (g := gb111) (o := .cells #[.string ((qbb l0 x13_1).f0), .slice A110_1 ((qbb l0 x13_1).f1).length c110_1] 29 (0, 0)) (by (with_reducible repeat (first | refine qan ?_ _ | refine qap ?_ | refine qao ?_ _)); exact BK111.out) hb); have n1_ := qac.mk (qaB (by repeat (first | (with_reducible first | exact HB.out | apply qae | apply qab | apply qad | refine qah ?_ GE111.out) | exact HB.out)) hb); have n2_ := qac.mk (hbox); have n3_ := qac.mk ((by rw [hg]; exact (qav (by repeat (first | (with_reducible first | exact HB.out | apply qae | apply qab | apply qad | refine qah ?_ GE111.out) | exact HB.out))) : w.heap.size ≤ gb118)); have n4_ := qac.mk ((by rw [hg]; exact (qav (by repeat (first | (with_reducible first | exact HB.out | apply qae | apply qab | apply qad | refine qah ?_ GE111.out) | exact HB.out))) : w.heap.size ≤ gb118)); have n5_ := qac.mk ((by rw [hg]; exact Nat.ne_of_lt (qbC (g := gb111) (o := .cells #[.string ((qbb l0 x13_1).f0), .slice A110_1 ((qbb l0 x13_1).f1).length c110_1] 29 (0, 0)) (by (with_reducible repeat (first | refine qan ?_ _ | refine qap ?_ | refine qao ?_ _)); exact BK111.out)) : gb111 ≠ gb118)); have n6_ := qac.mk ((by rw [hg]; exact Nat.ne_of_gt (qbC (g := gb111) (o := .cells #[.string ((qbb l0 x13_1).f0), .slice A110_1 ((qbb l0 x13_1).f1).length c110_1] 29 (0, 0)) (by (with_reducible repeat (first | refine qan ?_ _ | refine qap ?_ | refine qao ?_ _)); exact BK111.out)) : gb118 ≠ gb111)); clear BK111; clear HB; have BK111 := n0_; have HB := n1_; have BK118 := n2_; have GW118 := n3_; have GE118 := n4_; have NB111_118 := n5_; have NB118_111 := n6_; clear n0_ n1_ n2_ n3_ n4_ n5_ n6_; clear hb hbox hg; have hnb23 := NB118_111.out; have hnc23 := NB111_118.out; have hcz24_0 : w22.cell? ⟨gb118, 0, none⟩ = some (.string (⟨#[]⟩ : ByteArray)) := (qas BK118.out 0).trans rfl; have hcz24_1 : w22.cell? ⟨gb118, 1, none⟩ = some (.slice none 0 0) := (qas BK118.out 1).trans rfl; have hfz24_0 := qat BK118.out 0; have hfz24_1 := qat BK118.out 1; have hcz25_0 : w22.cell? ⟨gb111, 0, none⟩ = some (.string ((qbb l0 x13_1).f0)) := (qas BK111.out 0).trans rfl; have hcz25_1 : w22.cell? ⟨gb111, 1, none⟩ = some (.slice A110_1 ((qbb l0 x13_1).f1).length c110_1) := (qas BK111.out 1).trans rfl; have hfz25_0 := qat BK111.out 0; have hfz25_1 := qat BK111.out 1))
               go_roundg k2
               case measure => have := HK1.out; have := HK2.out; omega
               case rel => exact ⟨(wrap64 (x27_2 + 1)), (by first | rfl | (simp; done) | (simp [*]; done)), H', ⟨by have := HK1.out; have := HK2.out; omega⟩, ⟨by (with_reducible repeat (first | refine qan ?_ _ | refine qap ?_ | refine qao ?_ _)); refine qbA ?_ NB111_118.out _; (with_reducible repeat (first | refine qan ?_ _ | refine qap ?_ | refine qao ?_ _)); refine qbA ?_ NB111_118.out _; (with_reducible repeat (first | refine qan ?_ _ | refine qap ?_ | refine qao ?_ _)); exact BK111.out⟩, ⟨by repeat (first | (with_reducible first | exact HB.out | apply qae | apply qab | apply qad | refine qah ?_ GE111.out | refine qah ?_ GE118.out) | exact HB.out)⟩⟩
             ·rw [if_neg c16] at H; exact absurd H (by simp)
            ·rw [if_neg c15] at H; exact absurd H (by simp)
           ·rw [if_neg c14] at H; have c14b0 : decide (x27_2 < (y113.length : Int)) = false := decide_eq_false c14; clear c14; have H' := qac.mk H; clear H; go_wp2; go_roundg k2
            case measure => have := HK1.out; have := HK2.out; omega
            case rel => exact ⟨(wrap64 (x13_1 + 1)), (by first | rfl | (simp; done) | (simp [*]; done)), H', ⟨by have := HK1.out; have := HK2.out; omega⟩, ⟨by repeat (first | (with_reducible first | exact HB.out | apply qae | apply qab | apply qad | refine qah ?_ GE111.out) | exact HB.out)⟩⟩
        ·rw [if_neg c9] at H; exact absurd H (by simp)
       ·rw [if_neg c7] at H; have c7b0 : (t112 == 0) = false := beq_eq_false_iff_ne.mpr c7; have c7b1 : (t112 != 0) = true := bne_iff_ne.mpr c7; obtain rfl := Option.some.inj H
        have p110 : 0 ≤ (x13_1 : Int) := of_decide_eq_true (by first | (with_reducible assumption) | assumption)
        have q110 : x13_1 < (l0.length : Int) := of_decide_eq_true (by first | (with_reducible assumption) | assumption)
        obtain ⟨ad110, A110_1, c110_1, e110, hx110_0, hx110_1, hl110_1, hi110_1⟩ := at_T29 HR0.out x13_1 p110 q110
        cases e110
        replace hx110_0 := (HB.out.cell (World.block_lt_of_cell? w _ hx110_0)).trans hx110_0
        replace hx110_1 := (HB.out.cell (World.block_lt_of_cell? w _ hx110_1)).trans hx110_1
        have HR110_1 := qac.mk hi110_1
        have HC110_1 := qac.mk hl110_1
        clear hi110_1 hl110_1; replace p110 := eq_true p110; replace q110 := eq_true q110; go_wp2_with (first | ((with_reducible refine qaV (N := 4) rfl ?_); refine qaU ?hg (N := 4) ?hd (cs := #[.string (⟨#[]⟩ : ByteArray), .slice none 0 0]) (t := 29) ?hr ?_; (case hd => rfl); (case hg => rfl); (case hr => first | (go_simp; done) | (go_simp; rfl)); intro gb111 hg w26 hbox hb; have n0_ := qac.mk (qaB (by repeat (first | (with_reducible first | exact HB.out | apply qae | apply qab | apply qad) | exact HB.out)) hb); have n1_ := qac.mk (hbox); have n2_ := qac.mk ((by rw [hg]; exact (qav (by repeat (first | (with_reducible first | exact HB.out | apply qae | apply qab | apply qad) | exact HB.out))) : w.heap.size ≤ gb111)); have n3_ := qac.mk ((by rw [hg]; exact (qav (by repeat (first | (with_reducible first | exact HB.out | apply qae | apply qab | apply qad) | exact HB.out))) : w.heap.size ≤ gb111)); clear HB; have HB := n0_; have BK111 := n1_; have GW111 := n2_; have GE111 := n3_; clear n0_ n1_ n2_ n3_; clear hb hbox hg; have hcz27_0 : w26.cell? ⟨gb111, 0, none⟩ = some (.string (⟨#[]⟩ : ByteArray)) := (qas BK111.out 0).trans rfl; have hcz27_1 : w26.cell? ⟨gb111, 1, none⟩ = some (.slice none 0 0) := (qas BK111.out 1).trans rfl; have hfz27_0 := qat BK111.out 0; have hfz27_1 := qat BK111.out 1) | ((with_reducible refine qaL (f := 78) rfl ?_); refine qa9 (some 19) rfl rfl Try.func78 (by kernel_rfl) rfl #[.agg #[.string ((qbb l0 x13_1).f0), .slice A110_1 ((qbb l0 x13_1).f1).length c110_1]] rfl (by (try simp only [qy6, qy7, qy8]); first | done | rfl | (simp only [List.length_drop, List.length_take]; rfl)) ?_; (with_reducible refine (qaE.calls k1 ((qbb l0 x13_1).f0) _ _ ((qbb l0 x13_1).f1) t112 _ ?side1 ?side2 A6.out).mono ?_); (case side1 => exact Kd.qbt HR110_1.out (by repeat (first | (with_reducible first | exact HB.out | apply qae | apply qab | apply qad | refine qah ?_ GE111.out) | exact HB.out))); (case side2 => exact HC110_1.out); rintro e w28 ⟨rfl, hb⟩; refine ⟨_, rfl, ?_⟩; have n0_ := qac.mk (qaS (g := gb111) (o := .cells #[.string ((qbb l0 x13_1).f0), .slice A110_1 ((qbb l0 x13_1).f1).length c110_1] 29 (0, 0)) (by (with_reducible repeat (first | refine qan ?_ _ | refine qap ?_ | refine qao ?_ _)); refine qa1 (cs := #[.string ((qbb l0 x13_1).f0), .slice none 0 0]) ?_ 1 _ rfl; (with_reducible repeat (first | refine qan ?_ _ | refine qap ?_ | refine qao ?_ _)); refine qa1 (cs := #[.string (⟨#[]⟩ : ByteArray), .slice none 0 0]) ?_ 0 _ rfl; (with_reducible repeat (first | refine qan ?_ _ | refine qap ?_ | refine qao ?_ _)); exact BK111.out) hb); have n1_ := qac.mk (qaB (by repeat (first | (with_reducible first | exact HB.out | apply qae | apply qab | apply qad | refine qah ?_ GE111.out) | exact HB.out)) hb); clear BK111; clear HB; have BK111 := n0_; have HB := n1_; clear n0_ n1_; (try clear hb); (try clear hb2); (try clear hk); (try clear hi)))
        go_ret
        exact ⟨by first | rfl | (simp [qaz, qay] <;> rfl) | (simp [*, qaz, qay] <;> rfl), by repeat (first | (with_reducible first | exact HB.out | apply qae | apply qab | apply qad | refine qah ?_ GE111.out) | exact HB.out)⟩
      ·rw [if_neg c5] at H; exact absurd H (by simp)
     ·rw [if_neg c4] at H; exact absurd H (by simp)
    ·rw [if_neg c3] at H; have c3b0 : decide (x13_1 < (l0.length : Int)) = false := decide_eq_false c3; clear c3; obtain rfl := Option.some.inj H
     go_wp2; go_ret
     exact ⟨by first | rfl | (simp [qaz, qay] <;> rfl) | (simp [*, qaz, qay] <;> rfl), by repeat (first | (with_reducible first | exact HB.out | apply qae | apply qab | apply qad) | exact HB.out)⟩
mutual
def qaF.l0 : Nat → List (S32) → List (S29) → List (S32) → Int → Int → Option (Int)
 | 0, _, _, _, _, _ => none
 | k + 1, x0, x3, x9, x10, x11 => if x11 < x10 then (if 0 ≤ x11 then (if x11 < (x9.length : Int) then (if x3.length < 3518437208883 then (qaF.l0 k x0 (x3 ++ [(⟨(qam x9 x11).f0.f0, (qam x9 x11).f0.f1⟩ : S29)]) x9 x10 (wrap64 (x11 + 1))) else (none)) else (none)) else (none)) else ((qaH.f k x3).bind fun t194 => (if t194 = 0 then (qaF.l1 k x0 (x0.length : Int) 0) else (some t194)))
def qaF.l1 : Nat → List (S32) → Int → Int → Option (Int)
 | 0, _, _, _ => none
 | k + 1, x26, x27, x28 => if x28 < x27 then (if 0 ≤ x28 then (if x28 < (x26.length : Int) then (if ((qam x26 x28).f1) < 0 then (some 4) else (if ((qam x26 x28).f1) > 100000 then (some 4) else (qaF.l1 k x26 x27 (wrap64 (x28 + 1))))) else (none)) else (none)) else (some 0)
end
def qaF.f (k : Nat) (l0 : List (S32)) : Option (Int) := qaF.l0 k l0 ([] : List (S29)) l0 (l0.length : Int) 0
theorem qaF.qbe : ∀ k, (∀ y0 y1 y2 y3 y4, LeO (qaF.l0 k y0 y1 y2 y3 y4) (qaF.l0 (k + 1) y0 y1 y2 y3 y4)) ∧ (∀ y0 y1 y2, LeO (qaF.l1 k y0 y1 y2) (qaF.l1 (k + 1) y0 y1 y2))
 | 0 => ⟨fun _ _ _ _ _ r h => by simp [qaF.l0] at h, fun _ _ _ r h => by simp [qaF.l1] at h⟩
 | k + 1 => by
  obtain ⟨ih0, ih1⟩ := qaF.qbe k
  refine ⟨?_, ?_⟩
  ·intro y0 y1 y2 y3 y4; unfold qaF.l0
   repeat' first
   | (with_reducible exact ih0 _ _ _ _ _)
   | (with_reducible exact ih1 _ _ _)
   | (with_reducible exact qaH.mono _ _)
   | (with_reducible exact LeO.refl _)
   | (with_reducible exact LeO.none _)
   | (with_reducible refine LeO.ite ?_ ?_)
   | (with_reducible refine LeO.bind ?_ (fun _ => ?_))
   | exact ih0 _ _ _ _ _
   | exact ih1 _ _ _
   | exact qaH.mono _ _
   | exact LeO.none _
   | refine LeO.ite ?_ ?_
   | refine LeO.bind ?_ (fun _ => ?_)
  ·intro y0 y1 y2; unfold qaF.l1
   repeat' first
   | (with_reducible exact ih0 _ _ _ _ _)
   | (with_reducible exact ih1 _ _ _)
   | (with_reducible exact qaH.mono _ _)
   | (with_reducible exact LeO.refl _)
   | (with_reducible exact LeO.none _)
   | (with_reducible refine LeO.ite ?_ ?_)
   | (with_reducible refine LeO.bind ?_ (fun _ => ?_))
   | exact ih0 _ _ _ _ _
   | exact ih1 _ _ _
   | exact qaH.mono _ _
   | exact LeO.none _
   | refine LeO.ite ?_ ?_
   | refine LeO.bind ?_ (fun _ => ?_)
theorem qaF.mono : ∀ a0 k, LeO (qaF.f k a0) (qaF.f (k + 1) a0) := by
 intro a0 k; obtain ⟨ih0, ih1⟩ := qaF.qbe k
 unfold qaF.f
 repeat' first
   | (with_reducible exact ih0 _ _ _ _ _)
   | (with_reducible exact ih1 _ _ _)
   | (with_reducible exact qaH.mono _ _)
   | (with_reducible exact LeO.refl _)
   | (with_reducible exact LeO.none _)
   | (with_reducible refine LeO.ite ?_ ?_)
   | (with_reducible refine LeO.bind ?_ (fun _ => ?_))
   | exact ih0 _ _ _ _ _
   | exact ih1 _ _ _
   | exact qaH.mono _ _
   | exact LeO.none _
   | refine LeO.ite ?_ ?_
   | refine LeO.bind ?_ (fun _ => ?_)
set_option maxHeartbeats 8000000 in
set_option maxRecDepth 100000 in
theorem qaF.calls (k : Nat) (P0_ : Nat → Prop) (A0 : Option Addr) (c0 : Nat) (l0 : List (S32)) (r : Int) (w : World) (hs0 : Kd.V k32 32 w w.heap.size (fun k_ => P0_ k_) (.slice A0 l0.length c0) l0) (h : qaF.f k l0 = some r) :
  Calls Try.prog 19 #[.slice A0 l0.length c0] w fun e w' => e = .returned (.int .i64 r) ∧ Below w.heap.size w w' := by
 have hu32 := Try.underlying32; have hu29 := Try.underlying29; have HO0 := qac.mk (show Kd.V k32 32 w w.heap.size (fun k_ => (P0_ k_ ∨ w.heap.size ≤ k_)) (.slice A0 l0.length c0) l0 from Kd.qbz hs0 (fun k_ hk => .inl hk))
 have HB := qac.mk (Below.refl w.heap.size w)
 have H : (qaF.l0 k l0 ([] : List (S29)) l0 (l0.length : Int) 0) = some r := h
 clear h; have H' := qac.mk H; clear H; go_enter Try.func19, Try.ntmps19; go_wp2; go_loopg [3, 11] k (fun kq v3 v11 w' => ∃ (x3_1 : List (S29)) (x11_1 : Int), v11 = .int .i64 x11_1 ∧ qac (qaF.l0 kq l0 x3_1 l0 (l0.length : Int) x11_1 = some r) ∧ qac (kq ≤ k) ∧ qac (Kd.V k32 32 w' w.heap.size (fun k_ => (P0_ k_ ∨ w.heap.size ≤ k_) ∧ some k_ ≠ (v3 : Value).ownBlock) (.slice A0 l0.length c0) l0) ∧ qac (Kd.N k29 29 w' w.heap.size (fun k_ => (P0_ k_ ∨ w.heap.size ≤ k_)) v3 x3_1) ∧ qac (Kd.V k32 32 w' w.heap.size (fun k_ => (P0_ k_ ∨ w.heap.size ≤ k_) ∧ some k_ ≠ (v3 : Value).ownBlock) (.slice A0 l0.length c0) l0) ∧ qac (Below w.heap.size w w'))
 case atStart => exact ⟨(([] : List (S29))), (0), (by first | rfl | (simp; done) | (simp [*]; done)), H', ⟨Nat.le_refl _⟩, ⟨by (with_reducible repeat (first | apply Kd.qaX | apply Kd.qaW | apply Kd.qba)); exact Kd.qbz HO0.out (fun _ hk => ⟨hk, (by simp [Value.ownBlock])⟩)⟩, ⟨by first | exact Kd.S_nil _ _ _ _ _ | exact Kd.N_nil _ _ _ _ _ | exact Kd.V_nil _ _ _ _ _ | exact Kd.Q_nil _ _ _ _ _ | exact Kd.R_nil _ _ _ _ _⟩, ⟨by (with_reducible repeat (first | apply Kd.qaX | apply Kd.qaW | apply Kd.qba)); exact Kd.qbz HO0.out (fun _ hk => ⟨hk, (by simp [Value.ownBlock])⟩)⟩, ⟨by repeat (first | (with_reducible first | exact HB.out | apply qae | apply qab | apply qad) | exact HB.out)⟩⟩
 case round =>
  clear H'; (try clear c1); obtain ⟨x3_1, x11_1, rfl, HA, HK1, HO_0, HO_3, HO_9, HB⟩ := hrel
  cases gk with
  | zero => exact absurd HA.out (by simp [qaF.l0])
  | succ k1 =>
   have H := HA.out; clear HA; simp only [qaF.l0] at H
   by_cases c2 : x11_1 < (l0.length : Int)
   ·rw [if_pos c2] at H; have c2b0 : decide (x11_1 < (l0.length : Int)) = true := decide_eq_true c2; clear c2; by_cases c3 : 0 ≤ x11_1
    ·rw [if_pos c3] at H; have c3b0 : decide (0 ≤ x11_1) = true := decide_eq_true c3; clear c3; by_cases c4 : x11_1 < (l0.length : Int)
     ·rw [if_pos c4] at H; have c4b0 : decide (x11_1 < (l0.length : Int)) = true := decide_eq_true c4; clear c4; by_cases c5 : x3_1.length < 3518437208883
      ·rw [if_pos c5] at H; have LMc5 := qac.mk c5
       clear c5; obtain ⟨y191, hy191⟩ : ∃ y_ : List (S29), y_ = (x3_1 ++ [(⟨(qam l0 x11_1).f0.f0, (qam l0 x11_1).f0.f1⟩ : S29)]) := ⟨_, rfl⟩
       replace H : (qaF.l0 k1 l0 y191 l0 (l0.length : Int) (wrap64 (x11_1 + 1))) = some r := by first | (rw [hy191]; with_reducible exact H) | (have H2_ := (Option.bind_some _ _).symm.trans H; rw [hy191]; with_reducible exact H2_) | (have H2_ := (Option.bind_some _ _).symm.trans H; with_reducible exact H2_) | with_reducible exact H | (rw [hy191]; exact H) | exact H
       have Ny191 := qac.mk hy191
       clear hy191; have H' := qac.mk H; clear H; have p189 : 0 ≤ (x11_1 : Int) := of_decide_eq_true (by first | (with_reducible assumption) | assumption)
       have q189 : x11_1 < (l0.length : Int) := of_decide_eq_true (by first | (with_reducible assumption) | assumption)
       obtain ⟨ad189, A189_1, c189_1, e189, hx189_0, hx189_1, hx189_2, hl189_1, hi189_1⟩ := at_T32 (Kd.qbR HO_9.out).2.2 x11_1 p189 q189
       cases e189
       obtain ⟨ce189, hce189, hMe189, hcc189⟩ := Kd.V_get HO_9.out z32 x11_1 p189 (by first | exact q189 | exact of_decide_eq_true (by first | (with_reducible assumption) | assumption) | (have e_ := (Kd.qbR HO_9.out).1; omega))
       obtain ⟨ua189_1, uc189_1, rfl, ul189_1, ge189_1⟩ := k32_openF hMe189
       have hv189_1 := hcc189 1 _ rfl
       rw [qbP _ _ 1 (by omega)] at hv189_1; replace hv189_1 := Option.some.inj (hv189_1.symm.trans hx189_1)
       injection hv189_1 with hva_ hvn_ hvc_
       rw [hva_] at ge189_1; rw [hvc_] at ul189_1; have HL189_1 := qac.mk (show Kd.V k41 41 _ w.heap.size _ _ ((qam l0 x11_1).f0.f1) from Kd.V_mk ul189_1 ge189_1)
       clear hva_ hvn_ hvc_ ge189_1 ul189_1; clear hcc189 hce189; have HR189_1 := qac.mk hi189_1
       have HC189_1 := qac.mk hl189_1
       clear hi189_1 hl189_1; replace p189 := eq_true p189; replace q189 := eq_true q189; go_wp2_with (first | ((with_reducible refine qaV (N := 5) rfl ?_); refine qaU ?hg (N := 5) ?hd (cs := #[.string (⟨#[]⟩ : ByteArray), .slice none 0 0, .int .i64 0]) (t := 32) ?hr ?_; (case hd => rfl); (case hg => rfl); (case hr => first | (go_simp; done) | (go_simp; rfl)); intro gb190 hg w6 hbox hb; have n0_ := qac.mk (Kd.qbM (Kd.V_elderB (by (with_reducible repeat (first | apply Kd.qaX | apply Kd.qaW | apply Kd.qba)); exact HO_0.out) gb190 (Nat.le_of_eq hg.symm)) hb); have n1_ := qac.mk (Kd.N_below (Kd.N_elderB (by (with_reducible repeat (first | apply Kd.N_alloc | apply Kd.N_drewN | apply Kd.N_drew)); exact HO_3.out) gb190 (Nat.le_of_eq hg.symm)) hb); have n2_ := qac.mk (Kd.qbM (Kd.V_elderB (by (with_reducible repeat (first | apply Kd.qaX | apply Kd.qaW | apply Kd.qba)); exact HO_9.out) gb190 (Nat.le_of_eq hg.symm)) hb); have n3_ := qac.mk (Kd.qbM (Kd.V_elderB (by (with_reducible repeat (first | apply Kd.qaX | apply Kd.qaW | apply Kd.qba)); exact HL189_1.out) gb190 (Nat.le_of_eq hg.symm)) hb); have n4_ := qac.mk (Kd.qbt (by repeat (first | (with_reducible exact HR189_1.out) | (with_reducible refine Kd.qbl ?_ _) | (with_reducible refine Kd.qbk ?_ _) | (with_reducible refine Kd.qbw ?_) | exact HR189_1.out)) hb); have n5_ := qac.mk (qaB (by repeat (first | (with_reducible first | exact HB.out | apply qae | apply qab | apply qad) | exact HB.out)) hb); have n6_ := qac.mk (hbox); have n7_ := qac.mk ((by rw [hg]; exact (qav (by repeat (first | (with_reducible first | exact HB.out | apply qae | apply qab | apply qad) | exact HB.out))) : w.heap.size ≤ gb190)); have n8_ := qac.mk ((by rw [hg]; exact (qav (by repeat (first | (with_reducible first | exact HB.out | apply qae | apply qab | apply qad) | exact HB.out))) : w.heap.size ≤ gb190)); clear HO_0; clear HO_3; clear HO_9; clear HL189_1; clear HR189_1; clear HB; have HO_0 := n0_; have HO_3 := n1_; have HO_9 := n2_; have HL189_1 := n3_; have HR189_1 := n4_; have HB := n5_; have BK190 := n6_; have GW190 := n7_; have GE190 := n8_; clear n0_ n1_ n2_ n3_ n4_ n5_ n6_ n7_ n8_; clear hb hbox hg; have hcz7_0 : w6.cell? ⟨gb190, 0, none⟩ = some (.string (⟨#[]⟩ : ByteArray)) := (qas BK190.out 0).trans rfl; have hcz7_1 : w6.cell? ⟨gb190, 1, none⟩ = some (.slice none 0 0) := (qas BK190.out 1).trans rfl; have hcz7_2 : w6.cell? ⟨gb190, 2, none⟩ = some (.int .i64 0) := (qas BK190.out 2).trans rfl; have hfz7_0 := qat BK190.out 0; have hfz7_1 := qat BK190.out 1; have hfz7_2 := qat BK190.out 2) | ((with_reducible refine gate_store (t := 32) (p := 5) rfl ?_); refine store_event (t := 32) (p := 5) (v := ?vo_w8) (w1 := (((w6.setCell ⟨gb190, 0, none⟩ (.string ((qam l0 x11_1).f0.f0))).setCell ⟨gb190, 1, none⟩ (.slice A189_1 ((qam l0 x11_1).f0.f1).length c189_1)).setCell ⟨gb190, 2, none⟩ (.int .i64 ((qam l0 x11_1).f1)))) ?hg ?ho ?hn ?hr ?_; (case ho => rfl); (case hg => rfl); (case hn => rfl); (case hr => first | (go_simp; done) | (go_simp; rfl)); intro w8 hw; have n0_ : qac (Kd.V k32 32 w8 w.heap.size (fun k_ => (P0_ k_ ∨ w.heap.size ≤ k_) ∧ some k_ ≠ (u3 : Value).ownBlock ∧ k_ ≠ gb190) (.slice (some ad189) l0.length c0) l0) := ⟨(by rw [hw]; exact (by (with_reducible repeat (first | apply Kd.qaX | apply Kd.qaW | apply Kd.qba)); exact Kd.qbz (Kd.V_far (p := ⟨gb190, 2, none⟩) (Kd.V_far (p := ⟨gb190, 1, none⟩) (Kd.V_far (p := ⟨gb190, 0, none⟩) (Kd.qbz HO_0.out (fun k_ hk => (⟨hk, hk.2⟩ : _ ∧ k_ ≠ gb190))) (fun _ hk => hk.2) (.string ((qam l0 x11_1).f0.f0))) (fun _ hk => hk.2) (.slice A189_1 ((qam l0 x11_1).f0.f1).length c189_1)) (fun _ hk => hk.2) (.int .i64 ((qam l0 x11_1).f1))) (fun _ hk => ⟨hk.1.1.1, ⟨hk.1.1.2, hk.1.2⟩⟩)))⟩; have n1_ : qac (Kd.N k29 29 w8 w.heap.size (fun k_ => (P0_ k_ ∨ w.heap.size ≤ k_) ∧ k_ ≠ gb190) u3 x3_1) := ⟨(by rw [hw]; exact (by (with_reducible repeat (first | apply Kd.N_alloc | apply Kd.N_drewN | apply Kd.N_drew)); exact Kd.N_mono (Kd.N_far (p := ⟨gb190, 2, none⟩) (Kd.N_far (p := ⟨gb190, 1, none⟩) (Kd.N_far (p := ⟨gb190, 0, none⟩) (Kd.N_mono HO_3.out (fun k_ hk => (⟨hk, hk.2⟩ : _ ∧ k_ ≠ gb190))) (fun _ hk => hk.2) (.string ((qam l0 x11_1).f0.f0))) (fun _ hk => hk.2) (.slice A189_1 ((qam l0 x11_1).f0.f1).length c189_1)) (fun _ hk => hk.2) (.int .i64 ((qam l0 x11_1).f1))) (fun _ hk => ⟨hk.1.1, hk.1.2⟩)))⟩; have n2_ : qac (Kd.V k32 32 w8 w.heap.size (fun k_ => (P0_ k_ ∨ w.heap.size ≤ k_) ∧ some k_ ≠ (u3 : Value).ownBlock ∧ k_ ≠ gb190) (.slice (some ad189) l0.length c0) l0) := ⟨(by rw [hw]; exact (by (with_reducible repeat (first | apply Kd.qaX | apply Kd.qaW | apply Kd.qba)); exact Kd.qbz (Kd.V_far (p := ⟨gb190, 2, none⟩) (Kd.V_far (p := ⟨gb190, 1, none⟩) (Kd.V_far (p := ⟨gb190, 0, none⟩) (Kd.qbz HO_9.out (fun k_ hk => (⟨hk, hk.2⟩ : _ ∧ k_ ≠ gb190))) (fun _ hk => hk.2) (.string ((qam l0 x11_1).f0.f0))) (fun _ hk => hk.2) (.slice A189_1 ((qam l0 x11_1).f0.f1).length c189_1)) (fun _ hk => hk.2) (.int .i64 ((qam l0 x11_1).f1))) (fun _ hk => ⟨hk.1.1.1, ⟨hk.1.1.2, hk.1.2⟩⟩)))⟩; have n3_ : qac (Kd.V k41 41 w8 w.heap.size (fun k_ => (P0_ k_ ∨ w.heap.size ≤ k_) ∧ some k_ ≠ (u3 : Value).ownBlock ∧ k_ ≠ gb190) (.slice A189_1 ((qam l0 x11_1).f0.f1).length c189_1) ((qam l0 x11_1).f0.f1)) := ⟨(by rw [hw]; exact (by (with_reducible repeat (first | apply Kd.qaX | apply Kd.qaW | apply Kd.qba)); exact Kd.qbz (Kd.V_far (p := ⟨gb190, 2, none⟩) (Kd.V_far (p := ⟨gb190, 1, none⟩) (Kd.V_far (p := ⟨gb190, 0, none⟩) (Kd.qbz HL189_1.out (fun k_ hk => (⟨hk, hk.2⟩ : _ ∧ k_ ≠ gb190))) (fun _ hk => hk.2) (.string ((qam l0 x11_1).f0.f0))) (fun _ hk => hk.2) (.slice A189_1 ((qam l0 x11_1).f0.f1).length c189_1)) (fun _ hk => hk.2) (.int .i64 ((qam l0 x11_1).f1))) (fun _ hk => ⟨hk.1.1.1, ⟨hk.1.1.2, hk.1.2⟩⟩)))⟩; have n4_ : qac (w8.heap[gb190]? = some (.cells #[.string ((qam l0 x11_1).f0.f0), .slice A189_1 ((qam l0 x11_1).f0.f1).length c189_1, .int .i64 ((qam l0 x11_1).f1)] 32 (0, 0))) := ⟨(by rw [hw]; exact (by (with_reducible repeat (first | refine qan ?_ _ | refine qap ?_ | refine qao ?_ _)); refine qa1 (cs := #[.string ((qam l0 x11_1).f0.f0), .slice A189_1 ((qam l0 x11_1).f0.f1).length c189_1, .int .i64 0]) ?_ 2 _ rfl; (with_reducible repeat (first | refine qan ?_ _ | refine qap ?_ | refine qao ?_ _)); refine qa1 (cs := #[.string ((qam l0 x11_1).f0.f0), .slice none 0 0, .int .i64 0]) ?_ 1 _ rfl; (with_reducible repeat (first | refine qan ?_ _ | refine qap ?_ | refine qao ?_ _)); refine qa1 (cs := #[.string (⟨#[]⟩ : ByteArray), .slice none 0 0, .int .i64 0]) ?_ 0 _ rfl; (with_reducible repeat (first | refine qan ?_ _ | refine qap ?_ | refine qao ?_ _)); exact BK190.out))⟩; have n5_ : qac (Below w.heap.size w w8) := ⟨(by rw [hw]; exact (by repeat (first | (with_reducible first | exact HB.out | apply qae | apply qab | apply qad | refine qah ?_ GE190.out) | exact HB.out)))⟩; clear hw; clear HO_0; clear HO_3; clear HO_9; clear HL189_1; clear BK190; clear HB; have HO_0 := n0_; have HO_3 := n1_; have HO_9 := n2_; have HL189_1 := n3_; have BK190 := n4_; have HB := n5_; clear n0_ n1_ n2_ n3_ n4_ n5_; have hcz9_0 : w8.cell? ⟨gb190, 0, none⟩ = some (.string ((qam l0 x11_1).f0.f0)) := (qas BK190.out 0).trans rfl; have hcz9_1 : w8.cell? ⟨gb190, 1, none⟩ = some (.slice A189_1 ((qam l0 x11_1).f0.f1).length c189_1) := (qas BK190.out 1).trans rfl; have hcz9_2 : w8.cell? ⟨gb190, 2, none⟩ = some (.int .i64 ((qam l0 x11_1).f1)) := (qas BK190.out 2).trans rfl; have hfz9_0 := qat BK190.out 0; have hfz9_1 := qat BK190.out 1; have hfz9_2 := qat BK190.out 2) | ((with_reducible refine gate_builtin (b := .append) (xs := #[.tmp 15, .tmp 18]) rfl ?_); at_builtin; refine Kd.N_append k29 (w0 := w) w.heap.size rfl (.tmp 15) (.tmp 18) 33 29 (.agg #[(.string ⟨#[]⟩), (.slice none 0 0)]) 40 rfl Try.underlying33 info29 rfl (by decide) (by omega) u3 x3_1 (⟨(qam l0 x11_1).f0.f0, (qam l0 x11_1).f0.f1⟩ : S29) [.string ((qam l0 x11_1).f0.f0), .slice A189_1 ((qam l0 x11_1).f0.f1).length c189_1] (fun k_ => (P0_ k_ ∨ w.heap.size ≤ k_) ∧ k_ ≠ gb190) (fun k_ => ((fun k_ => (P0_ k_ ∨ w.heap.size ≤ k_) ∧ k_ ≠ gb190)) k_ ∧ some k_ ≠ (u3 : Value).ownBlock) rfl rfl ?aP (fun _ hk => hk) ?aF ?aO ?aB ?aS ?aL ?_; (case aP => exact (k29_mkF _ _ (⟨(qam l0 x11_1).f0.f0, (qam l0 x11_1).f0.f1⟩ : S29) (Kd.qbR (Kd.qbz (ok' := (fun k_ => ((fun k_ => (P0_ k_ ∨ w.heap.size ≤ k_) ∧ k_ ≠ gb190)) k_ ∧ some k_ ≠ (u3 : Value).ownBlock)) (HL189_1.out) (fun k_ hk => ⟨⟨hk.1, hk.2.2⟩, hk.2.1⟩))).2.1 (Kd.V_F (Kd.qbz (ok' := (fun k_ => ((fun k_ => (P0_ k_ ∨ w.heap.size ≤ k_) ∧ k_ ≠ gb190)) k_ ∧ some k_ ≠ (u3 : Value).ownBlock)) (HL189_1.out) (fun k_ hk => ⟨⟨hk.1, hk.2.2⟩, hk.2.1⟩))))); (case aB => exact (by repeat (first | (with_reducible first | exact HB.out | apply qae | apply qab | apply qad | refine qah ?_ GE190.out) | exact HB.out))); (case aF => exact (fun k_ hk => ⟨(.inr (Nat.le_trans (qav (by repeat (first | (with_reducible first | exact HB.out | apply qae | apply qab | apply qad | refine qah ?_ GE190.out) | exact HB.out))) hk)), Kd.freshB (g := gb190) (o := .cells #[.string ((qam l0 x11_1).f0.f0), .slice A189_1 ((qam l0 x11_1).f0.f1).length c189_1, .int .i64 ((qam l0 x11_1).f1)] 32 (0, 0)) (by (with_reducible repeat (first | refine qan ?_ _ | refine qap ?_ | refine qao ?_ _)); exact BK190.out) k_ hk⟩)); (case aO => exact (by (with_reducible repeat (first | apply Kd.N_alloc | apply Kd.N_drewN | apply Kd.N_drew)); exact HO_3.out)); (case aS => exact (qav (by repeat (first | (with_reducible first | exact HB.out | apply qae | apply qab | apply qad | refine qah ?_ GE190.out) | exact HB.out)))); (case aL => have := LMc5.out; omega); intro v192 w10 ho hb hg hat; rw [← Ny191.out] at ho; have n0_ := qac.mk (Kd.V_afterv (ok := (fun k_ => (P0_ k_ ∨ w.heap.size ≤ k_) ∧ k_ ≠ gb190)) (by (with_reducible repeat (first | apply Kd.qaX | apply Kd.qaW | apply Kd.qba)); exact Kd.qbz HO_0.out (fun _ hk => ⟨⟨hk.1, hk.2.2⟩, hk.2.1⟩)) hg hat); have n1_ := qac.mk (Kd.V_afterv (ok := (fun k_ => (P0_ k_ ∨ w.heap.size ≤ k_) ∧ k_ ≠ gb190)) (by (with_reducible repeat (first | apply Kd.qaX | apply Kd.qaW | apply Kd.qba)); exact Kd.qbz HO_9.out (fun _ hk => ⟨⟨hk.1, hk.2.2⟩, hk.2.1⟩)) hg hat); have n2_ := qac.mk (Kd.V_afterv (ok := (fun k_ => (P0_ k_ ∨ w.heap.size ≤ k_) ∧ k_ ≠ gb190)) (by (with_reducible repeat (first | apply Kd.qaX | apply Kd.qaW | apply Kd.qba)); exact Kd.qbz HL189_1.out (fun _ hk => ⟨⟨hk.1, hk.2.2⟩, hk.2.1⟩)) hg hat); have n3_ := qac.mk (qbN (g := gb190) (o := .cells #[.string ((qam l0 x11_1).f0.f0), .slice A189_1 ((qam l0 x11_1).f0.f1).length c189_1, .int .i64 ((qam l0 x11_1).f1)] 32 (0, 0)) (by (with_reducible repeat (first | refine qan ?_ _ | refine qap ?_ | refine qao ?_ _)); exact BK190.out) hg (Kd.N_ne HO_3.out BK190.out (by decide))); have n4_ := qac.mk (hb); have n5_ := qac.mk (ho); clear HO_0; clear HO_9; clear HL189_1; clear BK190; clear HB; clear HO_3; have HO_0 := n0_; have HO_9 := n1_; have HL189_1 := n2_; have BK190 := n3_; have HB := n4_; have HO193 := n5_; clear n0_ n1_ n2_ n3_ n4_ n5_; clear ho hb hg hat))
       go_roundg k1
       case measure => have := HK1.out; omega
       case rel => exact ⟨(y191), (wrap64 (x11_1 + 1)), (by first | rfl | (simp; done) | (simp [*]; done)), H', ⟨by have := HK1.out; omega⟩, ⟨by (with_reducible repeat (first | apply Kd.qaX | apply Kd.qaW | apply Kd.qba)); exact Kd.qbz HO_0.out (fun _ hk => ⟨hk.1.1, hk.2⟩)⟩, ⟨by (with_reducible repeat (first | apply Kd.N_alloc | apply Kd.N_drewN | apply Kd.N_drew)); exact Kd.N_mono HO193.out (fun _ hk => hk.1)⟩, ⟨by (with_reducible repeat (first | apply Kd.qaX | apply Kd.qaW | apply Kd.qba)); exact Kd.qbz HO_9.out (fun _ hk => ⟨hk.1.1, hk.2⟩)⟩, ⟨by repeat (first | (with_reducible first | exact HB.out | apply qae | apply qab | apply qad | refine qah ?_ GE190.out) | exact HB.out)⟩⟩
      ·rw [if_neg c5] at H; exact absurd H (by simp)
     ·rw [if_neg c4] at H; exact absurd H (by simp)
    ·rw [if_neg c3] at H; exact absurd H (by simp)
   ·rw [if_neg c2] at H; have c2b0 : decide (x11_1 < (l0.length : Int)) = false := decide_eq_false c2; clear c2; replace H := Option.bind_eq_some_iff.mp H; obtain ⟨t194, A110, H⟩ := H; replace H : (if t194 = 0 then (qaF.l1 k1 l0 (l0.length : Int) 0) else (some t194)) = some r := H
    have A11 := qac.mk A110
    clear A110; by_cases c12 : t194 = 0
    ·rw [if_pos c12] at H; have c12b0 : (t194 == 0) = true := beq_iff_eq.mpr c12; have c12b1 : (t194 != 0) = false := bne_eq_false_iff_eq.mpr c12; clear c12; have H' := qac.mk H; clear H; obtain ⟨Ao13, co13, eo13⟩ := Kd.N_slice HO_3.out
     subst eo13; go_wp2_with (first | ((with_reducible refine qaL (f := 52) rfl ?_); refine qa9 (some 22) rfl rfl Try.func52 (by kernel_rfl) rfl #[.slice Ao13 x3_1.length co13] rfl (by (try simp only [qy6, qy7, qy8]); first | done | rfl | (simp only [List.length_drop, List.length_take]; rfl)) ?_; (with_reducible refine (qaH.calls k1 _ _ x3_1 t194 _ ?side1 ?side2 A11.out).mono ?_); (case side1 => repeat (first | exact (Kd.N_reads' HO_3.out).2.2 | (with_reducible refine Kd.qbl ?_ _) | (with_reducible refine Kd.qbk ?_ _) | (with_reducible refine Kd.qbw ?_))); (case side2 => exact (Kd.N_reads' HO_3.out).2.1); rintro e w14 ⟨rfl, hb⟩; refine ⟨_, rfl, ?_⟩; have n0_ := qac.mk (Kd.qbM (by (with_reducible repeat (first | apply Kd.qaX | apply Kd.qaW | apply Kd.qba)); exact HO_0.out) hb); have n1_ := qac.mk (Kd.N_below (by (with_reducible repeat (first | apply Kd.N_alloc | apply Kd.N_drewN | apply Kd.N_drew)); exact HO_3.out) hb); have n2_ := qac.mk (Kd.qbM (by (with_reducible repeat (first | apply Kd.qaX | apply Kd.qaW | apply Kd.qba)); exact HO_9.out) hb); have n3_ := qac.mk (qaB (by repeat (first | (with_reducible first | exact HB.out | apply qae | apply qab | apply qad) | exact HB.out)) hb); clear HO_0; clear HO_3; clear HO_9; clear HB; have HO_0 := n0_; have HO_3 := n1_; have HO_9 := n2_; have HB := n3_; clear n0_ n1_ n2_ n3_; (try clear hb); (try clear hb2); (try clear hk); (try clear hi)))
     (try simp only [Act.put, List.setIfInBounds_toArray, List.set_cons_zero, List.set_cons_succ])
     go_loopg [28] k1 (fun kq v28 w' => ∃ (x28_2 : Int), v28 = .int .i64 x28_2 ∧ qac (qaF.l1 kq l0 (l0.length : Int) x28_2 = some r) ∧ qac (kq ≤ k1) ∧ qac (Kd.V k32 32 w' w.heap.size (fun k_ => (P0_ k_ ∨ w.heap.size ≤ k_)) (.slice A0 l0.length c0) l0) ∧ qac (Below w.heap.size w w'))
     case atStart => exact ⟨(0), (by first | rfl | (simp; done) | (simp [*]; done)), H', ⟨Nat.le_refl _⟩, ⟨by (with_reducible repeat (first | apply Kd.qaX | apply Kd.qaW | apply Kd.qba)); exact Kd.qbz HO_0.out (fun _ hk => hk.1)⟩, ⟨by repeat (first | (with_reducible first | exact HB.out | apply qae | apply qab | apply qad) | exact HB.out)⟩⟩
     case round =>
      clear H'; (try clear c1); (try clear p1); (try clear q1); (try clear hx1); (try clear c2); (try clear c2b0); (try clear p2); (try clear c3); (try clear c3b0); (try clear c4); (try clear c4b0); (try clear c5); (try clear p6); (try clear c12); (try clear c12b0); (try clear c12b1); (try clear hcz7_0); (try clear hcz7_1); (try clear hcz7_2); (try clear hcz9_0); (try clear hcz9_1); (try clear hcz9_2); (try clear hfz7_0); (try clear hfz7_1); (try clear hfz7_2); (try clear hfz9_0); (try clear hfz9_1); (try clear hfz9_2); (try clear hx189_0); (try clear hx189_1); (try clear hx189_2); (try clear p189); (try clear q189); obtain ⟨x28_2, rfl, HA, HK2, HO_26, HB⟩ := hrel
      cases gk with
      | zero => exact absurd HA.out (by simp [qaF.l1])
      | succ k2 =>
       have H := HA.out; clear HA; simp only [qaF.l1] at H
       by_cases c15 : x28_2 < (l0.length : Int)
       ·rw [if_pos c15] at H; have c15b0 : decide (x28_2 < (l0.length : Int)) = true := decide_eq_true c15; clear c15; by_cases c16 : 0 ≤ x28_2
        ·rw [if_pos c16] at H; have c16b0 : decide (0 ≤ x28_2) = true := decide_eq_true c16; clear c16; by_cases c17 : x28_2 < (l0.length : Int)
         ·rw [if_pos c17] at H; have c17b0 : decide (x28_2 < (l0.length : Int)) = true := decide_eq_true c17; clear c17; by_cases c18 : ((qam l0 x28_2).f1) < 0
          ·rw [if_pos c18] at H; have c18b0 : decide (((qam l0 x28_2).f1) < 0) = true := decide_eq_true c18; clear c18; obtain rfl := Option.some.inj H
           have p195 : 0 ≤ (x28_2 : Int) := of_decide_eq_true (by first | (with_reducible assumption) | assumption)
           have q195 : x28_2 < (l0.length : Int) := of_decide_eq_true (by first | (with_reducible assumption) | assumption)
           obtain ⟨ad195, A195_1, c195_1, e195, hx195_0, hx195_1, hx195_2, hl195_1, hi195_1⟩ := at_T32 (Kd.qbR HO_26.out).2.2 x28_2 p195 q195
           cases e195
           obtain ⟨ce195, hce195, hMe195, hcc195⟩ := Kd.V_get HO_26.out z32 x28_2 p195 (by first | exact q195 | exact of_decide_eq_true (by first | (with_reducible assumption) | assumption) | (have e_ := (Kd.qbR HO_26.out).1; omega))
           obtain ⟨ua195_1, uc195_1, rfl, ul195_1, ge195_1⟩ := k32_openF hMe195
           have hv195_1 := hcc195 1 _ rfl
           rw [qbP _ _ 1 (by omega)] at hv195_1; replace hv195_1 := Option.some.inj (hv195_1.symm.trans hx195_1)
           injection hv195_1 with hva_ hvn_ hvc_
           rw [hva_] at ge195_1; rw [hvc_] at ul195_1; have HL195_1 := qac.mk (show Kd.V k41 41 _ w.heap.size _ _ ((qam l0 x28_2).f0.f1) from Kd.V_mk ul195_1 ge195_1)
           clear hva_ hvn_ hvc_ ge195_1 ul195_1; clear hcc195 hce195; have HR195_1 := qac.mk hi195_1
           have HC195_1 := qac.mk hl195_1
           clear hi195_1 hl195_1; replace p195 := eq_true p195; replace q195 := eq_true q195; go_wp2_with (first | ((with_reducible refine qaV (N := 8) rfl ?_); refine qaU ?hg (N := 8) ?hd (cs := #[.string (⟨#[]⟩ : ByteArray), .slice none 0 0, .int .i64 0]) (t := 32) ?hr ?_; (case hd => rfl); (case hg => rfl); (case hr => first | (go_simp; done) | (go_simp; rfl)); intro gb196 hg w19 hbox hb; have n0_ := qac.mk (Kd.qbM (Kd.V_elderB (by (with_reducible repeat (first | apply Kd.qaX | apply Kd.qaW | apply Kd.qba)); exact HO_26.out) gb196 (Nat.le_of_eq hg.symm)) hb); have n1_ := qac.mk (Kd.qbM (Kd.V_elderB (by (with_reducible repeat (first | apply Kd.qaX | apply Kd.qaW | apply Kd.qba)); exact HL195_1.out) gb196 (Nat.le_of_eq hg.symm)) hb); have n2_ := qac.mk (Kd.qbt (by repeat (first | (with_reducible exact HR195_1.out) | (with_reducible refine Kd.qbl ?_ _) | (with_reducible refine Kd.qbk ?_ _) | (with_reducible refine Kd.qbw ?_) | exact HR195_1.out)) hb); have n3_ := qac.mk (qaB (by repeat (first | (with_reducible first | exact HB.out | apply qae | apply qab | apply qad) | exact HB.out)) hb); have n4_ := qac.mk (hbox); have n5_ := qac.mk ((by rw [hg]; exact (qav (by repeat (first | (with_reducible first | exact HB.out | apply qae | apply qab | apply qad) | exact HB.out))) : w.heap.size ≤ gb196)); have n6_ := qac.mk ((by rw [hg]; exact (qav (by repeat (first | (with_reducible first | exact HB.out | apply qae | apply qab | apply qad) | exact HB.out))) : w.heap.size ≤ gb196)); clear HO_26; clear HL195_1; clear HR195_1; clear HB; have HO_26 := n0_; have HL195_1 := n1_; have HR195_1 := n2_; have HB := n3_; have BK196 := n4_; have GW196 := n5_; have GE196 := n6_; clear n0_ n1_ n2_ n3_ n4_ n5_ n6_; clear hb hbox hg; have hcz20_0 : w19.cell? ⟨gb196, 0, none⟩ = some (.string (⟨#[]⟩ : ByteArray)) := (qas BK196.out 0).trans rfl; have hcz20_1 : w19.cell? ⟨gb196, 1, none⟩ = some (.slice none 0 0) := (qas BK196.out 1).trans rfl; have hcz20_2 : w19.cell? ⟨gb196, 2, none⟩ = some (.int .i64 0) := (qas BK196.out 2).trans rfl; have hfz20_0 := qat BK196.out 0; have hfz20_1 := qat BK196.out 1; have hfz20_2 := qat BK196.out 2))
           go_ret
           exact ⟨by first | rfl | (simp [qaz, qay] <;> rfl) | (simp [*, qaz, qay] <;> rfl), by repeat (first | (with_reducible first | exact HB.out | apply qae | apply qab | apply qad | refine qah ?_ GE196.out) | exact HB.out)⟩
          ·rw [if_neg c18] at H; have c18b0 : decide (((qam l0 x28_2).f1) < 0) = false := decide_eq_false c18; clear c18; by_cases c21 : ((qam l0 x28_2).f1) > 100000
           ·rw [if_pos c21] at H; have c21b0 : decide (100000 < ((qam l0 x28_2).f1)) = true := decide_eq_true c21; clear c21; obtain rfl := Option.some.inj H
            have p195 : 0 ≤ (x28_2 : Int) := of_decide_eq_true (by first | (with_reducible assumption) | assumption)
            have q195 : x28_2 < (l0.length : Int) := of_decide_eq_true (by first | (with_reducible assumption) | assumption)
            obtain ⟨ad195, A195_1, c195_1, e195, hx195_0, hx195_1, hx195_2, hl195_1, hi195_1⟩ := at_T32 (Kd.qbR HO_26.out).2.2 x28_2 p195 q195
            cases e195
            obtain ⟨ce195, hce195, hMe195, hcc195⟩ := Kd.V_get HO_26.out z32 x28_2 p195 (by first | exact q195 | exact of_decide_eq_true (by first | (with_reducible assumption) | assumption) | (have e_ := (Kd.qbR HO_26.out).1; omega))
            obtain ⟨ua195_1, uc195_1, rfl, ul195_1, ge195_1⟩ := k32_openF hMe195
            have hv195_1 := hcc195 1 _ rfl
            rw [qbP _ _ 1 (by omega)] at hv195_1; replace hv195_1 := Option.some.inj (hv195_1.symm.trans hx195_1)
            injection hv195_1 with hva_ hvn_ hvc_
            rw [hva_] at ge195_1; rw [hvc_] at ul195_1; have HL195_1 := qac.mk (show Kd.V k41 41 _ w.heap.size _ _ ((qam l0 x28_2).f0.f1) from Kd.V_mk ul195_1 ge195_1)
            clear hva_ hvn_ hvc_ ge195_1 ul195_1; clear hcc195 hce195; have HR195_1 := qac.mk hi195_1
            have HC195_1 := qac.mk hl195_1
            clear hi195_1 hl195_1; replace p195 := eq_true p195; replace q195 := eq_true q195; go_wp2_with (first | ((with_reducible refine qaV (N := 8) rfl ?_); refine qaU ?hg (N := 8) ?hd (cs := #[.string (⟨#[]⟩ : ByteArray), .slice none 0 0, .int .i64 0]) (t := 32) ?hr ?_; (case hd => rfl); (case hg => rfl); (case hr => first | (go_simp; done) | (go_simp; rfl)); intro gb196 hg w22 hbox hb; have n0_ := qac.mk (Kd.qbM (Kd.V_elderB (by (with_reducible repeat (first | apply Kd.qaX | apply Kd.qaW | apply Kd.qba)); exact HO_26.out) gb196 (Nat.le_of_eq hg.symm)) hb); have n1_ := qac.mk (Kd.qbM (Kd.V_elderB (by (with_reducible repeat (first | apply Kd.qaX | apply Kd.qaW | apply Kd.qba)); exact HL195_1.out) gb196 (Nat.le_of_eq hg.symm)) hb); have n2_ := qac.mk (Kd.qbt (by repeat (first | (with_reducible exact HR195_1.out) | (with_reducible refine Kd.qbl ?_ _) | (with_reducible refine Kd.qbk ?_ _) | (with_reducible refine Kd.qbw ?_) | exact HR195_1.out)) hb); have n3_ := qac.mk (qaB (by repeat (first | (with_reducible first | exact HB.out | apply qae | apply qab | apply qad) | exact HB.out)) hb); have n4_ := qac.mk (hbox); have n5_ := qac.mk ((by rw [hg]; exact (qav (by repeat (first | (with_reducible first | exact HB.out | apply qae | apply qab | apply qad) | exact HB.out))) : w.heap.size ≤ gb196)); have n6_ := qac.mk ((by rw [hg]; exact (qav (by repeat (first | (with_reducible first | exact HB.out | apply qae | apply qab | apply qad) | exact HB.out))) : w.heap.size ≤ gb196)); clear HO_26; clear HL195_1; clear HR195_1; clear HB; have HO_26 := n0_; have HL195_1 := n1_; have HR195_1 := n2_; have HB := n3_; have BK196 := n4_; have GW196 := n5_; have GE196 := n6_; clear n0_ n1_ n2_ n3_ n4_ n5_ n6_; clear hb hbox hg; have hcz23_0 : w22.cell? ⟨gb196, 0, none⟩ = some (.string (⟨#[]⟩ : ByteArray)) := (qas BK196.out 0).trans rfl; have hcz23_1 : w22.cell? ⟨gb196, 1, none⟩ = some (.slice none 0 0) := (qas BK196.out 1).trans rfl; have hcz23_2 : w22.cell? ⟨gb196, 2, none⟩ = some (.int .i64 0) := (qas BK196.out 2).trans rfl; have hfz23_0 := qat BK196.out 0; have hfz23_1 := qat BK196.out 1; have hfz23_2 := qat BK196.out 2))
            go_ret
            exact ⟨by first | rfl | (simp [qaz, qay] <;> rfl) | (simp [*, qaz, qay] <;> rfl), by repeat (first | (with_reducible first | exact HB.out | apply qae | apply qab | apply qad | refine qah ?_ GE196.out) | exact HB.out)⟩
           ·rw [if_neg c21] at H; have c21b0 : decide (100000 < ((qam l0 x28_2).f1)) = false := decide_eq_false c21; clear c21; have H' := qac.mk H; clear H; have p195 : 0 ≤ (x28_2 : Int) := of_decide_eq_true (by first | (with_reducible assumption) | assumption)
            have q195 : x28_2 < (l0.length : Int) := of_decide_eq_true (by first | (with_reducible assumption) | assumption)
            obtain ⟨ad195, A195_1, c195_1, e195, hx195_0, hx195_1, hx195_2, hl195_1, hi195_1⟩ := at_T32 (Kd.qbR HO_26.out).2.2 x28_2 p195 q195
            cases e195
            obtain ⟨ce195, hce195, hMe195, hcc195⟩ := Kd.V_get HO_26.out z32 x28_2 p195 (by first | exact q195 | exact of_decide_eq_true (by first | (with_reducible assumption) | assumption) | (have e_ := (Kd.qbR HO_26.out).1; omega))
            obtain ⟨ua195_1, uc195_1, rfl, ul195_1, ge195_1⟩ := k32_openF hMe195
            have hv195_1 := hcc195 1 _ rfl
            rw [qbP _ _ 1 (by omega)] at hv195_1; replace hv195_1 := Option.some.inj (hv195_1.symm.trans hx195_1)
            injection hv195_1 with hva_ hvn_ hvc_
            rw [hva_] at ge195_1; rw [hvc_] at ul195_1; have HL195_1 := qac.mk (show Kd.V k41 41 _ w.heap.size _ _ ((qam l0 x28_2).f0.f1) from Kd.V_mk ul195_1 ge195_1)
            clear hva_ hvn_ hvc_ ge195_1 ul195_1; clear hcc195 hce195; have HR195_1 := qac.mk hi195_1
            have HC195_1 := qac.mk hl195_1
            clear hi195_1 hl195_1; replace p195 := eq_true p195; replace q195 := eq_true q195; go_wp2_with (first | ((with_reducible refine qaV (N := 8) rfl ?_); refine qaU ?hg (N := 8) ?hd (cs := #[.string (⟨#[]⟩ : ByteArray), .slice none 0 0, .int .i64 0]) (t := 32) ?hr ?_; (case hd => rfl); (case hg => rfl); (case hr => first | (go_simp; done) | (go_simp; rfl)); intro gb196 hg w24 hbox hb; have n0_ := qac.mk (Kd.qbM (Kd.V_elderB (by (with_reducible repeat (first | apply Kd.qaX | apply Kd.qaW | apply Kd.qba)); exact HO_26.out) gb196 (Nat.le_of_eq hg.symm)) hb); have n1_ := qac.mk (Kd.qbM (Kd.V_elderB (by (with_reducible repeat (first | apply Kd.qaX | apply Kd.qaW | apply Kd.qba)); exact HL195_1.out) gb196 (Nat.le_of_eq hg.symm)) hb); have n2_ := qac.mk (Kd.qbt (by repeat (first | (with_reducible exact HR195_1.out) | (with_reducible refine Kd.qbl ?_ _) | (with_reducible refine Kd.qbk ?_ _) | (with_reducible refine Kd.qbw ?_) | exact HR195_1.out)) hb); have n3_ := qac.mk (qaB (by repeat (first | (with_reducible first | exact HB.out | apply qae | apply qab | apply qad) | exact HB.out)) hb); have n4_ := qac.mk (hbox); have n5_ := qac.mk ((by rw [hg]; exact (qav (by repeat (first | (with_reducible first | exact HB.out | apply qae | apply qab | apply qad) | exact HB.out))) : w.heap.size ≤ gb196)); have n6_ := qac.mk ((by rw [hg]; exact (qav (by repeat (first | (with_reducible first | exact HB.out | apply qae | apply qab | apply qad) | exact HB.out))) : w.heap.size ≤ gb196)); clear HO_26; clear HL195_1; clear HR195_1; clear HB; have HO_26 := n0_; have HL195_1 := n1_; have HR195_1 := n2_; have HB := n3_; have BK196 := n4_; have GW196 := n5_; have GE196 := n6_; clear n0_ n1_ n2_ n3_ n4_ n5_ n6_; clear hb hbox hg; have hcz25_0 : w24.cell? ⟨gb196, 0, none⟩ = some (.string (⟨#[]⟩ : ByteArray)) := (qas BK196.out 0).trans rfl; have hcz25_1 : w24.cell? ⟨gb196, 1, none⟩ = some (.slice none 0 0) := (qas BK196.out 1).trans rfl; have hcz25_2 : w24.cell? ⟨gb196, 2, none⟩ = some (.int .i64 0) := (qas BK196.out 2).trans rfl; have hfz25_0 := qat BK196.out 0; have hfz25_1 := qat BK196.out 1; have hfz25_2 := qat BK196.out 2))
            go_roundg k2
            case measure => have := HK1.out; have := HK2.out; omega
            case rel => exact ⟨(wrap64 (x28_2 + 1)), (by first | rfl | (simp; done) | (simp [*]; done)), H', ⟨by have := HK1.out; have := HK2.out; omega⟩, ⟨by (with_reducible repeat (first | apply Kd.qaX | apply Kd.qaW | apply Kd.qba)); exact Kd.qbz (Kd.V_far (p := ⟨gb196, 2, none⟩) (Kd.V_far (p := ⟨gb196, 1, none⟩) (Kd.V_far (p := ⟨gb196, 0, none⟩) (Kd.qbz HO_26.out (fun k_ hk => (⟨hk, hk.2⟩ : _ ∧ k_ ≠ gb196))) (fun _ hk => hk.2) (.string ((qam l0 x28_2).f0.f0))) (fun _ hk => hk.2) (.slice A195_1 ((qam l0 x28_2).f0.f1).length c195_1)) (fun _ hk => hk.2) (.int .i64 ((qam l0 x28_2).f1))) (fun _ hk => hk.1.1)⟩, ⟨by repeat (first | (with_reducible first | exact HB.out | apply qae | apply qab | apply qad | refine qah ?_ GE196.out) | exact HB.out)⟩⟩
         ·rw [if_neg c17] at H; exact absurd H (by simp)
        ·rw [if_neg c16] at H; exact absurd H (by simp)
       ·rw [if_neg c15] at H; have c15b0 : decide (x28_2 < (l0.length : Int)) = false := decide_eq_false c15; clear c15; obtain rfl := Option.some.inj H
        go_wp2; go_ret
        exact ⟨by first | rfl | (simp [qaz, qay] <;> rfl) | (simp [*, qaz, qay] <;> rfl), by repeat (first | (with_reducible first | exact HB.out | apply qae | apply qab | apply qad) | exact HB.out)⟩
    ·rw [if_neg c12] at H; have c12b0 : (t194 == 0) = false := beq_eq_false_iff_ne.mpr c12; have c12b1 : (t194 != 0) = true := bne_iff_ne.mpr c12; obtain rfl := Option.some.inj H
     obtain ⟨Ao26, co26, eo26⟩ := Kd.N_slice HO_3.out
     subst eo26; go_wp2_with (first | ((with_reducible refine qaL (f := 52) rfl ?_); refine qa9 (some 22) rfl rfl Try.func52 (by kernel_rfl) rfl #[.slice Ao26 x3_1.length co26] rfl (by (try simp only [qy6, qy7, qy8]); first | done | rfl | (simp only [List.length_drop, List.length_take]; rfl)) ?_; (with_reducible refine (qaH.calls k1 _ _ x3_1 t194 _ ?side1 ?side2 A11.out).mono ?_); (case side1 => repeat (first | exact (Kd.N_reads' HO_3.out).2.2 | (with_reducible refine Kd.qbl ?_ _) | (with_reducible refine Kd.qbk ?_ _) | (with_reducible refine Kd.qbw ?_))); (case side2 => exact (Kd.N_reads' HO_3.out).2.1); rintro e w27 ⟨rfl, hb⟩; refine ⟨_, rfl, ?_⟩; have n0_ := qac.mk (Kd.qbM (by (with_reducible repeat (first | apply Kd.qaX | apply Kd.qaW | apply Kd.qba)); exact HO_0.out) hb); have n1_ := qac.mk (Kd.N_below (by (with_reducible repeat (first | apply Kd.N_alloc | apply Kd.N_drewN | apply Kd.N_drew)); exact HO_3.out) hb); have n2_ := qac.mk (Kd.qbM (by (with_reducible repeat (first | apply Kd.qaX | apply Kd.qaW | apply Kd.qba)); exact HO_9.out) hb); have n3_ := qac.mk (qaB (by repeat (first | (with_reducible first | exact HB.out | apply qae | apply qab | apply qad) | exact HB.out)) hb); clear HO_0; clear HO_3; clear HO_9; clear HB; have HO_0 := n0_; have HO_3 := n1_; have HO_9 := n2_; have HB := n3_; clear n0_ n1_ n2_ n3_; (try clear hb); (try clear hb2); (try clear hk); (try clear hi)))
     go_ret
     exact ⟨by first | rfl | (simp [qaz, qay] <;> rfl) | (simp [*, qaz, qay] <;> rfl), by repeat (first | (with_reducible first | exact HB.out | apply qae | apply qab | apply qad) | exact HB.out)⟩
def qa3.f (k : Nat) (a0_0 : ByteArray) (l0_1 : List (S41)) (a0_2 : Int) : Option (Int) := (qaP.f k a0_0 l0_1).bind fun t198 => (some (mn a0_2 t198))
theorem qa3.mono : ∀ a0 a1 a2 k, LeO (qa3.f k a0 a1 a2) (qa3.f (k + 1) a0 a1 a2) := by
 intro a0 a1 a2 k; unfold qa3.f
 repeat' first
   | (with_reducible exact qaP.mono _ _ _)
   | (with_reducible exact LeO.refl _)
   | (with_reducible exact LeO.none _)
   | (with_reducible refine LeO.ite ?_ ?_)
   | (with_reducible refine LeO.bind ?_ (fun _ => ?_))
   | exact qaP.mono _ _ _
   | exact LeO.none _
   | refine LeO.ite ?_ ?_
   | refine LeO.bind ?_ (fun _ => ?_)
set_option maxHeartbeats 8000000 in
set_option maxRecDepth 100000 in
theorem qa3.calls (k : Nat) (a0_0 : ByteArray) (A0_1 : Option Addr) (c0_1 : Nat) (l0_1 : List (S41)) (a0_2 : Int) (r : Int) (w : World) (hr0_1 : Kd.C k41 w A0_1 l0_1.length l0_1) (hc0_1 : l0_1.length ≤ c0_1) (h : qa3.f k a0_0 l0_1 a0_2 = some r) :
  Calls Try.prog 41 #[.agg #[.string a0_0, .slice A0_1 l0_1.length c0_1, .int .i64 a0_2]] w fun e w' => e = .returned (.int .i64 r) ∧ Below w.heap.size w w' := by
 have hu32 := Try.underlying32; have hu29 := Try.underlying29; have HR0_1 := qac.mk hr0_1
 have HC0_1 := qac.mk hc0_1
 clear hr0_1 hc0_1; have HB := qac.mk (Below.refl w.heap.size w)
 have H : ((qaP.f k a0_0 l0_1).bind fun t198 => (some (mn a0_2 t198))) = some r := h
 clear h; replace H := Option.bind_eq_some_iff.mp H; obtain ⟨t198, A20, H⟩ := H; replace H : (some (mn a0_2 t198)) = some r := H
 have A2 := qac.mk A20
 clear A20; obtain ⟨ji3, hji3⟩ : ∃ j_ : Int, (mn a0_2 t198) = j_ := ⟨_, rfl⟩
 replace H : (some ji3) = some r := by first | (rw [hji3] at H; exact H) | (simp only [hji3] at H ⊢; exact H)
 (try rw [hji3] at A2)
 have hji3_ : (if t198 < a0_2 then t198 else a0_2) = ji3 := hji3
 obtain rfl := Option.some.inj H
 go_enter Try.func41, Try.ntmps41; try go_wp2_with (first | ((with_reducible refine qaV (N := 1) rfl ?_); refine qaU ?hg (N := 1) ?hd (cs := #[.string a0_0, .slice A0_1 l0_1.length c0_1, .int .i64 a0_2]) (t := 32) ?hr ?_; (case hd => rfl); (case hg => rfl); (case hr => first | (go_simp; done) | (go_simp; rfl)); intro gb197 hg w4 hbox hb; have n0_ := qac.mk (qaB (by repeat (first | (with_reducible first | exact HB.out | apply qae | apply qab | apply qad) | exact HB.out)) hb); have n1_ := qac.mk (hbox); have n2_ := qac.mk ((by rw [hg]; exact (qav (by repeat (first | (with_reducible first | exact HB.out | apply qae | apply qab | apply qad) | exact HB.out))) : w.heap.size ≤ gb197)); have n3_ := qac.mk ((by rw [hg]; exact (qav (by repeat (first | (with_reducible first | exact HB.out | apply qae | apply qab | apply qad) | exact HB.out))) : w.heap.size ≤ gb197)); clear HB; have HB := n0_; have BK197 := n1_; have GW197 := n2_; have GE197 := n3_; clear n0_ n1_ n2_ n3_; clear hb hbox hg))
 have n0_ := qac.mk (qap BK197.out)
 have n1_ := qac.mk (qad HB.out)
 clear BK197; clear HB; have BK197 := n0_; have HB := n1_; clear n0_ n1_; refine qbD (n := 7) (S := fun w' => w'.cell? ⟨gb197, 0, none⟩ = some (.string a0_0) ∧ w'.cell? ⟨gb197, 1, none⟩ = some (.slice A0_1 l0_1.length c0_1) ∧ w'.cell? ⟨gb197, 2, none⟩ = some (.int .i64 a0_2)) (ds := []) #[qF,qF,qF,qF,qF,qF,qF] (by kernel_rfl) rfl rfl ⟨(qas BK197.out 0).trans rfl, (qas BK197.out 1).trans rfl, (qas BK197.out 2).trans rfl⟩ (fun hHeld => ?_)
 generalize w4.drew = w5 at BK197 HB hHeld ⊢
 refine pure_ (i := 0) (N := some 3) (v := ?_) (a' := ?_) #[qT,qF,qF,qF,qF,qF,qF] rfl rfl (by kernel_rfl) (fun _ _ _ h => h) (Or.inl ⟨by rfl, ?_⟩) ?_ ?_; rotate_left; ·intro w'; go_simp; with_reducible rfl
 rotate_left; ·simp only [Act.put, qy1, qy2, qy3, i64_w, i32_w]; rfl
 refine pure_ (i := 2) (N := some 5) (v := ?_) (a' := ?_) #[qT,qF,qT,qF,qF,qF,qF] rfl rfl (by kernel_rfl) (fun _ _ _ h => h) (Or.inl ⟨by rfl, ?_⟩) ?_ ?_; rotate_left; ·intro w'; go_simp; with_reducible rfl
 rotate_left; ·simp only [Act.put, qy1, qy2, qy3, i64_w, i32_w]; rfl
 refine take_ (i := 1) (N := some 4) (v := ?_) (a' := ?_) #[qT,qT,qT,qF,qF,qF,qF] rfl rfl (by kernel_rfl) (fun _ _ _ h => h) (Or.inl ⟨by rfl, ?_⟩) hHeld ?_ ?_; rotate_left; ·rintro w' ⟨s0, s1, s2⟩; go_simp; with_reducible rfl
 rotate_left; ·simp only [Act.put, qy1, qy2, qy3, i64_w, i32_w]; rfl
 refine take_ (i := 3) (N := some 6) (v := ?_) (a' := ?_) #[qT,qT,qT,qT,qF,qF,qF] rfl rfl (by kernel_rfl) (fun _ _ _ h => h) (Or.inl ⟨by rfl, ?_⟩) hHeld ?_ ?_; rotate_left; ·rintro w' ⟨s0, s1, s2⟩; go_simp; with_reducible rfl
 rotate_left; ·simp only [Act.put, qy1, qy2, qy3, i64_w, i32_w]; rfl
 refine one_ (i := 4) (N := some 7) #[qT,qT,qT,qT,qT,qF,qF] rfl rfl (by kernel_rfl) (by decide) (fun K hK => ?_)
 refine goes_ Try.func54 (by kernel_rfl) rfl #[.agg #[.string a0_0, .slice A0_1 l0_1.length c0_1]] (by rfl) rfl rfl (by (try simp only [qy6, qy7, qy8]); first | done | rfl | (simp only [List.length_drop, List.length_take]; rfl)) ?_
 with_reducible refine (qaP.calls k a0_0 _ _ l0_1 t198 _ ?side1 ?side2 A2.out).mono ?_
 (case side1 => repeat (first | exact (Kd.qbt HR0_1.out HB.out) | (with_reducible refine Kd.qbl ?_ _) | (with_reducible refine Kd.qbk ?_ _) | (with_reducible refine Kd.qbw ?_)))
 (case side2 => exact HC0_1.out)
 rintro e w6 ⟨rfl, hb⟩
 refine ⟨_, rfl, ?_⟩
 have n0_ := qac.mk (qaS (g := gb197) (o := .cells #[.string a0_0, .slice A0_1 l0_1.length c0_1, .int .i64 a0_2] 32 (0, 0)) (by (with_reducible repeat (first | refine qan ?_ _ | refine qap ?_ | refine qao ?_ _)); exact BK197.out) hb)
 have n1_ := qac.mk (qaB (by repeat (first | (with_reducible first | exact HB.out | apply qae | apply qab | apply qad | refine qah ?_ GE197.out) | exact HB.out)) hb)
 clear BK197; clear HB; have BK197 := n0_; have HB := n1_; clear n0_ n1_; (try clear hb); (try clear hb2); (try clear hk); (try clear hi); refine hK.out _ _ ⟨(qas BK197.out 0).trans rfl, (qas BK197.out 1).trans rfl, (qas BK197.out 2).trans rfl⟩ (fun hHeld => ?_)
 clear hK K; refine norm_ (a' := ?_) ?_ ?_; rotate_left
 ·show Act.put _ (some 7) _ = _
  simp only [Act.put, qy1, qy2, qy3, i64_w, i32_w]
  rfl
 refine pure_ (i := 5) (N := some 8) (v := ?_) (a' := ?_) #[qT,qT,qT,qT,qT,qT,qF] rfl rfl (by kernel_rfl) (fun _ _ _ h => h) (Or.inl ⟨by rfl, ?_⟩) ?_ ?_; rotate_left; ·intro w'; go_simp; with_reducible rfl
 rotate_left; ·simp only [Act.put, qy1, qy2, qy3, i64_w, i32_w]; rfl
 refine pure_ (i := 6) (N := some 2) (v := ?_) (a' := ?_) #[qT,qT,qT,qT,qT,qT,qT] rfl rfl (by kernel_rfl) (fun _ _ _ h => h) (Or.inl ⟨by rfl, ?_⟩) ?_ ?_; rotate_left; ·intro w'; go_simp; with_reducible rfl
 rotate_left; ·simp only [Act.put, qy1, qy2, qy3, i64_w, i32_w]; rfl
 refine done_ (by kernel_rfl) ?_
 try go_wp2
 go_ret
 exact ⟨by first | rfl | (simp [qaz, qay] <;> rfl) | (simp only [← hji3]; first | rfl | (simp [qaz, qay] <;> rfl)) | (simp [*, qaz, qay] <;> rfl), by repeat (first | (with_reducible first | exact HB.out | apply qae | apply qab | apply qad | refine qah ?_ GE197.out) | exact HB.out)⟩
end Go.Proofs.Ytfcifmbddikflaa.P
