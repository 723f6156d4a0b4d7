/- Texts of the claim, put together: Px9, Px10, Px11. -/
import Derived.Test.YtfcifmbddikflaaCReserveFree14
import Derived.Test.YtfcifmbddikflaaCReserveFree19
import Derived.Test.YtfcifmbddikflaaCReserveFree16
import Derived.Test.YtfcifmbddikflaaCReserveFree17
import Derived.Test.YtfcifmbddikflaaCReserveFree18
namespace Go.Proofs.Ytfcifmbddikflaa.P
open Go.RowKit Go.Proofs.YtfcifmbddikflaaW.PrintWords Go.Proofs.YtfcifmbddikflaaW.PrintLast Go.Proofs.YtfcifmbddikflaaW.PrintMore
attribute [local go_sem] qbo qbm qbz qby qbg qbf qbn qbl
set_option linter.unusedVariables false
set_option linter.unusedSimpArgs false
mutual
def qaA.l0 : Nat → List (S29) → Int → Int → List (S29) → Int → Int → Option (Int)
 | 0, _, _, _, _, _, _ => none
 | k + 1, x0, x1, x5, x10, x11, x12 => if x12 < x11 then (if 0 ≤ x12 then (if x12 < (x10.length : Int) then (qaA.l1 k x0 x1 x5 x10 x11 x12 ((qaF x10 x12).f1) (((qaF x10 x12).f1).length : Int) 0) else (none)) else (none)) else (some x5)
def qaA.l1 : Nat → List (S29) → Int → Int → List (S29) → Int → Int → List (S41) → Int → Int → Option (Int)
 | 0, _, _, _, _, _, _, _, _, _ => none
 | k + 1, x0, x1, x5, x10, x11, x12, x17, x18, x19 => if x19 < x18 then (if 0 ≤ x19 then (if x19 < (x17.length : Int) then (if ((qaC x17 x19).f1) < x5 then ((qau.f k x0 ((qaC x17 x19).f1) true).bind fun t135 => (if t135 ≥ x1 then (qaA.l1 k x0 x1 ((qaC x17 x19).f1) x10 x11 x12 x17 x18 (wrap64 (x19 + 1))) else (qaA.l1 k x0 x1 x5 x10 x11 x12 x17 x18 (wrap64 (x19 + 1))))) else (qaA.l1 k x0 x1 x5 x10 x11 x12 x17 x18 (wrap64 (x19 + 1)))) else (none)) else (none)) else (qaA.l0 k x0 x1 x5 x10 x11 (wrap64 (x12 + 1)))
end
def qaA.f (k : Nat) (l0 : List (S29)) (a1 : Int) : Option (Int) := qaA.l0 k l0 a1 2000000 l0 (l0.length : Int) 0
theorem qaA.qbB : ∀ k, (∀ y0 y1 y2 y3 y4 y5, LeO (qaA.l0 k y0 y1 y2 y3 y4 y5) (qaA.l0 (k + 1) y0 y1 y2 y3 y4 y5)) ∧ (∀ y0 y1 y2 y3 y4 y5 y6 y7 y8, LeO (qaA.l1 k y0 y1 y2 y3 y4 y5 y6 y7 y8) (qaA.l1 (k + 1) y0 y1 y2 y3 y4 y5 y6 y7 y8))
 | 0 => ⟨fun _ _ _ _ _ _ r h => by simp [qaA.l0] at h, fun _ _ _ _ _ _ _ _ _ r h => by simp [qaA.l1] at h⟩
 | k + 1 => by
  obtain ⟨ih0, ih1⟩ := qaA.qbB k
  refine ⟨?_, ?_⟩
  ·intro y0 y1 y2 y3 y4 y5; unfold qaA.l0
   repeat' first
   | (with_reducible exact ih0 _ _ _ _ _ _)
   | (with_reducible exact ih1 _ _ _ _ _ _ _ _ _)
   | (with_reducible exact qau.mono _ _ _ _)
   | (with_reducible exact LeO.refl _)
   | (with_reducible exact LeO.none _)
   | (with_reducible refine LeO.ite ?_ ?_)
   | (with_reducible refine LeO.bind ?_ (fun _ => ?_))
   | exact ih0 _ _ _ _ _ _
   | exact ih1 _ _ _ _ _ _ _ _ _
   | exact qau.mono _ _ _ _
   | exact LeO.none _
   | refine LeO.ite ?_ ?_
   | refine LeO.bind ?_ (fun _ => ?_)
  ·intro y0 y1 y2 y3 y4 y5 y6 y7 y8; unfold qaA.l1
   repeat' first
   | (with_reducible exact ih0 _ _ _ _ _ _)
   | (with_reducible exact ih1 _ _ _ _ _ _ _ _ _)
   | (with_reducible exact qau.mono _ _ _ _)
   | (with_reducible exact LeO.refl _)
   | (with_reducible exact LeO.none _)
   | (with_reducible refine LeO.ite ?_ ?_)
   | (with_reducible refine LeO.bind ?_ (fun _ => ?_))
   | exact ih0 _ _ _ _ _ _
   | exact ih1 _ _ _ _ _ _ _ _ _
   | exact qau.mono _ _ _ _
   | exact LeO.none _
   | refine LeO.ite ?_ ?_
   | refine LeO.bind ?_ (fun _ => ?_)
theorem qaA.mono : ∀ a0 a1 k, LeO (qaA.f k a0 a1) (qaA.f (k + 1) a0 a1) := by
 intro a0 a1 k; obtain ⟨ih0, ih1⟩ := qaA.qbB k
 unfold qaA.f
 repeat' first
   | (with_reducible exact ih0 _ _ _ _ _ _)
   | (with_reducible exact ih1 _ _ _ _ _ _ _ _ _)
   | (with_reducible exact qau.mono _ _ _ _)
   | (with_reducible exact LeO.refl _)
   | (with_reducible exact LeO.none _)
   | (with_reducible refine LeO.ite ?_ ?_)
   | (with_reducible refine LeO.bind ?_ (fun _ => ?_))
   | exact ih0 _ _ _ _ _ _
   | exact ih1 _ _ _ _ _ _ _ _ _
   | exact qau.mono _ _ _ _
   | exact LeO.none _
   | refine LeO.ite ?_ ?_
   | refine LeO.bind ?_ (fun _ => ?_)
set_option maxHeartbeats 8000000 in
set_option maxRecDepth 100000 in
theorem qaA.calls (k : Nat) (A0 : Option Addr) (c0 : Nat) (l0 : List (S29)) (a1 : Int) (r : Int) (w : World) (hr0 : Kd.C k29 w A0 l0.length l0) (hc0 : l0.length ≤ c0) (h : qaA.f k l0 a1 = some r) :
  Calls Try.prog 48 #[.slice A0 l0.length c0, .int .i64 a1] w fun e w' => e = .returned (.int .i64 r) ∧ Below w.heap.size w w' := by
 have hu29 := Try.underlying29; have hu41 := Try.underlying41; have HR0 := qae.mk hr0
 have HC0 := qae.mk hc0
 clear hr0 hc0; have HB := qae.mk (Below.refl w.heap.size w)
 have H : (qaA.l0 k l0 a1 2000000 l0 (l0.length : Int) 0) = some r := h
 clear h; have H' := qae.mk H; clear H; go_enter Try.func48, Try.ntmps48; go_wp2; go_loopg [5, 12] k (fun kq v5 v12 w' => ∃ (x5_1 : Int) (x12_1 : Int), v5 = .int .i64 x5_1 ∧ v12 = .int .i64 x12_1 ∧ qae (qaA.l0 kq l0 a1 x5_1 l0 (l0.length : Int) x12_1 = some r) ∧ qae (kq ≤ k) ∧ qae (Below w.heap.size w w'))
 case atStart => exact ⟨(2000000), (0), (by first | rfl | (simp; done) | (simp [*]; done)), (by first | rfl | (simp; done) | (simp [*]; done)), H', ⟨Nat.le_refl _⟩, ⟨by repeat (first | (with_reducible first | exact HB.out | apply qad | apply qaa | apply qac) | exact HB.out)⟩⟩
 case round =>
  clear H'; (try clear p2); obtain ⟨x5_1, x12_1, rfl, rfl, HA, HK1, HB⟩ := hrel
  cases gk with
  | zero => exact absurd HA.out (by simp [qaA.l0])
  | succ k1 =>
   have H := HA.out; clear HA; simp only [qaA.l0] at H
   by_cases c3 : x12_1 < (l0.length : Int)
   ·rw [if_pos c3] at H; have c3b0 : decide (x12_1 < (l0.length : Int)) = true := decide_eq_true c3; clear c3; by_cases c4 : 0 ≤ x12_1
    ·rw [if_pos c4] at H; have c4b0 : decide (0 ≤ x12_1) = true := decide_eq_true c4; clear c4; by_cases c5 : x12_1 < (l0.length : Int)
     ·rw [if_pos c5] at H; have c5b0 : decide (x12_1 < (l0.length : Int)) = true := decide_eq_true c5; clear c5; have H' := qae.mk H; clear H; have p131 : 0 ≤ (x12_1 : Int) := of_decide_eq_true (by first | (with_reducible assumption) | assumption)
      have q131 : x12_1 < (l0.length : Int) := of_decide_eq_true (by first | (with_reducible assumption) | assumption)
      obtain ⟨ad131, A131_1, c131_1, e131, hx131_0, hx131_1, hl131_1, hi131_1⟩ := at_T29 HR0.out x12_1 p131 q131
      cases e131
      replace hx131_0 := (HB.out.cell (World.block_lt_of_cell? w _ hx131_0)).trans hx131_0
      replace hx131_1 := (HB.out.cell (World.block_lt_of_cell? w _ hx131_1)).trans hx131_1
      have HR131_1 := qae.mk hi131_1
      have HC131_1 := qae.mk hl131_1
      clear hi131_1 hl131_1; replace p131 := eq_true p131; replace q131 := eq_true q131; go_wp2_with (first | ((with_reducible refine qaW (N := 7) rfl ?_); refine qaU ?hg (N := 7) ?hd (cs := #[.string (⟨#[]⟩ : ByteArray), .slice none 0 0]) (t := 29) ?hr ?_; (case hd => rfl); (case hg => rfl); (case hr => first | (go_simp; done) | (go_simp; rfl)); intro gb132 hg w6 hbox hb; have n0_ := qae.mk (qar (by repeat (first | (with_reducible first | exact HB.out | apply qad | apply qaa | apply qac) | exact HB.out)) hb); have n1_ := qae.mk (hbox); have n2_ := qae.mk ((by rw [hg]; exact (qan (by repeat (first | (with_reducible first | exact HB.out | apply qad | apply qaa | apply qac) | exact HB.out))) : w.heap.size ≤ gb132)); have n3_ := qae.mk ((by rw [hg]; exact (qan (by repeat (first | (with_reducible first | exact HB.out | apply qad | apply qaa | apply qac) | exact HB.out))) : w.heap.size ≤ gb132)); clear HB; have HB := n0_; have BK132 := n1_; have GW132 := n2_; have GE132 := n3_; clear n0_ n1_ n2_ n3_; clear hb hbox hg; have hcz7_0 : w6.cell? ⟨gb132, 0, none⟩ = some (.string (⟨#[]⟩ : ByteArray)) := (qao BK132.out 0).trans rfl; have hcz7_1 : w6.cell? ⟨gb132, 1, none⟩ = some (.slice none 0 0) := (qao BK132.out 1).trans rfl; have hfz7_0 := qam BK132.out 0; have hfz7_1 := qam BK132.out 1))
      (try simp only [Act.put, List.setIfInBounds_toArray, List.set_cons_zero, List.set_cons_succ])
      go_loopg [5, 19] k1 (fun kq v5 v19 w' => ∃ (x5_2 : Int) (x19_2 : Int), v5 = .int .i64 x5_2 ∧ v19 = .int .i64 x19_2 ∧ qae (qaA.l1 kq l0 a1 x5_2 l0 (l0.length : Int) x12_1 ((qaF l0 x12_1).f1) (((qaF l0 x12_1).f1).length : Int) x19_2 = some r) ∧ qae (kq ≤ k1) ∧ qae (w'.heap[gb132]? = some (.cells #[.string ((qaF l0 x12_1).f0), (.slice A131_1 ((qaF l0 x12_1).f1).length c131_1)] 29 (0, 0))) ∧ qae (Below w.heap.size w w'))
      case atStart => exact ⟨(x5_1), (0), (by first | rfl | (simp; done) | (simp [*]; done)), (by first | rfl | (simp; done) | (simp [*]; done)), H', ⟨Nat.le_refl _⟩, ⟨by (with_reducible repeat (first | refine qai ?_ _ | refine qak ?_ | refine qaj ?_ _)); refine qba (cs := #[.string ((qaF l0 x12_1).f0), .slice none 0 0]) ?_ 1 _ rfl; (with_reducible repeat (first | refine qai ?_ _ | refine qak ?_ | refine qaj ?_ _)); refine qba (cs := #[.string (⟨#[]⟩ : ByteArray), .slice none 0 0]) ?_ 0 _ rfl; (with_reducible repeat (first | refine qai ?_ _ | refine qak ?_ | refine qaj ?_ _)); exact BK132.out⟩, ⟨by repeat (first | (with_reducible first | exact HB.out | apply qad | apply qaa | apply qac | refine qah ?_ GE132.out) | exact HB.out)⟩⟩
      case round =>
       clear H'; (try clear c1); (try clear p1); (try clear q1); (try clear hx1); (try clear p2); (try clear c3); (try clear c3b0); (try clear c4); (try clear c4b0); (try clear c5); (try clear c5b0); (try clear hcz7_0); (try clear hcz7_1); (try clear hfz7_0); (try clear hfz7_1); (try clear hx131_0); (try clear hx131_1); (try clear p131); (try clear p2); (try clear q131); obtain ⟨x5_2, x19_2, rfl, rfl, HA, HK2, BK132, HB⟩ := hrel
       cases gk with
       | zero => exact absurd HA.out (by simp [qaA.l1])
       | succ k2 =>
        have H := HA.out; clear HA; simp only [qaA.l1] at H
        by_cases c8 : x19_2 < (((qaF l0 x12_1).f1).length : Int)
        ·rw [if_pos c8] at H; have c8b0 : decide (x19_2 < (((qaF l0 x12_1).f1).length : Int)) = true := decide_eq_true c8; clear c8; by_cases c9 : 0 ≤ x19_2
         ·rw [if_pos c9] at H; have c9b0 : decide (0 ≤ x19_2) = true := decide_eq_true c9; clear c9; by_cases c10 : x19_2 < (((qaF l0 x12_1).f1).length : Int)
          ·rw [if_pos c10] at H; have c10b0 : decide (x19_2 < (((qaF l0 x12_1).f1).length : Int)) = true := decide_eq_true c10; clear c10; by_cases c11 : ((qaC ((qaF l0 x12_1).f1) x19_2).f1) < x5_2
           ·rw [if_pos c11] at H; have c11b0 : decide (((qaC ((qaF l0 x12_1).f1) x19_2).f1) < x5_2) = true := decide_eq_true c11; clear c11; replace H := Option.bind_eq_some_iff.mp H; obtain ⟨t135, A120, H⟩ := H; replace H : (if t135 ≥ a1 then (qaA.l1 k2 l0 a1 ((qaC ((qaF l0 x12_1).f1) x19_2).f1) l0 (l0.length : Int) x12_1 ((qaF l0 x12_1).f1) (((qaF l0 x12_1).f1).length : Int) (wrap64 (x19_2 + 1))) else (qaA.l1 k2 l0 a1 x5_2 l0 (l0.length : Int) x12_1 ((qaF l0 x12_1).f1) (((qaF l0 x12_1).f1).length : Int) (wrap64 (x19_2 + 1)))) = some r := H
            have A12 := qae.mk A120
            clear A120; by_cases c13 : t135 ≥ a1
            ·rw [if_pos c13] at H; have c13b0 : decide (a1 ≤ t135) = true := decide_eq_true c13; clear c13; have H' := qae.mk H; clear H; have p133 : 0 ≤ (x19_2 : Int) := of_decide_eq_true (by first | (with_reducible assumption) | assumption)
             have q133 : x19_2 < (((qaF l0 x12_1).f1).length : Int) := of_decide_eq_true (by first | (with_reducible assumption) | assumption)
             obtain ⟨ad133, e133, hx133_0, hx133_1⟩ := at_T41 HR131_1.out x19_2 p133 q133
             cases e133
             replace hx133_0 := (HB.out.cell (World.block_lt_of_cell? w _ hx133_0)).trans hx133_0
             replace hx133_1 := (HB.out.cell (World.block_lt_of_cell? w _ hx133_1)).trans hx133_1
             replace p133 := eq_true p133; replace q133 := eq_true q133; go_wp2_with (first | ((with_reducible refine qaW (N := 9) rfl ?_); refine qaU ?hg (N := 9) ?hd (cs := #[.int .i64 0, .int .i64 0]) (t := 41) ?hr ?_; (case hd => rfl); (case hg => rfl); (case hr => first | (go_simp; done) | (go_simp; rfl)); intro gb134 hg w14 hbox hb; have n0_ := qae.mk (qa5 (g := gb132) (o := .cells #[.string ((qaF l0 x12_1).f0), .slice (some ad133) ((qaF l0 x12_1).f1).length c131_1] 29 (0, 0)) (by (with_reducible repeat (first | refine qai ?_ _ | refine qak ?_ | refine qaj ?_ _)); exact BK132.out) hb); have n1_ := qae.mk (qar (by repeat (first | (with_reducible first | exact HB.out | apply qad | apply qaa | apply qac | refine qah ?_ GE132.out) | exact HB.out)) hb); have n2_ := qae.mk (hbox); have n3_ := qae.mk ((by rw [hg]; exact (qan (by repeat (first | (with_reducible first | exact HB.out | apply qad | apply qaa | apply qac | refine qah ?_ GE132.out) | exact HB.out))) : w.heap.size ≤ gb134)); have n4_ := qae.mk ((by rw [hg]; exact (qan (by repeat (first | (with_reducible first | exact HB.out | apply qad | apply qaa | apply qac | refine qah ?_ GE132.out) | exact HB.out))) : w.heap.size ≤ gb134)); have n5_ := qae.mk ((by rw [hg]; exact Nat.ne_of_lt (qbs (g := gb132) (o := .cells #[.string ((qaF l0 x12_1).f0), .slice (some ad133) ((qaF l0 x12_1).f1).length c131_1] 29 (0, 0)) (by (with_reducible repeat (first | refine qai ?_ _ | refine qak ?_ | refine qaj ?_ _)); exact BK132.out)) : gb132 ≠ gb134)); have n6_ := qae.mk ((by rw [hg]; exact Nat.ne_of_gt (qbs (g := gb132) (o := .cells #[.string ((qaF l0 x12_1).f0), .slice (some ad133) ((qaF l0 x12_1).f1).length c131_1] 29 (0, 0)) (by (with_reducible repeat (first | refine qai ?_ _ | refine qak ?_ | refine qaj ?_ _)); exact BK132.out)) : gb134 ≠ gb132)); clear BK132; clear HB; have BK132 := n0_; have HB := n1_; have BK134 := n2_; have GW134 := n3_; have GE134 := n4_; have NB132_134 := n5_; have NB134_132 := n6_; clear n0_ n1_ n2_ n3_ n4_ n5_ n6_; clear hb hbox hg; have hnb15 := NB134_132.out; have hnc15 := NB132_134.out; have hcz16_0 : w14.cell? ⟨gb134, 0, none⟩ = some (.int .i64 0) := (qao BK134.out 0).trans rfl; have hcz16_1 : w14.cell? ⟨gb134, 1, none⟩ = some (.int .i64 0) := (qao BK134.out 1).trans rfl; have hfz16_0 := qam BK134.out 0; have hfz16_1 := qam BK134.out 1) | (go_at_call 49; (with_reducible refine (qau.calls k2 _ _ l0 ((qaC ((qaF l0 x12_1).f1) x19_2).f1) true t135 _ ?side1 ?side2 A12.out).mono ?_); (case side1 => exact Kd.qbC HR0.out (by repeat (first | (with_reducible first | exact HB.out | apply qad | apply qaa | apply qac | refine qah ?_ GE132.out | refine qah ?_ GE134.out) | exact HB.out))); (case side2 => exact HC0.out); rintro e w17 ⟨rfl, hb⟩; have n0_ := qae.mk (qa5 (g := gb132) (o := .cells #[.string ((qaF l0 x12_1).f0), .slice (some ad133) ((qaF l0 x12_1).f1).length c131_1] 29 (0, 0)) (by (with_reducible repeat (first | refine qai ?_ _ | refine qak ?_ | refine qaj ?_ _)); refine qbp ?_ NB132_134.out _; (with_reducible repeat (first | refine qai ?_ _ | refine qak ?_ | refine qaj ?_ _)); refine qbp ?_ NB132_134.out _; (with_reducible repeat (first | refine qai ?_ _ | refine qak ?_ | refine qaj ?_ _)); exact BK132.out) hb); have n1_ := qae.mk (qa5 (g := gb134) (o := .cells #[.int .i64 ((qaC ((qaF l0 x12_1).f1) x19_2).f0), .int .i64 ((qaC ((qaF l0 x12_1).f1) x19_2).f1)] 41 (0, 0)) (by (with_reducible repeat (first | refine qai ?_ _ | refine qak ?_ | refine qaj ?_ _)); refine qba (cs := #[.int .i64 ((qaC ((qaF l0 x12_1).f1) x19_2).f0), .int .i64 0]) ?_ 1 _ rfl; (with_reducible repeat (first | refine qai ?_ _ | refine qak ?_ | refine qaj ?_ _)); refine qba (cs := #[.int .i64 0, .int .i64 0]) ?_ 0 _ rfl; (with_reducible repeat (first | refine qai ?_ _ | refine qak ?_ | refine qaj ?_ _)); exact BK134.out) hb); have n2_ := qae.mk (qar (by repeat (first | (with_reducible first | exact HB.out | apply qad | apply qaa | apply qac | refine qah ?_ GE132.out | refine qah ?_ GE134.out) | exact HB.out)) hb); clear BK132; clear BK134; clear HB; have BK132 := n0_; have BK134 := n1_; have HB := n2_; clear n0_ n1_ n2_; (try clear hb); (try clear hb2); (try clear hk); (try clear hi); have hcz18_0 : w17.cell? ⟨gb134, 0, none⟩ = some (.int .i64 ((qaC ((qaF l0 x12_1).f1) x19_2).f0)) := (qao BK134.out 0).trans rfl; have hcz18_1 : w17.cell? ⟨gb134, 1, none⟩ = some (.int .i64 ((qaC ((qaF l0 x12_1).f1) x19_2).f1)) := (qao BK134.out 1).trans rfl; have hfz18_0 := qam BK134.out 0; have hfz18_1 := qam BK134.out 1))
             go_roundg k2
             case measure => have := HK1.out; have := HK2.out; omega
             case rel => exact ⟨((qaC ((qaF l0 x12_1).f1) x19_2).f1), (wrap64 (x19_2 + 1)), (by first | rfl | (simp; done) | (simp [*]; done)), (by first | rfl | (simp; done) | (simp [*]; done)), H', ⟨by have := HK1.out; have := HK2.out; omega⟩, ⟨by (with_reducible repeat (first | refine qai ?_ _ | refine qak ?_ | refine qaj ?_ _)); exact BK132.out⟩, ⟨by repeat (first | (with_reducible first | exact HB.out | apply qad | apply qaa | apply qac | refine qah ?_ GE132.out | refine qah ?_ GE134.out) | exact HB.out)⟩⟩
            ·rw [if_neg c13] at H; have c13b0 : decide (a1 ≤ t135) = false := decide_eq_false c13; clear c13; have H' := qae.mk H; clear H; have p133 : 0 ≤ (x19_2 : Int) := of_decide_eq_true (by first | (with_reducible assumption) | assumption)
             have q133 : x19_2 < (((qaF l0 x12_1).f1).length : Int) := of_decide_eq_true (by first | (with_reducible assumption) | assumption)
             obtain ⟨ad133, e133, hx133_0, hx133_1⟩ := at_T41 HR131_1.out x19_2 p133 q133
             cases e133
             replace hx133_0 := (HB.out.cell (World.block_lt_of_cell? w _ hx133_0)).trans hx133_0
             replace hx133_1 := (HB.out.cell (World.block_lt_of_cell? w _ hx133_1)).trans hx133_1
             replace p133 := eq_true p133; replace q133 := eq_true q133; go_wp2_with (first | ((with_reducible refine qaW (N := 9) rfl ?_); refine qaU ?hg (N := 9) ?hd (cs := #[.int .i64 0, .int .i64 0]) (t := 41) ?hr ?_; (case hd => rfl); (case hg => rfl); (case hr => first | (go_simp; done) | (go_simp; rfl)); intro gb134 hg w19 hbox hb; have n0_ := qae.mk (qa5 (g := gb132) (o := .cells #[.string ((qaF l0 x12_1).f0), .slice (some ad133) ((qaF l0 x12_1).f1).length c131_1] 29 (0, 0)) (by (with_reducible repeat (first | refine qai ?_ _ | refine qak ?_ | refine qaj ?_ _)); exact BK132.out) hb); have n1_ := qae.mk (qar (by repeat (first | (with_reducible first | exact HB.out | apply qad | apply qaa | apply qac | refine qah ?_ GE132.out) | exact HB.out)) hb); have n2_ := qae.mk (hbox); have n3_ := qae.mk ((by rw [hg]; exact (qan (by repeat (first | (with_reducible first | exact HB.out | apply qad | apply qaa | apply qac | refine qah ?_ GE132.out) | exact HB.out))) : w.heap.size ≤ gb134)); have n4_ := qae.mk ((by rw [hg]; exact (qan (by repeat (first | (with_reducible first | exact HB.out | apply qad | apply qaa | apply qac | refine qah ?_ GE132.out) | exact HB.out))) : w.heap.size ≤ gb134)); have n5_ := qae.mk ((by rw [hg]; exact Nat.ne_of_lt (qbs (g := gb132) (o := .cells #[.string ((qaF l0 x12_1).f0), .slice (some ad133) ((qaF l0 x12_1).f1).length c131_1] 29 (0, 0)) (by (with_reducible repeat (first | refine qai ?_ _ | refine qak ?_ | refine qaj ?_ _)); exact BK132.out)) : gb132 ≠ gb134)); have n6_ := qae.mk ((by rw [hg]; exact Nat.ne_of_gt (qbs (g := gb132) (o := .cells #[.string ((qaF l0 x12_1).f0), .slice (some ad133) ((qaF l0 x12_1).f1).length c131_1] 29 (0, 0)) (by (with_reducible repeat (first | refine qai ?_ _ | refine qak ?_ | refine qaj ?_ _)); exact BK132.out)) : gb134 ≠ gb132)); clear BK132; clear HB; have BK132 := n0_; have HB := n1_; have BK134 := n2_; have GW134 := n3_; have GE134 := n4_; have NB132_134 := n5_; have NB134_132 := n6_; clear n0_ n1_ n2_ n3_ n4_ n5_ n6_; clear hb hbox hg; have hnb20 := NB134_132.out; have hnc20 := NB132_134.out; have hcz21_0 : w19.cell? ⟨gb134, 0, none⟩ = some (.int .i64 0) := (qao BK134.out 0).trans rfl; have hcz21_1 : w19.cell? ⟨gb134, 1, none⟩ = some (.int .i64 0) := (qao BK134.out 1).trans rfl; have hfz21_0 := qam BK134.out 0; have hfz21_1 := qam BK134.out 1) | (go_at_call 49; (with_reducible refine (qau.calls k2 _ _ l0 ((qaC ((qaF l0 x12_1).f1) x19_2).f1) true t135 _ ?side1 ?side2 A12.out).mono ?_); (case side1 => exact Kd.qbC HR0.out (by repeat (first | (with_reducible first | exact HB.out | apply qad | apply qaa | apply qac | refine qah ?_ GE132.out | refine qah ?_ GE134.out) | exact HB.out))); (case side2 => exact HC0.out); rintro e w22 ⟨rfl, hb⟩; have n0_ := qae.mk (qa5 (g := gb132) (o := .cells #[.string ((qaF l0 x12_1).f0), .slice (some ad133) ((qaF l0 x12_1).f1).length c131_1] 29 (0, 0)) (by (with_reducible repeat (first | refine qai ?_ _ | refine qak ?_ | refine qaj ?_ _)); refine qbp ?_ NB132_134.out _; (with_reducible repeat (first | refine qai ?_ _ | refine qak ?_ | refine qaj ?_ _)); refine qbp ?_ NB132_134.out _; (with_reducible repeat (first | refine qai ?_ _ | refine qak ?_ | refine qaj ?_ _)); exact BK132.out) hb); have n1_ := qae.mk (qa5 (g := gb134) (o := .cells #[.int .i64 ((qaC ((qaF l0 x12_1).f1) x19_2).f0), .int .i64 ((qaC ((qaF l0 x12_1).f1) x19_2).f1)] 41 (0, 0)) (by (with_reducible repeat (first | refine qai ?_ _ | refine qak ?_ | refine qaj ?_ _)); refine qba (cs := #[.int .i64 ((qaC ((qaF l0 x12_1).f1) x19_2).f0), .int .i64 0]) ?_ 1 _ rfl; (with_reducible repeat (first | refine qai ?_ _ | refine qak ?_ | refine qaj ?_ _)); refine qba (cs := #[.int .i64 0, .int .i64 0]) ?_ 0 _ rfl; (with_reducible repeat (first | refine qai ?_ _ | refine qak ?_ | refine qaj ?_ _)); exact BK134.out) hb); have n2_ := qae.mk (qar (by repeat (first | (with_reducible first | exact HB.out | apply qad | apply qaa | apply qac | refine qah ?_ GE132.out | refine qah ?_ GE134.out) | exact HB.out)) hb); clear BK132; clear BK134; clear HB; have BK132 := n0_; have BK134 := n1_; have HB := n2_; clear n0_ n1_ n2_; (try clear hb); (try clear hb2); (try clear hk); (try clear hi)))
             go_roundg k2
             case measure => have := HK1.out; have := HK2.out; omega
             case rel => exact ⟨(x5_2), (wrap64 (x19_2 + 1)), (by first | rfl | (simp; done) | (simp [*]; done)), (by first | rfl | (simp; done) | (simp [*]; done)), H', ⟨by have := HK1.out; have := HK2.out; omega⟩, ⟨by (with_reducible repeat (first | refine qai ?_ _ | refine qak ?_ | refine qaj ?_ _)); exact BK132.out⟩, ⟨by repeat (first | (with_reducible first | exact HB.out | apply qad | apply qaa | apply qac | refine qah ?_ GE132.out | refine qah ?_ GE134.out) | exact HB.out)⟩⟩
           ·rw [if_neg c11] at H; have c11b0 : decide (((qaC ((qaF l0 x12_1).f1) x19_2).f1) < x5_2) = false := decide_eq_false c11; clear c11; have H' := qae.mk H; clear H; have p133 : 0 ≤ (x19_2 : Int) := of_decide_eq_true (by first | (with_reducible assumption) | assumption)
            have q133 : x19_2 < (((qaF l0 x12_1).f1).length : Int) := of_decide_eq_true (by first | (with_reducible assumption) | assumption)
            obtain ⟨ad133, e133, hx133_0, hx133_1⟩ := at_T41 HR131_1.out x19_2 p133 q133
            cases e133
            replace hx133_0 := (HB.out.cell (World.block_lt_of_cell? w _ hx133_0)).trans hx133_0
            replace hx133_1 := (HB.out.cell (World.block_lt_of_cell? w _ hx133_1)).trans hx133_1
            replace p133 := eq_true p133; replace q133 := eq_true q133; go_wp2_with (first | ((with_reducible refine qaW (N := 9) rfl ?_); refine qaU ?hg (N := 9) ?hd (cs := #[.int .i64 0, .int .i64 0]) (t := 41) ?hr ?_; (case hd => rfl); (case hg => rfl); (case hr => first | (go_simp; done) | (go_simp; rfl)); intro gb134 hg w23 hbox hb; have n0_ := qae.mk (qa5 (g := gb132) (o := .cells #[.string ((qaF l0 x12_1).f0), .slice (some ad133) ((qaF l0 x12_1).f1).length c131_1] 29 (0, 0)) (by (with_reducible repeat (first | refine qai ?_ _ | refine qak ?_ | refine qaj ?_ _)); exact BK132.out) hb); have n1_ := qae.mk (qar (by repeat (first | (with_reducible first | exact HB.out | apply qad | apply qaa | apply qac | refine qah ?_ GE132.out) | exact HB.out)) hb); have n2_ := qae.mk (hbox); have n3_ := qae.mk ((by rw [hg]; exact (qan (by repeat (first | (with_reducible first | exact HB.out | apply qad | apply qaa | apply qac | refine qah ?_ GE132.out) | exact HB.out))) : w.heap.size ≤ gb134)); have n4_ := qae.mk ((by rw [hg]; exact (qan (by repeat (first | (with_reducible first | exact HB.out | apply qad | apply qaa | apply qac | refine qah ?_ GE132.out) | exact HB.out))) : w.heap.size ≤ gb134)); have n5_ := qae.mk ((by rw [hg]; exact Nat.ne_of_lt (qbs (g := gb132) (o := .cells #[.string ((qaF l0 x12_1).f0), .slice (some ad133) ((qaF l0 x12_1).f1).length c131_1] 29 (0, 0)) (by (with_reducible repeat (first | refine qai ?_ _ | refine qak ?_ | refine qaj ?_ _)); exact BK132.out)) : gb132 ≠ gb134)); have n6_ := qae.mk ((by rw [hg]; exact Nat.ne_of_gt (qbs (g := gb132) (o := .cells #[.string ((qaF l0 x12_1).f0), .slice (some ad133) ((qaF l0 x12_1).f1).length c131_1] 29 (0, 0)) (by (with_reducible repeat (first | refine qai ?_ _ | refine qak ?_ | refine qaj ?_ _)); exact BK132.out)) : gb134 ≠ gb132)); clear BK132; clear HB; have BK132 := n0_; have HB := n1_; have BK134 := n2_; have GW134 := n3_; have GE134 := n4_; have NB132_134 := n5_; have NB134_132 := n6_; clear n0_ n1_ n2_ n3_ n4_ n5_ n6_; clear hb hbox hg; have hnb24 := NB134_132.out; have hnc24 := NB132_134.out; have hcz25_0 : w23.cell? ⟨gb134, 0, none⟩ = some (.int .i64 0) := (qao BK134.out 0).trans rfl; have hcz25_1 : w23.cell? ⟨gb134, 1, none⟩ = some (.int .i64 0) := (qao BK134.out 1).trans rfl; have hfz25_0 := qam BK134.out 0; have hfz25_1 := qam BK134.out 1))
            go_roundg k2
            case measure => have := HK1.out; have := HK2.out; omega
            case rel => exact ⟨(x5_2), (wrap64 (x19_2 + 1)), (by first | rfl | (simp; done) | (simp [*]; done)), (by first | rfl | (simp; done) | (simp [*]; done)), H', ⟨by have := HK1.out; have := HK2.out; omega⟩, ⟨by (with_reducible repeat (first | refine qai ?_ _ | refine qak ?_ | refine qaj ?_ _)); refine qbp ?_ NB132_134.out _; (with_reducible repeat (first | refine qai ?_ _ | refine qak ?_ | refine qaj ?_ _)); refine qbp ?_ NB132_134.out _; (with_reducible repeat (first | refine qai ?_ _ | refine qak ?_ | refine qaj ?_ _)); exact BK132.out⟩, ⟨by repeat (first | (with_reducible first | exact HB.out | apply qad | apply qaa | apply qac | refine qah ?_ GE132.out | refine qah ?_ GE134.out) | exact HB.out)⟩⟩
          ·rw [if_neg c10] at H; exact absurd H (by simp)
         ·rw [if_neg c9] at H; exact absurd H (by simp)
        ·rw [if_neg c8] at H; have c8b0 : decide (x19_2 < (((qaF l0 x12_1).f1).length : Int)) = false := decide_eq_false c8; clear c8; have H' := qae.mk H; clear H; go_wp2; go_roundg k2
         case measure => have := HK1.out; have := HK2.out; omega
         case rel => exact ⟨(x5_2), (wrap64 (x12_1 + 1)), (by first | rfl | (simp; done) | (simp [*]; done)), (by first | rfl | (simp; done) | (simp [*]; done)), H', ⟨by have := HK1.out; have := HK2.out; omega⟩, ⟨by repeat (first | (with_reducible first | exact HB.out | apply qad | apply qaa | apply qac | refine qah ?_ GE132.out) | exact HB.out)⟩⟩
     ·rw [if_neg c5] at H; exact absurd H (by simp)
    ·rw [if_neg c4] at H; exact absurd H (by simp)
   ·rw [if_neg c3] at H; have c3b0 : decide (x12_1 < (l0.length : Int)) = false := decide_eq_false c3; clear c3; obtain rfl := Option.some.inj H
    go_wp2; go_ret
    exact ⟨by first | rfl | (simp [qaw, qav] <;> rfl) | (simp [*, qaw, qav] <;> rfl), by repeat (first | (with_reducible first | exact HB.out | apply qad | apply qaa | apply qac) | exact HB.out)⟩
mutual
def qaQ.j0 : Nat → Int → Bool → ByteArray → List (S41) → Option (Int × Int × Int)
 | 0, _, _, _, _ => none
 | k + 1, x1, x22, x137000, x137001 => if x22 = true then (some (0, 0, 4)) else (qaQ.l0 k x1 0 0 x137001 (x137001.length : Int) 0)
def qaQ.l0 : Nat → Int → Int → Int → List (S41) → Int → Int → Option (Int × Int × Int)
 | 0, _, _, _, _, _, _ => none
 | k + 1, x1, x8, x9, x24, x25, x26 => if x26 < x25 then (if 0 ≤ x26 then (if x26 < (x24.length : Int) then (if ((qaC x24 x26).f1) < x1 then (if ((qaC x24 x26).f1) ≤ x1 then (qaQ.l0 k x1 (wrap64 (x8 + ((qaC x24 x26).f0))) (wrap64 (x9 + ((qaC x24 x26).f0))) x24 x25 (wrap64 (x26 + 1))) else (qaQ.l0 k x1 (wrap64 (x8 + ((qaC x24 x26).f0))) x9 x24 x25 (wrap64 (x26 + 1)))) else (if ((qaC x24 x26).f1) ≤ x1 then (qaQ.l0 k x1 x8 (wrap64 (x9 + ((qaC x24 x26).f0))) x24 x25 (wrap64 (x26 + 1))) else (qaQ.l0 k x1 x8 x9 x24 x25 (wrap64 (x26 + 1))))) else (none)) else (none)) else (some (x8, x9, 0))
end
def qaQ.f (k : Nat) (a0_0 : ByteArray) (l0_1 : List (S41)) (a1 : Int) : Option (Int × Int × Int) := (qaE.f k a0_0 l0_1).bind fun t137 => (if t137 = 0 then (if a1 < (-2000000) then (qaQ.j0 k a1 true a0_0 l0_1) else (qaQ.j0 k a1 (decide (a1 > 2000000)) a0_0 l0_1)) else (some (0, 0, t137)))
theorem qaQ.qbB : ∀ k, (∀ y0 y1 y2 y3, LeO (qaQ.j0 k y0 y1 y2 y3) (qaQ.j0 (k + 1) y0 y1 y2 y3)) ∧ (∀ y0 y1 y2 y3 y4 y5, LeO (qaQ.l0 k y0 y1 y2 y3 y4 y5) (qaQ.l0 (k + 1) y0 y1 y2 y3 y4 y5))
 | 0 => ⟨fun _ _ _ _ r h => by simp [qaQ.j0] at h, fun _ _ _ _ _ _ r h => by simp [qaQ.l0] at h⟩
 | k + 1 => by
  obtain ⟨ih0, ih1⟩ := qaQ.qbB k
  refine ⟨?_, ?_⟩
  ·intro y0 y1 y2 y3; unfold qaQ.j0
   repeat' first
   | (with_reducible exact ih0 _ _ _ _)
   | (with_reducible exact ih1 _ _ _ _ _ _)
   | (with_reducible exact qaE.mono _ _ _)
   | (with_reducible exact LeO.refl _)
   | (with_reducible exact LeO.none _)
   | (with_reducible refine LeO.ite ?_ ?_)
   | (with_reducible refine LeO.bind ?_ (fun _ => ?_))
   | exact ih0 _ _ _ _
   | exact ih1 _ _ _ _ _ _
   | exact qaE.mono _ _ _
   | exact LeO.none _
   | refine LeO.ite ?_ ?_
   | refine LeO.bind ?_ (fun _ => ?_)
  ·intro y0 y1 y2 y3 y4 y5; unfold qaQ.l0
   repeat' first
   | (with_reducible exact ih0 _ _ _ _)
   | (with_reducible exact ih1 _ _ _ _ _ _)
   | (with_reducible exact qaE.mono _ _ _)
   | (with_reducible exact LeO.refl _)
   | (with_reducible exact LeO.none _)
   | (with_reducible refine LeO.ite ?_ ?_)
   | (with_reducible refine LeO.bind ?_ (fun _ => ?_))
   | exact ih0 _ _ _ _
   | exact ih1 _ _ _ _ _ _
   | exact qaE.mono _ _ _
   | exact LeO.none _
   | refine LeO.ite ?_ ?_
   | refine LeO.bind ?_ (fun _ => ?_)
theorem qaQ.mono : ∀ a0 a1 a2 k, LeO (qaQ.f k a0 a1 a2) (qaQ.f (k + 1) a0 a1 a2) := by
 intro a0 a1 a2 k; obtain ⟨ih0, ih1⟩ := qaQ.qbB k
 unfold qaQ.f
 repeat' first
   | (with_reducible exact ih0 _ _ _ _)
   | (with_reducible exact ih1 _ _ _ _ _ _)
   | (with_reducible exact qaE.mono _ _ _)
   | (with_reducible exact LeO.refl _)
   | (with_reducible exact LeO.none _)
   | (with_reducible refine LeO.ite ?_ ?_)
   | (with_reducible refine LeO.bind ?_ (fun _ => ?_))
   | exact ih0 _ _ _ _
   | exact ih1 _ _ _ _ _ _
   | exact qaE.mono _ _ _
   | exact LeO.none _
   | refine LeO.ite ?_ ?_
   | refine LeO.bind ?_ (fun _ => ?_)
set_option maxHeartbeats 8000000 in
set_option maxRecDepth 100000 in
theorem qaQ.calls (k : Nat) (a0_0 : ByteArray) (A0_1 : Option Addr) (c0_1 : Nat) (l0_1 : List (S41)) (a1 : Int) (r1 : Int) (r2 : Int) (r3 : Int) (w : World) (hr0_1 : Kd.C k41 w A0_1 l0_1.length l0_1) (hc0_1 : l0_1.length ≤ c0_1) (h : qaQ.f k a0_0 l0_1 a1 = some (r1, r2, r3)) :
  Calls Try.prog 50 #[.agg #[.string a0_0, .slice A0_1 l0_1.length c0_1], .int .i64 a1] w fun e w' => e = .returned (.tuple #[.int .i64 r1, .int .i64 r2, .int .i64 r3]) ∧ Below w.heap.size w w' := by
 have hu29 := Try.underlying29; have hu41 := Try.underlying41; have HR0_1 := qae.mk hr0_1
 have HC0_1 := qae.mk hc0_1
 clear hr0_1 hc0_1; have HB := qae.mk (Below.refl w.heap.size w)
 have H : ((qaE.f k a0_0 l0_1).bind fun t137 => (if t137 = 0 then (if a1 < (-2000000) then (qaQ.j0 k a1 true a0_0 l0_1) else (qaQ.j0 k a1 (decide (a1 > 2000000)) a0_0 l0_1)) else (some (0, 0, t137)))) = some (r1, r2, r3) := h
 clear h; replace H := Option.bind_eq_some_iff.mp H; obtain ⟨t137, A30, H⟩ := H; replace H : (if t137 = 0 then (if a1 < (-2000000) then (qaQ.j0 k a1 true a0_0 l0_1) else (qaQ.j0 k a1 (decide (a1 > 2000000)) a0_0 l0_1)) else (some (0, 0, t137))) = some (r1, r2, r3) := H
 have A3 := qae.mk A30
 clear A30; by_cases c4 : t137 = 0
 ·rw [if_pos c4] at H; have c4b0 : (t137 == 0) = true := beq_iff_eq.mpr c4; have c4b1 : (t137 != 0) = false := bne_eq_false_iff_eq.mpr c4; clear c4; have HC5 := qae.mk H; clear H; go_enter Try.func50, Try.ntmps50; go_upto_region 4 with (first | ((with_reducible refine qaW (N := 2) rfl ?_); refine qaU ?hg (N := 2) ?hd (cs := #[.string a0_0, .slice A0_1 l0_1.length c0_1]) (t := 29) ?hr ?_; (case hd => rfl); (case hg => rfl); (case hr => first | (go_simp; done) | (go_simp; rfl)); intro gb136 hg w6 hbox hb; have n0_ := qae.mk (qar (by repeat (first | (with_reducible first | exact HB.out | apply qad | apply qaa | apply qac) | exact HB.out)) hb); have n1_ := qae.mk (hbox); have n2_ := qae.mk ((by rw [hg]; exact (qan (by repeat (first | (with_reducible first | exact HB.out | apply qad | apply qaa | apply qac) | exact HB.out))) : w.heap.size ≤ gb136)); have n3_ := qae.mk ((by rw [hg]; exact (qan (by repeat (first | (with_reducible first | exact HB.out | apply qad | apply qaa | apply qac) | exact HB.out))) : w.heap.size ≤ gb136)); clear HB; have HB := n0_; have BK136 := n1_; have GW136 := n2_; have GE136 := n3_; clear n0_ n1_ n2_ n3_; clear hb hbox hg; have hcz7_0 : w6.cell? ⟨gb136, 0, none⟩ = some (.string a0_0) := (qao BK136.out 0).trans rfl; have hcz7_1 : w6.cell? ⟨gb136, 1, none⟩ = some (.slice A0_1 l0_1.length c0_1) := (qao BK136.out 1).trans rfl; have hfz7_0 := qam BK136.out 0; have hfz7_1 := qam BK136.out 1) | ((with_reducible refine qaG (f := 78) rfl ?_); refine qa7 (some 13) rfl rfl Try.func78 (by kernel_rfl) rfl #[.agg #[.string a0_0, .slice A0_1 l0_1.length c0_1]] rfl (by (try simp only [qy6, qy7, qy8]); first | done | rfl | (simp only [List.length_drop, List.length_take]; rfl)) ?_; (with_reducible refine (qaE.calls k a0_0 _ _ l0_1 t137 _ ?side1 ?side2 A3.out).mono ?_); (case side1 => repeat (first | exact (Kd.qbC HR0_1.out HB.out) | (with_reducible refine Kd.qbk ?_ _) | (with_reducible refine Kd.qbj ?_ _) | (with_reducible refine Kd.qbA ?_))); (case side2 => exact HC0_1.out); rintro e w8 ⟨rfl, hb⟩; refine ⟨_, rfl, ?_⟩; have n0_ := qae.mk (qa5 (g := gb136) (o := .cells #[.string a0_0, .slice A0_1 l0_1.length c0_1] 29 (0, 0)) (by (with_reducible repeat (first | refine qai ?_ _ | refine qak ?_ | refine qaj ?_ _)); exact BK136.out) hb); have n1_ := qae.mk (qar (by repeat (first | (with_reducible first | exact HB.out | apply qad | apply qaa | apply qac | refine qah ?_ GE136.out) | exact HB.out)) hb); clear BK136; clear HB; have BK136 := n0_; have HB := n1_; clear n0_ n1_; (try clear hb); (try clear hb2); (try clear hk); (try clear hi)))
  (try simp only [Act.put, List.setIfInBounds_toArray, List.set_cons_zero, List.set_cons_succ])
  go_cut [22] (fun v22 wc => ∃ (kq : Nat) (x22_4 : Bool), v22 = .bool x22_4 ∧ qae (qaQ.j0 kq a1 x22_4 a0_0 l0_1 = some (r1, r2, r3)) ∧ qae (kq ≤ k) ∧ qae (wc.heap[gb136]? = some (.cells #[.string a0_0, (.slice A0_1 l0_1.length c0_1)] 29 (0, 0))) ∧ qae (Below w.heap.size w wc))
  case first =>
   have H := HC5.out; clear HC5; by_cases c9 : a1 < (-2000000)
   ·rw [if_pos c9] at H; have c9b0 : decide (a1 < (-2000000)) = true := decide_eq_true c9; clear c9; (first | rw [c9b0] | (simp only [i64_w, i32_w]; rw [c9b0]) | skip)
    have H' := qae.mk H; clear H; go_wp2; (refine Met.intro ?_; go_step; first | ((repeat apply Exists.intro); refine ⟨?rel, rfl⟩) | ((try simp only [c9b0] at H' ⊢); (try simp only [c4b1] at H' ⊢); (try simp only [c4b0] at H' ⊢); (repeat apply Exists.intro); refine ⟨?rel, rfl⟩))
    case rel => exact ⟨_, (true), (by first | rfl | (simp; done) | (simp [*]; done)), H', ⟨by first | omega | exact Nat.le_refl _⟩, ⟨by (with_reducible repeat (first | refine qai ?_ _ | refine qak ?_ | refine qaj ?_ _)); exact BK136.out⟩, ⟨by repeat (first | (with_reducible first | exact HB.out | apply qad | apply qaa | apply qac | refine qah ?_ GE136.out) | exact HB.out)⟩⟩
   ·rw [if_neg c9] at H; have c9b0 : decide (a1 < (-2000000)) = false := decide_eq_false c9; clear c9; (first | rw [c9b0] | (simp only [i64_w, i32_w]; rw [c9b0]) | skip)
    have H' := qae.mk H; clear H; go_wp2; (refine Met.intro ?_; go_step; first | ((repeat apply Exists.intro); refine ⟨?rel, rfl⟩) | ((try simp only [c9b0] at H' ⊢); (try simp only [c4b1] at H' ⊢); (try simp only [c4b0] at H' ⊢); (repeat apply Exists.intro); refine ⟨?rel, rfl⟩))
    case rel => exact ⟨_, (decide (a1 > 2000000)), (by first | rfl | (simp; done) | (simp [*]; done)), H', ⟨by first | omega | exact Nat.le_refl _⟩, ⟨by (with_reducible repeat (first | refine qai ?_ _ | refine qak ?_ | refine qaj ?_ _)); exact BK136.out⟩, ⟨by repeat (first | (with_reducible first | exact HB.out | apply qad | apply qaa | apply qac | refine qah ?_ GE136.out) | exact HB.out)⟩⟩
  case rest =>
   clear HC5; (try clear p2); (try clear c4); (try clear c4b0); (try clear c4b1); (try clear c5); (try clear c7); (try clear c9); (try clear c9b0); (try clear hcz7_0); (try clear hcz7_1); (try clear hfz7_0); (try clear hfz7_1); obtain ⟨kq, x22_4, rfl, HA, HJ4, BK136, HB⟩ := hcut
   cases kq with
   | zero => exact absurd HA.out (by simp [qaQ.j0])
   | succ kj4 =>
    have H := HA.out; clear HA; simp only [qaQ.j0] at H
    by_cases c10 : x22_4 = true
    ·subst c10; have H1 : (some (0, 0, 4)) = some (r1, r2, r3) := by rw [if_pos rfl] at H; exact H
     clear H; have H := H1; clear H1; simp only [Option.some.injEq, Prod.mk.injEq] at H
     obtain ⟨rfl, rfl, rfl⟩ := H; go_wp2; go_ret3
     exact ⟨by first | rfl | (simp [qaw, qav] <;> rfl) | (simp [*, qaw, qav] <;> rfl), by repeat (first | (with_reducible first | exact HB.out | apply qad | apply qaa | apply qac | refine qah ?_ GE136.out) | exact HB.out)⟩
    ·replace c10 := Bool.eq_false_iff.mpr c10
     subst c10; have H1 : (qaQ.l0 kj4 a1 0 0 l0_1 (l0_1.length : Int) 0) = some (r1, r2, r3) := by rw [if_neg (show ¬ (false = true) by decide)] at H; exact H
     clear H; have H := H1; clear H1; have H' := qae.mk H; clear H; have hcz11_0 : wc.cell? ⟨gb136, 0, none⟩ = some (.string a0_0) := (qao BK136.out 0).trans rfl
     have hcz11_1 : wc.cell? ⟨gb136, 1, none⟩ = some (.slice A0_1 l0_1.length c0_1) := (qao BK136.out 1).trans rfl
     have hfz11_0 := qam BK136.out 0
     have hfz11_1 := qam BK136.out 1
     go_wp2; go_loopg [8, 9, 26] kj4 (fun kq v8 v9 v26 w' => ∃ (x8_2 : Int) (x9_2 : Int) (x26_2 : Int), v8 = .int .i64 x8_2 ∧ v9 = .int .i64 x9_2 ∧ v26 = .int .i64 x26_2 ∧ qae (qaQ.l0 kq a1 x8_2 x9_2 l0_1 (l0_1.length : Int) x26_2 = some (r1, r2, r3)) ∧ qae (kq ≤ kj4) ∧ qae (w'.heap[gb136]? = some (.cells #[.string a0_0, (.slice A0_1 l0_1.length c0_1)] 29 (0, 0))) ∧ qae (Below w.heap.size w w'))
     case atStart => exact ⟨(0), (0), (0), (by first | rfl | (simp; done) | (simp [*]; done)), (by first | rfl | (simp; done) | (simp [*]; done)), (by first | rfl | (simp; done) | (simp [*]; done)), H', ⟨Nat.le_refl _⟩, ⟨by (with_reducible repeat (first | refine qai ?_ _ | refine qak ?_ | refine qaj ?_ _)); exact BK136.out⟩, ⟨by repeat (first | (with_reducible first | exact HB.out | apply qad | apply qaa | apply qac | refine qah ?_ GE136.out) | exact HB.out)⟩⟩
     case round =>
      clear H'; (try clear c1); (try clear p2); (try clear c4); (try clear c4b0); (try clear c4b1); (try clear c5); (try clear c7); (try clear c9); (try clear c9b0); (try clear c10); (try clear hcz11_0); (try clear hcz11_1); (try clear hcz7_0); (try clear hcz7_1); (try clear hfz11_0); (try clear hfz11_1); (try clear hfz7_0); (try clear hfz7_1); (try clear p2); obtain ⟨x8_2, x9_2, x26_2, rfl, rfl, rfl, HA, HK2, BK136, HB⟩ := hrel
      cases gk with
      | zero => exact absurd HA.out (by simp [qaQ.l0])
      | succ k2 =>
       have H := HA.out; clear HA; simp only [qaQ.l0] at H
       by_cases c12 : x26_2 < (l0_1.length : Int)
       ·rw [if_pos c12] at H; have c12b0 : decide (x26_2 < (l0_1.length : Int)) = true := decide_eq_true c12; clear c12; by_cases c13 : 0 ≤ x26_2
        ·rw [if_pos c13] at H; have c13b0 : decide (0 ≤ x26_2) = true := decide_eq_true c13; clear c13; by_cases c14 : x26_2 < (l0_1.length : Int)
         ·rw [if_pos c14] at H; have c14b0 : decide (x26_2 < (l0_1.length : Int)) = true := decide_eq_true c14; clear c14; by_cases c15 : ((qaC l0_1 x26_2).f1) < a1
          ·rw [if_pos c15] at H; have c15b0 : decide (((qaC l0_1 x26_2).f1) < a1) = true := decide_eq_true c15; clear c15; by_cases c16 : ((qaC l0_1 x26_2).f1) ≤ a1
           ·rw [if_pos c16] at H; have c16b0 : decide (((qaC l0_1 x26_2).f1) ≤ a1) = true := decide_eq_true c16; clear c16; have H' := qae.mk H; clear H; have p138 : 0 ≤ (x26_2 : Int) := of_decide_eq_true (by first | (with_reducible assumption) | assumption)
            have q138 : x26_2 < (l0_1.length : Int) := of_decide_eq_true (by first | (with_reducible assumption) | assumption)
            obtain ⟨ad138, e138, hx138_0, hx138_1⟩ := at_T41 HR0_1.out x26_2 p138 q138
            cases e138
            replace hx138_0 := (HB.out.cell (World.block_lt_of_cell? w _ hx138_0)).trans hx138_0
            replace hx138_1 := (HB.out.cell (World.block_lt_of_cell? w _ hx138_1)).trans hx138_1
            replace p138 := eq_true p138; replace q138 := eq_true q138; go_wp2_with (first | ((with_reducible refine qaW (N := 11) rfl ?_); refine qaU ?hg (N := 11) ?hd (cs := #[.int .i64 0, .int .i64 0]) (t := 41) ?hr ?_; (case hd => rfl); (case hg => rfl); (case hr => first | (go_simp; done) | (go_simp; rfl)); intro gb139 hg w17 hbox hb; have n0_ := qae.mk (qa5 (g := gb136) (o := .cells #[.string a0_0, .slice (some ad138) l0_1.length c0_1] 29 (0, 0)) (by (with_reducible repeat (first | refine qai ?_ _ | refine qak ?_ | refine qaj ?_ _)); exact BK136.out) hb); have n1_ := qae.mk (qar (by repeat (first | (with_reducible first | exact HB.out | apply qad | apply qaa | apply qac | refine qah ?_ GE136.out) | exact HB.out)) hb); have n2_ := qae.mk (hbox); have n3_ := qae.mk ((by rw [hg]; exact (qan (by repeat (first | (with_reducible first | exact HB.out | apply qad | apply qaa | apply qac | refine qah ?_ GE136.out) | exact HB.out))) : w.heap.size ≤ gb139)); have n4_ := qae.mk ((by rw [hg]; exact (qan (by repeat (first | (with_reducible first | exact HB.out | apply qad | apply qaa | apply qac | refine qah ?_ GE136.out) | exact HB.out))) : w.heap.size ≤ gb139)); have n5_ := qae.mk ((by rw [hg]; exact Nat.ne_of_lt (qbs (g := gb136) (o := .cells #[.string a0_0, .slice (some ad138) l0_1.length c0_1] 29 (0, 0)) (by (with_reducible repeat (first | refine qai ?_ _ | refine qak ?_ | refine qaj ?_ _)); exact BK136.out)) : gb136 ≠ gb139)); have n6_ := qae.mk ((by rw [hg]; exact Nat.ne_of_gt (qbs (g := gb136) (o := .cells #[.string a0_0, .slice (some ad138) l0_1.length c0_1] 29 (0, 0)) (by (with_reducible repeat (first | refine qai ?_ _ | refine qak ?_ | refine qaj ?_ _)); exact BK136.out)) : gb139 ≠ gb136)); clear BK136; clear HB; have BK136 := n0_; have HB := n1_; have BK139 := n2_; have GW139 := n3_; have GE139 := n4_; have NB136_139 := n5_; have NB139_136 := n6_; clear n0_ n1_ n2_ n3_ n4_ n5_ n6_; clear hb hbox hg; have hnb18 := NB139_136.out; have hnc18 := NB136_139.out; have hcz19_0 : w17.cell? ⟨gb139, 0, none⟩ = some (.int .i64 0) := (qao BK139.out 0).trans rfl; have hcz19_1 : w17.cell? ⟨gb139, 1, none⟩ = some (.int .i64 0) := (qao BK139.out 1).trans rfl; have hfz19_0 := qam BK139.out 0; have hfz19_1 := qam BK139.out 1))
            go_roundg k2
            case measure => have := HJ4.out; have := HK2.out; omega
            case rel => exact ⟨(wrap64 (x8_2 + ((qaC l0_1 x26_2).f0))), (wrap64 (x9_2 + ((qaC l0_1 x26_2).f0))), (wrap64 (x26_2 + 1)), (by first | rfl | (simp; done) | (simp [*]; done)), (by first | rfl | (simp; done) | (simp [*]; done)), (by first | rfl | (simp; done) | (simp [*]; done)), H', ⟨by have := HJ4.out; have := HK2.out; omega⟩, ⟨by (with_reducible repeat (first | refine qai ?_ _ | refine qak ?_ | refine qaj ?_ _)); refine qbp ?_ NB136_139.out _; (with_reducible repeat (first | refine qai ?_ _ | refine qak ?_ | refine qaj ?_ _)); refine qbp ?_ NB136_139.out _; (with_reducible repeat (first | refine qai ?_ _ | refine qak ?_ | refine qaj ?_ _)); exact BK136.out⟩, ⟨by repeat (first | (with_reducible first | exact HB.out | apply qad | apply qaa | apply qac | refine qah ?_ GE136.out | refine qah ?_ GE139.out) | exact HB.out)⟩⟩
           ·rw [if_neg c16] at H; have c16b0 : decide (((qaC l0_1 x26_2).f1) ≤ a1) = false := decide_eq_false c16; clear c16; have H' := qae.mk H; clear H; have p138 : 0 ≤ (x26_2 : Int) := of_decide_eq_true (by first | (with_reducible assumption) | assumption)
            have q138 : x26_2 < (l0_1.length : Int) := of_decide_eq_true (by first | (with_reducible assumption) | assumption)
            obtain ⟨ad138, e138, hx138_0, hx138_1⟩ := at_T41 HR0_1.out x26_2 p138 q138
            cases e138
            replace hx138_0 := (HB.out.cell (World.block_lt_of_cell? w _ hx138_0)).trans hx138_0
            replace hx138_1 := (HB.out.cell (World.block_lt_of_cell? w _ hx138_1)).trans hx138_1
            replace p138 := eq_true p138; replace q138 := eq_true q138; go_wp2_with (first | ((with_reducible refine qaW (N := 11) rfl ?_); refine qaU ?hg (N := 11) ?hd (cs := #[.int .i64 0, .int .i64 0]) (t := 41) ?hr ?_; (case hd => rfl); (case hg => rfl); (case hr => first | (go_simp; done) | (go_simp; rfl)); intro gb139 hg w20 hbox hb; have n0_ := qae.mk (qa5 (g := gb136) (o := .cells #[.string a0_0, .slice (some ad138) l0_1.length c0_1] 29 (0, 0)) (by (with_reducible repeat (first | refine qai ?_ _ | refine qak ?_ | refine qaj ?_ _)); exact BK136.out) hb); have n1_ := qae.mk (qar (by repeat (first | (with_reducible first | exact HB.out | apply qad | apply qaa | apply qac | refine qah ?_ GE136.out) | exact HB.out)) hb); have n2_ := qae.mk (hbox); have n3_ := qae.mk ((by rw [hg]; exact (qan (by repeat (first | (with_reducible first | exact HB.out | apply qad | apply qaa | apply qac | refine qah ?_ GE136.out) | exact HB.out))) : w.heap.size ≤ gb139)); have n4_ := qae.mk ((by rw [hg]; exact (qan (by repeat (first | (with_reducible first | exact HB.out | apply qad | apply qaa | apply qac | refine qah ?_ GE136.out) | exact HB.out))) : w.heap.size ≤ gb139)); have n5_ := qae.mk ((by rw [hg]; exact Nat.ne_of_lt (qbs (g := gb136) (o := .cells #[.string a0_0, .slice (some ad138) l0_1.length c0_1] 29 (0, 0)) (by (with_reducible repeat (first | refine qai ?_ _ | refine qak ?_ | refine qaj ?_ _)); exact BK136.out)) : gb136 ≠ gb139)); have n6_ := qae.mk ((by rw [hg]; exact Nat.ne_of_gt (qbs (g := gb136) (o := .cells #[.string a0_0, .slice (some ad138) l0_1.length c0_1] 29 (0, 0)) (by (with_reducible repeat (first | refine qai ?_ _ | refine qak ?_ | refine qaj ?_ _)); exact BK136.out)) : gb139 ≠ gb136)); clear BK136; clear HB; have BK136 := n0_; have HB := n1_; have BK139 := n2_; have GW139 := n3_; have GE139 := n4_; have NB136_139 := n5_; have NB139_136 := n6_; clear n0_ n1_ n2_ n3_ n4_ n5_ n6_; clear hb hbox hg; have hnb21 := NB139_136.out; have hnc21 := NB136_139.out; have hcz22_0 : w20.cell? ⟨gb139, 0, none⟩ = some (.int .i64 0) := (qao BK139.out 0).trans rfl; have hcz22_1 : w20.cell? ⟨gb139, 1, none⟩ = some (.int .i64 0) := (qao BK139.out 1).trans rfl; have hfz22_0 := qam BK139.out 0; have hfz22_1 := qam BK139.out 1))
            go_roundg k2
            case measure => have := HJ4.out; have := HK2.out; omega
            case rel => exact ⟨(wrap64 (x8_2 + ((qaC l0_1 x26_2).f0))), (x9_2), (wrap64 (x26_2 + 1)), (by first | rfl | (simp; done) | (simp [*]; done)), (by first | rfl | (simp; done) | (simp [*]; done)), (by first | rfl | (simp; done) | (simp [*]; done)), H', ⟨by have := HJ4.out; have := HK2.out; omega⟩, ⟨by (with_reducible repeat (first | refine qai ?_ _ | refine qak ?_ | refine qaj ?_ _)); refine qbp ?_ NB136_139.out _; (with_reducible repeat (first | refine qai ?_ _ | refine qak ?_ | refine qaj ?_ _)); refine qbp ?_ NB136_139.out _; (with_reducible repeat (first | refine qai ?_ _ | refine qak ?_ | refine qaj ?_ _)); exact BK136.out⟩, ⟨by repeat (first | (with_reducible first | exact HB.out | apply qad | apply qaa | apply qac | refine qah ?_ GE136.out | refine qah ?_ GE139.out) | exact HB.out)⟩⟩
          ·rw [if_neg c15] at H; have c15b0 : decide (((qaC l0_1 x26_2).f1) < a1) = false := decide_eq_false c15; clear c15; by_cases c23 : ((qaC l0_1 x26_2).f1) ≤ a1
           ·rw [if_pos c23] at H; have c23b0 : decide (((qaC l0_1 x26_2).f1) ≤ a1) = true := decide_eq_true c23; clear c23; have H' := qae.mk H; clear H; have p138 : 0 ≤ (x26_2 : Int) := of_decide_eq_true (by first | (with_reducible assumption) | assumption)
            have q138 : x26_2 < (l0_1.length : Int) := of_decide_eq_true (by first | (with_reducible assumption) | assumption)
            obtain ⟨ad138, e138, hx138_0, hx138_1⟩ := at_T41 HR0_1.out x26_2 p138 q138
            cases e138
            replace hx138_0 := (HB.out.cell (World.block_lt_of_cell? w _ hx138_0)).trans hx138_0
            replace hx138_1 := (HB.out.cell (World.block_lt_of_cell? w _ hx138_1)).trans hx138_1
            replace p138 := eq_true p138; replace q138 := eq_true q138; go_wp2_with (first | ((with_reducible refine qaW (N := 11) rfl ?_); refine qaU ?hg (N := 11) ?hd (cs := #[.int .i64 0, .int .i64 0]) (t := 41) ?hr ?_; (case hd => rfl); (case hg => rfl); (case hr => first | (go_simp; done) | (go_simp; rfl)); intro gb139 hg w24 hbox hb; have n0_ := qae.mk (qa5 (g := gb136) (o := .cells #[.string a0_0, .slice (some ad138) l0_1.length c0_1] 29 (0, 0)) (by (with_reducible repeat (first | refine qai ?_ _ | refine qak ?_ | refine qaj ?_ _)); exact BK136.out) hb); have n1_ := qae.mk (qar (by repeat (first | (with_reducible first | exact HB.out | apply qad | apply qaa | apply qac | refine qah ?_ GE136.out) | exact HB.out)) hb); have n2_ := qae.mk (hbox); have n3_ := qae.mk ((by rw [hg]; exact (qan (by repeat (first | (with_reducible first | exact HB.out | apply qad | apply qaa | apply qac | refine qah ?_ GE136.out) | exact HB.out))) : w.heap.size ≤ gb139)); have n4_ := qae.mk ((by rw [hg]; exact (qan (by repeat (first | (with_reducible first | exact HB.out | apply qad | apply qaa | apply qac | refine qah ?_ GE136.out) | exact HB.out))) : w.heap.size ≤ gb139)); have n5_ := qae.mk ((by rw [hg]; exact Nat.ne_of_lt (qbs (g := gb136) (o := .cells #[.string a0_0, .slice (some ad138) l0_1.length c0_1] 29 (0, 0)) (by (with_reducible repeat (first | refine qai ?_ _ | refine qak ?_ | refine qaj ?_ _)); exact BK136.out)) : gb136 ≠ gb139)); have n6_ := qae.mk ((by rw [hg]; exact Nat.ne_of_gt (qbs (g := gb136) (o := .cells #[.string a0_0, .slice (some ad138) l0_1.length c0_1] 29 (0, 0)) (by (with_reducible repeat (first | refine qai ?_ _ | refine qak ?_ | refine qaj ?_ _)); exact BK136.out)) : gb139 ≠ gb136)); clear BK136; clear HB; have BK136 := n0_; have HB := n1_; have BK139 := n2_; have GW139 := n3_; have GE139 := n4_; have NB136_139 := n5_; have NB139_136 := n6_; clear n0_ n1_ n2_ n3_ n4_ n5_ n6_; clear hb hbox hg; have hnb25 := NB139_136.out; have hnc25 := NB136_139.out; have hcz26_0 : w24.cell? ⟨gb139, 0, none⟩ = some (.int .i64 0) := (qao BK139.out 0).trans rfl; have hcz26_1 : w24.cell? ⟨gb139, 1, none⟩ = some (.int .i64 0) := (qao BK139.out 1).trans rfl; have hfz26_0 := qam BK139.out 0; have hfz26_1 := qam BK139.out 1))
            go_roundg k2
            case measure => have := HJ4.out; have := HK2.out; omega
            case rel => exact ⟨(x8_2), (wrap64 (x9_2 + ((qaC l0_1 x26_2).f0))), (wrap64 (x26_2 + 1)), (by first | rfl | (simp; done) | (simp [*]; done)), (by first | rfl | (simp; done) | (simp [*]; done)), (by first | rfl | (simp; done) | (simp [*]; done)), H', ⟨by have := HJ4.out; have := HK2.out; omega⟩, ⟨by (with_reducible repeat (first | refine qai ?_ _ | refine qak ?_ | refine qaj ?_ _)); refine qbp ?_ NB136_139.out _; (with_reducible repeat (first | refine qai ?_ _ | refine qak ?_ | refine qaj ?_ _)); refine qbp ?_ NB136_139.out _; (with_reducible repeat (first | refine qai ?_ _ | refine qak ?_ | refine qaj ?_ _)); exact BK136.out⟩, ⟨by repeat (first | (with_reducible first | exact HB.out | apply qad | apply qaa | apply qac | refine qah ?_ GE136.out | refine qah ?_ GE139.out) | exact HB.out)⟩⟩
           ·rw [if_neg c23] at H; have c23b0 : decide (((qaC l0_1 x26_2).f1) ≤ a1) = false := decide_eq_false c23; clear c23; have H' := qae.mk H; clear H; have p138 : 0 ≤ (x26_2 : Int) := of_decide_eq_true (by first | (with_reducible assumption) | assumption)
            have q138 : x26_2 < (l0_1.length : Int) := of_decide_eq_true (by first | (with_reducible assumption) | assumption)
            obtain ⟨ad138, e138, hx138_0, hx138_1⟩ := at_T41 HR0_1.out x26_2 p138 q138
            cases e138
            replace hx138_0 := (HB.out.cell (World.block_lt_of_cell? w _ hx138_0)).trans hx138_0
            replace hx138_1 := (HB.out.cell (World.block_lt_of_cell? w _ hx138_1)).trans hx138_1
            replace p138 := eq_true p138; replace q138 := eq_true q138; go_wp2_with (first | ((with_reducible refine qaW (N := 11) rfl ?_); refine qaU ?hg (N := 11) ?hd (cs := #[.int .i64 0, .int .i64 0]) (t := 41) ?hr ?_; (case hd => rfl); (case hg => rfl); (case hr => first | (go_simp; done) | (go_simp; rfl)); intro gb139 hg w27 hbox hb; have n0_ := qae.mk (qa5 (g := gb136) (o := .cells #[.string a0_0, .slice (some ad138) l0_1.length c0_1] 29 (0, 0)) (by (with_reducible repeat (first | refine qai ?_ _ | refine qak ?_ | refine qaj ?_ _)); exact BK136.out) hb); have n1_ := qae.mk (qar (by repeat (first | (with_reducible first | exact HB.out | apply qad | apply qaa | apply qac | refine qah ?_ GE136.out) | exact HB.out)) hb); have n2_ := qae.mk (hbox); have n3_ := qae.mk ((by rw [hg]; exact (qan (by repeat (first | (with_reducible first | exact HB.out | apply qad | apply qaa | apply qac | refine qah ?_ GE136.out) | exact HB.out))) : w.heap.size ≤ gb139)); have n4_ := qae.mk ((by rw [hg]; exact (qan (by repeat (first | (with_reducible first | exact HB.out | apply qad | apply qaa | apply qac | refine qah ?_ GE136.out) | exact HB.out))) : w.heap.size ≤ gb139)); have n5_ := qae.mk ((by rw [hg]; exact Nat.ne_of_lt (qbs (g := gb136) (o := .cells #[.string a0_0, .slice (some ad138) l0_1.length c0_1] 29 (0, 0)) (by (with_reducible repeat (first | refine qai ?_ _ | refine qak ?_ | refine qaj ?_ _)); exact BK136.out)) : gb136 ≠ gb139)); have n6_ := qae.mk ((by rw [hg]; exact Nat.ne_of_gt (qbs (g := gb136) (o := .cells #[.string a0_0, .slice (some ad138) l0_1.length c0_1] 29 (0, 0)) (by (with_reducible repeat (first | refine qai ?_ _ | refine qak ?_ | refine qaj ?_ _)); exact BK136.out)) : gb139 ≠ gb136)); clear BK136; clear HB; have BK136 := n0_; have HB := n1_; have BK139 := n2_; have GW139 := n3_; have GE139 := n4_; have NB136_139 := n5_; have NB139_136 := n6_; clear n0_ n1_ n2_ n3_ n4_ n5_ n6_; clear hb hbox hg; have hnb28 := NB139_136.out; have hnc28 := NB136_139.out; have hcz29_0 : w27.cell? ⟨gb139, 0, none⟩ = some (.int .i64 0) := (qao BK139.out 0).trans rfl; have hcz29_1 : w27.cell? ⟨gb139, 1, none⟩ = some (.int .i64 0) := (qao BK139.out 1).trans rfl; have hfz29_0 := qam BK139.out 0; have hfz29_1 := qam BK139.out 1))
            go_roundg k2
            case measure => have := HJ4.out; have := HK2.out; omega
            case rel => exact ⟨(x8_2), (x9_2), (wrap64 (x26_2 + 1)), (by first | rfl | (simp; done) | (simp [*]; done)), (by first | rfl | (simp; done) | (simp [*]; done)), (by first | rfl | (simp; done) | (simp [*]; done)), H', ⟨by have := HJ4.out; have := HK2.out; omega⟩, ⟨by (with_reducible repeat (first | refine qai ?_ _ | refine qak ?_ | refine qaj ?_ _)); refine qbp ?_ NB136_139.out _; (with_reducible repeat (first | refine qai ?_ _ | refine qak ?_ | refine qaj ?_ _)); refine qbp ?_ NB136_139.out _; (with_reducible repeat (first | refine qai ?_ _ | refine qak ?_ | refine qaj ?_ _)); exact BK136.out⟩, ⟨by repeat (first | (with_reducible first | exact HB.out | apply qad | apply qaa | apply qac | refine qah ?_ GE136.out | refine qah ?_ GE139.out) | exact HB.out)⟩⟩
         ·rw [if_neg c14] at H; exact absurd H (by simp)
        ·rw [if_neg c13] at H; exact absurd H (by simp)
       ·rw [if_neg c12] at H; have c12b0 : decide (x26_2 < (l0_1.length : Int)) = false := decide_eq_false c12; clear c12; simp only [Option.some.injEq, Prod.mk.injEq] at H
        obtain ⟨rfl, rfl, rfl⟩ := H; go_wp2; go_ret3
        exact ⟨by first | rfl | (simp [qaw, qav] <;> rfl) | (simp [*, qaw, qav] <;> rfl), by repeat (first | (with_reducible first | exact HB.out | apply qad | apply qaa | apply qac | refine qah ?_ GE136.out) | exact HB.out)⟩
 ·rw [if_neg c4] at H; have c4b0 : (t137 == 0) = false := beq_eq_false_iff_ne.mpr c4; have c4b1 : (t137 != 0) = true := bne_iff_ne.mpr c4; simp only [Option.some.injEq, Prod.mk.injEq] at H
  obtain ⟨rfl, rfl, rfl⟩ := H; go_enter Try.func50, Try.ntmps50; go_wp2_with (first | ((with_reducible refine qaW (N := 2) rfl ?_); refine qaU ?hg (N := 2) ?hd (cs := #[.string a0_0, .slice A0_1 l0_1.length c0_1]) (t := 29) ?hr ?_; (case hd => rfl); (case hg => rfl); (case hr => first | (go_simp; done) | (go_simp; rfl)); intro gb136 hg w30 hbox hb; have n0_ := qae.mk (qar (by repeat (first | (with_reducible first | exact HB.out | apply qad | apply qaa | apply qac) | exact HB.out)) hb); have n1_ := qae.mk (hbox); have n2_ := qae.mk ((by rw [hg]; exact (qan (by repeat (first | (with_reducible first | exact HB.out | apply qad | apply qaa | apply qac) | exact HB.out))) : w.heap.size ≤ gb136)); have n3_ := qae.mk ((by rw [hg]; exact (qan (by repeat (first | (with_reducible first | exact HB.out | apply qad | apply qaa | apply qac) | exact HB.out))) : w.heap.size ≤ gb136)); clear HB; have HB := n0_; have BK136 := n1_; have GW136 := n2_; have GE136 := n3_; clear n0_ n1_ n2_ n3_; clear hb hbox hg; have hcz31_0 : w30.cell? ⟨gb136, 0, none⟩ = some (.string a0_0) := (qao BK136.out 0).trans rfl; have hcz31_1 : w30.cell? ⟨gb136, 1, none⟩ = some (.slice A0_1 l0_1.length c0_1) := (qao BK136.out 1).trans rfl; have hfz31_0 := qam BK136.out 0; have hfz31_1 := qam BK136.out 1) | ((with_reducible refine qaG (f := 78) rfl ?_); refine qa7 (some 13) rfl rfl Try.func78 (by kernel_rfl) rfl #[.agg #[.string a0_0, .slice A0_1 l0_1.length c0_1]] rfl (by (try simp only [qy6, qy7, qy8]); first | done | rfl | (simp only [List.length_drop, List.length_take]; rfl)) ?_; (with_reducible refine (qaE.calls k a0_0 _ _ l0_1 t137 _ ?side1 ?side2 A3.out).mono ?_); (case side1 => repeat (first | exact (Kd.qbC HR0_1.out HB.out) | (with_reducible refine Kd.qbk ?_ _) | (with_reducible refine Kd.qbj ?_ _) | (with_reducible refine Kd.qbA ?_))); (case side2 => exact HC0_1.out); rintro e w32 ⟨rfl, hb⟩; refine ⟨_, rfl, ?_⟩; have n0_ := qae.mk (qa5 (g := gb136) (o := .cells #[.string a0_0, .slice A0_1 l0_1.length c0_1] 29 (0, 0)) (by (with_reducible repeat (first | refine qai ?_ _ | refine qak ?_ | refine qaj ?_ _)); exact BK136.out) hb); have n1_ := qae.mk (qar (by repeat (first | (with_reducible first | exact HB.out | apply qad | apply qaa | apply qac | refine qah ?_ GE136.out) | exact HB.out)) hb); clear BK136; clear HB; have BK136 := n0_; have HB := n1_; clear n0_ n1_; (try clear hb); (try clear hb2); (try clear hk); (try clear hi)))
  go_ret3
  exact ⟨by first | rfl | (simp [qaw, qav] <;> rfl) | (simp [*, qaw, qav] <;> rfl), by repeat (first | (with_reducible first | exact HB.out | apply qad | apply qaa | apply qac | refine qah ?_ GE136.out) | exact HB.out)⟩
mutual
def qaT.j0 : Nat → Int → Bool → ByteArray → List (S41) → Option (Int × Int)
 | 0, _, _, _, _ => none
 | k + 1, x1, x23, x141000, x141001 => if x23 = true then (some (0, 4)) else (qaT.l0 k x1 0 x141001 (x141001.length : Int) 0)
def qaT.l0 : Nat → Int → Int → List (S41) → Int → Int → Option (Int × Int)
 | 0, _, _, _, _, _ => none
 | k + 1, x1, x7, x25, x26, x27 => if x27 < x26 then (if 0 ≤ x27 then (if x27 < (x25.length : Int) then (qaT.l0 k (wrap64 (x1 - (mn x1 ((qaC x25 x27).f0)))) (wrap64 (x7 + (wrap64 ((mn x1 ((qaC x25 x27).f0)) * ((qaC x25 x27).f1))))) x25 x26 (wrap64 (x27 + 1))) else (none)) else (none)) else (some (x7, 0))
end
def qaT.f (k : Nat) (a0_0 : ByteArray) (l0_1 : List (S41)) (a1 : Int) : Option (Int × Int) := (qaE.f k a0_0 l0_1).bind fun t141 => (if t141 = 0 then (if a1 < 0 then (qaT.j0 k a1 true a0_0 l0_1) else ((qaV.f k a0_0 l0_1).bind fun t142 => (qaT.j0 k a1 (decide (a1 > t142)) a0_0 l0_1))) else (some (0, t141)))
theorem qaT.qbB : ∀ k, (∀ y0 y1 y2 y3, LeO (qaT.j0 k y0 y1 y2 y3) (qaT.j0 (k + 1) y0 y1 y2 y3)) ∧ (∀ y0 y1 y2 y3 y4, LeO (qaT.l0 k y0 y1 y2 y3 y4) (qaT.l0 (k + 1) y0 y1 y2 y3 y4))
 | 0 => ⟨fun _ _ _ _ r h => by simp [qaT.j0] at h, fun _ _ _ _ _ r h => by simp [qaT.l0] at h⟩
 | k + 1 => by
  obtain ⟨ih0, ih1⟩ := qaT.qbB k
  refine ⟨?_, ?_⟩
  ·intro y0 y1 y2 y3; unfold qaT.j0
   repeat' first
   | (with_reducible exact ih0 _ _ _ _)
   | (with_reducible exact ih1 _ _ _ _ _)
   | (with_reducible exact qaE.mono _ _ _)
   | (with_reducible exact qaV.mono _ _ _)
   | (with_reducible exact LeO.refl _)
   | (with_reducible exact LeO.none _)
   | (with_reducible refine LeO.ite ?_ ?_)
   | (with_reducible refine LeO.bind ?_ (fun _ => ?_))
   | exact ih0 _ _ _ _
   | exact ih1 _ _ _ _ _
   | exact qaE.mono _ _ _
   | exact qaV.mono _ _ _
   | exact LeO.none _
   | refine LeO.ite ?_ ?_
   | refine LeO.bind ?_ (fun _ => ?_)
  ·intro y0 y1 y2 y3 y4; unfold qaT.l0
   repeat' first
   | (with_reducible exact ih0 _ _ _ _)
   | (with_reducible exact ih1 _ _ _ _ _)
   | (with_reducible exact qaE.mono _ _ _)
   | (with_reducible exact qaV.mono _ _ _)
   | (with_reducible exact LeO.refl _)
   | (with_reducible exact LeO.none _)
   | (with_reducible refine LeO.ite ?_ ?_)
   | (with_reducible refine LeO.bind ?_ (fun _ => ?_))
   | exact ih0 _ _ _ _
   | exact ih1 _ _ _ _ _
   | exact qaE.mono _ _ _
   | exact qaV.mono _ _ _
   | exact LeO.none _
   | refine LeO.ite ?_ ?_
   | refine LeO.bind ?_ (fun _ => ?_)
theorem qaT.mono : ∀ a0 a1 a2 k, LeO (qaT.f k a0 a1 a2) (qaT.f (k + 1) a0 a1 a2) := by
 intro a0 a1 a2 k; obtain ⟨ih0, ih1⟩ := qaT.qbB k
 unfold qaT.f
 repeat' first
   | (with_reducible exact ih0 _ _ _ _)
   | (with_reducible exact ih1 _ _ _ _ _)
   | (with_reducible exact qaE.mono _ _ _)
   | (with_reducible exact qaV.mono _ _ _)
   | (with_reducible exact LeO.refl _)
   | (with_reducible exact LeO.none _)
   | (with_reducible refine LeO.ite ?_ ?_)
   | (with_reducible refine LeO.bind ?_ (fun _ => ?_))
   | exact ih0 _ _ _ _
   | exact ih1 _ _ _ _ _
   | exact qaE.mono _ _ _
   | exact qaV.mono _ _ _
   | exact LeO.none _
   | refine LeO.ite ?_ ?_
   | refine LeO.bind ?_ (fun _ => ?_)
set_option maxHeartbeats 8000000 in
set_option maxRecDepth 100000 in
theorem qaT.calls (k : Nat) (a0_0 : ByteArray) (A0_1 : Option Addr) (c0_1 : Nat) (l0_1 : List (S41)) (a1 : Int) (r1 : Int) (r2 : Int) (w : World) (hr0_1 : Kd.C k41 w A0_1 l0_1.length l0_1) (hc0_1 : l0_1.length ≤ c0_1) (h : qaT.f k a0_0 l0_1 a1 = some (r1, r2)) :
  Calls Try.prog 46 #[.agg #[.string a0_0, .slice A0_1 l0_1.length c0_1], .int .i64 a1] w fun e w' => e = .returned (.tuple #[.int .i64 r1, .int .i64 r2]) ∧ Below w.heap.size w w' := by
 have hu29 := Try.underlying29; have hu41 := Try.underlying41; have HR0_1 := qae.mk hr0_1
 have HC0_1 := qae.mk hc0_1
 clear hr0_1 hc0_1; have HB := qae.mk (Below.refl w.heap.size w)
 have H : ((qaE.f k a0_0 l0_1).bind fun t141 => (if t141 = 0 then (if a1 < 0 then (qaT.j0 k a1 true a0_0 l0_1) else ((qaV.f k a0_0 l0_1).bind fun t142 => (qaT.j0 k a1 (decide (a1 > t142)) a0_0 l0_1))) else (some (0, t141)))) = some (r1, r2) := h
 clear h; replace H := Option.bind_eq_some_iff.mp H; obtain ⟨t141, A30, H⟩ := H; replace H : (if t141 = 0 then (if a1 < 0 then (qaT.j0 k a1 true a0_0 l0_1) else ((qaV.f k a0_0 l0_1).bind fun t142 => (qaT.j0 k a1 (decide (a1 > t142)) a0_0 l0_1))) else (some (0, t141))) = some (r1, r2) := H
 have A3 := qae.mk A30
 clear A30; by_cases c4 : t141 = 0
 ·rw [if_pos c4] at H; have c4b0 : (t141 == 0) = true := beq_iff_eq.mpr c4; have c4b1 : (t141 != 0) = false := bne_eq_false_iff_eq.mpr c4; clear c4; have HC5 := qae.mk H; clear H; go_enter Try.func46, Try.ntmps46; go_upto_region 4 with (first | ((with_reducible refine qaW (N := 2) rfl ?_); refine qaU ?hg (N := 2) ?hd (cs := #[.string a0_0, .slice A0_1 l0_1.length c0_1]) (t := 29) ?hr ?_; (case hd => rfl); (case hg => rfl); (case hr => first | (go_simp; done) | (go_simp; rfl)); intro gb140 hg w6 hbox hb; have n0_ := qae.mk (qar (by repeat (first | (with_reducible first | exact HB.out | apply qad | apply qaa | apply qac) | exact HB.out)) hb); have n1_ := qae.mk (hbox); have n2_ := qae.mk ((by rw [hg]; exact (qan (by repeat (first | (with_reducible first | exact HB.out | apply qad | apply qaa | apply qac) | exact HB.out))) : w.heap.size ≤ gb140)); have n3_ := qae.mk ((by rw [hg]; exact (qan (by repeat (first | (with_reducible first | exact HB.out | apply qad | apply qaa | apply qac) | exact HB.out))) : w.heap.size ≤ gb140)); clear HB; have HB := n0_; have BK140 := n1_; have GW140 := n2_; have GE140 := n3_; clear n0_ n1_ n2_ n3_; clear hb hbox hg; have hcz7_0 : w6.cell? ⟨gb140, 0, none⟩ = some (.string a0_0) := (qao BK140.out 0).trans rfl; have hcz7_1 : w6.cell? ⟨gb140, 1, none⟩ = some (.slice A0_1 l0_1.length c0_1) := (qao BK140.out 1).trans rfl; have hfz7_0 := qam BK140.out 0; have hfz7_1 := qam BK140.out 1) | ((with_reducible refine qaG (f := 78) rfl ?_); refine qa7 (some 12) rfl rfl Try.func78 (by kernel_rfl) rfl #[.agg #[.string a0_0, .slice A0_1 l0_1.length c0_1]] rfl (by (try simp only [qy6, qy7, qy8]); first | done | rfl | (simp only [List.length_drop, List.length_take]; rfl)) ?_; (with_reducible refine (qaE.calls k a0_0 _ _ l0_1 t141 _ ?side1 ?side2 A3.out).mono ?_); (case side1 => repeat (first | exact (Kd.qbC HR0_1.out HB.out) | (with_reducible refine Kd.qbk ?_ _) | (with_reducible refine Kd.qbj ?_ _) | (with_reducible refine Kd.qbA ?_))); (case side2 => exact HC0_1.out); rintro e w8 ⟨rfl, hb⟩; refine ⟨_, rfl, ?_⟩; have n0_ := qae.mk (qa5 (g := gb140) (o := .cells #[.string a0_0, .slice A0_1 l0_1.length c0_1] 29 (0, 0)) (by (with_reducible repeat (first | refine qai ?_ _ | refine qak ?_ | refine qaj ?_ _)); exact BK140.out) hb); have n1_ := qae.mk (qar (by repeat (first | (with_reducible first | exact HB.out | apply qad | apply qaa | apply qac | refine qah ?_ GE140.out) | exact HB.out)) hb); clear BK140; clear HB; have BK140 := n0_; have HB := n1_; clear n0_ n1_; (try clear hb); (try clear hb2); (try clear hk); (try clear hi)))
  (try simp only [Act.put, List.setIfInBounds_toArray, List.set_cons_zero, List.set_cons_succ])
  go_cut [23] (fun v23 wc => ∃ (kq : Nat) (x23_4 : Bool), v23 = .bool x23_4 ∧ qae (qaT.j0 kq a1 x23_4 a0_0 l0_1 = some (r1, r2)) ∧ qae (kq ≤ k) ∧ qae (wc.heap[gb140]? = some (.cells #[.string a0_0, (.slice A0_1 l0_1.length c0_1)] 29 (0, 0))) ∧ qae (Below w.heap.size w wc))
  case first =>
   have H := HC5.out; clear HC5; by_cases c9 : a1 < 0
   ·rw [if_pos c9] at H; have c9b0 : decide (a1 < 0) = true := decide_eq_true c9; clear c9; (first | rw [c9b0] | (simp only [i64_w, i32_w]; rw [c9b0]) | skip)
    have H' := qae.mk H; clear H; go_wp2; (refine Met.intro ?_; go_step; first | ((repeat apply Exists.intro); refine ⟨?rel, rfl⟩) | ((try simp only [c9b0] at H' ⊢); (try simp only [c4b1] at H' ⊢); (try simp only [c4b0] at H' ⊢); (repeat apply Exists.intro); refine ⟨?rel, rfl⟩))
    case rel => exact ⟨_, (true), (by first | rfl | (simp; done) | (simp [*]; done)), H', ⟨by first | omega | exact Nat.le_refl _⟩, ⟨by (with_reducible repeat (first | refine qai ?_ _ | refine qak ?_ | refine qaj ?_ _)); exact BK140.out⟩, ⟨by repeat (first | (with_reducible first | exact HB.out | apply qad | apply qaa | apply qac | refine qah ?_ GE140.out) | exact HB.out)⟩⟩
   ·rw [if_neg c9] at H; have c9b0 : decide (a1 < 0) = false := decide_eq_false c9; clear c9; (first | rw [c9b0] | (simp only [i64_w, i32_w]; rw [c9b0]) | skip)
    replace H := Option.bind_eq_some_iff.mp H; obtain ⟨t142, A100, H⟩ := H; replace H : (qaT.j0 k a1 (decide (a1 > t142)) a0_0 l0_1) = some (r1, r2) := H
    have A10 := qae.mk A100
    clear A100; have H' := qae.mk H; clear H; have hcz11_0 : w8.cell? ⟨gb140, 0, none⟩ = some (.string a0_0) := (qao BK140.out 0).trans rfl
    have hcz11_1 : w8.cell? ⟨gb140, 1, none⟩ = some (.slice A0_1 l0_1.length c0_1) := (qao BK140.out 1).trans rfl
    have hfz11_0 := qam BK140.out 0
    have hfz11_1 := qam BK140.out 1
    go_wp2_with (first | (go_at_call 54; (with_reducible refine (qaV.calls k a0_0 _ _ l0_1 t142 _ ?side1 ?side2 A10.out).mono ?_); (case side1 => repeat (first | exact (Kd.qbC HR0_1.out HB.out) | (with_reducible refine Kd.qbk ?_ _) | (with_reducible refine Kd.qbj ?_ _) | (with_reducible refine Kd.qbA ?_))); (case side2 => exact HC0_1.out); rintro e w12 ⟨rfl, hb⟩; have n0_ := qae.mk (qa5 (g := gb140) (o := .cells #[.string a0_0, .slice A0_1 l0_1.length c0_1] 29 (0, 0)) (by (with_reducible repeat (first | refine qai ?_ _ | refine qak ?_ | refine qaj ?_ _)); exact BK140.out) hb); have n1_ := qae.mk (qar (by repeat (first | (with_reducible first | exact HB.out | apply qad | apply qaa | apply qac | refine qah ?_ GE140.out) | exact HB.out)) hb); clear BK140; clear HB; have BK140 := n0_; have HB := n1_; clear n0_ n1_; (try clear hb); (try clear hb2); (try clear hk); (try clear hi)))
    (refine Met.intro ?_; go_step; first | ((repeat apply Exists.intro); refine ⟨?rel, rfl⟩) | ((try simp only [c9b0] at H' ⊢); (try simp only [c4b1] at H' ⊢); (try simp only [c4b0] at H' ⊢); (repeat apply Exists.intro); refine ⟨?rel, rfl⟩))
    case rel => exact ⟨_, (decide (a1 > t142)), (by first | rfl | (simp; done) | (simp [*]; done)), H', ⟨by first | omega | exact Nat.le_refl _⟩, ⟨by (with_reducible repeat (first | refine qai ?_ _ | refine qak ?_ | refine qaj ?_ _)); exact BK140.out⟩, ⟨by repeat (first | (with_reducible first | exact HB.out | apply qad | apply qaa | apply qac | refine qah ?_ GE140.out) | exact HB.out)⟩⟩
  case rest =>
   clear HC5; (try clear p2); (try clear c4); (try clear c4b0); (try clear c4b1); (try clear c7); (try clear c9); (try clear c9b0); (try clear hcz11_0); (try clear hcz11_1); (try clear hcz7_0); (try clear hcz7_1); (try clear hfz11_0); (try clear hfz11_1); (try clear hfz7_0); (try clear hfz7_1); obtain ⟨kq, x23_4, rfl, HA, HJ4, BK140, HB⟩ := hcut
   cases kq with
   | zero => exact absurd HA.out (by simp [qaT.j0])
   | succ kj4 =>
    have H := HA.out; clear HA; simp only [qaT.j0] at H
    by_cases c13 : x23_4 = true
    ·subst c13; have H1 : (some (0, 4)) = some (r1, r2) := by rw [if_pos rfl] at H; exact H
     clear H; have H := H1; clear H1; simp only [Option.some.injEq, Prod.mk.injEq] at H
     obtain ⟨rfl, rfl⟩ := H; go_wp2; go_ret2
     exact ⟨by first | rfl | (simp [qaw, qav] <;> rfl) | (simp [*, qaw, qav] <;> rfl), by repeat (first | (with_reducible first | exact HB.out | apply qad | apply qaa | apply qac | refine qah ?_ GE140.out) | exact HB.out)⟩
    ·replace c13 := Bool.eq_false_iff.mpr c13
     subst c13; have H1 : (qaT.l0 kj4 a1 0 l0_1 (l0_1.length : Int) 0) = some (r1, r2) := by rw [if_neg (show ¬ (false = true) by decide)] at H; exact H
     clear H; have H := H1; clear H1; have H' := qae.mk H; clear H; have hcz14_0 : wc.cell? ⟨gb140, 0, none⟩ = some (.string a0_0) := (qao BK140.out 0).trans rfl
     have hcz14_1 : wc.cell? ⟨gb140, 1, none⟩ = some (.slice A0_1 l0_1.length c0_1) := (qao BK140.out 1).trans rfl
     have hfz14_0 := qam BK140.out 0
     have hfz14_1 := qam BK140.out 1
     go_wp2; go_loopg [1, 7, 27] kj4 (fun kq v1 v7 v27 w' => ∃ (x1_2 : Int) (x7_2 : Int) (x27_2 : Int), v1 = .int .i64 x1_2 ∧ v7 = .int .i64 x7_2 ∧ v27 = .int .i64 x27_2 ∧ qae (qaT.l0 kq x1_2 x7_2 l0_1 (l0_1.length : Int) x27_2 = some (r1, r2)) ∧ qae (kq ≤ kj4) ∧ qae (w'.heap[gb140]? = some (.cells #[.string a0_0, (.slice A0_1 l0_1.length c0_1)] 29 (0, 0))) ∧ qae (Below w.heap.size w w'))
     case atStart => exact ⟨(a1), (0), (0), (by first | rfl | (simp; done) | (simp [*]; done)), (by first | rfl | (simp; done) | (simp [*]; done)), (by first | rfl | (simp; done) | (simp [*]; done)), H', ⟨Nat.le_refl _⟩, ⟨by (with_reducible repeat (first | refine qai ?_ _ | refine qak ?_ | refine qaj ?_ _)); exact BK140.out⟩, ⟨by repeat (first | (with_reducible first | exact HB.out | apply qad | apply qaa | apply qac | refine qah ?_ GE140.out) | exact HB.out)⟩⟩
     case round =>
      clear H'; (try clear c1); (try clear p2); (try clear c4); (try clear c4b0); (try clear c4b1); (try clear c7); (try clear c9); (try clear c9b0); (try clear c13); (try clear hcz11_0); (try clear hcz11_1); (try clear hcz14_0); (try clear hcz14_1); (try clear hcz7_0); (try clear hcz7_1); (try clear hfz11_0); (try clear hfz11_1); (try clear hfz14_0); (try clear hfz14_1); (try clear hfz7_0); (try clear hfz7_1); (try clear p2); obtain ⟨x1_2, x7_2, x27_2, rfl, rfl, rfl, HA, HK2, BK140, HB⟩ := hrel
      cases gk with
      | zero => exact absurd HA.out (by simp [qaT.l0])
      | succ k2 =>
       have H := HA.out; clear HA; simp only [qaT.l0] at H
       by_cases c15 : x27_2 < (l0_1.length : Int)
       ·rw [if_pos c15] at H; have c15b0 : decide (x27_2 < (l0_1.length : Int)) = true := decide_eq_true c15; clear c15; by_cases c16 : 0 ≤ x27_2
        ·rw [if_pos c16] at H; have c16b0 : decide (0 ≤ x27_2) = true := decide_eq_true c16; clear c16; by_cases c17 : x27_2 < (l0_1.length : Int)
         ·rw [if_pos c17] at H; have c17b0 : decide (x27_2 < (l0_1.length : Int)) = true := decide_eq_true c17; clear c17; obtain ⟨ji18, hji18⟩ : ∃ j_ : Int, (mn x1_2 ((qaC l0_1 x27_2).f0)) = j_ := ⟨_, rfl⟩
          replace H : (qaT.l0 k2 (wrap64 (x1_2 - (ji18))) (wrap64 (x7_2 + (wrap64 ((ji18) * ((qaC l0_1 x27_2).f1))))) l0_1 (l0_1.length : Int) (wrap64 (x27_2 + 1))) = some (r1, r2) := by first | (rw [hji18] at H; exact H) | (simp only [hji18] at H ⊢; exact H)
          have hji18_ : (if ((qaC l0_1 x27_2).f0) < x1_2 then ((qaC l0_1 x27_2).f0) else x1_2) = ji18 := hji18
          have H' := qae.mk H; clear H; have p143 : 0 ≤ (x27_2 : Int) := of_decide_eq_true (by first | (with_reducible assumption) | assumption)
          have q143 : x27_2 < (l0_1.length : Int) := of_decide_eq_true (by first | (with_reducible assumption) | assumption)
          obtain ⟨ad143, e143, hx143_0, hx143_1⟩ := at_T41 HR0_1.out x27_2 p143 q143
          cases e143
          replace hx143_0 := (HB.out.cell (World.block_lt_of_cell? w _ hx143_0)).trans hx143_0
          replace hx143_1 := (HB.out.cell (World.block_lt_of_cell? w _ hx143_1)).trans hx143_1
          replace p143 := eq_true p143; replace q143 := eq_true q143; go_wp2_with (first | ((with_reducible refine qaW (N := 9) rfl ?_); refine qaU ?hg (N := 9) ?hd (cs := #[.int .i64 0, .int .i64 0]) (t := 41) ?hr ?_; (case hd => rfl); (case hg => rfl); (case hr => first | (go_simp; done) | (go_simp; rfl)); intro gb144 hg w19 hbox hb; have n0_ := qae.mk (qa5 (g := gb140) (o := .cells #[.string a0_0, .slice (some ad143) l0_1.length c0_1] 29 (0, 0)) (by (with_reducible repeat (first | refine qai ?_ _ | refine qak ?_ | refine qaj ?_ _)); exact BK140.out) hb); have n1_ := qae.mk (qar (by repeat (first | (with_reducible first | exact HB.out | apply qad | apply qaa | apply qac | refine qah ?_ GE140.out) | exact HB.out)) hb); have n2_ := qae.mk (hbox); have n3_ := qae.mk ((by rw [hg]; exact (qan (by repeat (first | (with_reducible first | exact HB.out | apply qad | apply qaa | apply qac | refine qah ?_ GE140.out) | exact HB.out))) : w.heap.size ≤ gb144)); have n4_ := qae.mk ((by rw [hg]; exact (qan (by repeat (first | (with_reducible first | exact HB.out | apply qad | apply qaa | apply qac | refine qah ?_ GE140.out) | exact HB.out))) : w.heap.size ≤ gb144)); have n5_ := qae.mk ((by rw [hg]; exact Nat.ne_of_lt (qbs (g := gb140) (o := .cells #[.string a0_0, .slice (some ad143) l0_1.length c0_1] 29 (0, 0)) (by (with_reducible repeat (first | refine qai ?_ _ | refine qak ?_ | refine qaj ?_ _)); exact BK140.out)) : gb140 ≠ gb144)); have n6_ := qae.mk ((by rw [hg]; exact Nat.ne_of_gt (qbs (g := gb140) (o := .cells #[.string a0_0, .slice (some ad143) l0_1.length c0_1] 29 (0, 0)) (by (with_reducible repeat (first | refine qai ?_ _ | refine qak ?_ | refine qaj ?_ _)); exact BK140.out)) : gb144 ≠ gb140)); clear BK140; clear HB; have BK140 := n0_; have HB := n1_; have BK144 := n2_; have GW144 := n3_; have GE144 := n4_; have NB140_144 := n5_; have NB144_140 := n6_; clear n0_ n1_ n2_ n3_ n4_ n5_ n6_; clear hb hbox hg; have hnb20 := NB144_140.out; have hnc20 := NB140_144.out; have hcz21_0 : w19.cell? ⟨gb144, 0, none⟩ = some (.int .i64 0) := (qao BK144.out 0).trans rfl; have hcz21_1 : w19.cell? ⟨gb144, 1, none⟩ = some (.int .i64 0) := (qao BK144.out 1).trans rfl; have hfz21_0 := qam BK144.out 0; have hfz21_1 := qam BK144.out 1))
          go_roundg k2
          case measure => have := HJ4.out; have := HK2.out; omega
          case rel => exact ⟨(wrap64 (x1_2 - (ji18))), (wrap64 (x7_2 + (wrap64 ((ji18) * ((qaC l0_1 x27_2).f1))))), (wrap64 (x27_2 + 1)), (by first | rfl | (simp; done) | (simp only [← hji18] <;> (first | rfl | simp)) | (simp [*]; done)), (by first | rfl | (simp; done) | (simp only [← hji18] <;> (first | rfl | simp)) | (simp [*]; done)), (by first | rfl | (simp; done) | (simp [*]; done)), H', ⟨by have := HJ4.out; have := HK2.out; omega⟩, ⟨by (with_reducible repeat (first | refine qai ?_ _ | refine qak ?_ | refine qaj ?_ _)); refine qbp ?_ NB140_144.out _; (with_reducible repeat (first | refine qai ?_ _ | refine qak ?_ | refine qaj ?_ _)); refine qbp ?_ NB140_144.out _; (with_reducible repeat (first | refine qai ?_ _ | refine qak ?_ | refine qaj ?_ _)); exact BK140.out⟩, ⟨by repeat (first | (with_reducible first | exact HB.out | apply qad | apply qaa | apply qac | refine qah ?_ GE140.out | refine qah ?_ GE144.out) | exact HB.out)⟩⟩
         ·rw [if_neg c17] at H; exact absurd H (by simp)
        ·rw [if_neg c16] at H; exact absurd H (by simp)
       ·rw [if_neg c15] at H; have c15b0 : decide (x27_2 < (l0_1.length : Int)) = false := decide_eq_false c15; clear c15; simp only [Option.some.injEq, Prod.mk.injEq] at H
        obtain ⟨rfl, rfl⟩ := H; go_wp2; go_ret2
        exact ⟨by first | rfl | (simp [qaw, qav] <;> rfl) | (simp [*, qaw, qav] <;> rfl), by repeat (first | (with_reducible first | exact HB.out | apply qad | apply qaa | apply qac | refine qah ?_ GE140.out) | exact HB.out)⟩
 ·rw [if_neg c4] at H; have c4b0 : (t141 == 0) = false := beq_eq_false_iff_ne.mpr c4; have c4b1 : (t141 != 0) = true := bne_iff_ne.mpr c4; simp only [Option.some.injEq, Prod.mk.injEq] at H
  obtain ⟨rfl, rfl⟩ := H; go_enter Try.func46, Try.ntmps46; go_wp2_with (first | ((with_reducible refine qaW (N := 2) rfl ?_); refine qaU ?hg (N := 2) ?hd (cs := #[.string a0_0, .slice A0_1 l0_1.length c0_1]) (t := 29) ?hr ?_; (case hd => rfl); (case hg => rfl); (case hr => first | (go_simp; done) | (go_simp; rfl)); intro gb140 hg w22 hbox hb; have n0_ := qae.mk (qar (by repeat (first | (with_reducible first | exact HB.out | apply qad | apply qaa | apply qac) | exact HB.out)) hb); have n1_ := qae.mk (hbox); have n2_ := qae.mk ((by rw [hg]; exact (qan (by repeat (first | (with_reducible first | exact HB.out | apply qad | apply qaa | apply qac) | exact HB.out))) : w.heap.size ≤ gb140)); have n3_ := qae.mk ((by rw [hg]; exact (qan (by repeat (first | (with_reducible first | exact HB.out | apply qad | apply qaa | apply qac) | exact HB.out))) : w.heap.size ≤ gb140)); clear HB; have HB := n0_; have BK140 := n1_; have GW140 := n2_; have GE140 := n3_; clear n0_ n1_ n2_ n3_; clear hb hbox hg; have hcz23_0 : w22.cell? ⟨gb140, 0, none⟩ = some (.string a0_0) := (qao BK140.out 0).trans rfl; have hcz23_1 : w22.cell? ⟨gb140, 1, none⟩ = some (.slice A0_1 l0_1.length c0_1) := (qao BK140.out 1).trans rfl; have hfz23_0 := qam BK140.out 0; have hfz23_1 := qam BK140.out 1) | ((with_reducible refine qaG (f := 78) rfl ?_); refine qa7 (some 12) rfl rfl Try.func78 (by kernel_rfl) rfl #[.agg #[.string a0_0, .slice A0_1 l0_1.length c0_1]] rfl (by (try simp only [qy6, qy7, qy8]); first | done | rfl | (simp only [List.length_drop, List.length_take]; rfl)) ?_; (with_reducible refine (qaE.calls k a0_0 _ _ l0_1 t141 _ ?side1 ?side2 A3.out).mono ?_); (case side1 => repeat (first | exact (Kd.qbC HR0_1.out HB.out) | (with_reducible refine Kd.qbk ?_ _) | (with_reducible refine Kd.qbj ?_ _) | (with_reducible refine Kd.qbA ?_))); (case side2 => exact HC0_1.out); rintro e w24 ⟨rfl, hb⟩; refine ⟨_, rfl, ?_⟩; have n0_ := qae.mk (qa5 (g := gb140) (o := .cells #[.string a0_0, .slice A0_1 l0_1.length c0_1] 29 (0, 0)) (by (with_reducible repeat (first | refine qai ?_ _ | refine qak ?_ | refine qaj ?_ _)); exact BK140.out) hb); have n1_ := qae.mk (qar (by repeat (first | (with_reducible first | exact HB.out | apply qad | apply qaa | apply qac | refine qah ?_ GE140.out) | exact HB.out)) hb); clear BK140; clear HB; have BK140 := n0_; have HB := n1_; clear n0_ n1_; (try clear hb); (try clear hb2); (try clear hk); (try clear hi)))
  go_ret2
  exact ⟨by first | rfl | (simp [qaw, qav] <;> rfl) | (simp [*, qaw, qav] <;> rfl), by repeat (first | (with_reducible first | exact HB.out | apply qad | apply qaa | apply qac | refine qah ?_ GE140.out) | exact HB.out)⟩
end Go.Proofs.Ytfcifmbddikflaa.P
