/- Texts of the claim, put together: Px4, Px5, Px6, Px7, Px8. -/
import Derived.Test.YtfcifmbddikflaaCReserveFree14
import Derived.Test.YtfcifmbddikflaaCReserveFree18
import Derived.Test.YtfcifmbddikflaaCReserveFree16
import Derived.Test.YtfcifmbddikflaaCReserveFree17
namespace Go.Proofs.Ytfcifmbddikflaa.P
open Go.RowKit Go.Proofs.YtfcifmbddikflaaW.PrintWords Go.Proofs.YtfcifmbddikflaaW.PrintLast Go.Proofs.YtfcifmbddikflaaW.PrintMore
attribute [local go_sem] qbo qbm qbz qby qbg qbf qbn qbl
set_option linter.unusedVariables false
set_option linter.unusedSimpArgs false
mutual
def qaB.l0 : Nat → List (S29) → List (S29) → Int → Int → Option (Int)
 | 0, _, _, _, _ => none
 | k + 1, x0, x11, x12, x13 => if x13 < x12 then (if 0 ≤ x13 then (if x13 < (x11.length : Int) then ((qaE.f k ((qaF x11 x13).f0) ((qaF x11 x13).f1)).bind fun t112 => (if t112 = 0 then (if x13 ≤ (x0.length : Int) then ((some (x0.take (x13 : Int).toNat : List (S29))).bind fun y113 => (qaB.l1 k x0 x11 x12 x13 y113 (y113.length : Int) 0 ((qaF x11 x13).f0) ((qaF x11 x13).f1))) else (none)) else (some t112))) else (none)) else (none)) else (some 0)
def qaB.l1 : Nat → List (S29) → List (S29) → Int → Int → List (S29) → Int → Int → ByteArray → List (S41) → Option (Int)
 | 0, _, _, _, _, _, _, _, _, _ => none
 | k + 1, x0, x11, x12, x13, x25, x26, x27, x112000, x112001 => if x27 < x26 then (if 0 ≤ x27 then (if x27 < (x25.length : Int) then (if ((qaF x25 x27).f0).toList = x112000.toList then (some 7) else (qaB.l1 k x0 x11 x12 x13 x25 x26 (wrap64 (x27 + 1)) x112000 x112001)) else (none)) else (none)) else (qaB.l0 k x0 x11 x12 (wrap64 (x13 + 1)))
end
def qaB.f (k : Nat) (l0 : List (S29)) : Option (Int) := if (l0.length : Int) > 10 then (some 2) else (qaB.l0 k l0 l0 (l0.length : Int) 0)
theorem qaB.qbB : ∀ k, (∀ y0 y1 y2 y3, LeO (qaB.l0 k y0 y1 y2 y3) (qaB.l0 (k + 1) y0 y1 y2 y3)) ∧ (∀ y0 y1 y2 y3 y4 y5 y6 y7 y8, LeO (qaB.l1 k y0 y1 y2 y3 y4 y5 y6 y7 y8) (qaB.l1 (k + 1) y0 y1 y2 y3 y4 y5 y6 y7 y8))
 | 0 => ⟨fun _ _ _ _ r h => by simp [qaB.l0] at h, fun _ _ _ _ _ _ _ _ _ r h => by simp [qaB.l1] at h⟩
 | k + 1 => by
  obtain ⟨ih0, ih1⟩ := qaB.qbB k
  refine ⟨?_, ?_⟩
  ·intro y0 y1 y2 y3; unfold qaB.l0
   repeat' first
   | (with_reducible exact ih0 _ _ _ _)
   | (with_reducible exact ih1 _ _ _ _ _ _ _ _ _)
   | (with_reducible exact qaE.mono _ _ _)
   | (with_reducible exact LeO.refl _)
   | (with_reducible exact LeO.none _)
   | (with_reducible refine LeO.ite ?_ ?_)
   | (with_reducible refine LeO.bind ?_ (fun _ => ?_))
   | exact ih0 _ _ _ _
   | exact ih1 _ _ _ _ _ _ _ _ _
   | exact qaE.mono _ _ _
   | exact LeO.none _
   | refine LeO.ite ?_ ?_
   | refine LeO.bind ?_ (fun _ => ?_)
  ·intro y0 y1 y2 y3 y4 y5 y6 y7 y8; unfold qaB.l1
   repeat' first
   | (with_reducible exact ih0 _ _ _ _)
   | (with_reducible exact ih1 _ _ _ _ _ _ _ _ _)
   | (with_reducible exact qaE.mono _ _ _)
   | (with_reducible exact LeO.refl _)
   | (with_reducible exact LeO.none _)
   | (with_reducible refine LeO.ite ?_ ?_)
   | (with_reducible refine LeO.bind ?_ (fun _ => ?_))
   | exact ih0 _ _ _ _
   | exact ih1 _ _ _ _ _ _ _ _ _
   | exact qaE.mono _ _ _
   | exact LeO.none _
   | refine LeO.ite ?_ ?_
   | refine LeO.bind ?_ (fun _ => ?_)
theorem qaB.mono : ∀ a0 k, LeO (qaB.f k a0) (qaB.f (k + 1) a0) := by
 intro a0 k; obtain ⟨ih0, ih1⟩ := qaB.qbB k
 unfold qaB.f
 repeat' first
   | (with_reducible exact ih0 _ _ _ _)
   | (with_reducible exact ih1 _ _ _ _ _ _ _ _ _)
   | (with_reducible exact qaE.mono _ _ _)
   | (with_reducible exact LeO.refl _)
   | (with_reducible exact LeO.none _)
   | (with_reducible refine LeO.ite ?_ ?_)
   | (with_reducible refine LeO.bind ?_ (fun _ => ?_))
   | exact ih0 _ _ _ _
   | exact ih1 _ _ _ _ _ _ _ _ _
   | exact qaE.mono _ _ _
   | exact LeO.none _
   | refine LeO.ite ?_ ?_
   | refine LeO.bind ?_ (fun _ => ?_)
set_option maxHeartbeats 8000000 in
set_option maxRecDepth 100000 in
theorem qaB.calls (k : Nat) (A0 : Option Addr) (c0 : Nat) (l0 : List (S29)) (r : Int) (w : World) (hr0 : Kd.C k29 w A0 l0.length l0) (hc0 : l0.length ≤ c0) (h : qaB.f k l0 = some r) :
  Calls Try.prog 52 #[.slice A0 l0.length c0] w fun e w' => e = .returned (.int .i64 r) ∧ Below w.heap.size w w' := by
 have hu29 := Try.underlying29; have HR0 := qae.mk hr0
 have HC0 := qae.mk hc0
 clear hr0 hc0; have HB := qae.mk (Below.refl w.heap.size w)
 have H : (if (l0.length : Int) > 10 then (some 2) else (qaB.l0 k l0 l0 (l0.length : Int) 0)) = some r := h
 clear h; by_cases c2 : (l0.length : Int) > 10
 ·rw [if_pos c2] at H; have c2b0 : decide (10 < (l0.length : Int)) = true := decide_eq_true c2; have c2b1 : decide (10 < l0.length) = true := decide_eq_true (by omega)
  clear c2; obtain rfl := Option.some.inj H
  go_enter Try.func52, Try.ntmps52; go_wp2; go_ret
  exact ⟨by first | rfl | (simp [qaw, qav] <;> rfl) | (simp [*, qaw, qav] <;> rfl), by repeat (first | (with_reducible first | exact HB.out | apply qad | apply qaa | apply qac) | exact HB.out)⟩
 ·rw [if_neg c2] at H; have c2b0 : decide (10 < (l0.length : Int)) = false := decide_eq_false c2; have c2b1 : decide (10 < l0.length) = false := decide_eq_false (by omega)
  clear c2; have H' := qae.mk H; clear H; go_enter Try.func52, Try.ntmps52; go_wp2; go_loopg [13] k (fun kq v13 w' => ∃ (x13_1 : Int), v13 = .int .i64 x13_1 ∧ qae (qaB.l0 kq l0 l0 (l0.length : Int) x13_1 = some r) ∧ qae (kq ≤ k) ∧ qae (Below w.heap.size w w'))
  case atStart => exact ⟨(0), (by first | rfl | (simp; done) | (simp [*]; done)), H', ⟨Nat.le_refl _⟩, ⟨by repeat (first | (with_reducible first | exact HB.out | apply qad | apply qaa | apply qac) | exact HB.out)⟩⟩
  case round =>
   clear H'; (try clear c2); (try clear c2b0); (try clear c2b1); (try clear p2); obtain ⟨x13_1, rfl, HA, HK1, HB⟩ := hrel
   cases gk with
   | zero => exact absurd HA.out (by simp [qaB.l0])
   | succ k1 =>
    have H := HA.out; clear HA; simp only [qaB.l0] at H
    by_cases c3 : x13_1 < (l0.length : Int)
    ·rw [if_pos c3] at H; have c3b0 : decide (x13_1 < (l0.length : Int)) = true := decide_eq_true c3; clear c3; by_cases c4 : 0 ≤ x13_1
     ·rw [if_pos c4] at H; have c4b0 : decide (0 ≤ x13_1) = true := decide_eq_true c4; clear c4; by_cases c5 : x13_1 < (l0.length : Int)
      ·rw [if_pos c5] at H; have c5b0 : decide (x13_1 < (l0.length : Int)) = true := decide_eq_true c5; clear c5; replace H := Option.bind_eq_some_iff.mp H; obtain ⟨t112, A60, H⟩ := H; replace H : (if t112 = 0 then (if x13_1 ≤ (l0.length : Int) then ((some (l0.take (x13_1 : Int).toNat : List (S29))).bind fun y113 => (qaB.l1 k1 l0 l0 (l0.length : Int) x13_1 y113 (y113.length : Int) 0 ((qaF l0 x13_1).f0) ((qaF l0 x13_1).f1))) else (none)) else (some t112)) = some r := H
       have A6 := qae.mk A60
       clear A60; by_cases c7 : t112 = 0
       ·rw [if_pos c7] at H; have c7b0 : (t112 == 0) = true := beq_iff_eq.mpr c7; have c7b1 : (t112 != 0) = false := bne_eq_false_iff_eq.mpr c7; clear c7; have c8b0 := eq_true (of_decide_eq_true (by first | (with_reducible assumption) | assumption) : 0 ≤ x13_1)
        by_cases c9 : x13_1 ≤ (l0.length : Int)
        ·rw [if_pos c9] at H; have c9b0 := eq_true c9
         have c9b1 : decide (x13_1 ≤ (l0.length : Int)) = true := decide_eq_true c9; clear c9; obtain ⟨y113, hy113⟩ : ∃ y_ : List (S29), y_ = (l0.take (x13_1 : Int).toNat) := ⟨_, rfl⟩
         replace H : (qaB.l1 k1 l0 l0 (l0.length : Int) x13_1 y113 (y113.length : Int) 0 ((qaF l0 x13_1).f0) ((qaF l0 x13_1).f1)) = some r := by first | (rw [hy113]; with_reducible exact H) | (have H2_ := (Option.bind_some _ _).symm.trans H; rw [hy113]; with_reducible exact H2_) | (have H2_ := (Option.bind_some _ _).symm.trans H; with_reducible exact H2_) | with_reducible exact H | (rw [hy113]; exact H) | exact H
         have Ny113 := qae.mk hy113
         clear hy113; have H' := qae.mk H; clear H; have p110 : 0 ≤ (x13_1 : Int) := of_decide_eq_true (by first | (with_reducible assumption) | assumption)
         have q110 : x13_1 < (l0.length : Int) := of_decide_eq_true (by first | (with_reducible assumption) | assumption)
         obtain ⟨ad110, A110_1, c110_1, e110, hx110_0, hx110_1, hl110_1, hi110_1⟩ := at_T29 HR0.out x13_1 p110 q110
         cases e110
         replace hx110_0 := (HB.out.cell (World.block_lt_of_cell? w _ hx110_0)).trans hx110_0
         replace hx110_1 := (HB.out.cell (World.block_lt_of_cell? w _ hx110_1)).trans hx110_1
         have HR110_1 := qae.mk hi110_1
         have HC110_1 := qae.mk hl110_1
         clear hi110_1 hl110_1; replace p110 := eq_true p110; replace q110 := eq_true q110; go_wp2_with (first | ((with_reducible refine qaW (N := 4) rfl ?_); refine qaU ?hg (N := 4) ?hd (cs := #[.string (⟨#[]⟩ : ByteArray), .slice none 0 0]) (t := 29) ?hr ?_; (case hd => rfl); (case hg => rfl); (case hr => first | (go_simp; done) | (go_simp; rfl)); intro gb111 hg w10 hbox hb; have n0_ := qae.mk (qar (by repeat (first | (with_reducible first | exact HB.out | apply qad | apply qaa | apply qac) | exact HB.out)) hb); have n1_ := qae.mk (hbox); have n2_ := qae.mk ((by rw [hg]; exact (qan (by repeat (first | (with_reducible first | exact HB.out | apply qad | apply qaa | apply qac) | exact HB.out))) : w.heap.size ≤ gb111)); have n3_ := qae.mk ((by rw [hg]; exact (qan (by repeat (first | (with_reducible first | exact HB.out | apply qad | apply qaa | apply qac) | exact HB.out))) : w.heap.size ≤ gb111)); clear HB; have HB := n0_; have BK111 := n1_; have GW111 := n2_; have GE111 := n3_; clear n0_ n1_ n2_ n3_; clear hb hbox hg; have hcz11_0 : w10.cell? ⟨gb111, 0, none⟩ = some (.string (⟨#[]⟩ : ByteArray)) := (qao BK111.out 0).trans rfl; have hcz11_1 : w10.cell? ⟨gb111, 1, none⟩ = some (.slice none 0 0) := (qao BK111.out 1).trans rfl; have hfz11_0 := qam BK111.out 0; have hfz11_1 := qam BK111.out 1) | ((with_reducible refine qaG (f := 78) rfl ?_); refine qa7 (some 19) rfl rfl Try.func78 (by kernel_rfl) rfl #[.agg #[.string ((qaF l0 x13_1).f0), .slice A110_1 ((qaF l0 x13_1).f1).length c110_1]] rfl (by (try simp only [qy6, qy7, qy8]); first | done | rfl | (simp only [List.length_drop, List.length_take]; rfl)) ?_; (with_reducible refine (qaE.calls k1 ((qaF l0 x13_1).f0) _ _ ((qaF l0 x13_1).f1) t112 _ ?side1 ?side2 A6.out).mono ?_); (case side1 => exact Kd.qbC HR110_1.out (by repeat (first | (with_reducible first | exact HB.out | apply qad | apply qaa | apply qac | refine qah ?_ GE111.out) | exact HB.out))); (case side2 => exact HC110_1.out); rintro e w12 ⟨rfl, hb⟩; refine ⟨_, rfl, ?_⟩; have n0_ := qae.mk (qa5 (g := gb111) (o := .cells #[.string ((qaF l0 x13_1).f0), .slice A110_1 ((qaF l0 x13_1).f1).length c110_1] 29 (0, 0)) (by (with_reducible repeat (first | refine qai ?_ _ | refine qak ?_ | refine qaj ?_ _)); refine qba (cs := #[.string ((qaF l0 x13_1).f0), .slice none 0 0]) ?_ 1 _ rfl; (with_reducible repeat (first | refine qai ?_ _ | refine qak ?_ | refine qaj ?_ _)); refine qba (cs := #[.string (⟨#[]⟩ : ByteArray), .slice none 0 0]) ?_ 0 _ rfl; (with_reducible repeat (first | refine qai ?_ _ | refine qak ?_ | refine qaj ?_ _)); exact BK111.out) hb); have n1_ := qae.mk (qar (by repeat (first | (with_reducible first | exact HB.out | apply qad | apply qaa | apply qac | refine qah ?_ GE111.out) | exact HB.out)) hb); clear BK111; clear HB; have BK111 := n0_; have HB := n1_; clear n0_ n1_; (try clear hb); (try clear hb2); (try clear hk); (try clear hi); have q13 : (x13_1 : Int) ≤ ((l0.length : Int) : Int) := of_decide_eq_true (by first | (with_reducible assumption) | assumption); obtain ⟨i013, hi013, _, hsz13, _⟩ := info_parts info29; have hroom13 : l0.length ≤ c0 := HC0.out; have hC13 : Kd.C k29 _ (some ad110) l0.length l0 := HR0.out; have hcut13 := cut_to (P := Try.prog) 33 29 .i64 Try.underlying33 hi013 (some ad110) l0.length c0 x13_1 (of_decide_eq_true (by first | (with_reducible assumption) | assumption)) q13 hroom13; have hr13 := Kd.C_take (m := (x13_1 : Int).toNat) hC13 (by omega); have hy13 : y113.length = (x13_1 : Int).toNat := (by rw [Ny113.out, List.length_take]; omega); rw [← Ny113.out] at hr13; rw [← hy13] at hcut13; have HR116 := qae.mk hr13; have HC116 := qae.mk (show y113.length ≤ c0 from by omega); clear hr13 hC13 hroom13 hi013 hsz13; have KY13 := qae.mk hy13; clear hy13; replace q13 := eq_true q13))
         (try simp only [Act.put, List.setIfInBounds_toArray, List.set_cons_zero, List.set_cons_succ])
         go_loopg [27] k1 (fun kq v27 w' => ∃ (x27_2 : Int), v27 = .int .i64 x27_2 ∧ qae (qaB.l1 kq l0 l0 (l0.length : Int) x13_1 y113 (y113.length : Int) x27_2 ((qaF l0 x13_1).f0) ((qaF l0 x13_1).f1) = some r) ∧ qae (kq ≤ k1) ∧ qae (w'.heap[gb111]? = some (.cells #[.string ((qaF l0 x13_1).f0), (.slice A110_1 ((qaF l0 x13_1).f1).length c110_1)] 29 (0, 0))) ∧ qae (Below w.heap.size w w'))
         case atStart => exact ⟨(0), (by first | rfl | (simp; done) | (simp [*]; done)), H', ⟨Nat.le_refl _⟩, ⟨by (with_reducible repeat (first | refine qai ?_ _ | refine qak ?_ | refine qaj ?_ _)); exact BK111.out⟩, ⟨by repeat (first | (with_reducible first | exact HB.out | apply qad | apply qaa | apply qac | refine qah ?_ GE111.out) | exact HB.out)⟩⟩
         case round =>
          clear H'; (try clear c1); (try clear p1); (try clear q1); (try clear hx1); (try clear c2); (try clear c2b0); (try clear c2b1); (try clear p2); (try clear c3); (try clear c3b0); (try clear c4); (try clear c4b0); (try clear c5); (try clear c5b0); (try clear c7); (try clear c7b0); (try clear c7b1); (try clear c8); (try clear c8b0); (try clear c9); (try clear c9b0); (try clear c9b1); (try clear c11); (try clear p11); (try clear q11); (try clear hx11); (try clear q13); (try clear hcz11_0); (try clear hcz11_1); (try clear hfz11_0); (try clear hfz11_1); (try clear hx110_0); (try clear hx110_1); (try clear p110); (try clear p2); (try clear q110); (try clear q13); obtain ⟨x27_2, rfl, HA, HK2, BK111, HB⟩ := hrel
          cases gk with
          | zero => exact absurd HA.out (by simp [qaB.l1])
          | succ k2 =>
           have H := HA.out; clear HA; simp only [qaB.l1] at H
           by_cases c14 : x27_2 < (y113.length : Int)
           ·rw [if_pos c14] at H; have c14b0 : decide (x27_2 < (y113.length : Int)) = true := decide_eq_true c14; clear c14; by_cases c15 : 0 ≤ x27_2
            ·rw [if_pos c15] at H; have c15b0 : decide (0 ≤ x27_2) = true := decide_eq_true c15; clear c15; by_cases c16 : x27_2 < (y113.length : Int)
             ·rw [if_pos c16] at H; have c16b0 : decide (x27_2 < (y113.length : Int)) = true := decide_eq_true c16; clear c16; by_cases c17 : ((qaF y113 x27_2).f0).toList = ((qaF l0 x13_1).f0).toList
              ·rw [if_pos c17] at H; have c17b0 : (((qaF y113 x27_2).f0).toList == ((qaF l0 x13_1).f0).toList) = true := beq_iff_eq.mpr c17; have c17b1 : (((qaF y113 x27_2).f0).toList != ((qaF l0 x13_1).f0).toList) = false := bne_eq_false_iff_eq.mpr c17; clear c17; obtain rfl := Option.some.inj H
               have p117 : 0 ≤ (x27_2 : Int) := of_decide_eq_true (by first | (with_reducible assumption) | assumption)
               have q117 : x27_2 < (y113.length : Int) := of_decide_eq_true (by first | (with_reducible assumption) | assumption)
               obtain ⟨ad117, A117_1, c117_1, e117, hx117_0, hx117_1, hl117_1, hi117_1⟩ := at_T29 HR116.out x27_2 p117 q117
               obtain rfl : ad110 = ad117 := (by injection e117)
               replace hx117_0 := (HB.out.cell (World.block_lt_of_cell? w _ hx117_0)).trans hx117_0
               replace hx117_1 := (HB.out.cell (World.block_lt_of_cell? w _ hx117_1)).trans hx117_1
               have HR117_1 := qae.mk hi117_1
               have HC117_1 := qae.mk hl117_1
               clear hi117_1 hl117_1; replace p117 := eq_true p117; replace q117 := eq_true q117; go_wp2_with (first | ((with_reducible refine qaW (N := 7) rfl ?_); refine qaU ?hg (N := 7) ?hd (cs := #[.string (⟨#[]⟩ : ByteArray), .slice none 0 0]) (t := 29) ?hr ?_; (case hd => rfl); (case hg => rfl); (case hr => first | (go_simp; done) | (go_simp; rfl)); intro gb118 hg w18 hbox hb; have n0_ := qae.mk (qa5 (g := gb111) (o := .cells #[.string ((qaF l0 x13_1).f0), .slice A110_1 ((qaF l0 x13_1).f1).length c110_1] 29 (0, 0)) (by (with_reducible repeat (first | refine qai ?_ _ | refine qak ?_ | refine qaj ?_ _)); exact BK111.out) hb); have n1_ := qae.mk (qar (by repeat (first | (with_reducible first | exact HB.out | apply qad | apply qaa | apply qac | refine qah ?_ GE111.out) | exact HB.out)) hb); have n2_ := qae.mk (hbox); have n3_ := qae.mk ((by rw [hg]; exact (qan (by repeat (first | (with_reducible first | exact HB.out | apply qad | apply qaa | apply qac | refine qah ?_ GE111.out) | exact HB.out))) : w.heap.size ≤ gb118)); have n4_ := qae.mk ((by rw [hg]; exact (qan (by repeat (first | (with_reducible first | exact HB.out | apply qad | apply qaa | apply qac | refine qah ?_ GE111.out) | exact HB.out))) : w.heap.size ≤ gb118)); have n5_ := qae.mk ((by rw [hg]; exact Nat.ne_of_lt (qbs (g := gb111) (o := .cells #[.string ((qaF l0 x13_1).f0), .slice A110_1 ((qaF l0 x13_1).f1).length c110_1] 29 (0, 0)) (by (with_reducible repeat (first | refine qai ?_ _ | refine qak ?_ | refine qaj ?_ _)); exact BK111.out)) : gb111 ≠ gb118)); have n6_ := qae.mk ((by rw [hg]; exact Nat.ne_of_gt (qbs (g := gb111) (o := .cells #[.string ((qaF l0 x13_1).f0), .slice A110_1 ((qaF l0 x13_1).f1).length c110_1] 29 (0, 0)) (by (with_reducible repeat (first | refine qai ?_ _ | refine qak ?_ | refine qaj ?_ _)); exact BK111.out)) : gb118 ≠ gb111)); clear BK111; clear HB; have BK111 := n0_; have HB := n1_; have BK118 := n2_; have GW118 := n3_; have GE118 := n4_; have NB111_118 := n5_; have NB118_111 := n6_; clear n0_ n1_ n2_ n3_ n4_ n5_ n6_; clear hb hbox hg; have hnb19 := NB118_111.out; have hnc19 := NB111_118.out; have hcz20_0 : w18.cell? ⟨gb118, 0, none⟩ = some (.string (⟨#[]⟩ : ByteArray)) := (qao BK118.out 0).trans rfl; have hcz20_1 : w18.cell? ⟨gb118, 1, none⟩ = some (.slice none 0 0) := (qao BK118.out 1).trans rfl; have hfz20_0 := qam BK118.out 0; have hfz20_1 := qam BK118.out 1; have hcz21_0 : w18.cell? ⟨gb111, 0, none⟩ = some (.string ((qaF l0 x13_1).f0)) := (qao BK111.out 0).trans rfl; have hcz21_1 : w18.cell? ⟨gb111, 1, none⟩ = some (.slice A110_1 ((qaF l0 x13_1).f1).length c110_1) := (qao BK111.out 1).trans rfl; have hfz21_0 := qam BK111.out 0; have hfz21_1 := qam BK111.out 1))
               go_ret
               exact ⟨by first | rfl | (simp [qaw, qav] <;> rfl) | (simp [*, qaw, qav] <;> rfl), by repeat (first | (with_reducible first | exact HB.out | apply qad | apply qaa | apply qac | refine qah ?_ GE111.out | refine qah ?_ GE118.out) | exact HB.out)⟩
              ·rw [if_neg c17] at H; have c17b0 : (((qaF y113 x27_2).f0).toList == ((qaF l0 x13_1).f0).toList) = false := beq_eq_false_iff_ne.mpr c17; have c17b1 : (((qaF y113 x27_2).f0).toList != ((qaF l0 x13_1).f0).toList) = true := bne_iff_ne.mpr c17; have H' := qae.mk H; clear H; have p117 : 0 ≤ (x27_2 : Int) := of_decide_eq_true (by first | (with_reducible assumption) | assumption)
               have q117 : x27_2 < (y113.length : Int) := of_decide_eq_true (by first | (with_reducible assumption) | assumption)
               obtain ⟨ad117, A117_1, c117_1, e117, hx117_0, hx117_1, hl117_1, hi117_1⟩ := at_T29 HR116.out x27_2 p117 q117
               obtain rfl : ad110 = ad117 := (by injection e117)
               replace hx117_0 := (HB.out.cell (World.block_lt_of_cell? w _ hx117_0)).trans hx117_0
               replace hx117_1 := (HB.out.cell (World.block_lt_of_cell? w _ hx117_1)).trans hx117_1
               have HR117_1 := qae.mk hi117_1
               have HC117_1 := qae.mk hl117_1
               clear hi117_1 hl117_1; replace p117 := eq_true p117; replace q117 := eq_true q117; go_wp2_with (first | ((with_reducible refine qaW (N := 7) rfl ?_); refine qaU ?hg (N := 7) ?hd (cs := #[.string (⟨#[]⟩ : ByteArray), .slice none 0 0]) (t := 29) ?hr ?_; (case hd => rfl); (case hg => rfl); (case hr => first | (go_simp; done) | (go_simp; rfl)); intro gb118 hg w22 hbox hb; have n0_ := qae.mk (qa5 (g := gb111) (o := .cells #[.string ((qaF l0 x13_1).f0), .slice A110_1 ((qaF l0 x13_1).f1).length c110_1] 29 (0, 0)) (by (with_reducible repeat (first | refine qai ?_ _ | refine qak ?_ | refine qaj ?_ _)); exact BK111.out) hb); have n1_ := qae.mk (qar (by repeat (first | (with_reducible first | exact HB.out | apply qad | apply qaa | apply qac | refine qah ?_ GE111.out) | exact HB.out)) hb); have n2_ := qae.mk (hbox); have n3_ := qae.mk ((by rw [hg]; exact (qan (by repeat (first | (with_reducible first | exact HB.out | apply qad | apply qaa | apply qac | refine qah ?_ GE111.out) | exact HB.out))) : w.heap.size ≤ gb118)); have n4_ := qae.mk ((by rw [hg]; exact (qan (by repeat (first | (with_reducible first | exact HB.out | apply qad | apply qaa | apply qac | refine qah ?_ GE111.out) | exact HB.out))) : w.heap.size ≤ gb118)); have n5_ := qae.mk ((by rw [hg]; exact Nat.ne_of_lt (qbs (g := gb111) (o := .cells #[.string ((qaF l0 x13_1).f0), .slice A110_1 ((qaF l0 x13_1).f1).length c110_1] 29 (0, 0)) (by (with_reducible repeat (first | refine qai ?_ _ | refine qak ?_ | refine qaj ?_ _)); exact BK111.out)) : gb111 ≠ gb118)); have n6_ := qae.mk ((by rw [hg]; exact Nat.ne_of_gt (qbs (g := gb111) (o := .cells #[.string ((qaF l0 x13_1).f0), .slice A110_1 ((qaF l0 x13_1).f1).length c110_1] 29 (0, 0)) (by (with_reducible repeat (first | refine qai ?_ _ | refine qak ?_ | refine qaj ?_ _)); exact BK111.out)) : gb118 ≠ gb111)); clear BK111; clear HB; have BK111 := n0_; have HB := n1_; have BK118 := n2_; have GW118 := n3_; have GE118 := n4_; have NB111_118 := n5_; have NB118_111 := n6_; clear n0_ n1_ n2_ n3_ n4_ n5_ n6_; clear hb hbox hg; have hnb23 := NB118_111.out; have hnc23 := NB111_118.out; have hcz24_0 : w22.cell? ⟨gb118, 0, none⟩ = some (.string (⟨#[]⟩ : ByteArray)) := (qao BK118.out 0).trans rfl; have hcz24_1 : w22.cell? ⟨gb118, 1, none⟩ = some (.slice none 0 0) := (qao BK118.out 1).trans rfl; have hfz24_0 := qam BK118.out 0; have hfz24_1 := qam BK118.out 1; have hcz25_0 : w22.cell? ⟨gb111, 0, none⟩ = some (.string ((qaF l0 x13_1).f0)) := (qao BK111.out 0).trans rfl; have hcz25_1 : w22.cell? ⟨gb111, 1, none⟩ = some (.slice A110_1 ((qaF l0 x13_1).f1).length c110_1) := (qao BK111.out 1).trans rfl; have hfz25_0 := qam BK111.out 0; have hfz25_1 := qam BK111.out 1))
               go_roundg k2
               case measure => have := HK1.out; have := HK2.out; omega
               case rel => exact ⟨(wrap64 (x27_2 + 1)), (by first | rfl | (simp; done) | (simp [*]; done)), H', ⟨by have := HK1.out; have := HK2.out; omega⟩, ⟨by (with_reducible repeat (first | refine qai ?_ _ | refine qak ?_ | refine qaj ?_ _)); refine qbp ?_ NB111_118.out _; (with_reducible repeat (first | refine qai ?_ _ | refine qak ?_ | refine qaj ?_ _)); refine qbp ?_ NB111_118.out _; (with_reducible repeat (first | refine qai ?_ _ | refine qak ?_ | refine qaj ?_ _)); exact BK111.out⟩, ⟨by repeat (first | (with_reducible first | exact HB.out | apply qad | apply qaa | apply qac | refine qah ?_ GE111.out | refine qah ?_ GE118.out) | exact HB.out)⟩⟩
             ·rw [if_neg c16] at H; exact absurd H (by simp)
            ·rw [if_neg c15] at H; exact absurd H (by simp)
           ·rw [if_neg c14] at H; have c14b0 : decide (x27_2 < (y113.length : Int)) = false := decide_eq_false c14; clear c14; have H' := qae.mk H; clear H; go_wp2; go_roundg k2
            case measure => have := HK1.out; have := HK2.out; omega
            case rel => exact ⟨(wrap64 (x13_1 + 1)), (by first | rfl | (simp; done) | (simp [*]; done)), H', ⟨by have := HK1.out; have := HK2.out; omega⟩, ⟨by repeat (first | (with_reducible first | exact HB.out | apply qad | apply qaa | apply qac | refine qah ?_ GE111.out) | exact HB.out)⟩⟩
        ·rw [if_neg c9] at H; exact absurd H (by simp)
       ·rw [if_neg c7] at H; have c7b0 : (t112 == 0) = false := beq_eq_false_iff_ne.mpr c7; have c7b1 : (t112 != 0) = true := bne_iff_ne.mpr c7; obtain rfl := Option.some.inj H
        have p110 : 0 ≤ (x13_1 : Int) := of_decide_eq_true (by first | (with_reducible assumption) | assumption)
        have q110 : x13_1 < (l0.length : Int) := of_decide_eq_true (by first | (with_reducible assumption) | assumption)
        obtain ⟨ad110, A110_1, c110_1, e110, hx110_0, hx110_1, hl110_1, hi110_1⟩ := at_T29 HR0.out x13_1 p110 q110
        cases e110
        replace hx110_0 := (HB.out.cell (World.block_lt_of_cell? w _ hx110_0)).trans hx110_0
        replace hx110_1 := (HB.out.cell (World.block_lt_of_cell? w _ hx110_1)).trans hx110_1
        have HR110_1 := qae.mk hi110_1
        have HC110_1 := qae.mk hl110_1
        clear hi110_1 hl110_1; replace p110 := eq_true p110; replace q110 := eq_true q110; go_wp2_with (first | ((with_reducible refine qaW (N := 4) rfl ?_); refine qaU ?hg (N := 4) ?hd (cs := #[.string (⟨#[]⟩ : ByteArray), .slice none 0 0]) (t := 29) ?hr ?_; (case hd => rfl); (case hg => rfl); (case hr => first | (go_simp; done) | (go_simp; rfl)); intro gb111 hg w26 hbox hb; have n0_ := qae.mk (qar (by repeat (first | (with_reducible first | exact HB.out | apply qad | apply qaa | apply qac) | exact HB.out)) hb); have n1_ := qae.mk (hbox); have n2_ := qae.mk ((by rw [hg]; exact (qan (by repeat (first | (with_reducible first | exact HB.out | apply qad | apply qaa | apply qac) | exact HB.out))) : w.heap.size ≤ gb111)); have n3_ := qae.mk ((by rw [hg]; exact (qan (by repeat (first | (with_reducible first | exact HB.out | apply qad | apply qaa | apply qac) | exact HB.out))) : w.heap.size ≤ gb111)); clear HB; have HB := n0_; have BK111 := n1_; have GW111 := n2_; have GE111 := n3_; clear n0_ n1_ n2_ n3_; clear hb hbox hg; have hcz27_0 : w26.cell? ⟨gb111, 0, none⟩ = some (.string (⟨#[]⟩ : ByteArray)) := (qao BK111.out 0).trans rfl; have hcz27_1 : w26.cell? ⟨gb111, 1, none⟩ = some (.slice none 0 0) := (qao BK111.out 1).trans rfl; have hfz27_0 := qam BK111.out 0; have hfz27_1 := qam BK111.out 1) | ((with_reducible refine qaG (f := 78) rfl ?_); refine qa7 (some 19) rfl rfl Try.func78 (by kernel_rfl) rfl #[.agg #[.string ((qaF l0 x13_1).f0), .slice A110_1 ((qaF l0 x13_1).f1).length c110_1]] rfl (by (try simp only [qy6, qy7, qy8]); first | done | rfl | (simp only [List.length_drop, List.length_take]; rfl)) ?_; (with_reducible refine (qaE.calls k1 ((qaF l0 x13_1).f0) _ _ ((qaF l0 x13_1).f1) t112 _ ?side1 ?side2 A6.out).mono ?_); (case side1 => exact Kd.qbC HR110_1.out (by repeat (first | (with_reducible first | exact HB.out | apply qad | apply qaa | apply qac | refine qah ?_ GE111.out) | exact HB.out))); (case side2 => exact HC110_1.out); rintro e w28 ⟨rfl, hb⟩; refine ⟨_, rfl, ?_⟩; have n0_ := qae.mk (qa5 (g := gb111) (o := .cells #[.string ((qaF l0 x13_1).f0), .slice A110_1 ((qaF l0 x13_1).f1).length c110_1] 29 (0, 0)) (by (with_reducible repeat (first | refine qai ?_ _ | refine qak ?_ | refine qaj ?_ _)); refine qba (cs := #[.string ((qaF l0 x13_1).f0), .slice none 0 0]) ?_ 1 _ rfl; (with_reducible repeat (first | refine qai ?_ _ | refine qak ?_ | refine qaj ?_ _)); refine qba (cs := #[.string (⟨#[]⟩ : ByteArray), .slice none 0 0]) ?_ 0 _ rfl; (with_reducible repeat (first | refine qai ?_ _ | refine qak ?_ | refine qaj ?_ _)); exact BK111.out) hb); have n1_ := qae.mk (qar (by repeat (first | (with_reducible first | exact HB.out | apply qad | apply qaa | apply qac | refine qah ?_ GE111.out) | exact HB.out)) hb); clear BK111; clear HB; have BK111 := n0_; have HB := n1_; clear n0_ n1_; (try clear hb); (try clear hb2); (try clear hk); (try clear hi)))
        go_ret
        exact ⟨by first | rfl | (simp [qaw, qav] <;> rfl) | (simp [*, qaw, qav] <;> rfl), by repeat (first | (with_reducible first | exact HB.out | apply qad | apply qaa | apply qac | refine qah ?_ GE111.out) | exact HB.out)⟩
      ·rw [if_neg c5] at H; exact absurd H (by simp)
     ·rw [if_neg c4] at H; exact absurd H (by simp)
    ·rw [if_neg c3] at H; have c3b0 : decide (x13_1 < (l0.length : Int)) = false := decide_eq_false c3; clear c3; obtain rfl := Option.some.inj H
     go_wp2; go_ret
     exact ⟨by first | rfl | (simp [qaw, qav] <;> rfl) | (simp [*, qaw, qav] <;> rfl), by repeat (first | (with_reducible first | exact HB.out | apply qad | apply qaa | apply qac) | exact HB.out)⟩
def qaV.l0 : Nat → Int → List (S41) → Int → Int → Option (Int)
 | 0, _, _, _, _ => none
 | k + 1, x3, x7, x8, x9 => if x9 < x8 then (if 0 ≤ x9 then (if x9 < (x7.length : Int) then (qaV.l0 k (wrap64 (x3 + ((qaC x7 x9).f0))) x7 x8 (wrap64 (x9 + 1))) else (none)) else (none)) else (some x3)
def qaV.f (k : Nat) (a0_0 : ByteArray) (l0_1 : List (S41)) : Option (Int) := qaV.l0 k 0 l0_1 (l0_1.length : Int) 0
theorem qaV.qbB : ∀ k, (∀ y0 y1 y2 y3, LeO (qaV.l0 k y0 y1 y2 y3) (qaV.l0 (k + 1) y0 y1 y2 y3))
 | 0 => fun _ _ _ _ r h => by simp [qaV.l0] at h
 | k + 1 => by
  have ih0 := qaV.qbB k
  ·intro y0 y1 y2 y3; unfold qaV.l0
   repeat' first
   | (with_reducible exact ih0 _ _ _ _)
   | (with_reducible exact LeO.refl _)
   | (with_reducible exact LeO.none _)
   | (with_reducible refine LeO.ite ?_ ?_)
   | (with_reducible refine LeO.bind ?_ (fun _ => ?_))
   | exact ih0 _ _ _ _
   | exact LeO.none _
   | refine LeO.ite ?_ ?_
   | refine LeO.bind ?_ (fun _ => ?_)
theorem qaV.mono : ∀ a0 a1 k, LeO (qaV.f k a0 a1) (qaV.f (k + 1) a0 a1) := by
 intro a0 a1 k; have ih0 := qaV.qbB k
 unfold qaV.f
 repeat' first
   | (with_reducible exact ih0 _ _ _ _)
   | (with_reducible exact LeO.refl _)
   | (with_reducible exact LeO.none _)
   | (with_reducible refine LeO.ite ?_ ?_)
   | (with_reducible refine LeO.bind ?_ (fun _ => ?_))
   | exact ih0 _ _ _ _
   | exact LeO.none _
   | refine LeO.ite ?_ ?_
   | refine LeO.bind ?_ (fun _ => ?_)
set_option maxHeartbeats 8000000 in
set_option maxRecDepth 100000 in
theorem qaV.calls (k : Nat) (a0_0 : ByteArray) (A0_1 : Option Addr) (c0_1 : Nat) (l0_1 : List (S41)) (r : Int) (w : World) (hr0_1 : Kd.C k41 w A0_1 l0_1.length l0_1) (hc0_1 : l0_1.length ≤ c0_1) (h : qaV.f k a0_0 l0_1 = some r) :
  Calls Try.prog 54 #[.agg #[.string a0_0, .slice A0_1 l0_1.length c0_1]] w fun e w' => e = .returned (.int .i64 r) ∧ Below w.heap.size w w' := by
 have hu29 := Try.underlying29; have hu41 := Try.underlying41; have HR0_1 := qae.mk hr0_1
 have HC0_1 := qae.mk hc0_1
 clear hr0_1 hc0_1; have HB := qae.mk (Below.refl w.heap.size w)
 have H : (qaV.l0 k 0 l0_1 (l0_1.length : Int) 0) = some r := h
 clear h; have H' := qae.mk H; clear H; go_enter Try.func54, Try.ntmps54; go_wp2_with (first | ((with_reducible refine qaW (N := 1) rfl ?_); refine qaU ?hg (N := 1) ?hd (cs := #[.string a0_0, .slice A0_1 l0_1.length c0_1]) (t := 29) ?hr ?_; (case hd => rfl); (case hg => rfl); (case hr => first | (go_simp; done) | (go_simp; rfl)); intro gb119 hg w2 hbox hb; have n0_ := qae.mk (qar (by repeat (first | (with_reducible first | exact HB.out | apply qad | apply qaa | apply qac) | exact HB.out)) hb); have n1_ := qae.mk (hbox); have n2_ := qae.mk ((by rw [hg]; exact (qan (by repeat (first | (with_reducible first | exact HB.out | apply qad | apply qaa | apply qac) | exact HB.out))) : w.heap.size ≤ gb119)); have n3_ := qae.mk ((by rw [hg]; exact (qan (by repeat (first | (with_reducible first | exact HB.out | apply qad | apply qaa | apply qac) | exact HB.out))) : w.heap.size ≤ gb119)); clear HB; have HB := n0_; have BK119 := n1_; have GW119 := n2_; have GE119 := n3_; clear n0_ n1_ n2_ n3_; clear hb hbox hg; have hcz3_0 : w2.cell? ⟨gb119, 0, none⟩ = some (.string a0_0) := (qao BK119.out 0).trans rfl; have hcz3_1 : w2.cell? ⟨gb119, 1, none⟩ = some (.slice A0_1 l0_1.length c0_1) := (qao BK119.out 1).trans rfl; have hfz3_0 := qam BK119.out 0; have hfz3_1 := qam BK119.out 1))
 (try simp only [Act.put, List.setIfInBounds_toArray, List.set_cons_zero, List.set_cons_succ])
 go_loopg [3, 9] k (fun kq v3 v9 w' => ∃ (x3_1 : Int) (x9_1 : Int), v3 = .int .i64 x3_1 ∧ v9 = .int .i64 x9_1 ∧ qae (qaV.l0 kq x3_1 l0_1 (l0_1.length : Int) x9_1 = some r) ∧ qae (kq ≤ k) ∧ qae (w'.heap[gb119]? = some (.cells #[.string a0_0, (.slice A0_1 l0_1.length c0_1)] 29 (0, 0))) ∧ qae (Below w.heap.size w w'))
 case atStart => exact ⟨(0), (0), (by first | rfl | (simp; done) | (simp [*]; done)), (by first | rfl | (simp; done) | (simp [*]; done)), H', ⟨Nat.le_refl _⟩, ⟨by (with_reducible repeat (first | refine qai ?_ _ | refine qak ?_ | refine qaj ?_ _)); exact BK119.out⟩, ⟨by repeat (first | (with_reducible first | exact HB.out | apply qad | apply qaa | apply qac | refine qah ?_ GE119.out) | exact HB.out)⟩⟩
 case round =>
  clear H'; (try clear p2); (try clear hcz3_0); (try clear hcz3_1); (try clear hfz3_0); (try clear hfz3_1); obtain ⟨x3_1, x9_1, rfl, rfl, HA, HK1, BK119, HB⟩ := hrel
  cases gk with
  | zero => exact absurd HA.out (by simp [qaV.l0])
  | succ k1 =>
   have H := HA.out; clear HA; simp only [qaV.l0] at H
   by_cases c4 : x9_1 < (l0_1.length : Int)
   ·rw [if_pos c4] at H; have c4b0 : decide (x9_1 < (l0_1.length : Int)) = true := decide_eq_true c4; clear c4; by_cases c5 : 0 ≤ x9_1
    ·rw [if_pos c5] at H; have c5b0 : decide (0 ≤ x9_1) = true := decide_eq_true c5; clear c5; by_cases c6 : x9_1 < (l0_1.length : Int)
     ·rw [if_pos c6] at H; have c6b0 : decide (x9_1 < (l0_1.length : Int)) = true := decide_eq_true c6; clear c6; have H' := qae.mk H; clear H; have p120 : 0 ≤ (x9_1 : Int) := of_decide_eq_true (by first | (with_reducible assumption) | assumption)
      have q120 : x9_1 < (l0_1.length : Int) := of_decide_eq_true (by first | (with_reducible assumption) | assumption)
      obtain ⟨ad120, e120, hx120_0, hx120_1⟩ := at_T41 HR0_1.out x9_1 p120 q120
      cases e120
      replace hx120_0 := (HB.out.cell (World.block_lt_of_cell? w _ hx120_0)).trans hx120_0
      replace hx120_1 := (HB.out.cell (World.block_lt_of_cell? w _ hx120_1)).trans hx120_1
      replace p120 := eq_true p120; replace q120 := eq_true q120; go_wp2_with (first | ((with_reducible refine qaW (N := 5) rfl ?_); refine qaU ?hg (N := 5) ?hd (cs := #[.int .i64 0, .int .i64 0]) (t := 41) ?hr ?_; (case hd => rfl); (case hg => rfl); (case hr => first | (go_simp; done) | (go_simp; rfl)); intro gb121 hg w7 hbox hb; have n0_ := qae.mk (qa5 (g := gb119) (o := .cells #[.string a0_0, .slice (some ad120) l0_1.length c0_1] 29 (0, 0)) (by (with_reducible repeat (first | refine qai ?_ _ | refine qak ?_ | refine qaj ?_ _)); exact BK119.out) hb); have n1_ := qae.mk (qar (by repeat (first | (with_reducible first | exact HB.out | apply qad | apply qaa | apply qac | refine qah ?_ GE119.out) | exact HB.out)) hb); have n2_ := qae.mk (hbox); have n3_ := qae.mk ((by rw [hg]; exact (qan (by repeat (first | (with_reducible first | exact HB.out | apply qad | apply qaa | apply qac | refine qah ?_ GE119.out) | exact HB.out))) : w.heap.size ≤ gb121)); have n4_ := qae.mk ((by rw [hg]; exact (qan (by repeat (first | (with_reducible first | exact HB.out | apply qad | apply qaa | apply qac | refine qah ?_ GE119.out) | exact HB.out))) : w.heap.size ≤ gb121)); have n5_ := qae.mk ((by rw [hg]; exact Nat.ne_of_lt (qbs (g := gb119) (o := .cells #[.string a0_0, .slice (some ad120) l0_1.length c0_1] 29 (0, 0)) (by (with_reducible repeat (first | refine qai ?_ _ | refine qak ?_ | refine qaj ?_ _)); exact BK119.out)) : gb119 ≠ gb121)); have n6_ := qae.mk ((by rw [hg]; exact Nat.ne_of_gt (qbs (g := gb119) (o := .cells #[.string a0_0, .slice (some ad120) l0_1.length c0_1] 29 (0, 0)) (by (with_reducible repeat (first | refine qai ?_ _ | refine qak ?_ | refine qaj ?_ _)); exact BK119.out)) : gb121 ≠ gb119)); clear BK119; clear HB; have BK119 := n0_; have HB := n1_; have BK121 := n2_; have GW121 := n3_; have GE121 := n4_; have NB119_121 := n5_; have NB121_119 := n6_; clear n0_ n1_ n2_ n3_ n4_ n5_ n6_; clear hb hbox hg; have hnb8 := NB121_119.out; have hnc8 := NB119_121.out; have hcz9_0 : w7.cell? ⟨gb121, 0, none⟩ = some (.int .i64 0) := (qao BK121.out 0).trans rfl; have hcz9_1 : w7.cell? ⟨gb121, 1, none⟩ = some (.int .i64 0) := (qao BK121.out 1).trans rfl; have hfz9_0 := qam BK121.out 0; have hfz9_1 := qam BK121.out 1))
      go_roundg k1
      case measure => have := HK1.out; omega
      case rel => exact ⟨(wrap64 (x3_1 + ((qaC l0_1 x9_1).f0))), (wrap64 (x9_1 + 1)), (by first | rfl | (simp; done) | (simp [*]; done)), (by first | rfl | (simp; done) | (simp [*]; done)), H', ⟨by have := HK1.out; omega⟩, ⟨by (with_reducible repeat (first | refine qai ?_ _ | refine qak ?_ | refine qaj ?_ _)); refine qbp ?_ NB119_121.out _; (with_reducible repeat (first | refine qai ?_ _ | refine qak ?_ | refine qaj ?_ _)); refine qbp ?_ NB119_121.out _; (with_reducible repeat (first | refine qai ?_ _ | refine qak ?_ | refine qaj ?_ _)); exact BK119.out⟩, ⟨by repeat (first | (with_reducible first | exact HB.out | apply qad | apply qaa | apply qac | refine qah ?_ GE119.out | refine qah ?_ GE121.out) | exact HB.out)⟩⟩
     ·rw [if_neg c6] at H; exact absurd H (by simp)
    ·rw [if_neg c5] at H; exact absurd H (by simp)
   ·rw [if_neg c4] at H; have c4b0 : decide (x9_1 < (l0_1.length : Int)) = false := decide_eq_false c4; clear c4; obtain rfl := Option.some.inj H
    go_wp2; go_ret
    exact ⟨by first | rfl | (simp [qaw, qav] <;> rfl) | (simp [*, qaw, qav] <;> rfl), by repeat (first | (with_reducible first | exact HB.out | apply qad | apply qaa | apply qac | refine qah ?_ GE119.out) | exact HB.out)⟩
def qaY.l0 : Nat → Int → List (S29) → Int → Int → Option (Int)
 | 0, _, _, _, _ => none
 | k + 1, x3, x6, x7, x8 => if x8 < x7 then (if 0 ≤ x8 then (if x8 < (x6.length : Int) then ((qaV.f k ((qaF x6 x8).f0) ((qaF x6 x8).f1)).bind fun t124 => (qaY.l0 k (wrap64 (x3 + t124)) x6 x7 (wrap64 (x8 + 1)))) else (none)) else (none)) else (some x3)
def qaY.f (k : Nat) (l0 : List (S29)) : Option (Int) := qaY.l0 k 0 l0 (l0.length : Int) 0
theorem qaY.qbB : ∀ k, (∀ y0 y1 y2 y3, LeO (qaY.l0 k y0 y1 y2 y3) (qaY.l0 (k + 1) y0 y1 y2 y3))
 | 0 => fun _ _ _ _ r h => by simp [qaY.l0] at h
 | k + 1 => by
  have ih0 := qaY.qbB k
  ·intro y0 y1 y2 y3; unfold qaY.l0
   repeat' first
   | (with_reducible exact ih0 _ _ _ _)
   | (with_reducible exact qaV.mono _ _ _)
   | (with_reducible exact LeO.refl _)
   | (with_reducible exact LeO.none _)
   | (with_reducible refine LeO.ite ?_ ?_)
   | (with_reducible refine LeO.bind ?_ (fun _ => ?_))
   | exact ih0 _ _ _ _
   | exact qaV.mono _ _ _
   | exact LeO.none _
   | refine LeO.ite ?_ ?_
   | refine LeO.bind ?_ (fun _ => ?_)
theorem qaY.mono : ∀ a0 k, LeO (qaY.f k a0) (qaY.f (k + 1) a0) := by
 intro a0 k; have ih0 := qaY.qbB k
 unfold qaY.f
 repeat' first
   | (with_reducible exact ih0 _ _ _ _)
   | (with_reducible exact qaV.mono _ _ _)
   | (with_reducible exact LeO.refl _)
   | (with_reducible exact LeO.none _)
   | (with_reducible refine LeO.ite ?_ ?_)
   | (with_reducible refine LeO.bind ?_ (fun _ => ?_))
   | exact ih0 _ _ _ _
   | exact qaV.mono _ _ _
   | exact LeO.none _
   | refine LeO.ite ?_ ?_
   | refine LeO.bind ?_ (fun _ => ?_)
set_option maxHeartbeats 8000000 in
set_option maxRecDepth 100000 in
theorem qaY.calls (k : Nat) (A0 : Option Addr) (c0 : Nat) (l0 : List (S29)) (r : Int) (w : World) (hr0 : Kd.C k29 w A0 l0.length l0) (hc0 : l0.length ≤ c0) (h : qaY.f k l0 = some r) :
  Calls Try.prog 79 #[.slice A0 l0.length c0] w fun e w' => e = .returned (.int .i64 r) ∧ Below w.heap.size w w' := by
 have hu29 := Try.underlying29; have HR0 := qae.mk hr0
 have HC0 := qae.mk hc0
 clear hr0 hc0; have HB := qae.mk (Below.refl w.heap.size w)
 have H : (qaY.l0 k 0 l0 (l0.length : Int) 0) = some r := h
 clear h; have H' := qae.mk H; clear H; go_enter Try.func79, Try.ntmps79; go_wp2; go_loopg [3, 8] k (fun kq v3 v8 w' => ∃ (x3_1 : Int) (x8_1 : Int), v3 = .int .i64 x3_1 ∧ v8 = .int .i64 x8_1 ∧ qae (qaY.l0 kq x3_1 l0 (l0.length : Int) x8_1 = some r) ∧ qae (kq ≤ k) ∧ qae (Below w.heap.size w w'))
 case atStart => exact ⟨(0), (0), (by first | rfl | (simp; done) | (simp [*]; done)), (by first | rfl | (simp; done) | (simp [*]; done)), H', ⟨Nat.le_refl _⟩, ⟨by repeat (first | (with_reducible first | exact HB.out | apply qad | apply qaa | apply qac) | exact HB.out)⟩⟩
 case round =>
  clear H'; obtain ⟨x3_1, x8_1, rfl, rfl, HA, HK1, HB⟩ := hrel
  cases gk with
  | zero => exact absurd HA.out (by simp [qaY.l0])
  | succ k1 =>
   have H := HA.out; clear HA; simp only [qaY.l0] at H
   by_cases c2 : x8_1 < (l0.length : Int)
   ·rw [if_pos c2] at H; have c2b0 : decide (x8_1 < (l0.length : Int)) = true := decide_eq_true c2; clear c2; by_cases c3 : 0 ≤ x8_1
    ·rw [if_pos c3] at H; have c3b0 : decide (0 ≤ x8_1) = true := decide_eq_true c3; clear c3; by_cases c4 : x8_1 < (l0.length : Int)
     ·rw [if_pos c4] at H; have c4b0 : decide (x8_1 < (l0.length : Int)) = true := decide_eq_true c4; clear c4; replace H := Option.bind_eq_some_iff.mp H; obtain ⟨t124, A50, H⟩ := H; replace H : (qaY.l0 k1 (wrap64 (x3_1 + t124)) l0 (l0.length : Int) (wrap64 (x8_1 + 1))) = some r := H
      have A5 := qae.mk A50
      clear A50; have H' := qae.mk H; clear H; have p122 : 0 ≤ (x8_1 : Int) := of_decide_eq_true (by first | (with_reducible assumption) | assumption)
      have q122 : x8_1 < (l0.length : Int) := of_decide_eq_true (by first | (with_reducible assumption) | assumption)
      obtain ⟨ad122, A122_1, c122_1, e122, hx122_0, hx122_1, hl122_1, hi122_1⟩ := at_T29 HR0.out x8_1 p122 q122
      cases e122
      replace hx122_0 := (HB.out.cell (World.block_lt_of_cell? w _ hx122_0)).trans hx122_0
      replace hx122_1 := (HB.out.cell (World.block_lt_of_cell? w _ hx122_1)).trans hx122_1
      have HR122_1 := qae.mk hi122_1
      have HC122_1 := qae.mk hl122_1
      clear hi122_1 hl122_1; replace p122 := eq_true p122; replace q122 := eq_true q122; go_wp2_with (first | ((with_reducible refine qaW (N := 5) rfl ?_); refine qaU ?hg (N := 5) ?hd (cs := #[.string (⟨#[]⟩ : ByteArray), .slice none 0 0]) (t := 29) ?hr ?_; (case hd => rfl); (case hg => rfl); (case hr => first | (go_simp; done) | (go_simp; rfl)); intro gb123 hg w6 hbox hb; have n0_ := qae.mk (qar (by repeat (first | (with_reducible first | exact HB.out | apply qad | apply qaa | apply qac) | exact HB.out)) hb); have n1_ := qae.mk (hbox); have n2_ := qae.mk ((by rw [hg]; exact (qan (by repeat (first | (with_reducible first | exact HB.out | apply qad | apply qaa | apply qac) | exact HB.out))) : w.heap.size ≤ gb123)); have n3_ := qae.mk ((by rw [hg]; exact (qan (by repeat (first | (with_reducible first | exact HB.out | apply qad | apply qaa | apply qac) | exact HB.out))) : w.heap.size ≤ gb123)); clear HB; have HB := n0_; have BK123 := n1_; have GW123 := n2_; have GE123 := n3_; clear n0_ n1_ n2_ n3_; clear hb hbox hg; have hcz7_0 : w6.cell? ⟨gb123, 0, none⟩ = some (.string (⟨#[]⟩ : ByteArray)) := (qao BK123.out 0).trans rfl; have hcz7_1 : w6.cell? ⟨gb123, 1, none⟩ = some (.slice none 0 0) := (qao BK123.out 1).trans rfl; have hfz7_0 := qam BK123.out 0; have hfz7_1 := qam BK123.out 1) | ((with_reducible refine qaG (f := 54) rfl ?_); refine qa7 (some 14) rfl rfl Try.func54 (by kernel_rfl) rfl #[.agg #[.string ((qaF l0 x8_1).f0), .slice A122_1 ((qaF l0 x8_1).f1).length c122_1]] rfl (by (try simp only [qy6, qy7, qy8]); first | done | rfl | (simp only [List.length_drop, List.length_take]; rfl)) ?_; (with_reducible refine (qaV.calls k1 ((qaF l0 x8_1).f0) _ _ ((qaF l0 x8_1).f1) t124 _ ?side1 ?side2 A5.out).mono ?_); (case side1 => exact Kd.qbC HR122_1.out (by repeat (first | (with_reducible first | exact HB.out | apply qad | apply qaa | apply qac | refine qah ?_ GE123.out) | exact HB.out))); (case side2 => exact HC122_1.out); rintro e w8 ⟨rfl, hb⟩; refine ⟨_, rfl, ?_⟩; have n0_ := qae.mk (qa5 (g := gb123) (o := .cells #[.string ((qaF l0 x8_1).f0), .slice A122_1 ((qaF l0 x8_1).f1).length c122_1] 29 (0, 0)) (by (with_reducible repeat (first | refine qai ?_ _ | refine qak ?_ | refine qaj ?_ _)); refine qba (cs := #[.string ((qaF l0 x8_1).f0), .slice none 0 0]) ?_ 1 _ rfl; (with_reducible repeat (first | refine qai ?_ _ | refine qak ?_ | refine qaj ?_ _)); refine qba (cs := #[.string (⟨#[]⟩ : ByteArray), .slice none 0 0]) ?_ 0 _ rfl; (with_reducible repeat (first | refine qai ?_ _ | refine qak ?_ | refine qaj ?_ _)); exact BK123.out) hb); have n1_ := qae.mk (qar (by repeat (first | (with_reducible first | exact HB.out | apply qad | apply qaa | apply qac | refine qah ?_ GE123.out) | exact HB.out)) hb); clear BK123; clear HB; have BK123 := n0_; have HB := n1_; clear n0_ n1_; (try clear hb); (try clear hb2); (try clear hk); (try clear hi)))
      go_roundg k1
      case measure => have := HK1.out; omega
      case rel => exact ⟨(wrap64 (x3_1 + t124)), (wrap64 (x8_1 + 1)), (by first | rfl | (simp; done) | (simp [*]; done)), (by first | rfl | (simp; done) | (simp [*]; done)), H', ⟨by have := HK1.out; omega⟩, ⟨by repeat (first | (with_reducible first | exact HB.out | apply qad | apply qaa | apply qac | refine qah ?_ GE123.out) | exact HB.out)⟩⟩
     ·rw [if_neg c4] at H; exact absurd H (by simp)
    ·rw [if_neg c3] at H; exact absurd H (by simp)
   ·rw [if_neg c2] at H; have c2b0 : decide (x8_1 < (l0.length : Int)) = false := decide_eq_false c2; clear c2; obtain rfl := Option.some.inj H
    go_wp2; go_ret
    exact ⟨by first | rfl | (simp [qaw, qav] <;> rfl) | (simp [*, qaw, qav] <;> rfl), by repeat (first | (with_reducible first | exact HB.out | apply qad | apply qaa | apply qac) | exact HB.out)⟩
def qaN.j0 : Nat → List (S29) → Int → Bool → Option (Int)
 | 0, _, _, _ => none
 | k + 1, x0, x1, x16 => if x16 = true then (some 4) else ((qaY.f k x0).bind fun t126 => (if x1 > t126 then (some 8) else (some 0)))
def qaN.f (k : Nat) (l0 : List (S29)) (a1 : Int) : Option (Int) := (qaB.f k l0).bind fun t125 => (if t125 = 0 then (if a1 < 0 then (qaN.j0 k l0 a1 true) else (qaN.j0 k l0 a1 (decide (a1 > 1000000)))) else (some t125))
theorem qaN.qbB : ∀ k, (∀ y0 y1 y2, LeO (qaN.j0 k y0 y1 y2) (qaN.j0 (k + 1) y0 y1 y2))
 | 0 => fun _ _ _ r h => by simp [qaN.j0] at h
 | k + 1 => by
  have ih0 := qaN.qbB k
  ·intro y0 y1 y2; unfold qaN.j0
   repeat' first
   | (with_reducible exact ih0 _ _ _)
   | (with_reducible exact qaY.mono _ _)
   | (with_reducible exact qaB.mono _ _)
   | (with_reducible exact LeO.refl _)
   | (with_reducible exact LeO.none _)
   | (with_reducible refine LeO.ite ?_ ?_)
   | (with_reducible refine LeO.bind ?_ (fun _ => ?_))
   | exact ih0 _ _ _
   | exact qaY.mono _ _
   | exact qaB.mono _ _
   | exact LeO.none _
   | refine LeO.ite ?_ ?_
   | refine LeO.bind ?_ (fun _ => ?_)
theorem qaN.mono : ∀ a0 a1 k, LeO (qaN.f k a0 a1) (qaN.f (k + 1) a0 a1) := by
 intro a0 a1 k; have ih0 := qaN.qbB k
 unfold qaN.f
 repeat' first
   | (with_reducible exact ih0 _ _ _)
   | (with_reducible exact qaY.mono _ _)
   | (with_reducible exact qaB.mono _ _)
   | (with_reducible exact LeO.refl _)
   | (with_reducible exact LeO.none _)
   | (with_reducible refine LeO.ite ?_ ?_)
   | (with_reducible refine LeO.bind ?_ (fun _ => ?_))
   | exact ih0 _ _ _
   | exact qaY.mono _ _
   | exact qaB.mono _ _
   | exact LeO.none _
   | refine LeO.ite ?_ ?_
   | refine LeO.bind ?_ (fun _ => ?_)
set_option maxHeartbeats 8000000 in
set_option maxRecDepth 100000 in
theorem qaN.calls (k : Nat) (A0 : Option Addr) (c0 : Nat) (l0 : List (S29)) (a1 : Int) (r : Int) (w : World) (hr0 : Kd.C k29 w A0 l0.length l0) (hc0 : l0.length ≤ c0) (h : qaN.f k l0 a1 = some r) :
  Calls Try.prog 47 #[.slice A0 l0.length c0, .int .i64 a1] w fun e w' => e = .returned (.int .i64 r) ∧ Below w.heap.size w w' := by
 have HR0 := qae.mk hr0
 have HC0 := qae.mk hc0
 clear hr0 hc0; have HB := qae.mk (Below.refl w.heap.size w)
 have H : ((qaB.f k l0).bind fun t125 => (if t125 = 0 then (if a1 < 0 then (qaN.j0 k l0 a1 true) else (qaN.j0 k l0 a1 (decide (a1 > 1000000)))) else (some t125))) = some r := h
 clear h; replace H := Option.bind_eq_some_iff.mp H; obtain ⟨t125, A30, H⟩ := H; replace H : (if t125 = 0 then (if a1 < 0 then (qaN.j0 k l0 a1 true) else (qaN.j0 k l0 a1 (decide (a1 > 1000000)))) else (some t125)) = some r := H
 have A3 := qae.mk A30
 clear A30; by_cases c4 : t125 = 0
 ·rw [if_pos c4] at H; have c4b0 : (t125 == 0) = true := beq_iff_eq.mpr c4; have c4b1 : (t125 != 0) = false := bne_eq_false_iff_eq.mpr c4; clear c4; have HC5 := qae.mk H; clear H; go_enter Try.func47, Try.ntmps47; go_upto_region 4 with (first | ((with_reducible refine qaG (f := 52) rfl ?_); refine qa7 (some 7) rfl rfl Try.func52 (by kernel_rfl) rfl #[.slice A0 l0.length c0] rfl (by (try simp only [qy6, qy7, qy8]); first | done | rfl | (simp only [List.length_drop, List.length_take]; rfl)) ?_; (with_reducible refine (qaB.calls k _ _ l0 t125 _ ?side1 ?side2 A3.out).mono ?_); (case side1 => repeat (first | exact HR0.out | (with_reducible refine Kd.qbk ?_ _) | (with_reducible refine Kd.qbj ?_ _) | (with_reducible refine Kd.qbA ?_))); (case side2 => exact HC0.out); rintro e w6 ⟨rfl, hb⟩; refine ⟨_, rfl, ?_⟩; have n0_ := qae.mk (qar (by repeat (first | (with_reducible first | exact HB.out | apply qad | apply qaa | apply qac) | exact HB.out)) hb); clear HB; have HB := n0_; clear n0_; (try clear hb); (try clear hb2); (try clear hk); (try clear hi)))
  (try simp only [Act.put, List.setIfInBounds_toArray, List.set_cons_zero, List.set_cons_succ])
  go_cut [16] (fun v16 wc => ∃ (kq : Nat) (x16_4 : Bool), v16 = .bool x16_4 ∧ qae (qaN.j0 kq l0 a1 x16_4 = some r) ∧ qae (kq ≤ k) ∧ qae (Below w.heap.size w wc))
  case first =>
   have H := HC5.out; clear HC5; by_cases c7 : a1 < 0
   ·rw [if_pos c7] at H; have c7b0 : decide (a1 < 0) = true := decide_eq_true c7; clear c7; (first | rw [c7b0] | (simp only [i64_w, i32_w]; rw [c7b0]) | skip)
    have H' := qae.mk H; clear H; go_wp2; (refine Met.intro ?_; go_step; first | ((repeat apply Exists.intro); refine ⟨?rel, rfl⟩) | ((try simp only [c7b0] at H' ⊢); (try simp only [c4b1] at H' ⊢); (try simp only [c4b0] at H' ⊢); (repeat apply Exists.intro); refine ⟨?rel, rfl⟩))
    case rel => exact ⟨_, (true), (by first | rfl | (simp; done) | (simp [*]; done)), H', ⟨by first | omega | exact Nat.le_refl _⟩, ⟨by repeat (first | (with_reducible first | exact HB.out | apply qad | apply qaa | apply qac) | exact HB.out)⟩⟩
   ·rw [if_neg c7] at H; have c7b0 : decide (a1 < 0) = false := decide_eq_false c7; clear c7; (first | rw [c7b0] | (simp only [i64_w, i32_w]; rw [c7b0]) | skip)
    have H' := qae.mk H; clear H; go_wp2; (refine Met.intro ?_; go_step; first | ((repeat apply Exists.intro); refine ⟨?rel, rfl⟩) | ((try simp only [c7b0] at H' ⊢); (try simp only [c4b1] at H' ⊢); (try simp only [c4b0] at H' ⊢); (repeat apply Exists.intro); refine ⟨?rel, rfl⟩))
    case rel => exact ⟨_, (decide (a1 > 1000000)), (by first | rfl | (simp; done) | (simp [*]; done)), H', ⟨by first | omega | exact Nat.le_refl _⟩, ⟨by repeat (first | (with_reducible first | exact HB.out | apply qad | apply qaa | apply qac) | exact HB.out)⟩⟩
  case rest =>
   clear HC5; (try clear p2); (try clear c4); (try clear c4b0); (try clear c4b1); (try clear c5); (try clear c7); (try clear c7b0); obtain ⟨kq, x16_4, rfl, HA, HJ4, HB⟩ := hcut
   cases kq with
   | zero => exact absurd HA.out (by simp [qaN.j0])
   | succ kj4 =>
    have H := HA.out; clear HA; simp only [qaN.j0] at H
    by_cases c8 : x16_4 = true
    ·subst c8; have H1 : (some 4) = some r := by rw [if_pos rfl] at H; exact H
     clear H; have H := H1; clear H1; obtain rfl := Option.some.inj H
     go_wp2; go_ret
     exact ⟨by first | rfl | (simp [qaw, qav] <;> rfl) | (simp [*, qaw, qav] <;> rfl), by repeat (first | (with_reducible first | exact HB.out | apply qad | apply qaa | apply qac) | exact HB.out)⟩
    ·replace c8 := Bool.eq_false_iff.mpr c8
     subst c8; have H1 : ((qaY.f kj4 l0).bind fun t126 => (if a1 > t126 then (some 8) else (some 0))) = some r := by rw [if_neg (show ¬ (false = true) by decide)] at H; exact H
     clear H; have H := H1; clear H1; replace H := Option.bind_eq_some_iff.mp H; obtain ⟨t126, A90, H⟩ := H; replace H : (if a1 > t126 then (some 8) else (some 0)) = some r := H
     have A9 := qae.mk A90
     clear A90; by_cases c10 : a1 > t126
     ·rw [if_pos c10] at H; have c10b0 : decide (t126 < a1) = true := decide_eq_true c10; clear c10; obtain rfl := Option.some.inj H
      go_wp2_with (first | ((with_reducible refine qaG (f := 79) rfl ?_); refine qa7 (some 19) rfl rfl Try.func79 (by kernel_rfl) rfl #[.slice A0 l0.length c0] rfl (by (try simp only [qy6, qy7, qy8]); first | done | rfl | (simp only [List.length_drop, List.length_take]; rfl)) ?_; (with_reducible refine (qaY.calls kj4 _ _ l0 t126 _ ?side1 ?side2 A9.out).mono ?_); (case side1 => repeat (first | exact (Kd.qbC HR0.out HB.out) | (with_reducible refine Kd.qbk ?_ _) | (with_reducible refine Kd.qbj ?_ _) | (with_reducible refine Kd.qbA ?_))); (case side2 => exact HC0.out); rintro e w11 ⟨rfl, hb⟩; refine ⟨_, rfl, ?_⟩; have n0_ := qae.mk (qar (by repeat (first | (with_reducible first | exact HB.out | apply qad | apply qaa | apply qac) | exact HB.out)) hb); clear HB; have HB := n0_; clear n0_; (try clear hb); (try clear hb2); (try clear hk); (try clear hi)))
      go_ret
      exact ⟨by first | rfl | (simp [qaw, qav] <;> rfl) | (simp [*, qaw, qav] <;> rfl), by repeat (first | (with_reducible first | exact HB.out | apply qad | apply qaa | apply qac) | exact HB.out)⟩
     ·rw [if_neg c10] at H; have c10b0 : decide (t126 < a1) = false := decide_eq_false c10; clear c10; obtain rfl := Option.some.inj H
      go_wp2_with (first | ((with_reducible refine qaG (f := 79) rfl ?_); refine qa7 (some 19) rfl rfl Try.func79 (by kernel_rfl) rfl #[.slice A0 l0.length c0] rfl (by (try simp only [qy6, qy7, qy8]); first | done | rfl | (simp only [List.length_drop, List.length_take]; rfl)) ?_; (with_reducible refine (qaY.calls kj4 _ _ l0 t126 _ ?side1 ?side2 A9.out).mono ?_); (case side1 => repeat (first | exact (Kd.qbC HR0.out HB.out) | (with_reducible refine Kd.qbk ?_ _) | (with_reducible refine Kd.qbj ?_ _) | (with_reducible refine Kd.qbA ?_))); (case side2 => exact HC0.out); rintro e w12 ⟨rfl, hb⟩; refine ⟨_, rfl, ?_⟩; have n0_ := qae.mk (qar (by repeat (first | (with_reducible first | exact HB.out | apply qad | apply qaa | apply qac) | exact HB.out)) hb); clear HB; have HB := n0_; clear n0_; (try clear hb); (try clear hb2); (try clear hk); (try clear hi)))
      go_ret
      exact ⟨by first | rfl | (simp [qaw, qav] <;> rfl) | (simp [*, qaw, qav] <;> rfl), by repeat (first | (with_reducible first | exact HB.out | apply qad | apply qaa | apply qac) | exact HB.out)⟩
 ·rw [if_neg c4] at H; have c4b0 : (t125 == 0) = false := beq_eq_false_iff_ne.mpr c4; have c4b1 : (t125 != 0) = true := bne_iff_ne.mpr c4; obtain rfl := Option.some.inj H
  go_enter Try.func47, Try.ntmps47; go_wp2_with (first | ((with_reducible refine qaG (f := 52) rfl ?_); refine qa7 (some 7) rfl rfl Try.func52 (by kernel_rfl) rfl #[.slice A0 l0.length c0] rfl (by (try simp only [qy6, qy7, qy8]); first | done | rfl | (simp only [List.length_drop, List.length_take]; rfl)) ?_; (with_reducible refine (qaB.calls k _ _ l0 t125 _ ?side1 ?side2 A3.out).mono ?_); (case side1 => repeat (first | exact HR0.out | (with_reducible refine Kd.qbk ?_ _) | (with_reducible refine Kd.qbj ?_ _) | (with_reducible refine Kd.qbA ?_))); (case side2 => exact HC0.out); rintro e w13 ⟨rfl, hb⟩; refine ⟨_, rfl, ?_⟩; have n0_ := qae.mk (qar (by repeat (first | (with_reducible first | exact HB.out | apply qad | apply qaa | apply qac) | exact HB.out)) hb); clear HB; have HB := n0_; clear n0_; (try clear hb); (try clear hb2); (try clear hk); (try clear hi)))
  go_ret
  exact ⟨by first | rfl | (simp [qaw, qav] <;> rfl) | (simp [*, qaw, qav] <;> rfl), by repeat (first | (with_reducible first | exact HB.out | apply qad | apply qaa | apply qac) | exact HB.out)⟩
mutual
def qau.l0 : Nat → Int → Bool → Int → List (S29) → Int → Int → Option (Int)
 | 0, _, _, _, _, _, _ => none
 | k + 1, x1, x2, x7, x12, x13, x14 => if x14 < x13 then (if 0 ≤ x14 then (if x14 < (x12.length : Int) then (qau.l1 k x1 x2 x7 x12 x13 x14 ((qaF x12 x14).f1) (((qaF x12 x14).f1).length : Int) 0) else (none)) else (none)) else (some x7)
def qau.l1 : Nat → Int → Bool → Int → List (S29) → Int → Int → List (S41) → Int → Int → Option (Int)
 | 0, _, _, _, _, _, _, _, _, _ => none
 | k + 1, x1, x2, x7, x12, x13, x14, x19, x20, x21 => if x21 < x20 then (if 0 ≤ x21 then (if x21 < (x19.length : Int) then (if ((qaC x19 x21).f1) < x1 then (qau.l1 k x1 x2 (wrap64 (x7 + ((qaC x19 x21).f0))) x12 x13 x14 x19 x20 (wrap64 (x21 + 1))) else (if x2 = true then (if ((qaC x19 x21).f1) = x1 then (qau.l1 k x1 x2 (wrap64 (x7 + ((qaC x19 x21).f0))) x12 x13 x14 x19 x20 (wrap64 (x21 + 1))) else (qau.l1 k x1 x2 x7 x12 x13 x14 x19 x20 (wrap64 (x21 + 1)))) else (qau.l1 k x1 x2 x7 x12 x13 x14 x19 x20 (wrap64 (x21 + 1))))) else (none)) else (none)) else (qau.l0 k x1 x2 x7 x12 x13 (wrap64 (x14 + 1)))
end
def qau.f (k : Nat) (l0 : List (S29)) (a1 : Int) (a2 : Bool) : Option (Int) := qau.l0 k a1 a2 0 l0 (l0.length : Int) 0
theorem qau.qbB : ∀ k, (∀ y0 y1 y2 y3 y4 y5, LeO (qau.l0 k y0 y1 y2 y3 y4 y5) (qau.l0 (k + 1) y0 y1 y2 y3 y4 y5)) ∧ (∀ y0 y1 y2 y3 y4 y5 y6 y7 y8, LeO (qau.l1 k y0 y1 y2 y3 y4 y5 y6 y7 y8) (qau.l1 (k + 1) y0 y1 y2 y3 y4 y5 y6 y7 y8))
 | 0 => ⟨fun _ _ _ _ _ _ r h => by simp [qau.l0] at h, fun _ _ _ _ _ _ _ _ _ r h => by simp [qau.l1] at h⟩
 | k + 1 => by
  obtain ⟨ih0, ih1⟩ := qau.qbB k
  refine ⟨?_, ?_⟩
  ·intro y0 y1 y2 y3 y4 y5; unfold qau.l0
   repeat' first
   | (with_reducible exact ih0 _ _ _ _ _ _)
   | (with_reducible exact ih1 _ _ _ _ _ _ _ _ _)
   | (with_reducible exact LeO.refl _)
   | (with_reducible exact LeO.none _)
   | (with_reducible refine LeO.ite ?_ ?_)
   | (with_reducible refine LeO.bind ?_ (fun _ => ?_))
   | exact ih0 _ _ _ _ _ _
   | exact ih1 _ _ _ _ _ _ _ _ _
   | exact LeO.none _
   | refine LeO.ite ?_ ?_
   | refine LeO.bind ?_ (fun _ => ?_)
  ·intro y0 y1 y2 y3 y4 y5 y6 y7 y8; unfold qau.l1
   repeat' first
   | (with_reducible exact ih0 _ _ _ _ _ _)
   | (with_reducible exact ih1 _ _ _ _ _ _ _ _ _)
   | (with_reducible exact LeO.refl _)
   | (with_reducible exact LeO.none _)
   | (with_reducible refine LeO.ite ?_ ?_)
   | (with_reducible refine LeO.bind ?_ (fun _ => ?_))
   | exact ih0 _ _ _ _ _ _
   | exact ih1 _ _ _ _ _ _ _ _ _
   | exact LeO.none _
   | refine LeO.ite ?_ ?_
   | refine LeO.bind ?_ (fun _ => ?_)
theorem qau.mono : ∀ a0 a1 a2 k, LeO (qau.f k a0 a1 a2) (qau.f (k + 1) a0 a1 a2) := by
 intro a0 a1 a2 k; obtain ⟨ih0, ih1⟩ := qau.qbB k
 unfold qau.f
 repeat' first
   | (with_reducible exact ih0 _ _ _ _ _ _)
   | (with_reducible exact ih1 _ _ _ _ _ _ _ _ _)
   | (with_reducible exact LeO.refl _)
   | (with_reducible exact LeO.none _)
   | (with_reducible refine LeO.ite ?_ ?_)
   | (with_reducible refine LeO.bind ?_ (fun _ => ?_))
   | exact ih0 _ _ _ _ _ _
   | exact ih1 _ _ _ _ _ _ _ _ _
   | exact LeO.none _
   | refine LeO.ite ?_ ?_
   | refine LeO.bind ?_ (fun _ => ?_)
set_option maxHeartbeats 8000000 in
set_option maxRecDepth 100000 in
theorem qau.calls (k : Nat) (A0 : Option Addr) (c0 : Nat) (l0 : List (S29)) (a1 : Int) (a2 : Bool) (r : Int) (w : World) (hr0 : Kd.C k29 w A0 l0.length l0) (hc0 : l0.length ≤ c0) (h : qau.f k l0 a1 a2 = some r) :
  Calls Try.prog 49 #[.slice A0 l0.length c0, .int .i64 a1, .bool a2] w fun e w' => e = .returned (.int .i64 r) ∧ Below w.heap.size w w' := by
 have hu29 := Try.underlying29; have hu41 := Try.underlying41; have HR0 := qae.mk hr0
 have HC0 := qae.mk hc0
 clear hr0 hc0; have HB := qae.mk (Below.refl w.heap.size w)
 have H : (qau.l0 k a1 a2 0 l0 (l0.length : Int) 0) = some r := h
 clear h; have H' := qae.mk H; clear H; go_enter Try.func49, Try.ntmps49; go_wp2; go_loopg [7, 14] k (fun kq v7 v14 w' => ∃ (x7_1 : Int) (x14_1 : Int), v7 = .int .i64 x7_1 ∧ v14 = .int .i64 x14_1 ∧ qae (qau.l0 kq a1 a2 x7_1 l0 (l0.length : Int) x14_1 = some r) ∧ qae (kq ≤ k) ∧ qae (Below w.heap.size w w'))
 case atStart => exact ⟨(0), (0), (by first | rfl | (simp; done) | (simp [*]; done)), (by first | rfl | (simp; done) | (simp [*]; done)), H', ⟨Nat.le_refl _⟩, ⟨by repeat (first | (with_reducible first | exact HB.out | apply qad | apply qaa | apply qac) | exact HB.out)⟩⟩
 case round =>
  clear H'; (try clear p2); obtain ⟨x7_1, x14_1, rfl, rfl, HA, HK1, HB⟩ := hrel
  cases gk with
  | zero => exact absurd HA.out (by simp [qau.l0])
  | succ k1 =>
   have H := HA.out; clear HA; simp only [qau.l0] at H
   by_cases c4 : x14_1 < (l0.length : Int)
   ·rw [if_pos c4] at H; have c4b0 : decide (x14_1 < (l0.length : Int)) = true := decide_eq_true c4; clear c4; by_cases c5 : 0 ≤ x14_1
    ·rw [if_pos c5] at H; have c5b0 : decide (0 ≤ x14_1) = true := decide_eq_true c5; clear c5; by_cases c6 : x14_1 < (l0.length : Int)
     ·rw [if_pos c6] at H; have c6b0 : decide (x14_1 < (l0.length : Int)) = true := decide_eq_true c6; clear c6; have H' := qae.mk H; clear H; have p127 : 0 ≤ (x14_1 : Int) := of_decide_eq_true (by first | (with_reducible assumption) | assumption)
      have q127 : x14_1 < (l0.length : Int) := of_decide_eq_true (by first | (with_reducible assumption) | assumption)
      obtain ⟨ad127, A127_1, c127_1, e127, hx127_0, hx127_1, hl127_1, hi127_1⟩ := at_T29 HR0.out x14_1 p127 q127
      cases e127
      replace hx127_0 := (HB.out.cell (World.block_lt_of_cell? w _ hx127_0)).trans hx127_0
      replace hx127_1 := (HB.out.cell (World.block_lt_of_cell? w _ hx127_1)).trans hx127_1
      have HR127_1 := qae.mk hi127_1
      have HC127_1 := qae.mk hl127_1
      clear hi127_1 hl127_1; replace p127 := eq_true p127; replace q127 := eq_true q127; go_wp2_with (first | ((with_reducible refine qaW (N := 9) rfl ?_); refine qaU ?hg (N := 9) ?hd (cs := #[.string (⟨#[]⟩ : ByteArray), .slice none 0 0]) (t := 29) ?hr ?_; (case hd => rfl); (case hg => rfl); (case hr => first | (go_simp; done) | (go_simp; rfl)); intro gb128 hg w7 hbox hb; have n0_ := qae.mk (qar (by repeat (first | (with_reducible first | exact HB.out | apply qad | apply qaa | apply qac) | exact HB.out)) hb); have n1_ := qae.mk (hbox); have n2_ := qae.mk ((by rw [hg]; exact (qan (by repeat (first | (with_reducible first | exact HB.out | apply qad | apply qaa | apply qac) | exact HB.out))) : w.heap.size ≤ gb128)); have n3_ := qae.mk ((by rw [hg]; exact (qan (by repeat (first | (with_reducible first | exact HB.out | apply qad | apply qaa | apply qac) | exact HB.out))) : w.heap.size ≤ gb128)); clear HB; have HB := n0_; have BK128 := n1_; have GW128 := n2_; have GE128 := n3_; clear n0_ n1_ n2_ n3_; clear hb hbox hg; have hcz8_0 : w7.cell? ⟨gb128, 0, none⟩ = some (.string (⟨#[]⟩ : ByteArray)) := (qao BK128.out 0).trans rfl; have hcz8_1 : w7.cell? ⟨gb128, 1, none⟩ = some (.slice none 0 0) := (qao BK128.out 1).trans rfl; have hfz8_0 := qam BK128.out 0; have hfz8_1 := qam BK128.out 1))
      (try simp only [Act.put, List.setIfInBounds_toArray, List.set_cons_zero, List.set_cons_succ])
      go_loopg [7, 21] k1 (fun kq v7 v21 w' => ∃ (x7_2 : Int) (x21_2 : Int), v7 = .int .i64 x7_2 ∧ v21 = .int .i64 x21_2 ∧ qae (qau.l1 kq a1 a2 x7_2 l0 (l0.length : Int) x14_1 ((qaF l0 x14_1).f1) (((qaF l0 x14_1).f1).length : Int) x21_2 = some r) ∧ qae (kq ≤ k1) ∧ qae (w'.heap[gb128]? = some (.cells #[.string ((qaF l0 x14_1).f0), (.slice A127_1 ((qaF l0 x14_1).f1).length c127_1)] 29 (0, 0))) ∧ qae (Below w.heap.size w w'))
      case atStart => exact ⟨(x7_1), (0), (by first | rfl | (simp; done) | (simp [*]; done)), (by first | rfl | (simp; done) | (simp [*]; done)), H', ⟨Nat.le_refl _⟩, ⟨by (with_reducible repeat (first | refine qai ?_ _ | refine qak ?_ | refine qaj ?_ _)); refine qba (cs := #[.string ((qaF l0 x14_1).f0), .slice none 0 0]) ?_ 1 _ rfl; (with_reducible repeat (first | refine qai ?_ _ | refine qak ?_ | refine qaj ?_ _)); refine qba (cs := #[.string (⟨#[]⟩ : ByteArray), .slice none 0 0]) ?_ 0 _ rfl; (with_reducible repeat (first | refine qai ?_ _ | refine qak ?_ | refine qaj ?_ _)); exact BK128.out⟩, ⟨by repeat (first | (with_reducible first | exact HB.out | apply qad | apply qaa | apply qac | refine qah ?_ GE128.out) | exact HB.out)⟩⟩
      case round =>
       clear H'; (try clear c1); (try clear p1); (try clear q1); (try clear hx1); (try clear p2); (try clear c4); (try clear c4b0); (try clear c5); (try clear c5b0); (try clear c6); (try clear c6b0); (try clear hcz8_0); (try clear hcz8_1); (try clear hfz8_0); (try clear hfz8_1); (try clear hx127_0); (try clear hx127_1); (try clear p127); (try clear p2); (try clear q127); obtain ⟨x7_2, x21_2, rfl, rfl, HA, HK2, BK128, HB⟩ := hrel
       cases gk with
       | zero => exact absurd HA.out (by simp [qau.l1])
       | succ k2 =>
        have H := HA.out; clear HA; simp only [qau.l1] at H
        by_cases c9 : x21_2 < (((qaF l0 x14_1).f1).length : Int)
        ·rw [if_pos c9] at H; have c9b0 : decide (x21_2 < (((qaF l0 x14_1).f1).length : Int)) = true := decide_eq_true c9; clear c9; by_cases c10 : 0 ≤ x21_2
         ·rw [if_pos c10] at H; have c10b0 : decide (0 ≤ x21_2) = true := decide_eq_true c10; clear c10; by_cases c11 : x21_2 < (((qaF l0 x14_1).f1).length : Int)
          ·rw [if_pos c11] at H; have c11b0 : decide (x21_2 < (((qaF l0 x14_1).f1).length : Int)) = true := decide_eq_true c11; clear c11; by_cases c12 : ((qaC ((qaF l0 x14_1).f1) x21_2).f1) < a1
           ·rw [if_pos c12] at H; have c12b0 : decide (((qaC ((qaF l0 x14_1).f1) x21_2).f1) < a1) = true := decide_eq_true c12; clear c12; have H' := qae.mk H; clear H; have p129 : 0 ≤ (x21_2 : Int) := of_decide_eq_true (by first | (with_reducible assumption) | assumption)
            have q129 : x21_2 < (((qaF l0 x14_1).f1).length : Int) := of_decide_eq_true (by first | (with_reducible assumption) | assumption)
            obtain ⟨ad129, e129, hx129_0, hx129_1⟩ := at_T41 HR127_1.out x21_2 p129 q129
            cases e129
            replace hx129_0 := (HB.out.cell (World.block_lt_of_cell? w _ hx129_0)).trans hx129_0
            replace hx129_1 := (HB.out.cell (World.block_lt_of_cell? w _ hx129_1)).trans hx129_1
            replace p129 := eq_true p129; replace q129 := eq_true q129; go_wp2_with (first | ((with_reducible refine qaW (N := 11) rfl ?_); refine qaU ?hg (N := 11) ?hd (cs := #[.int .i64 0, .int .i64 0]) (t := 41) ?hr ?_; (case hd => rfl); (case hg => rfl); (case hr => first | (go_simp; done) | (go_simp; rfl)); intro gb130 hg w13 hbox hb; have n0_ := qae.mk (qa5 (g := gb128) (o := .cells #[.string ((qaF l0 x14_1).f0), .slice (some ad129) ((qaF l0 x14_1).f1).length c127_1] 29 (0, 0)) (by (with_reducible repeat (first | refine qai ?_ _ | refine qak ?_ | refine qaj ?_ _)); exact BK128.out) hb); have n1_ := qae.mk (qar (by repeat (first | (with_reducible first | exact HB.out | apply qad | apply qaa | apply qac | refine qah ?_ GE128.out) | exact HB.out)) hb); have n2_ := qae.mk (hbox); have n3_ := qae.mk ((by rw [hg]; exact (qan (by repeat (first | (with_reducible first | exact HB.out | apply qad | apply qaa | apply qac | refine qah ?_ GE128.out) | exact HB.out))) : w.heap.size ≤ gb130)); have n4_ := qae.mk ((by rw [hg]; exact (qan (by repeat (first | (with_reducible first | exact HB.out | apply qad | apply qaa | apply qac | refine qah ?_ GE128.out) | exact HB.out))) : w.heap.size ≤ gb130)); have n5_ := qae.mk ((by rw [hg]; exact Nat.ne_of_lt (qbs (g := gb128) (o := .cells #[.string ((qaF l0 x14_1).f0), .slice (some ad129) ((qaF l0 x14_1).f1).length c127_1] 29 (0, 0)) (by (with_reducible repeat (first | refine qai ?_ _ | refine qak ?_ | refine qaj ?_ _)); exact BK128.out)) : gb128 ≠ gb130)); have n6_ := qae.mk ((by rw [hg]; exact Nat.ne_of_gt (qbs (g := gb128) (o := .cells #[.string ((qaF l0 x14_1).f0), .slice (some ad129) ((qaF l0 x14_1).f1).length c127_1] 29 (0, 0)) (by (with_reducible repeat (first | refine qai ?_ _ | refine qak ?_ | refine qaj ?_ _)); exact BK128.out)) : gb130 ≠ gb128)); clear BK128; clear HB; have BK128 := n0_; have HB := n1_; have BK130 := n2_; have GW130 := n3_; have GE130 := n4_; have NB128_130 := n5_; have NB130_128 := n6_; clear n0_ n1_ n2_ n3_ n4_ n5_ n6_; clear hb hbox hg; have hnb14 := NB130_128.out; have hnc14 := NB128_130.out; have hcz15_0 : w13.cell? ⟨gb130, 0, none⟩ = some (.int .i64 0) := (qao BK130.out 0).trans rfl; have hcz15_1 : w13.cell? ⟨gb130, 1, none⟩ = some (.int .i64 0) := (qao BK130.out 1).trans rfl; have hfz15_0 := qam BK130.out 0; have hfz15_1 := qam BK130.out 1))
            go_roundg k2
            case measure => have := HK1.out; have := HK2.out; omega
            case rel => exact ⟨(wrap64 (x7_2 + ((qaC ((qaF l0 x14_1).f1) x21_2).f0))), (wrap64 (x21_2 + 1)), (by first | rfl | (simp; done) | (simp [*]; done)), (by first | rfl | (simp; done) | (simp [*]; done)), H', ⟨by have := HK1.out; have := HK2.out; omega⟩, ⟨by (with_reducible repeat (first | refine qai ?_ _ | refine qak ?_ | refine qaj ?_ _)); refine qbp ?_ NB128_130.out _; (with_reducible repeat (first | refine qai ?_ _ | refine qak ?_ | refine qaj ?_ _)); refine qbp ?_ NB128_130.out _; (with_reducible repeat (first | refine qai ?_ _ | refine qak ?_ | refine qaj ?_ _)); exact BK128.out⟩, ⟨by repeat (first | (with_reducible first | exact HB.out | apply qad | apply qaa | apply qac | refine qah ?_ GE128.out | refine qah ?_ GE130.out) | exact HB.out)⟩⟩
           ·rw [if_neg c12] at H; have c12b0 : decide (((qaC ((qaF l0 x14_1).f1) x21_2).f1) < a1) = false := decide_eq_false c12; clear c12; by_cases c16 : a2 = true
            ·subst c16; have H1 : (if ((qaC ((qaF l0 x14_1).f1) x21_2).f1) = a1 then (qau.l1 k2 a1 true (wrap64 (x7_2 + ((qaC ((qaF l0 x14_1).f1) x21_2).f0))) l0 (l0.length : Int) x14_1 ((qaF l0 x14_1).f1) (((qaF l0 x14_1).f1).length : Int) (wrap64 (x21_2 + 1))) else (qau.l1 k2 a1 true x7_2 l0 (l0.length : Int) x14_1 ((qaF l0 x14_1).f1) (((qaF l0 x14_1).f1).length : Int) (wrap64 (x21_2 + 1)))) = some r := by rw [if_pos rfl] at H; exact H
             clear H; have H := H1; clear H1; by_cases c17 : ((qaC ((qaF l0 x14_1).f1) x21_2).f1) = a1
             ·rw [if_pos c17] at H; have c17b0 : (((qaC ((qaF l0 x14_1).f1) x21_2).f1) == a1) = true := beq_iff_eq.mpr c17; have c17b1 : (((qaC ((qaF l0 x14_1).f1) x21_2).f1) != a1) = false := bne_eq_false_iff_eq.mpr c17; clear c17; have H' := qae.mk H; clear H; have p129 : 0 ≤ (x21_2 : Int) := of_decide_eq_true (by first | (with_reducible assumption) | assumption)
              have q129 : x21_2 < (((qaF l0 x14_1).f1).length : Int) := of_decide_eq_true (by first | (with_reducible assumption) | assumption)
              obtain ⟨ad129, e129, hx129_0, hx129_1⟩ := at_T41 HR127_1.out x21_2 p129 q129
              cases e129
              replace hx129_0 := (HB.out.cell (World.block_lt_of_cell? w _ hx129_0)).trans hx129_0
              replace hx129_1 := (HB.out.cell (World.block_lt_of_cell? w _ hx129_1)).trans hx129_1
              replace p129 := eq_true p129; replace q129 := eq_true q129; go_wp2_with (first | ((with_reducible refine qaW (N := 11) rfl ?_); refine qaU ?hg (N := 11) ?hd (cs := #[.int .i64 0, .int .i64 0]) (t := 41) ?hr ?_; (case hd => rfl); (case hg => rfl); (case hr => first | (go_simp; done) | (go_simp; rfl)); intro gb130 hg w18 hbox hb; have n0_ := qae.mk (qa5 (g := gb128) (o := .cells #[.string ((qaF l0 x14_1).f0), .slice (some ad129) ((qaF l0 x14_1).f1).length c127_1] 29 (0, 0)) (by (with_reducible repeat (first | refine qai ?_ _ | refine qak ?_ | refine qaj ?_ _)); exact BK128.out) hb); have n1_ := qae.mk (qar (by repeat (first | (with_reducible first | exact HB.out | apply qad | apply qaa | apply qac | refine qah ?_ GE128.out) | exact HB.out)) hb); have n2_ := qae.mk (hbox); have n3_ := qae.mk ((by rw [hg]; exact (qan (by repeat (first | (with_reducible first | exact HB.out | apply qad | apply qaa | apply qac | refine qah ?_ GE128.out) | exact HB.out))) : w.heap.size ≤ gb130)); have n4_ := qae.mk ((by rw [hg]; exact (qan (by repeat (first | (with_reducible first | exact HB.out | apply qad | apply qaa | apply qac | refine qah ?_ GE128.out) | exact HB.out))) : w.heap.size ≤ gb130)); have n5_ := qae.mk ((by rw [hg]; exact Nat.ne_of_lt (qbs (g := gb128) (o := .cells #[.string ((qaF l0 x14_1).f0), .slice (some ad129) ((qaF l0 x14_1).f1).length c127_1] 29 (0, 0)) (by (with_reducible repeat (first | refine qai ?_ _ | refine qak ?_ | refine qaj ?_ _)); exact BK128.out)) : gb128 ≠ gb130)); have n6_ := qae.mk ((by rw [hg]; exact Nat.ne_of_gt (qbs (g := gb128) (o := .cells #[.string ((qaF l0 x14_1).f0), .slice (some ad129) ((qaF l0 x14_1).f1).length c127_1] 29 (0, 0)) (by (with_reducible repeat (first | refine qai ?_ _ | refine qak ?_ | refine qaj ?_ _)); exact BK128.out)) : gb130 ≠ gb128)); clear BK128; clear HB; have BK128 := n0_; have HB := n1_; have BK130 := n2_; have GW130 := n3_; have GE130 := n4_; have NB128_130 := n5_; have NB130_128 := n6_; clear n0_ n1_ n2_ n3_ n4_ n5_ n6_; clear hb hbox hg; have hnb19 := NB130_128.out; have hnc19 := NB128_130.out; have hcz20_0 : w18.cell? ⟨gb130, 0, none⟩ = some (.int .i64 0) := (qao BK130.out 0).trans rfl; have hcz20_1 : w18.cell? ⟨gb130, 1, none⟩ = some (.int .i64 0) := (qao BK130.out 1).trans rfl; have hfz20_0 := qam BK130.out 0; have hfz20_1 := qam BK130.out 1))
              go_roundg k2
              case measure => have := HK1.out; have := HK2.out; omega
              case rel => exact ⟨(wrap64 (x7_2 + ((qaC ((qaF l0 x14_1).f1) x21_2).f0))), (wrap64 (x21_2 + 1)), (by first | rfl | (simp; done) | (simp [*]; done)), (by first | rfl | (simp; done) | (simp [*]; done)), H', ⟨by have := HK1.out; have := HK2.out; omega⟩, ⟨by (with_reducible repeat (first | refine qai ?_ _ | refine qak ?_ | refine qaj ?_ _)); refine qbp ?_ NB128_130.out _; (with_reducible repeat (first | refine qai ?_ _ | refine qak ?_ | refine qaj ?_ _)); refine qbp ?_ NB128_130.out _; (with_reducible repeat (first | refine qai ?_ _ | refine qak ?_ | refine qaj ?_ _)); exact BK128.out⟩, ⟨by repeat (first | (with_reducible first | exact HB.out | apply qad | apply qaa | apply qac | refine qah ?_ GE128.out | refine qah ?_ GE130.out) | exact HB.out)⟩⟩
             ·rw [if_neg c17] at H; have c17b0 : (((qaC ((qaF l0 x14_1).f1) x21_2).f1) == a1) = false := beq_eq_false_iff_ne.mpr c17; have c17b1 : (((qaC ((qaF l0 x14_1).f1) x21_2).f1) != a1) = true := bne_iff_ne.mpr c17; have H' := qae.mk H; clear H; have p129 : 0 ≤ (x21_2 : Int) := of_decide_eq_true (by first | (with_reducible assumption) | assumption)
              have q129 : x21_2 < (((qaF l0 x14_1).f1).length : Int) := of_decide_eq_true (by first | (with_reducible assumption) | assumption)
              obtain ⟨ad129, e129, hx129_0, hx129_1⟩ := at_T41 HR127_1.out x21_2 p129 q129
              cases e129
              replace hx129_0 := (HB.out.cell (World.block_lt_of_cell? w _ hx129_0)).trans hx129_0
              replace hx129_1 := (HB.out.cell (World.block_lt_of_cell? w _ hx129_1)).trans hx129_1
              replace p129 := eq_true p129; replace q129 := eq_true q129; go_wp2_with (first | ((with_reducible refine qaW (N := 11) rfl ?_); refine qaU ?hg (N := 11) ?hd (cs := #[.int .i64 0, .int .i64 0]) (t := 41) ?hr ?_; (case hd => rfl); (case hg => rfl); (case hr => first | (go_simp; done) | (go_simp; rfl)); intro gb130 hg w21 hbox hb; have n0_ := qae.mk (qa5 (g := gb128) (o := .cells #[.string ((qaF l0 x14_1).f0), .slice (some ad129) ((qaF l0 x14_1).f1).length c127_1] 29 (0, 0)) (by (with_reducible repeat (first | refine qai ?_ _ | refine qak ?_ | refine qaj ?_ _)); exact BK128.out) hb); have n1_ := qae.mk (qar (by repeat (first | (with_reducible first | exact HB.out | apply qad | apply qaa | apply qac | refine qah ?_ GE128.out) | exact HB.out)) hb); have n2_ := qae.mk (hbox); have n3_ := qae.mk ((by rw [hg]; exact (qan (by repeat (first | (with_reducible first | exact HB.out | apply qad | apply qaa | apply qac | refine qah ?_ GE128.out) | exact HB.out))) : w.heap.size ≤ gb130)); have n4_ := qae.mk ((by rw [hg]; exact (qan (by repeat (first | (with_reducible first | exact HB.out | apply qad | apply qaa | apply qac | refine qah ?_ GE128.out) | exact HB.out))) : w.heap.size ≤ gb130)); have n5_ := qae.mk ((by rw [hg]; exact Nat.ne_of_lt (qbs (g := gb128) (o := .cells #[.string ((qaF l0 x14_1).f0), .slice (some ad129) ((qaF l0 x14_1).f1).length c127_1] 29 (0, 0)) (by (with_reducible repeat (first | refine qai ?_ _ | refine qak ?_ | refine qaj ?_ _)); exact BK128.out)) : gb128 ≠ gb130)); have n6_ := qae.mk ((by rw [hg]; exact Nat.ne_of_gt (qbs (g := gb128) (o := .cells #[.string ((qaF l0 x14_1).f0), .slice (some ad129) ((qaF l0 x14_1).f1).length c127_1] 29 (0, 0)) (by (with_reducible repeat (first | refine qai ?_ _ | refine qak ?_ | refine qaj ?_ _)); exact BK128.out)) : gb130 ≠ gb128)); clear BK128; clear HB; have BK128 := n0_; have HB := n1_; have BK130 := n2_; have GW130 := n3_; have GE130 := n4_; have NB128_130 := n5_; have NB130_128 := n6_; clear n0_ n1_ n2_ n3_ n4_ n5_ n6_; clear hb hbox hg; have hnb22 := NB130_128.out; have hnc22 := NB128_130.out; have hcz23_0 : w21.cell? ⟨gb130, 0, none⟩ = some (.int .i64 0) := (qao BK130.out 0).trans rfl; have hcz23_1 : w21.cell? ⟨gb130, 1, none⟩ = some (.int .i64 0) := (qao BK130.out 1).trans rfl; have hfz23_0 := qam BK130.out 0; have hfz23_1 := qam BK130.out 1))
              go_roundg k2
              case measure => have := HK1.out; have := HK2.out; omega
              case rel => exact ⟨(x7_2), (wrap64 (x21_2 + 1)), (by first | rfl | (simp; done) | (simp [*]; done)), (by first | rfl | (simp; done) | (simp [*]; done)), H', ⟨by have := HK1.out; have := HK2.out; omega⟩, ⟨by (with_reducible repeat (first | refine qai ?_ _ | refine qak ?_ | refine qaj ?_ _)); refine qbp ?_ NB128_130.out _; (with_reducible repeat (first | refine qai ?_ _ | refine qak ?_ | refine qaj ?_ _)); refine qbp ?_ NB128_130.out _; (with_reducible repeat (first | refine qai ?_ _ | refine qak ?_ | refine qaj ?_ _)); exact BK128.out⟩, ⟨by repeat (first | (with_reducible first | exact HB.out | apply qad | apply qaa | apply qac | refine qah ?_ GE128.out | refine qah ?_ GE130.out) | exact HB.out)⟩⟩
            ·replace c16 := Bool.eq_false_iff.mpr c16
             subst c16; have H1 : (qau.l1 k2 a1 false x7_2 l0 (l0.length : Int) x14_1 ((qaF l0 x14_1).f1) (((qaF l0 x14_1).f1).length : Int) (wrap64 (x21_2 + 1))) = some r := by rw [if_neg (show ¬ (false = true) by decide)] at H; exact H
             clear H; have H := H1; clear H1; have H' := qae.mk H; clear H; have p129 : 0 ≤ (x21_2 : Int) := of_decide_eq_true (by first | (with_reducible assumption) | assumption)
             have q129 : x21_2 < (((qaF l0 x14_1).f1).length : Int) := of_decide_eq_true (by first | (with_reducible assumption) | assumption)
             obtain ⟨ad129, e129, hx129_0, hx129_1⟩ := at_T41 HR127_1.out x21_2 p129 q129
             cases e129
             replace hx129_0 := (HB.out.cell (World.block_lt_of_cell? w _ hx129_0)).trans hx129_0
             replace hx129_1 := (HB.out.cell (World.block_lt_of_cell? w _ hx129_1)).trans hx129_1
             replace p129 := eq_true p129; replace q129 := eq_true q129; go_wp2_with (first | ((with_reducible refine qaW (N := 11) rfl ?_); refine qaU ?hg (N := 11) ?hd (cs := #[.int .i64 0, .int .i64 0]) (t := 41) ?hr ?_; (case hd => rfl); (case hg => rfl); (case hr => first | (go_simp; done) | (go_simp; rfl)); intro gb130 hg w24 hbox hb; have n0_ := qae.mk (qa5 (g := gb128) (o := .cells #[.string ((qaF l0 x14_1).f0), .slice (some ad129) ((qaF l0 x14_1).f1).length c127_1] 29 (0, 0)) (by (with_reducible repeat (first | refine qai ?_ _ | refine qak ?_ | refine qaj ?_ _)); exact BK128.out) hb); have n1_ := qae.mk (qar (by repeat (first | (with_reducible first | exact HB.out | apply qad | apply qaa | apply qac | refine qah ?_ GE128.out) | exact HB.out)) hb); have n2_ := qae.mk (hbox); have n3_ := qae.mk ((by rw [hg]; exact (qan (by repeat (first | (with_reducible first | exact HB.out | apply qad | apply qaa | apply qac | refine qah ?_ GE128.out) | exact HB.out))) : w.heap.size ≤ gb130)); have n4_ := qae.mk ((by rw [hg]; exact (qan (by repeat (first | (with_reducible first | exact HB.out | apply qad | apply qaa | apply qac | refine qah ?_ GE128.out) | exact HB.out))) : w.heap.size ≤ gb130)); have n5_ := qae.mk ((by rw [hg]; exact Nat.ne_of_lt (qbs (g := gb128) (o := .cells #[.string ((qaF l0 x14_1).f0), .slice (some ad129) ((qaF l0 x14_1).f1).length c127_1] 29 (0, 0)) (by (with_reducible repeat (first | refine qai ?_ _ | refine qak ?_ | refine qaj ?_ _)); exact BK128.out)) : gb128 ≠ gb130)); have n6_ := qae.mk ((by rw [hg]; exact Nat.ne_of_gt (qbs (g := gb128) (o := .cells #[.string ((qaF l0 x14_1).f0), .slice (some ad129) ((qaF l0 x14_1).f1).length c127_1] 29 (0, 0)) (by (with_reducible repeat (first | refine qai ?_ _ | refine qak ?_ | refine qaj ?_ _)); exact BK128.out)) : gb130 ≠ gb128)); clear BK128; clear HB; have BK128 := n0_; have HB := n1_; have BK130 := n2_; have GW130 := n3_; have GE130 := n4_; have NB128_130 := n5_; have NB130_128 := n6_; clear n0_ n1_ n2_ n3_ n4_ n5_ n6_; clear hb hbox hg; have hnb25 := NB130_128.out; have hnc25 := NB128_130.out; have hcz26_0 : w24.cell? ⟨gb130, 0, none⟩ = some (.int .i64 0) := (qao BK130.out 0).trans rfl; have hcz26_1 : w24.cell? ⟨gb130, 1, none⟩ = some (.int .i64 0) := (qao BK130.out 1).trans rfl; have hfz26_0 := qam BK130.out 0; have hfz26_1 := qam BK130.out 1))
             go_roundg k2
             case measure => have := HK1.out; have := HK2.out; omega
             case rel => exact ⟨(x7_2), (wrap64 (x21_2 + 1)), (by first | rfl | (simp; done) | (simp [*]; done)), (by first | rfl | (simp; done) | (simp [*]; done)), H', ⟨by have := HK1.out; have := HK2.out; omega⟩, ⟨by (with_reducible repeat (first | refine qai ?_ _ | refine qak ?_ | refine qaj ?_ _)); refine qbp ?_ NB128_130.out _; (with_reducible repeat (first | refine qai ?_ _ | refine qak ?_ | refine qaj ?_ _)); refine qbp ?_ NB128_130.out _; (with_reducible repeat (first | refine qai ?_ _ | refine qak ?_ | refine qaj ?_ _)); exact BK128.out⟩, ⟨by repeat (first | (with_reducible first | exact HB.out | apply qad | apply qaa | apply qac | refine qah ?_ GE128.out | refine qah ?_ GE130.out) | exact HB.out)⟩⟩
          ·rw [if_neg c11] at H; exact absurd H (by simp)
         ·rw [if_neg c10] at H; exact absurd H (by simp)
        ·rw [if_neg c9] at H; have c9b0 : decide (x21_2 < (((qaF l0 x14_1).f1).length : Int)) = false := decide_eq_false c9; clear c9; have H' := qae.mk H; clear H; go_wp2; go_roundg k2
         case measure => have := HK1.out; have := HK2.out; omega
         case rel => exact ⟨(x7_2), (wrap64 (x14_1 + 1)), (by first | rfl | (simp; done) | (simp [*]; done)), (by first | rfl | (simp; done) | (simp [*]; done)), H', ⟨by have := HK1.out; have := HK2.out; omega⟩, ⟨by repeat (first | (with_reducible first | exact HB.out | apply qad | apply qaa | apply qac | refine qah ?_ GE128.out) | exact HB.out)⟩⟩
     ·rw [if_neg c6] at H; exact absurd H (by simp)
    ·rw [if_neg c5] at H; exact absurd H (by simp)
   ·rw [if_neg c4] at H; have c4b0 : decide (x14_1 < (l0.length : Int)) = false := decide_eq_false c4; clear c4; obtain rfl := Option.some.inj H
    go_wp2; go_ret
    exact ⟨by first | rfl | (simp [qaw, qav] <;> rfl) | (simp [*, qaw, qav] <;> rfl), by repeat (first | (with_reducible first | exact HB.out | apply qad | apply qaa | apply qac) | exact HB.out)⟩
end Go.Proofs.Ytfcifmbddikflaa.P
