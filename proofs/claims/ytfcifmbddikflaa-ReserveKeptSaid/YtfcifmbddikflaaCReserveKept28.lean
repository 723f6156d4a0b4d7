/- Texts of the claim, put together: Px34, Px35, Px36. -/
import Derived.Test.YtfcifmbddikflaaCReserveKept14
import Derived.Test.YtfcifmbddikflaaCReserveKept18
import Derived.Test.YtfcifmbddikflaaCReserveKept19
import Derived.Test.YtfcifmbddikflaaCReserveKept21
import Derived.Test.YtfcifmbddikflaaCReserveKept16
import Derived.Test.YtfcifmbddikflaaCReserveKept17
namespace Go.Proofs.Ytfcifmbddikflaa.P
open Go.RowKit Go.Proofs.YtfcifmbddikflaaW.PrintWords Go.Proofs.YtfcifmbddikflaaW.PrintLast Go.Proofs.YtfcifmbddikflaaW.PrintMore
attribute [local go_sem] qbi qbg qbp qbo qa5 qa4 qbh qbf
set_option linter.unusedVariables false
set_option linter.unusedSimpArgs false
def qaK.l0 : Nat → List Int → List (S32) → Int → Int → Option (Int)
 | 0, _, _, _, _ => none
 | k + 1, x1, x18, x19, x20 => if x20 < x19 then (if 0 ≤ x20 then (if x20 < (x18.length : Int) then (if x20 < (x1.length : Int) then (if (rd x1 x20) < 0 then (some 4) else ((qaP.f k ((qam x18 x20).f0.f0) ((qam x18 x20).f0.f1)).bind fun t358 => (if (rd x1 x20) > t358 then (some 4) else (qaK.l0 k x1 x18 x19 (wrap64 (x20 + 1)))))) else (none)) else (none)) else (none)) else (some 0)
def qaK.f (k : Nat) (l0 : List (S32)) (l1 : List Int) : Option (Int) := (qaF.f k l0).bind fun t353 => (if t353 = 0 then (if (l1.length : Int) = (l0.length : Int) then (qaK.l0 k l1 l0 (l0.length : Int) 0) else (some 3)) else (some t353))
theorem qaK.qbe : ∀ k, (∀ y0 y1 y2 y3, LeO (qaK.l0 k y0 y1 y2 y3) (qaK.l0 (k + 1) y0 y1 y2 y3))
 | 0 => fun _ _ _ _ r h => by simp [qaK.l0] at h
 | k + 1 => by
  have ih0 := qaK.qbe k
  ·intro y0 y1 y2 y3; unfold qaK.l0
   repeat' first
   | (with_reducible exact ih0 _ _ _ _)
   | (with_reducible exact qaP.mono _ _ _)
   | (with_reducible exact qaF.mono _ _)
   | (with_reducible exact LeO.refl _)
   | (with_reducible exact LeO.none _)
   | (with_reducible refine LeO.ite ?_ ?_)
   | (with_reducible refine LeO.bind ?_ (fun _ => ?_))
   | exact ih0 _ _ _ _
   | exact qaP.mono _ _ _
   | exact qaF.mono _ _
   | exact LeO.none _
   | refine LeO.ite ?_ ?_
   | refine LeO.bind ?_ (fun _ => ?_)
theorem qaK.mono : ∀ a0 a1 k, LeO (qaK.f k a0 a1) (qaK.f (k + 1) a0 a1) := by
 intro a0 a1 k; have ih0 := qaK.qbe k
 unfold qaK.f
 repeat' first
   | (with_reducible exact ih0 _ _ _ _)
   | (with_reducible exact qaP.mono _ _ _)
   | (with_reducible exact qaF.mono _ _)
   | (with_reducible exact LeO.refl _)
   | (with_reducible exact LeO.none _)
   | (with_reducible refine LeO.ite ?_ ?_)
   | (with_reducible refine LeO.bind ?_ (fun _ => ?_))
   | exact ih0 _ _ _ _
   | exact qaP.mono _ _ _
   | exact qaF.mono _ _
   | exact LeO.none _
   | refine LeO.ite ?_ ?_
   | refine LeO.bind ?_ (fun _ => ?_)
def qaK.T9 : Bool × List (List Nat × List Nat) := (true, [([], []), ([], []), ([0, 1], [0, 1]), ([2], [2]), ([3], [3]), ([4], [4]), ([5], [5]), ([5], [5]), ([6, 7, 5], [5, 6, 7]), ([8, 5], [5, 8]), ([5], [5]), ([10, 5], [5, 10]), ([11, 5, 5], [5, 11]), ([9, 12, 5], [5, 9, 12]), ([5, 13], [5, 13])])
def qaK.B9 : List Nat := [0, 0, 3, 7, 15, 31, 63, 63, 255, 511, 63, 1087, 3135, 8191, 16383]
theorem qaK.tab9 : rtab .any (opsOf Try.f53 9) = qaK.T9 := by kernel_rfl
theorem qaK.bits9 : waitsOk qaK.T9.2 qaK.B9 = true := by kernel_rfl
set_option maxHeartbeats 8000000 in
set_option maxRecDepth 100000 in
theorem qaK.calls (k : Nat) (A0 : Option Addr) (c0 : Nat) (l0 : List (S32)) (A1 : Option Addr) (c1 : Nat) (l1 : List Int) (r : Int) (w : World) (hr0 : Kd.C k32 w A0 l0.length l0) (hc0 : l0.length ≤ c0) (hr1 : Kd.C (Kd.int .i64) w A1 l1.length l1) (hc1 : l1.length ≤ c1) (h : qaK.f k l0 l1 = some r) :
  Calls Try.prog 53 #[.slice A0 l0.length c0, .slice A1 l1.length c1] w fun e w' => e = .returned (.int .i64 r) ∧ Below w.heap.size w w' := by
 have hu32 := Try.underlying32; have hu29 := Try.underlying29; have HR0 := qac.mk hr0
 have HC0 := qac.mk hc0
 clear hr0 hc0; have HR1 := qac.mk hr1
 have HC1 := qac.mk hc1
 clear hr1 hc1; have HB := qac.mk (Below.refl w.heap.size w)
 have H : ((qaF.f k l0).bind fun t353 => (if t353 = 0 then (if (l1.length : Int) = (l0.length : Int) then (qaK.l0 k l1 l0 (l0.length : Int) 0) else (some 3)) else (some t353))) = some r := h
 clear h; replace H := Option.bind_eq_some_iff.mp H; obtain ⟨t353, A30, H⟩ := H; replace H : (if t353 = 0 then (if (l1.length : Int) = (l0.length : Int) then (qaK.l0 k l1 l0 (l0.length : Int) 0) else (some 3)) else (some t353)) = some r := H
 have A3 := qac.mk A30
 clear A30; by_cases c4 : t353 = 0
 ·rw [if_pos c4] at H; have c4b0 : (t353 == 0) = true := beq_iff_eq.mpr c4; have c4b1 : (t353 != 0) = false := bne_eq_false_iff_eq.mpr c4; clear c4; by_cases c5 : (l1.length : Int) = (l0.length : Int)
  ·rw [if_pos c5] at H; have c5b0 : ((l1.length : Int) == (l0.length : Int)) = true := beq_iff_eq.mpr c5; have c5b1 : ((l1.length : Int) != (l0.length : Int)) = false := bne_eq_false_iff_eq.mpr c5; have c5b2 : (l1.length == l0.length) = true := by first | simpa using c5 | (simp at c5 ⊢; omega)
   clear c5; have H' := qac.mk H; clear H; go_enter Try.func53, Try.ntmps53; go_wp2_with (first | ((with_reducible refine qaL (f := 19) rfl ?_); refine qa9 (some 9) rfl rfl Try.func19 (by kernel_rfl) rfl #[.slice A0 l0.length c0] rfl (by (try simp only [qy6, qy7, qy8]); first | done | rfl | (simp only [List.length_drop, List.length_take]; rfl)) ?_; (with_reducible refine (qaF.calls k (fun k_ => k_ < w.heap.size) _ _ l0 t353 _ ?side1 A3.out).mono ?_); (case side1 => exact Kd.V_mk HC0.out (Kd.F_below (Kd.C_F k32_heap HR0.out) (by repeat (first | (with_reducible first | exact HB.out | apply qae | apply qab | apply qad) | exact HB.out)))); rintro e w6 ⟨rfl, hb⟩; refine ⟨_, rfl, ?_⟩; have n0_ := qac.mk (qaB (by repeat (first | (with_reducible first | exact HB.out | apply qae | apply qab | apply qad) | exact HB.out)) hb); clear HB; have HB := n0_; clear n0_; (try clear hb); (try clear hb2); (try clear hk); (try clear hi)))
   (try simp only [Act.put, List.setIfInBounds_toArray, List.set_cons_zero, List.set_cons_succ])
   go_loopg [20] k (fun kq v20 w' => ∃ (x20_1 : Int), v20 = .int .i64 x20_1 ∧ qac (qaK.l0 kq l1 l0 (l0.length : Int) x20_1 = some r) ∧ qac (kq ≤ k) ∧ qac (Below w.heap.size w w'))
   case atStart => exact ⟨(0), (by first | rfl | (simp; done) | (simp [*]; done)), H', ⟨Nat.le_refl _⟩, ⟨by repeat (first | (with_reducible first | exact HB.out | apply qae | apply qab | apply qad) | exact HB.out)⟩⟩
   case round =>
    clear H'; (try clear c1); (try clear p2); (try clear c4); (try clear c4b0); (try clear c4b1); (try clear c5); (try clear c5b0); (try clear c5b1); (try clear c5b2); obtain ⟨x20_1, rfl, HA, HK1, HB⟩ := hrel
    cases gk with
    | zero => exact absurd HA.out (by simp [qaK.l0])
    | succ k1 =>
     have H := HA.out; clear HA; simp only [qaK.l0] at H
     by_cases c7 : x20_1 < (l0.length : Int)
     ·rw [if_pos c7] at H; have c7b0 : decide (x20_1 < (l0.length : Int)) = true := decide_eq_true c7; clear c7; by_cases c8 : 0 ≤ x20_1
      ·rw [if_pos c8] at H; have c8b0 : decide (0 ≤ x20_1) = true := decide_eq_true c8; clear c8; by_cases c9 : x20_1 < (l0.length : Int)
       ·rw [if_pos c9] at H; have c9b0 : decide (x20_1 < (l0.length : Int)) = true := decide_eq_true c9; clear c9; by_cases c10 : x20_1 < (l1.length : Int)
        ·rw [if_pos c10] at H; have c10b0 : decide (x20_1 < (l1.length : Int)) = true := decide_eq_true c10; clear c10; by_cases c11 : (rd l1 x20_1) < 0
         ·rw [if_pos c11] at H; have c11b0 : decide ((rd l1 x20_1) < 0) = true := decide_eq_true c11; clear c11; obtain rfl := Option.some.inj H
          have p354 : 0 ≤ (x20_1 : Int) := of_decide_eq_true (by first | (with_reducible assumption) | assumption)
          have q354 : x20_1 < (l0.length : Int) := of_decide_eq_true (by first | (with_reducible assumption) | assumption)
          obtain ⟨ad354, A354_1, c354_1, e354, hx354_0, hx354_1, hx354_2, hl354_1, hi354_1⟩ := at_T32 HR0.out x20_1 p354 q354
          cases e354
          replace hx354_0 := (HB.out.cell (World.block_lt_of_cell? w _ hx354_0)).trans hx354_0
          replace hx354_1 := (HB.out.cell (World.block_lt_of_cell? w _ hx354_1)).trans hx354_1
          replace hx354_2 := (HB.out.cell (World.block_lt_of_cell? w _ hx354_2)).trans hx354_2
          have HR354_1 := qac.mk hi354_1
          have HC354_1 := qac.mk hl354_1
          clear hi354_1 hl354_1; replace p354 := eq_true p354; replace q354 := eq_true q354; try go_wp2_with (first | ((with_reducible refine qaV (N := 7) rfl ?_); refine qaU ?hg (N := 7) ?hd (cs := #[.string (⟨#[]⟩ : ByteArray), .slice none 0 0, .int .i64 0]) (t := 32) ?hr ?_; (case hd => rfl); (case hg => rfl); (case hr => first | (go_simp; done) | (go_simp; rfl)); intro gb355 hg w12 hbox hb; have n0_ := qac.mk (qaB (by repeat (first | (with_reducible first | exact HB.out | apply qae | apply qab | apply qad) | exact HB.out)) hb); have n1_ := qac.mk (hbox); have n2_ := qac.mk ((by rw [hg]; exact (qav (by repeat (first | (with_reducible first | exact HB.out | apply qae | apply qab | apply qad) | exact HB.out))) : w.heap.size ≤ gb355)); have n3_ := qac.mk ((by rw [hg]; exact (qav (by repeat (first | (with_reducible first | exact HB.out | apply qae | apply qab | apply qad) | exact HB.out))) : w.heap.size ≤ gb355)); clear HB; have HB := n0_; have BK355 := n1_; have GW355 := n2_; have GE355 := n3_; clear n0_ n1_ n2_ n3_; clear hb hbox hg; have hcz13_0 : w12.cell? ⟨gb355, 0, none⟩ = some (.string (⟨#[]⟩ : ByteArray)) := (qas BK355.out 0).trans rfl; have hcz13_1 : w12.cell? ⟨gb355, 1, none⟩ = some (.slice none 0 0) := (qas BK355.out 1).trans rfl; have hcz13_2 : w12.cell? ⟨gb355, 2, none⟩ = some (.int .i64 0) := (qas BK355.out 2).trans rfl; have hfz13_0 := qat BK355.out 0; have hfz13_1 := qat BK355.out 1; have hfz13_2 := qat BK355.out 2))
          have n0_ : qac ((((w12.setCell ⟨gb355, 0, none⟩ (.string ((qam l0 x20_1).f0.f0))).setCell ⟨gb355, 1, none⟩ (.slice A354_1 ((qam l0 x20_1).f0.f1).length c354_1)).setCell ⟨gb355, 2, none⟩ (.int .i64 ((qam l0 x20_1).f1))).heap[gb355]? = some (.cells #[.string ((qam l0 x20_1).f0.f0), .slice A354_1 ((qam l0 x20_1).f0.f1).length c354_1, .int .i64 ((qam l0 x20_1).f1)] 32 (0, 0))) := ⟨by (with_reducible repeat (first | refine qan ?_ _ | refine qap ?_ | refine qao ?_ _)); refine qa1 (cs := #[.string ((qam l0 x20_1).f0.f0), .slice A354_1 ((qam l0 x20_1).f0.f1).length c354_1, .int .i64 0]) ?_ 2 _ rfl; (with_reducible repeat (first | refine qan ?_ _ | refine qap ?_ | refine qao ?_ _)); refine qa1 (cs := #[.string ((qam l0 x20_1).f0.f0), .slice none 0 0, .int .i64 0]) ?_ 1 _ rfl; (with_reducible repeat (first | refine qan ?_ _ | refine qap ?_ | refine qao ?_ _)); refine qa1 (cs := #[.string (⟨#[]⟩ : ByteArray), .slice none 0 0, .int .i64 0]) ?_ 0 _ rfl; (with_reducible repeat (first | refine qan ?_ _ | refine qap ?_ | refine qao ?_ _)); exact BK355.out⟩
          have n1_ : qac (Below w.heap.size w (((w12.setCell ⟨gb355, 0, none⟩ (.string ((qam l0 x20_1).f0.f0))).setCell ⟨gb355, 1, none⟩ (.slice A354_1 ((qam l0 x20_1).f0.f1).length c354_1)).setCell ⟨gb355, 2, none⟩ (.int .i64 ((qam l0 x20_1).f1)))) := ⟨by repeat (first | (with_reducible first | exact HB.out | apply qae | apply qab | apply qad | refine qah ?_ GE355.out) | exact HB.out)⟩
          (try clear BK355); (try clear HB); generalize (((w12.setCell ⟨gb355, 0, none⟩ (.string ((qam l0 x20_1).f0.f0))).setCell ⟨gb355, 1, none⟩ (.slice A354_1 ((qam l0 x20_1).f0.f1).length c354_1)).setCell ⟨gb355, 2, none⟩ (.int .i64 ((qam l0 x20_1).f1))) = w14 at n0_ n1_ ⊢
          have BK355 := n0_; have HB := n1_; clear n0_ n1_; have n0_ := qac.mk (qap BK355.out)
          have n1_ := qac.mk (qad HB.out)
          clear BK355; clear HB; have BK355 := n0_; have HB := n1_; clear n0_ n1_; have p356 : 0 ≤ (x20_1 : Int) := of_decide_eq_true (by first | (with_reducible assumption) | assumption)
          have q356 : x20_1 < (l1.length : Int) := of_decide_eq_true (by first | (with_reducible assumption) | assumption)
          obtain ⟨ad356, e356, hx356_0⟩ := Kd.qbJ HR1.out x20_1 p356 q356
          have hw356_0 := hx356_0; cases e356
          replace hx356_0 := (HB.out.cell (World.block_lt_of_cell? w _ hx356_0)).trans hx356_0
          replace p356 := eq_true p356; replace q356 := eq_true q356; refine qbD (n := 15) (S := fun w' => w'.cell? (ad356.add (x20_1).toNat) = some (.int .i64 (rd l1 x20_1))) (ds := []) #[qF,qF,qF,qF,qF,qF,qF,qF,qF,qF,qF,qF,qF,qF,qF] (by kernel_rfl) rfl rfl (((HB.out.cell (World.block_lt_of_cell? w _ hw356_0)).trans hw356_0)) (fun hHeld => ?_); refine qbj qaK.tab9 qaK.bits9 (fun HT_ HW_ => ?_)
          generalize w14.drew = w15 at BK355 HB hx356_0 hHeld ⊢
          refine qP 0 (some 25) ?_ #[qT,qF,qF,qF,qF,qF,qF,qF,qF,qF,qF,qF,qF,qF,qF] HT_.out rfl rfl (by kernel_rfl) (fun _ _ _ h => h) (Or.inl ⟨by rfl, ?_⟩) ?_ ?_ ?_; rotate_left; ·intro w'; go_simp; with_reducible rfl
          rotate_left; ·simp only [Act.put, qy1, qy2, qy3, i64_w, i32_w]; rfl
          refine qP 1 (some 26) ?_ #[qT,qT,qF,qF,qF,qF,qF,qF,qF,qF,qF,qF,qF,qF,qF] HT_.out rfl rfl (by kernel_rfl) (fun _ _ _ h => h) (Or.inl ⟨by rfl, ?_⟩) ?_ ?_ ?_; rotate_left; ·intro w'; go_simp; with_reducible rfl
          rotate_left; ·simp only [Act.put, qy1, qy2, qy3, i64_w, i32_w]; rfl
          refine qP 2 (some 27) ?_ #[qT,qT,qT,qF,qF,qF,qF,qF,qF,qF,qF,qF,qF,qF,qF] HT_.out rfl rfl (by kernel_rfl) (fun _ _ _ h => h) (Or.inl ⟨by rfl, ?_⟩) ?_ ?_ ?_; rotate_left; ·intro w'; go_simp; with_reducible rfl
          rotate_left; ·simp only [Act.put, qy1, qy2, qy3, i64_w, i32_w]; rfl
          refine take_ (i := 3) (N := some 28) (v := ?_) (a' := ?_) #[qT,qT,qT,qT,qF,qF,qF,qF,qF,qF,qF,qF,qF,qF,qF] rfl rfl (qaT HT_.out HW_.out (by kernel_rfl)) (fun _ _ _ h => h) (Or.inl ⟨by rfl, ?_⟩) hHeld ?_ ?_; rotate_left
          ·intro w' s0
           go_simp; with_reducible rfl
          rotate_left; ·simp only [Act.put, qy1, qy2, qy3, i64_w, i32_w]; rfl
          refine qP 4 (some 29) ?_ #[qT,qT,qT,qT,qT,qF,qF,qF,qF,qF,qF,qF,qF,qF,qF] HT_.out rfl rfl (by kernel_rfl) (fun _ _ _ h => h) (Or.inl ⟨by rfl, ?_⟩) ?_ ?_ ?_; rotate_left; ·intro w'; go_simp; with_reducible rfl
          rotate_left; ·simp only [Act.put, qy1, qy2, qy3, i64_w, i32_w]; rfl
          refine qP 5 (some 30) ?_ #[qT,qT,qT,qT,qT,qT,qF,qF,qF,qF,qF,qF,qF,qF,qF] HT_.out rfl rfl (by kernel_rfl) (fun _ _ _ h => h) (Or.inl ⟨by rfl, ?_⟩) ?_ ?_ ?_; rotate_left; ·intro w'; go_simp; with_reducible rfl
          rotate_left; ·simp only [Act.put, qy1, qy2, qy3, i64_w, i32_w]; rfl
          refine pure_ (i := 6) (N := some 31) (v := undef) (a' := ?_) #[qT,qT,qT,qT,qT,qT,qT,qF,qF,qF,qF,qF,qF,qF,qF] rfl rfl (qbO HT_.out (by kernel_rfl)) (fun _ _ _ h => h) (Or.inr ⟨by rfl, rfl⟩) ?_ ?_; rotate_left; ·simp only [Act.put, qy1, qy2, qy3, i64_w, i32_w]; rfl
          refine pure_ (i := 7) (N := some 32) (v := undef) (a' := ?_) #[qT,qT,qT,qT,qT,qT,qT,qT,qF,qF,qF,qF,qF,qF,qF] rfl rfl (qbO HT_.out (by kernel_rfl)) (fun _ _ _ h => h) (Or.inr ⟨by rfl, rfl⟩) ?_ ?_; rotate_left; ·simp only [Act.put, qy1, qy2, qy3, i64_w, i32_w]; rfl
          refine pure_ (i := 8) (N := some 33) (v := undef) (a' := ?_) #[qT,qT,qT,qT,qT,qT,qT,qT,qT,qF,qF,qF,qF,qF,qF] rfl rfl (qbO HT_.out (by kernel_rfl)) (fun _ _ _ h => h) (Or.inr ⟨by rfl, rfl⟩) ?_ ?_; rotate_left; ·simp only [Act.put, qy1, qy2, qy3, i64_w, i32_w]; rfl
          refine pure_ (i := 9) (N := some 34) (v := undef) (a' := ?_) #[qT,qT,qT,qT,qT,qT,qT,qT,qT,qT,qF,qF,qF,qF,qF] rfl rfl (qbO HT_.out (by kernel_rfl)) (fun _ _ _ h => h) (Or.inr ⟨by rfl, rfl⟩) ?_ ?_; rotate_left; ·simp only [Act.put, qy1, qy2, qy3, i64_w, i32_w]; rfl
          refine pure_ (i := 10) (N := some 35) (v := undef) (a' := ?_) #[qT,qT,qT,qT,qT,qT,qT,qT,qT,qT,qT,qF,qF,qF,qF] rfl rfl (qbO HT_.out (by kernel_rfl)) (fun _ _ _ h => h) (Or.inr ⟨by rfl, rfl⟩) ?_ ?_; rotate_left; ·simp only [Act.put, qy1, qy2, qy3, i64_w, i32_w]; rfl
          refine pure_ (i := 11) (N := some 36) (v := undef) (a' := ?_) #[qT,qT,qT,qT,qT,qT,qT,qT,qT,qT,qT,qT,qF,qF,qF] rfl rfl (qbO HT_.out (by kernel_rfl)) (fun _ _ _ h => h) (Or.inr ⟨by rfl, rfl⟩) ?_ ?_; rotate_left; ·simp only [Act.put, qy1, qy2, qy3, i64_w, i32_w]; rfl
          refine pure_ (i := 12) (N := some 37) (v := undef) (a' := ?_) #[qT,qT,qT,qT,qT,qT,qT,qT,qT,qT,qT,qT,qT,qF,qF] rfl rfl (qbO HT_.out (by kernel_rfl)) (fun _ _ _ h => h) (Or.inr ⟨by rfl, rfl⟩) ?_ ?_; rotate_left; ·simp only [Act.put, qy1, qy2, qy3, i64_w, i32_w]; rfl
          refine pure_ (i := 13) (N := some 38) (v := undef) (a' := ?_) #[qT,qT,qT,qT,qT,qT,qT,qT,qT,qT,qT,qT,qT,qT,qF] rfl rfl (qbO HT_.out (by kernel_rfl)) (fun _ _ _ h => h) (Or.inr ⟨by rfl, rfl⟩) ?_ ?_; rotate_left; ·simp only [Act.put, qy1, qy2, qy3, i64_w, i32_w]; rfl
          refine qP 14 (some 39) ?_ #[qT,qT,qT,qT,qT,qT,qT,qT,qT,qT,qT,qT,qT,qT,qT] HT_.out rfl rfl (by kernel_rfl) (fun _ _ _ h => h) (Or.inl ⟨by rfl, ?_⟩) ?_ ?_ ?_; rotate_left; ·intro w'; go_simp; with_reducible rfl
          rotate_left; ·simp only [Act.put, qy1, qy2, qy3, i64_w, i32_w]; rfl
          refine done_ (qby HT_.out (by kernel_rfl)) ?_
          try go_wp2
          go_ret
          exact ⟨by first | rfl | (simp [qaz, qay] <;> rfl) | (simp [*, qaz, qay] <;> rfl), by repeat (first | (with_reducible first | exact HB.out | apply qae | apply qab | apply qad | refine qah ?_ GE355.out) | exact HB.out)⟩
         ·rw [if_neg c11] at H; have c11b0 : decide ((rd l1 x20_1) < 0) = false := decide_eq_false c11; clear c11; replace H := Option.bind_eq_some_iff.mp H; obtain ⟨t358, A160, H⟩ := H; replace H : (if (rd l1 x20_1) > t358 then (some 4) else (qaK.l0 k1 l1 l0 (l0.length : Int) (wrap64 (x20_1 + 1)))) = some r := H
          have A16 := qac.mk A160
          clear A160; by_cases c17 : (rd l1 x20_1) > t358
          ·rw [if_pos c17] at H; have c17b0 : decide (t358 < (rd l1 x20_1)) = true := decide_eq_true c17; clear c17; obtain rfl := Option.some.inj H
           have p354 : 0 ≤ (x20_1 : Int) := of_decide_eq_true (by first | (with_reducible assumption) | assumption)
           have q354 : x20_1 < (l0.length : Int) := of_decide_eq_true (by first | (with_reducible assumption) | assumption)
           obtain ⟨ad354, A354_1, c354_1, e354, hx354_0, hx354_1, hx354_2, hl354_1, hi354_1⟩ := at_T32 HR0.out x20_1 p354 q354
           cases e354
           replace hx354_0 := (HB.out.cell (World.block_lt_of_cell? w _ hx354_0)).trans hx354_0
           replace hx354_1 := (HB.out.cell (World.block_lt_of_cell? w _ hx354_1)).trans hx354_1
           replace hx354_2 := (HB.out.cell (World.block_lt_of_cell? w _ hx354_2)).trans hx354_2
           have HR354_1 := qac.mk hi354_1
           have HC354_1 := qac.mk hl354_1
           clear hi354_1 hl354_1; replace p354 := eq_true p354; replace q354 := eq_true q354; try go_wp2_with (first | ((with_reducible refine qaV (N := 7) rfl ?_); refine qaU ?hg (N := 7) ?hd (cs := #[.string (⟨#[]⟩ : ByteArray), .slice none 0 0, .int .i64 0]) (t := 32) ?hr ?_; (case hd => rfl); (case hg => rfl); (case hr => first | (go_simp; done) | (go_simp; rfl)); intro gb355 hg w18 hbox hb; have n0_ := qac.mk (qaB (by repeat (first | (with_reducible first | exact HB.out | apply qae | apply qab | apply qad) | exact HB.out)) hb); have n1_ := qac.mk (hbox); have n2_ := qac.mk ((by rw [hg]; exact (qav (by repeat (first | (with_reducible first | exact HB.out | apply qae | apply qab | apply qad) | exact HB.out))) : w.heap.size ≤ gb355)); have n3_ := qac.mk ((by rw [hg]; exact (qav (by repeat (first | (with_reducible first | exact HB.out | apply qae | apply qab | apply qad) | exact HB.out))) : w.heap.size ≤ gb355)); clear HB; have HB := n0_; have BK355 := n1_; have GW355 := n2_; have GE355 := n3_; clear n0_ n1_ n2_ n3_; clear hb hbox hg; have hcz19_0 : w18.cell? ⟨gb355, 0, none⟩ = some (.string (⟨#[]⟩ : ByteArray)) := (qas BK355.out 0).trans rfl; have hcz19_1 : w18.cell? ⟨gb355, 1, none⟩ = some (.slice none 0 0) := (qas BK355.out 1).trans rfl; have hcz19_2 : w18.cell? ⟨gb355, 2, none⟩ = some (.int .i64 0) := (qas BK355.out 2).trans rfl; have hfz19_0 := qat BK355.out 0; have hfz19_1 := qat BK355.out 1; have hfz19_2 := qat BK355.out 2))
           have n0_ : qac ((((w18.setCell ⟨gb355, 0, none⟩ (.string ((qam l0 x20_1).f0.f0))).setCell ⟨gb355, 1, none⟩ (.slice A354_1 ((qam l0 x20_1).f0.f1).length c354_1)).setCell ⟨gb355, 2, none⟩ (.int .i64 ((qam l0 x20_1).f1))).heap[gb355]? = some (.cells #[.string ((qam l0 x20_1).f0.f0), .slice A354_1 ((qam l0 x20_1).f0.f1).length c354_1, .int .i64 ((qam l0 x20_1).f1)] 32 (0, 0))) := ⟨by (with_reducible repeat (first | refine qan ?_ _ | refine qap ?_ | refine qao ?_ _)); refine qa1 (cs := #[.string ((qam l0 x20_1).f0.f0), .slice A354_1 ((qam l0 x20_1).f0.f1).length c354_1, .int .i64 0]) ?_ 2 _ rfl; (with_reducible repeat (first | refine qan ?_ _ | refine qap ?_ | refine qao ?_ _)); refine qa1 (cs := #[.string ((qam l0 x20_1).f0.f0), .slice none 0 0, .int .i64 0]) ?_ 1 _ rfl; (with_reducible repeat (first | refine qan ?_ _ | refine qap ?_ | refine qao ?_ _)); refine qa1 (cs := #[.string (⟨#[]⟩ : ByteArray), .slice none 0 0, .int .i64 0]) ?_ 0 _ rfl; (with_reducible repeat (first | refine qan ?_ _ | refine qap ?_ | refine qao ?_ _)); exact BK355.out⟩
           have n1_ : qac (Below w.heap.size w (((w18.setCell ⟨gb355, 0, none⟩ (.string ((qam l0 x20_1).f0.f0))).setCell ⟨gb355, 1, none⟩ (.slice A354_1 ((qam l0 x20_1).f0.f1).length c354_1)).setCell ⟨gb355, 2, none⟩ (.int .i64 ((qam l0 x20_1).f1)))) := ⟨by repeat (first | (with_reducible first | exact HB.out | apply qae | apply qab | apply qad | refine qah ?_ GE355.out) | exact HB.out)⟩
           (try clear BK355); (try clear HB); generalize (((w18.setCell ⟨gb355, 0, none⟩ (.string ((qam l0 x20_1).f0.f0))).setCell ⟨gb355, 1, none⟩ (.slice A354_1 ((qam l0 x20_1).f0.f1).length c354_1)).setCell ⟨gb355, 2, none⟩ (.int .i64 ((qam l0 x20_1).f1))) = w20 at n0_ n1_ ⊢
           have BK355 := n0_; have HB := n1_; clear n0_ n1_; have n0_ := qac.mk (qap BK355.out)
           have n1_ := qac.mk (qad HB.out)
           clear BK355; clear HB; have BK355 := n0_; have HB := n1_; clear n0_ n1_; have p356 : 0 ≤ (x20_1 : Int) := of_decide_eq_true (by first | (with_reducible assumption) | assumption)
           have q356 : x20_1 < (l1.length : Int) := of_decide_eq_true (by first | (with_reducible assumption) | assumption)
           obtain ⟨ad356, e356, hx356_0⟩ := Kd.qbJ HR1.out x20_1 p356 q356
           have hw356_0 := hx356_0; cases e356
           replace hx356_0 := (HB.out.cell (World.block_lt_of_cell? w _ hx356_0)).trans hx356_0
           replace p356 := eq_true p356; replace q356 := eq_true q356; have p357 : 0 ≤ (x20_1 : Int) := of_decide_eq_true (by first | (with_reducible assumption) | assumption)
           have q357 : x20_1 < (l1.length : Int) := of_decide_eq_true (by first | (with_reducible assumption) | assumption)
           obtain ⟨ad357, e357, hx357_0⟩ := Kd.qbJ HR1.out x20_1 p357 q357
           have hw357_0 := hx357_0; obtain rfl : ad356 = ad357 := (by injection e357)
           replace hx357_0 := (HB.out.cell (World.block_lt_of_cell? w _ hx357_0)).trans hx357_0
           replace p357 := eq_true p357; replace q357 := eq_true q357; refine qbD (n := 15) (S := fun w' => w'.cell? ⟨gb355, 0, none⟩ = some (.string ((qam l0 x20_1).f0.f0)) ∧ w'.cell? ⟨gb355, 1, none⟩ = some (.slice A354_1 ((qam l0 x20_1).f0.f1).length c354_1) ∧ w'.cell? ⟨gb355, 2, none⟩ = some (.int .i64 ((qam l0 x20_1).f1)) ∧ w'.cell? (ad356.add (x20_1).toNat) = some (.int .i64 (rd l1 x20_1)) ∧ w'.cell? (ad356.add (x20_1).toNat) = some (.int .i64 (rd l1 x20_1))) (ds := []) #[qF,qF,qF,qF,qF,qF,qF,qF,qF,qF,qF,qF,qF,qF,qF] (by kernel_rfl) rfl rfl ⟨(qas BK355.out 0).trans rfl, (qas BK355.out 1).trans rfl, (qas BK355.out 2).trans rfl, ((HB.out.cell (World.block_lt_of_cell? w _ hw356_0)).trans hw356_0), ((HB.out.cell (World.block_lt_of_cell? w _ hw357_0)).trans hw357_0)⟩ (fun hHeld => ?_); refine qbj qaK.tab9 qaK.bits9 (fun HT_ HW_ => ?_)
           generalize w20.drew = w21 at BK355 HB hx356_0 hx357_0 hHeld ⊢
           refine qP 0 (some 25) ?_ #[qT,qF,qF,qF,qF,qF,qF,qF,qF,qF,qF,qF,qF,qF,qF] HT_.out rfl rfl (by kernel_rfl) (fun _ _ _ h => h) (Or.inl ⟨by rfl, ?_⟩) ?_ ?_ ?_; rotate_left; ·intro w'; go_simp; with_reducible rfl
           rotate_left; ·simp only [Act.put, qy1, qy2, qy3, i64_w, i32_w]; rfl
           refine qP 1 (some 26) ?_ #[qT,qT,qF,qF,qF,qF,qF,qF,qF,qF,qF,qF,qF,qF,qF] HT_.out rfl rfl (by kernel_rfl) (fun _ _ _ h => h) (Or.inl ⟨by rfl, ?_⟩) ?_ ?_ ?_; rotate_left; ·intro w'; go_simp; with_reducible rfl
           rotate_left; ·simp only [Act.put, qy1, qy2, qy3, i64_w, i32_w]; rfl
           refine qP 2 (some 27) ?_ #[qT,qT,qT,qF,qF,qF,qF,qF,qF,qF,qF,qF,qF,qF,qF] HT_.out rfl rfl (by kernel_rfl) (fun _ _ _ h => h) (Or.inl ⟨by rfl, ?_⟩) ?_ ?_ ?_; rotate_left; ·intro w'; go_simp; with_reducible rfl
           rotate_left; ·simp only [Act.put, qy1, qy2, qy3, i64_w, i32_w]; rfl
           refine take_ (i := 3) (N := some 28) (v := ?_) (a' := ?_) #[qT,qT,qT,qT,qF,qF,qF,qF,qF,qF,qF,qF,qF,qF,qF] rfl rfl (qaT HT_.out HW_.out (by kernel_rfl)) (fun _ _ _ h => h) (Or.inl ⟨by rfl, ?_⟩) hHeld ?_ ?_; rotate_left; ·rintro w' ⟨s0, s1, s2, s3, s4⟩; go_simp; with_reducible rfl
           rotate_left; ·simp only [Act.put, qy1, qy2, qy3, i64_w, i32_w]; rfl
           refine qP 4 (some 29) ?_ #[qT,qT,qT,qT,qT,qF,qF,qF,qF,qF,qF,qF,qF,qF,qF] HT_.out rfl rfl (by kernel_rfl) (fun _ _ _ h => h) (Or.inl ⟨by rfl, ?_⟩) ?_ ?_ ?_; rotate_left; ·intro w'; go_simp; with_reducible rfl
           rotate_left; ·simp only [Act.put, qy1, qy2, qy3, i64_w, i32_w]; rfl
           refine qP 5 (some 30) ?_ #[qT,qT,qT,qT,qT,qT,qF,qF,qF,qF,qF,qF,qF,qF,qF] HT_.out rfl rfl (by kernel_rfl) (fun _ _ _ h => h) (Or.inl ⟨by rfl, ?_⟩) ?_ ?_ ?_; rotate_left; ·intro w'; go_simp; with_reducible rfl
           rotate_left; ·simp only [Act.put, qy1, qy2, qy3, i64_w, i32_w]; rfl
           refine qP 6 (some 31) ?_ #[qT,qT,qT,qT,qT,qT,qT,qF,qF,qF,qF,qF,qF,qF,qF] HT_.out rfl rfl (by kernel_rfl) (fun _ _ _ h => h) (Or.inl ⟨by rfl, ?_⟩) ?_ ?_ ?_; rotate_left; ·intro w'; go_simp; with_reducible rfl
           rotate_left; ·simp only [Act.put, qy1, qy2, qy3, i64_w, i32_w]; rfl
           refine qP 7 (some 32) ?_ #[qT,qT,qT,qT,qT,qT,qT,qT,qF,qF,qF,qF,qF,qF,qF] HT_.out rfl rfl (by kernel_rfl) (fun _ _ _ h => h) (Or.inl ⟨by rfl, ?_⟩) ?_ ?_ ?_; rotate_left; ·intro w'; go_simp; with_reducible rfl
           rotate_left; ·simp only [Act.put, qy1, qy2, qy3, i64_w, i32_w]; rfl
           refine qP 8 (some 33) ?_ #[qT,qT,qT,qT,qT,qT,qT,qT,qT,qF,qF,qF,qF,qF,qF] HT_.out rfl rfl (by kernel_rfl) (fun _ _ _ h => h) (Or.inl ⟨by rfl, ?_⟩) ?_ ?_ ?_; rotate_left; ·intro w'; go_simp; with_reducible rfl
           rotate_left; ·simp only [Act.put, qy1, qy2, qy3, i64_w, i32_w]; rfl
           refine qP 10 (some 35) ?_ #[qT,qT,qT,qT,qT,qT,qT,qT,qT,qF,qT,qF,qF,qF,qF] HT_.out rfl rfl (by kernel_rfl) (fun _ _ _ h => h) (Or.inl ⟨by rfl, ?_⟩) ?_ ?_ ?_; rotate_left; ·intro w'; go_simp; with_reducible rfl
           rotate_left; ·simp only [Act.put, qy1, qy2, qy3, i64_w, i32_w]; rfl
           refine take_ (i := 9) (N := some 34) (v := ?_) (a' := ?_) #[qT,qT,qT,qT,qT,qT,qT,qT,qT,qT,qT,qF,qF,qF,qF] rfl rfl (qaT HT_.out HW_.out (by kernel_rfl)) (fun _ _ _ h => h) (Or.inl ⟨by rfl, ?_⟩) hHeld ?_ ?_; rotate_left; ·rintro w' ⟨s0, s1, s2, s3, s4⟩; go_simp; with_reducible rfl
           rotate_left; ·simp only [Act.put, qy1, qy2, qy3, i64_w, i32_w]; rfl
           refine take_ (i := 11) (N := some 36) (v := ?_) (a' := ?_) #[qT,qT,qT,qT,qT,qT,qT,qT,qT,qT,qT,qT,qF,qF,qF] rfl rfl (qaT HT_.out HW_.out (by kernel_rfl)) (fun _ _ _ h => h) (Or.inl ⟨by rfl, ?_⟩) hHeld ?_ ?_; rotate_left; ·rintro w' ⟨s0, s1, s2, s3, s4⟩; go_simp; with_reducible rfl
           rotate_left; ·simp only [Act.put, qy1, qy2, qy3, i64_w, i32_w]; rfl
           refine one_ (i := 12) (N := some 37) #[qT,qT,qT,qT,qT,qT,qT,qT,qT,qT,qT,qT,qT,qF,qF] rfl rfl (qbH HT_.out (by kernel_rfl)) (by decide) (fun K hK => ?_)
           refine goes_ Try.func54 (by kernel_rfl) rfl #[.agg #[.string ((qam l0 x20_1).f0.f0), .slice A354_1 ((qam l0 x20_1).f0.f1).length c354_1]] (by rfl) rfl rfl (by (try simp only [qy6, qy7, qy8]); first | done | rfl | (simp only [List.length_drop, List.length_take]; rfl)) ?_
           with_reducible refine (qaP.calls k1 ((qam l0 x20_1).f0.f0) _ _ ((qam l0 x20_1).f0.f1) t358 _ ?side1 ?side2 A16.out).mono ?_
           (case side1 => repeat (first | exact (Kd.qbt HR354_1.out HB.out) | (with_reducible refine Kd.qbl ?_ _) | (with_reducible refine Kd.qbk ?_ _) | (with_reducible refine Kd.qbw ?_)))
           (case side2 => exact HC354_1.out)
           rintro e w22 ⟨rfl, hb⟩
           refine ⟨_, rfl, ?_⟩
           have n0_ := qac.mk (qaS (g := gb355) (o := .cells #[.string ((qam l0 x20_1).f0.f0), .slice A354_1 ((qam l0 x20_1).f0.f1).length c354_1, .int .i64 ((qam l0 x20_1).f1)] 32 (0, 0)) (by (with_reducible repeat (first | refine qan ?_ _ | refine qap ?_ | refine qao ?_ _)); exact BK355.out) hb)
           have n1_ := qac.mk (qaB (by repeat (first | (with_reducible first | exact HB.out | apply qae | apply qab | apply qad | refine qah ?_ GE355.out) | exact HB.out)) hb)
           clear BK355; clear HB; have BK355 := n0_; have HB := n1_; clear n0_ n1_; (try clear hb); (try clear hb2); (try clear hk); (try clear hi); refine hK.out _ _ ⟨(qas BK355.out 0).trans rfl, (qas BK355.out 1).trans rfl, (qas BK355.out 2).trans rfl, ((HB.out.cell (World.block_lt_of_cell? w _ hw356_0)).trans hw356_0), ((HB.out.cell (World.block_lt_of_cell? w _ hw357_0)).trans hw357_0)⟩ (fun hHeld => ?_)
           clear hK K; refine norm_ (a' := ?_) ?_ ?_; rotate_left
           ·show Act.put _ (some 37) _ = _
            simp only [Act.put, qy1, qy2, qy3, i64_w, i32_w]
            rfl
           refine qP 13 (some 38) ?_ #[qT,qT,qT,qT,qT,qT,qT,qT,qT,qT,qT,qT,qT,qT,qF] HT_.out rfl rfl (by kernel_rfl) (fun _ _ _ h => h) (Or.inl ⟨by rfl, ?_⟩) ?_ ?_ ?_; rotate_left; ·intro w'; go_simp; with_reducible rfl
           rotate_left; ·simp only [Act.put, qy1, qy2, qy3, i64_w, i32_w]; rfl
           refine qP 14 (some 39) ?_ #[qT,qT,qT,qT,qT,qT,qT,qT,qT,qT,qT,qT,qT,qT,qT] HT_.out rfl rfl (by kernel_rfl) (fun _ _ _ h => h) (Or.inl ⟨by rfl, ?_⟩) ?_ ?_ ?_; rotate_left; ·intro w'; go_simp; with_reducible rfl
           rotate_left; ·simp only [Act.put, qy1, qy2, qy3, i64_w, i32_w]; rfl
           refine done_ (qby HT_.out (by kernel_rfl)) ?_
           try go_wp2
           go_ret
           exact ⟨by first | rfl | (simp [qaz, qay] <;> rfl) | (simp [*, qaz, qay] <;> rfl), by repeat (first | (with_reducible first | exact HB.out | apply qae | apply qab | apply qad | refine qah ?_ GE355.out) | exact HB.out)⟩
          ·rw [if_neg c17] at H; have c17b0 : decide (t358 < (rd l1 x20_1)) = false := decide_eq_false c17; clear c17; have H' := qac.mk H; clear H; have p354 : 0 ≤ (x20_1 : Int) := of_decide_eq_true (by first | (with_reducible assumption) | assumption)
           have q354 : x20_1 < (l0.length : Int) := of_decide_eq_true (by first | (with_reducible assumption) | assumption)
           obtain ⟨ad354, A354_1, c354_1, e354, hx354_0, hx354_1, hx354_2, hl354_1, hi354_1⟩ := at_T32 HR0.out x20_1 p354 q354
           cases e354
           replace hx354_0 := (HB.out.cell (World.block_lt_of_cell? w _ hx354_0)).trans hx354_0
           replace hx354_1 := (HB.out.cell (World.block_lt_of_cell? w _ hx354_1)).trans hx354_1
           replace hx354_2 := (HB.out.cell (World.block_lt_of_cell? w _ hx354_2)).trans hx354_2
           have HR354_1 := qac.mk hi354_1
           have HC354_1 := qac.mk hl354_1
           clear hi354_1 hl354_1; replace p354 := eq_true p354; replace q354 := eq_true q354; try go_wp2_with (first | ((with_reducible refine qaV (N := 7) rfl ?_); refine qaU ?hg (N := 7) ?hd (cs := #[.string (⟨#[]⟩ : ByteArray), .slice none 0 0, .int .i64 0]) (t := 32) ?hr ?_; (case hd => rfl); (case hg => rfl); (case hr => first | (go_simp; done) | (go_simp; rfl)); intro gb355 hg w23 hbox hb; have n0_ := qac.mk (qaB (by repeat (first | (with_reducible first | exact HB.out | apply qae | apply qab | apply qad) | exact HB.out)) hb); have n1_ := qac.mk (hbox); have n2_ := qac.mk ((by rw [hg]; exact (qav (by repeat (first | (with_reducible first | exact HB.out | apply qae | apply qab | apply qad) | exact HB.out))) : w.heap.size ≤ gb355)); have n3_ := qac.mk ((by rw [hg]; exact (qav (by repeat (first | (with_reducible first | exact HB.out | apply qae | apply qab | apply qad) | exact HB.out))) : w.heap.size ≤ gb355)); clear HB; have HB := n0_; have BK355 := n1_; have GW355 := n2_; have GE355 := n3_; clear n0_ n1_ n2_ n3_; clear hb hbox hg; have hcz24_0 : w23.cell? ⟨gb355, 0, none⟩ = some (.string (⟨#[]⟩ : ByteArray)) := (qas BK355.out 0).trans rfl; have hcz24_1 : w23.cell? ⟨gb355, 1, none⟩ = some (.slice none 0 0) := (qas BK355.out 1).trans rfl; have hcz24_2 : w23.cell? ⟨gb355, 2, none⟩ = some (.int .i64 0) := (qas BK355.out 2).trans rfl; have hfz24_0 := qat BK355.out 0; have hfz24_1 := qat BK355.out 1; have hfz24_2 := qat BK355.out 2))
           have n0_ : qac ((((w23.setCell ⟨gb355, 0, none⟩ (.string ((qam l0 x20_1).f0.f0))).setCell ⟨gb355, 1, none⟩ (.slice A354_1 ((qam l0 x20_1).f0.f1).length c354_1)).setCell ⟨gb355, 2, none⟩ (.int .i64 ((qam l0 x20_1).f1))).heap[gb355]? = some (.cells #[.string ((qam l0 x20_1).f0.f0), .slice A354_1 ((qam l0 x20_1).f0.f1).length c354_1, .int .i64 ((qam l0 x20_1).f1)] 32 (0, 0))) := ⟨by (with_reducible repeat (first | refine qan ?_ _ | refine qap ?_ | refine qao ?_ _)); refine qa1 (cs := #[.string ((qam l0 x20_1).f0.f0), .slice A354_1 ((qam l0 x20_1).f0.f1).length c354_1, .int .i64 0]) ?_ 2 _ rfl; (with_reducible repeat (first | refine qan ?_ _ | refine qap ?_ | refine qao ?_ _)); refine qa1 (cs := #[.string ((qam l0 x20_1).f0.f0), .slice none 0 0, .int .i64 0]) ?_ 1 _ rfl; (with_reducible repeat (first | refine qan ?_ _ | refine qap ?_ | refine qao ?_ _)); refine qa1 (cs := #[.string (⟨#[]⟩ : ByteArray), .slice none 0 0, .int .i64 0]) ?_ 0 _ rfl; (with_reducible repeat (first | refine qan ?_ _ | refine qap ?_ | refine qao ?_ _)); exact BK355.out⟩
           have n1_ : qac (Below w.heap.size w (((w23.setCell ⟨gb355, 0, none⟩ (.string ((qam l0 x20_1).f0.f0))).setCell ⟨gb355, 1, none⟩ (.slice A354_1 ((qam l0 x20_1).f0.f1).length c354_1)).setCell ⟨gb355, 2, none⟩ (.int .i64 ((qam l0 x20_1).f1)))) := ⟨by repeat (first | (with_reducible first | exact HB.out | apply qae | apply qab | apply qad | refine qah ?_ GE355.out) | exact HB.out)⟩
           (try clear BK355); (try clear HB); generalize (((w23.setCell ⟨gb355, 0, none⟩ (.string ((qam l0 x20_1).f0.f0))).setCell ⟨gb355, 1, none⟩ (.slice A354_1 ((qam l0 x20_1).f0.f1).length c354_1)).setCell ⟨gb355, 2, none⟩ (.int .i64 ((qam l0 x20_1).f1))) = w25 at n0_ n1_ ⊢
           have BK355 := n0_; have HB := n1_; clear n0_ n1_; have n0_ := qac.mk (qap BK355.out)
           have n1_ := qac.mk (qad HB.out)
           clear BK355; clear HB; have BK355 := n0_; have HB := n1_; clear n0_ n1_; have p356 : 0 ≤ (x20_1 : Int) := of_decide_eq_true (by first | (with_reducible assumption) | assumption)
           have q356 : x20_1 < (l1.length : Int) := of_decide_eq_true (by first | (with_reducible assumption) | assumption)
           obtain ⟨ad356, e356, hx356_0⟩ := Kd.qbJ HR1.out x20_1 p356 q356
           have hw356_0 := hx356_0; cases e356
           replace hx356_0 := (HB.out.cell (World.block_lt_of_cell? w _ hx356_0)).trans hx356_0
           replace p356 := eq_true p356; replace q356 := eq_true q356; have p357 : 0 ≤ (x20_1 : Int) := of_decide_eq_true (by first | (with_reducible assumption) | assumption)
           have q357 : x20_1 < (l1.length : Int) := of_decide_eq_true (by first | (with_reducible assumption) | assumption)
           obtain ⟨ad357, e357, hx357_0⟩ := Kd.qbJ HR1.out x20_1 p357 q357
           have hw357_0 := hx357_0; obtain rfl : ad356 = ad357 := (by injection e357)
           replace hx357_0 := (HB.out.cell (World.block_lt_of_cell? w _ hx357_0)).trans hx357_0
           replace p357 := eq_true p357; replace q357 := eq_true q357; refine qbD (n := 15) (S := fun w' => w'.cell? ⟨gb355, 0, none⟩ = some (.string ((qam l0 x20_1).f0.f0)) ∧ w'.cell? ⟨gb355, 1, none⟩ = some (.slice A354_1 ((qam l0 x20_1).f0.f1).length c354_1) ∧ w'.cell? ⟨gb355, 2, none⟩ = some (.int .i64 ((qam l0 x20_1).f1)) ∧ w'.cell? (ad356.add (x20_1).toNat) = some (.int .i64 (rd l1 x20_1)) ∧ w'.cell? (ad356.add (x20_1).toNat) = some (.int .i64 (rd l1 x20_1))) (ds := []) #[qF,qF,qF,qF,qF,qF,qF,qF,qF,qF,qF,qF,qF,qF,qF] (by kernel_rfl) rfl rfl ⟨(qas BK355.out 0).trans rfl, (qas BK355.out 1).trans rfl, (qas BK355.out 2).trans rfl, ((HB.out.cell (World.block_lt_of_cell? w _ hw356_0)).trans hw356_0), ((HB.out.cell (World.block_lt_of_cell? w _ hw357_0)).trans hw357_0)⟩ (fun hHeld => ?_); refine qbj qaK.tab9 qaK.bits9 (fun HT_ HW_ => ?_)
           generalize w25.drew = w26 at BK355 HB hx356_0 hx357_0 hHeld ⊢
           refine qP 0 (some 25) ?_ #[qT,qF,qF,qF,qF,qF,qF,qF,qF,qF,qF,qF,qF,qF,qF] HT_.out rfl rfl (by kernel_rfl) (fun _ _ _ h => h) (Or.inl ⟨by rfl, ?_⟩) ?_ ?_ ?_; rotate_left; ·intro w'; go_simp; with_reducible rfl
           rotate_left; ·simp only [Act.put, qy1, qy2, qy3, i64_w, i32_w]; rfl
           refine qP 1 (some 26) ?_ #[qT,qT,qF,qF,qF,qF,qF,qF,qF,qF,qF,qF,qF,qF,qF] HT_.out rfl rfl (by kernel_rfl) (fun _ _ _ h => h) (Or.inl ⟨by rfl, ?_⟩) ?_ ?_ ?_; rotate_left; ·intro w'; go_simp; with_reducible rfl
           rotate_left; ·simp only [Act.put, qy1, qy2, qy3, i64_w, i32_w]; rfl
           refine qP 2 (some 27) ?_ #[qT,qT,qT,qF,qF,qF,qF,qF,qF,qF,qF,qF,qF,qF,qF] HT_.out rfl rfl (by kernel_rfl) (fun _ _ _ h => h) (Or.inl ⟨by rfl, ?_⟩) ?_ ?_ ?_; rotate_left; ·intro w'; go_simp; with_reducible rfl
           rotate_left; ·simp only [Act.put, qy1, qy2, qy3, i64_w, i32_w]; rfl
           refine take_ (i := 3) (N := some 28) (v := ?_) (a' := ?_) #[qT,qT,qT,qT,qF,qF,qF,qF,qF,qF,qF,qF,qF,qF,qF] rfl rfl (qaT HT_.out HW_.out (by kernel_rfl)) (fun _ _ _ h => h) (Or.inl ⟨by rfl, ?_⟩) hHeld ?_ ?_; rotate_left; ·rintro w' ⟨s0, s1, s2, s3, s4⟩; go_simp; with_reducible rfl
           rotate_left; ·simp only [Act.put, qy1, qy2, qy3, i64_w, i32_w]; rfl
           refine qP 4 (some 29) ?_ #[qT,qT,qT,qT,qT,qF,qF,qF,qF,qF,qF,qF,qF,qF,qF] HT_.out rfl rfl (by kernel_rfl) (fun _ _ _ h => h) (Or.inl ⟨by rfl, ?_⟩) ?_ ?_ ?_; rotate_left; ·intro w'; go_simp; with_reducible rfl
           rotate_left; ·simp only [Act.put, qy1, qy2, qy3, i64_w, i32_w]; rfl
           refine qP 5 (some 30) ?_ #[qT,qT,qT,qT,qT,qT,qF,qF,qF,qF,qF,qF,qF,qF,qF] HT_.out rfl rfl (by kernel_rfl) (fun _ _ _ h => h) (Or.inl ⟨by rfl, ?_⟩) ?_ ?_ ?_; rotate_left; ·intro w'; go_simp; with_reducible rfl
           rotate_left; ·simp only [Act.put, qy1, qy2, qy3, i64_w, i32_w]; rfl
           refine qP 6 (some 31) ?_ #[qT,qT,qT,qT,qT,qT,qT,qF,qF,qF,qF,qF,qF,qF,qF] HT_.out rfl rfl (by kernel_rfl) (fun _ _ _ h => h) (Or.inl ⟨by rfl, ?_⟩) ?_ ?_ ?_; rotate_left; ·intro w'; go_simp; with_reducible rfl
           rotate_left; ·simp only [Act.put, qy1, qy2, qy3, i64_w, i32_w]; rfl
           refine qP 7 (some 32) ?_ #[qT,qT,qT,qT,qT,qT,qT,qT,qF,qF,qF,qF,qF,qF,qF] HT_.out rfl rfl (by kernel_rfl) (fun _ _ _ h => h) (Or.inl ⟨by rfl, ?_⟩) ?_ ?_ ?_; rotate_left; ·intro w'; go_simp; with_reducible rfl
           rotate_left; ·simp only [Act.put, qy1, qy2, qy3, i64_w, i32_w]; rfl
           refine qP 8 (some 33) ?_ #[qT,qT,qT,qT,qT,qT,qT,qT,qT,qF,qF,qF,qF,qF,qF] HT_.out rfl rfl (by kernel_rfl) (fun _ _ _ h => h) (Or.inl ⟨by rfl, ?_⟩) ?_ ?_ ?_; rotate_left; ·intro w'; go_simp; with_reducible rfl
           rotate_left; ·simp only [Act.put, qy1, qy2, qy3, i64_w, i32_w]; rfl
           refine qP 10 (some 35) ?_ #[qT,qT,qT,qT,qT,qT,qT,qT,qT,qF,qT,qF,qF,qF,qF] HT_.out rfl rfl (by kernel_rfl) (fun _ _ _ h => h) (Or.inl ⟨by rfl, ?_⟩) ?_ ?_ ?_; rotate_left; ·intro w'; go_simp; with_reducible rfl
           rotate_left; ·simp only [Act.put, qy1, qy2, qy3, i64_w, i32_w]; rfl
           refine take_ (i := 9) (N := some 34) (v := ?_) (a' := ?_) #[qT,qT,qT,qT,qT,qT,qT,qT,qT,qT,qT,qF,qF,qF,qF] rfl rfl (qaT HT_.out HW_.out (by kernel_rfl)) (fun _ _ _ h => h) (Or.inl ⟨by rfl, ?_⟩) hHeld ?_ ?_; rotate_left; ·rintro w' ⟨s0, s1, s2, s3, s4⟩; go_simp; with_reducible rfl
           rotate_left; ·simp only [Act.put, qy1, qy2, qy3, i64_w, i32_w]; rfl
           refine take_ (i := 11) (N := some 36) (v := ?_) (a' := ?_) #[qT,qT,qT,qT,qT,qT,qT,qT,qT,qT,qT,qT,qF,qF,qF] rfl rfl (qaT HT_.out HW_.out (by kernel_rfl)) (fun _ _ _ h => h) (Or.inl ⟨by rfl, ?_⟩) hHeld ?_ ?_; rotate_left; ·rintro w' ⟨s0, s1, s2, s3, s4⟩; go_simp; with_reducible rfl
           rotate_left; ·simp only [Act.put, qy1, qy2, qy3, i64_w, i32_w]; rfl
           refine one_ (i := 12) (N := some 37) #[qT,qT,qT,qT,qT,qT,qT,qT,qT,qT,qT,qT,qT,qF,qF] rfl rfl (qbH HT_.out (by kernel_rfl)) (by decide) (fun K hK => ?_)
           refine goes_ Try.func54 (by kernel_rfl) rfl #[.agg #[.string ((qam l0 x20_1).f0.f0), .slice A354_1 ((qam l0 x20_1).f0.f1).length c354_1]] (by rfl) rfl rfl (by (try simp only [qy6, qy7, qy8]); first | done | rfl | (simp only [List.length_drop, List.length_take]; rfl)) ?_
           with_reducible refine (qaP.calls k1 ((qam l0 x20_1).f0.f0) _ _ ((qam l0 x20_1).f0.f1) t358 _ ?side1 ?side2 A16.out).mono ?_
           (case side1 => repeat (first | exact (Kd.qbt HR354_1.out HB.out) | (with_reducible refine Kd.qbl ?_ _) | (with_reducible refine Kd.qbk ?_ _) | (with_reducible refine Kd.qbw ?_)))
           (case side2 => exact HC354_1.out)
           rintro e w27 ⟨rfl, hb⟩
           refine ⟨_, rfl, ?_⟩
           have n0_ := qac.mk (qaS (g := gb355) (o := .cells #[.string ((qam l0 x20_1).f0.f0), .slice A354_1 ((qam l0 x20_1).f0.f1).length c354_1, .int .i64 ((qam l0 x20_1).f1)] 32 (0, 0)) (by (with_reducible repeat (first | refine qan ?_ _ | refine qap ?_ | refine qao ?_ _)); exact BK355.out) hb)
           have n1_ := qac.mk (qaB (by repeat (first | (with_reducible first | exact HB.out | apply qae | apply qab | apply qad | refine qah ?_ GE355.out) | exact HB.out)) hb)
           clear BK355; clear HB; have BK355 := n0_; have HB := n1_; clear n0_ n1_; (try clear hb); (try clear hb2); (try clear hk); (try clear hi); refine hK.out _ _ ⟨(qas BK355.out 0).trans rfl, (qas BK355.out 1).trans rfl, (qas BK355.out 2).trans rfl, ((HB.out.cell (World.block_lt_of_cell? w _ hw356_0)).trans hw356_0), ((HB.out.cell (World.block_lt_of_cell? w _ hw357_0)).trans hw357_0)⟩ (fun hHeld => ?_)
           clear hK K; refine norm_ (a' := ?_) ?_ ?_; rotate_left
           ·show Act.put _ (some 37) _ = _
            simp only [Act.put, qy1, qy2, qy3, i64_w, i32_w]
            rfl
           refine qP 13 (some 38) ?_ #[qT,qT,qT,qT,qT,qT,qT,qT,qT,qT,qT,qT,qT,qT,qF] HT_.out rfl rfl (by kernel_rfl) (fun _ _ _ h => h) (Or.inl ⟨by rfl, ?_⟩) ?_ ?_ ?_; rotate_left; ·intro w'; go_simp; with_reducible rfl
           rotate_left; ·simp only [Act.put, qy1, qy2, qy3, i64_w, i32_w]; rfl
           refine qP 14 (some 39) ?_ #[qT,qT,qT,qT,qT,qT,qT,qT,qT,qT,qT,qT,qT,qT,qT] HT_.out rfl rfl (by kernel_rfl) (fun _ _ _ h => h) (Or.inl ⟨by rfl, ?_⟩) ?_ ?_ ?_; rotate_left; ·intro w'; go_simp; with_reducible rfl
           rotate_left; ·simp only [Act.put, qy1, qy2, qy3, i64_w, i32_w]; rfl
           refine done_ (qby HT_.out (by kernel_rfl)) ?_
           try go_wp2
           go_roundg k1
           case measure => have := HK1.out; omega
           case rel => exact ⟨(wrap64 (x20_1 + 1)), (by first | rfl | (simp; done) | (simp [*]; done)), H', ⟨by have := HK1.out; omega⟩, ⟨by repeat (first | (with_reducible first | exact HB.out | apply qae | apply qab | apply qad | refine qah ?_ GE355.out) | exact HB.out)⟩⟩
        ·rw [if_neg c10] at H; exact absurd H (by simp)
       ·rw [if_neg c9] at H; exact absurd H (by simp)
      ·rw [if_neg c8] at H; exact absurd H (by simp)
     ·rw [if_neg c7] at H; have c7b0 : decide (x20_1 < (l0.length : Int)) = false := decide_eq_false c7; clear c7; obtain rfl := Option.some.inj H
      go_wp2; go_ret
      exact ⟨by first | rfl | (simp [qaz, qay] <;> rfl) | (simp [*, qaz, qay] <;> rfl), by repeat (first | (with_reducible first | exact HB.out | apply qae | apply qab | apply qad) | exact HB.out)⟩
  ·rw [if_neg c5] at H; have c5b0 : ((l1.length : Int) == (l0.length : Int)) = false := beq_eq_false_iff_ne.mpr c5; have c5b1 : ((l1.length : Int) != (l0.length : Int)) = true := bne_iff_ne.mpr c5; have c5b2 : (l1.length == l0.length) = false := by first | simpa using c5 | (simp at c5 ⊢; omega)
   obtain rfl := Option.some.inj H
   go_enter Try.func53, Try.ntmps53; go_wp2_with (first | ((with_reducible refine qaL (f := 19) rfl ?_); refine qa9 (some 9) rfl rfl Try.func19 (by kernel_rfl) rfl #[.slice A0 l0.length c0] rfl (by (try simp only [qy6, qy7, qy8]); first | done | rfl | (simp only [List.length_drop, List.length_take]; rfl)) ?_; (with_reducible refine (qaF.calls k (fun k_ => k_ < w.heap.size) _ _ l0 t353 _ ?side1 A3.out).mono ?_); (case side1 => exact Kd.V_mk HC0.out (Kd.F_below (Kd.C_F k32_heap HR0.out) (by repeat (first | (with_reducible first | exact HB.out | apply qae | apply qab | apply qad) | exact HB.out)))); rintro e w28 ⟨rfl, hb⟩; refine ⟨_, rfl, ?_⟩; have n0_ := qac.mk (qaB (by repeat (first | (with_reducible first | exact HB.out | apply qae | apply qab | apply qad) | exact HB.out)) hb); clear HB; have HB := n0_; clear n0_; (try clear hb); (try clear hb2); (try clear hk); (try clear hi)))
   go_ret
   exact ⟨by first | rfl | (simp [qaz, qay] <;> rfl) | (simp [*, qaz, qay] <;> rfl), by repeat (first | (with_reducible first | exact HB.out | apply qae | apply qab | apply qad) | exact HB.out)⟩
 ·rw [if_neg c4] at H; have c4b0 : (t353 == 0) = false := beq_eq_false_iff_ne.mpr c4; have c4b1 : (t353 != 0) = true := bne_iff_ne.mpr c4; obtain rfl := Option.some.inj H
  go_enter Try.func53, Try.ntmps53; go_wp2_with (first | ((with_reducible refine qaL (f := 19) rfl ?_); refine qa9 (some 9) rfl rfl Try.func19 (by kernel_rfl) rfl #[.slice A0 l0.length c0] rfl (by (try simp only [qy6, qy7, qy8]); first | done | rfl | (simp only [List.length_drop, List.length_take]; rfl)) ?_; (with_reducible refine (qaF.calls k (fun k_ => k_ < w.heap.size) _ _ l0 t353 _ ?side1 A3.out).mono ?_); (case side1 => exact Kd.V_mk HC0.out (Kd.F_below (Kd.C_F k32_heap HR0.out) (by repeat (first | (with_reducible first | exact HB.out | apply qae | apply qab | apply qad) | exact HB.out)))); rintro e w29 ⟨rfl, hb⟩; refine ⟨_, rfl, ?_⟩; have n0_ := qac.mk (qaB (by repeat (first | (with_reducible first | exact HB.out | apply qae | apply qab | apply qad) | exact HB.out)) hb); clear HB; have HB := n0_; clear n0_; (try clear hb); (try clear hb2); (try clear hk); (try clear hi)))
  go_ret
  exact ⟨by first | rfl | (simp [qaz, qay] <;> rfl) | (simp [*, qaz, qay] <;> rfl), by repeat (first | (with_reducible first | exact HB.out | apply qae | apply qab | apply qad) | exact HB.out)⟩
def qaO.l0 : Nat → List Int → Int → List (S32) → Int → Int → Option (Int × Int)
 | 0, _, _, _, _, _ => none
 | k + 1, x1, x7, x16, x17, x18 => if x18 < x17 then (if 0 ≤ x18 then (if x18 < (x16.length : Int) then ((qaP.f k ((qam x16 x18).f0.f0) ((qam x16 x18).f0.f1)).bind fun t362 => (if x18 < (x1.length : Int) then (qaO.l0 k x1 (wrap64 (x7 + (mn ((qam x16 x18).f1) (wrap64 (t362 - (rd x1 x18)))))) x16 x17 (wrap64 (x18 + 1))) else (none))) else (none)) else (none)) else (some (x7, 0))
def qaO.f (k : Nat) (l0 : List (S32)) (l1 : List Int) : Option (Int × Int) := (qaK.f k l0 l1).bind fun t359 => (if t359 = 0 then (qaO.l0 k l1 0 l0 (l0.length : Int) 0) else (some (0, t359)))
theorem qaO.qbe : ∀ k, (∀ y0 y1 y2 y3 y4, LeO (qaO.l0 k y0 y1 y2 y3 y4) (qaO.l0 (k + 1) y0 y1 y2 y3 y4))
 | 0 => fun _ _ _ _ _ r h => by simp [qaO.l0] at h
 | k + 1 => by
  have ih0 := qaO.qbe k
  ·intro y0 y1 y2 y3 y4; unfold qaO.l0
   repeat' first
   | (with_reducible exact ih0 _ _ _ _ _)
   | (with_reducible exact qaP.mono _ _ _)
   | (with_reducible exact qaK.mono _ _ _)
   | (with_reducible exact LeO.refl _)
   | (with_reducible exact LeO.none _)
   | (with_reducible refine LeO.ite ?_ ?_)
   | (with_reducible refine LeO.bind ?_ (fun _ => ?_))
   | exact ih0 _ _ _ _ _
   | exact qaP.mono _ _ _
   | exact qaK.mono _ _ _
   | exact LeO.none _
   | refine LeO.ite ?_ ?_
   | refine LeO.bind ?_ (fun _ => ?_)
theorem qaO.mono : ∀ a0 a1 k, LeO (qaO.f k a0 a1) (qaO.f (k + 1) a0 a1) := by
 intro a0 a1 k; have ih0 := qaO.qbe k
 unfold qaO.f
 repeat' first
   | (with_reducible exact ih0 _ _ _ _ _)
   | (with_reducible exact qaP.mono _ _ _)
   | (with_reducible exact qaK.mono _ _ _)
   | (with_reducible exact LeO.refl _)
   | (with_reducible exact LeO.none _)
   | (with_reducible refine LeO.ite ?_ ?_)
   | (with_reducible refine LeO.bind ?_ (fun _ => ?_))
   | exact ih0 _ _ _ _ _
   | exact qaP.mono _ _ _
   | exact qaK.mono _ _ _
   | exact LeO.none _
   | refine LeO.ite ?_ ?_
   | refine LeO.bind ?_ (fun _ => ?_)
def qaO.T8 : Bool × List (List Nat × List Nat) := (true, [([], []), ([], []), ([1], [1]), ([], []), ([3], [3]), ([4], [4]), ([], []), ([], []), ([6, 7], [6, 7]), ([8], [8]), ([5, 9], [5, 9]), ([2, 10], [2, 10]), ([0, 11], [0, 11]), ([12, 5, 0, 1, 2, 3, 4, 5, 6, 7, 8, 9, 10, 11, 12], [0, 12])])
def qaO.B8 : List Nat := [0, 0, 2, 0, 8, 24, 0, 0, 192, 448, 1016, 2046, 4095, 8191]
theorem qaO.tab8 : rtab .any (opsOf Try.f20 8) = qaO.T8 := by kernel_rfl
theorem qaO.bits8 : waitsOk qaO.T8.2 qaO.B8 = true := by kernel_rfl
set_option maxHeartbeats 8000000 in
set_option maxRecDepth 100000 in
theorem qaO.calls (k : Nat) (A0 : Option Addr) (c0 : Nat) (l0 : List (S32)) (A1 : Option Addr) (c1 : Nat) (l1 : List Int) (r1 : Int) (r2 : Int) (w : World) (hr0 : Kd.C k32 w A0 l0.length l0) (hc0 : l0.length ≤ c0) (hr1 : Kd.C (Kd.int .i64) w A1 l1.length l1) (hc1 : l1.length ≤ c1) (h : qaO.f k l0 l1 = some (r1, r2)) :
  Calls Try.prog 20 #[.slice A0 l0.length c0, .slice A1 l1.length c1] w fun e w' => e = .returned (.tuple #[.int .i64 r1, .int .i64 r2]) ∧ Below w.heap.size w w' := by
 have hu32 := Try.underlying32; have hu29 := Try.underlying29; have HR0 := qac.mk hr0
 have HC0 := qac.mk hc0
 clear hr0 hc0; have HR1 := qac.mk hr1
 have HC1 := qac.mk hc1
 clear hr1 hc1; have HB := qac.mk (Below.refl w.heap.size w)
 have H : ((qaK.f k l0 l1).bind fun t359 => (if t359 = 0 then (qaO.l0 k l1 0 l0 (l0.length : Int) 0) else (some (0, t359)))) = some (r1, r2) := h
 clear h; replace H := Option.bind_eq_some_iff.mp H; obtain ⟨t359, A30, H⟩ := H; replace H : (if t359 = 0 then (qaO.l0 k l1 0 l0 (l0.length : Int) 0) else (some (0, t359))) = some (r1, r2) := H
 have A3 := qac.mk A30
 clear A30; by_cases c4 : t359 = 0
 ·rw [if_pos c4] at H; have c4b0 : (t359 == 0) = true := beq_iff_eq.mpr c4; have c4b1 : (t359 != 0) = false := bne_eq_false_iff_eq.mpr c4; clear c4; have H' := qac.mk H; clear H; go_enter Try.func20, Try.ntmps20; go_wp2_with (first | ((with_reducible refine qaL (f := 53) rfl ?_); refine qa9 (some 12) rfl rfl Try.func53 (by kernel_rfl) rfl #[.slice A0 l0.length c0, .slice A1 l1.length c1] rfl (by (try simp only [qy6, qy7, qy8]); first | done | rfl | (simp only [List.length_drop, List.length_take]; rfl)) ?_; (with_reducible refine (qaK.calls k _ _ l0 _ _ l1 t359 _ ?side1 ?side2 ?side3 ?side4 A3.out).mono ?_); (case side1 => repeat (first | exact HR0.out | (with_reducible refine Kd.qbl ?_ _) | (with_reducible refine Kd.qbk ?_ _) | (with_reducible refine Kd.qbw ?_))); (case side2 => exact HC0.out); (case side3 => repeat (first | exact HR1.out | (with_reducible refine Kd.qbl ?_ _) | (with_reducible refine Kd.qbk ?_ _) | (with_reducible refine Kd.qbw ?_))); (case side4 => exact HC1.out); rintro e w5 ⟨rfl, hb⟩; refine ⟨_, rfl, ?_⟩; have n0_ := qac.mk (qaB (by repeat (first | (with_reducible first | exact HB.out | apply qae | apply qab | apply qad) | exact HB.out)) hb); clear HB; have HB := n0_; clear n0_; (try clear hb); (try clear hb2); (try clear hk); (try clear hi)))
  (try simp only [Act.put, List.setIfInBounds_toArray, List.set_cons_zero, List.set_cons_succ])
  go_loopg [7, 18] k (fun kq v7 v18 w' => ∃ (x7_1 : Int) (x18_1 : Int), v7 = .int .i64 x7_1 ∧ v18 = .int .i64 x18_1 ∧ qac (qaO.l0 kq l1 x7_1 l0 (l0.length : Int) x18_1 = some (r1, r2)) ∧ qac (kq ≤ k) ∧ qac (Below w.heap.size w w'))
  case atStart => exact ⟨(0), (0), (by first | rfl | (simp; done) | (simp [*]; done)), (by first | rfl | (simp; done) | (simp [*]; done)), H', ⟨Nat.le_refl _⟩, ⟨by repeat (first | (with_reducible first | exact HB.out | apply qae | apply qab | apply qad) | exact HB.out)⟩⟩
  case round =>
   clear H'; (try clear c1); (try clear c2); (try clear p2); (try clear c4); (try clear c4b0); (try clear c4b1); (try clear c5); obtain ⟨x7_1, x18_1, rfl, rfl, HA, HK1, HB⟩ := hrel
   cases gk with
   | zero => exact absurd HA.out (by simp [qaO.l0])
   | succ k1 =>
    have H := HA.out; clear HA; simp only [qaO.l0] at H
    by_cases c6 : x18_1 < (l0.length : Int)
    ·rw [if_pos c6] at H; have c6b0 : decide (x18_1 < (l0.length : Int)) = true := decide_eq_true c6; clear c6; by_cases c7 : 0 ≤ x18_1
     ·rw [if_pos c7] at H; have c7b0 : decide (0 ≤ x18_1) = true := decide_eq_true c7; clear c7; by_cases c8 : x18_1 < (l0.length : Int)
      ·rw [if_pos c8] at H; have c8b0 : decide (x18_1 < (l0.length : Int)) = true := decide_eq_true c8; clear c8; replace H := Option.bind_eq_some_iff.mp H; obtain ⟨t362, A90, H⟩ := H; replace H : (if x18_1 < (l1.length : Int) then (qaO.l0 k1 l1 (wrap64 (x7_1 + (mn ((qam l0 x18_1).f1) (wrap64 (t362 - (rd l1 x18_1)))))) l0 (l0.length : Int) (wrap64 (x18_1 + 1))) else (none)) = some (r1, r2) := H
       have A9 := qac.mk A90
       clear A90; by_cases c10 : x18_1 < (l1.length : Int)
       ·rw [if_pos c10] at H; have c10b0 : decide (x18_1 < (l1.length : Int)) = true := decide_eq_true c10; clear c10; obtain ⟨ji11, hji11⟩ : ∃ j_ : Int, (mn ((qam l0 x18_1).f1) (wrap64 (t362 - (rd l1 x18_1)))) = j_ := ⟨_, rfl⟩
        replace H : (qaO.l0 k1 l1 (wrap64 (x7_1 + (ji11))) l0 (l0.length : Int) (wrap64 (x18_1 + 1))) = some (r1, r2) := by first | (rw [hji11] at H; exact H) | (simp only [hji11] at H ⊢; exact H)
        (try rw [hji11] at A9)
        have hji11_ : (if (wrap64 (t362 - (rd l1 x18_1))) < ((qam l0 x18_1).f1) then (wrap64 (t362 - (rd l1 x18_1))) else ((qam l0 x18_1).f1)) = ji11 := hji11
        have H' := qac.mk H; clear H; have p360 : 0 ≤ (x18_1 : Int) := of_decide_eq_true (by first | (with_reducible assumption) | assumption)
        have q360 : x18_1 < (l0.length : Int) := of_decide_eq_true (by first | (with_reducible assumption) | assumption)
        obtain ⟨ad360, A360_1, c360_1, e360, hx360_0, hx360_1, hx360_2, hl360_1, hi360_1⟩ := at_T32 HR0.out x18_1 p360 q360
        cases e360
        replace hx360_0 := (HB.out.cell (World.block_lt_of_cell? w _ hx360_0)).trans hx360_0
        replace hx360_1 := (HB.out.cell (World.block_lt_of_cell? w _ hx360_1)).trans hx360_1
        replace hx360_2 := (HB.out.cell (World.block_lt_of_cell? w _ hx360_2)).trans hx360_2
        have HR360_1 := qac.mk hi360_1
        have HC360_1 := qac.mk hl360_1
        clear hi360_1 hl360_1; replace p360 := eq_true p360; replace q360 := eq_true q360; try go_wp2_with (first | ((with_reducible refine qaV (N := 9) rfl ?_); refine qaU ?hg (N := 9) ?hd (cs := #[.string (⟨#[]⟩ : ByteArray), .slice none 0 0, .int .i64 0]) (t := 32) ?hr ?_; (case hd => rfl); (case hg => rfl); (case hr => first | (go_simp; done) | (go_simp; rfl)); intro gb361 hg w12 hbox hb; have n0_ := qac.mk (qaB (by repeat (first | (with_reducible first | exact HB.out | apply qae | apply qab | apply qad) | exact HB.out)) hb); have n1_ := qac.mk (hbox); have n2_ := qac.mk ((by rw [hg]; exact (qav (by repeat (first | (with_reducible first | exact HB.out | apply qae | apply qab | apply qad) | exact HB.out))) : w.heap.size ≤ gb361)); have n3_ := qac.mk ((by rw [hg]; exact (qav (by repeat (first | (with_reducible first | exact HB.out | apply qae | apply qab | apply qad) | exact HB.out))) : w.heap.size ≤ gb361)); clear HB; have HB := n0_; have BK361 := n1_; have GW361 := n2_; have GE361 := n3_; clear n0_ n1_ n2_ n3_; clear hb hbox hg; have hcz13_0 : w12.cell? ⟨gb361, 0, none⟩ = some (.string (⟨#[]⟩ : ByteArray)) := (qas BK361.out 0).trans rfl; have hcz13_1 : w12.cell? ⟨gb361, 1, none⟩ = some (.slice none 0 0) := (qas BK361.out 1).trans rfl; have hcz13_2 : w12.cell? ⟨gb361, 2, none⟩ = some (.int .i64 0) := (qas BK361.out 2).trans rfl; have hfz13_0 := qat BK361.out 0; have hfz13_1 := qat BK361.out 1; have hfz13_2 := qat BK361.out 2))
        have n0_ : qac ((((w12.setCell ⟨gb361, 0, none⟩ (.string ((qam l0 x18_1).f0.f0))).setCell ⟨gb361, 1, none⟩ (.slice A360_1 ((qam l0 x18_1).f0.f1).length c360_1)).setCell ⟨gb361, 2, none⟩ (.int .i64 ((qam l0 x18_1).f1))).heap[gb361]? = some (.cells #[.string ((qam l0 x18_1).f0.f0), .slice A360_1 ((qam l0 x18_1).f0.f1).length c360_1, .int .i64 ((qam l0 x18_1).f1)] 32 (0, 0))) := ⟨by (with_reducible repeat (first | refine qan ?_ _ | refine qap ?_ | refine qao ?_ _)); refine qa1 (cs := #[.string ((qam l0 x18_1).f0.f0), .slice A360_1 ((qam l0 x18_1).f0.f1).length c360_1, .int .i64 0]) ?_ 2 _ rfl; (with_reducible repeat (first | refine qan ?_ _ | refine qap ?_ | refine qao ?_ _)); refine qa1 (cs := #[.string ((qam l0 x18_1).f0.f0), .slice none 0 0, .int .i64 0]) ?_ 1 _ rfl; (with_reducible repeat (first | refine qan ?_ _ | refine qap ?_ | refine qao ?_ _)); refine qa1 (cs := #[.string (⟨#[]⟩ : ByteArray), .slice none 0 0, .int .i64 0]) ?_ 0 _ rfl; (with_reducible repeat (first | refine qan ?_ _ | refine qap ?_ | refine qao ?_ _)); exact BK361.out⟩
        have n1_ : qac (Below w.heap.size w (((w12.setCell ⟨gb361, 0, none⟩ (.string ((qam l0 x18_1).f0.f0))).setCell ⟨gb361, 1, none⟩ (.slice A360_1 ((qam l0 x18_1).f0.f1).length c360_1)).setCell ⟨gb361, 2, none⟩ (.int .i64 ((qam l0 x18_1).f1)))) := ⟨by repeat (first | (with_reducible first | exact HB.out | apply qae | apply qab | apply qad | refine qah ?_ GE361.out) | exact HB.out)⟩
        (try clear BK361); (try clear HB); generalize (((w12.setCell ⟨gb361, 0, none⟩ (.string ((qam l0 x18_1).f0.f0))).setCell ⟨gb361, 1, none⟩ (.slice A360_1 ((qam l0 x18_1).f0.f1).length c360_1)).setCell ⟨gb361, 2, none⟩ (.int .i64 ((qam l0 x18_1).f1))) = w14 at n0_ n1_ ⊢
        have BK361 := n0_; have HB := n1_; clear n0_ n1_; have n0_ := qac.mk (qap BK361.out)
        have n1_ := qac.mk (qad HB.out)
        clear BK361; clear HB; have BK361 := n0_; have HB := n1_; clear n0_ n1_; have p363 : 0 ≤ (x18_1 : Int) := of_decide_eq_true (by first | (with_reducible assumption) | assumption)
        have q363 : x18_1 < (l1.length : Int) := of_decide_eq_true (by first | (with_reducible assumption) | assumption)
        obtain ⟨ad363, e363, hx363_0⟩ := Kd.qbJ HR1.out x18_1 p363 q363
        have hw363_0 := hx363_0; cases e363
        replace hx363_0 := (HB.out.cell (World.block_lt_of_cell? w _ hx363_0)).trans hx363_0
        replace p363 := eq_true p363; replace q363 := eq_true q363; refine qbD (n := 14) (S := fun w' => w'.cell? ⟨gb361, 0, none⟩ = some (.string ((qam l0 x18_1).f0.f0)) ∧ w'.cell? ⟨gb361, 1, none⟩ = some (.slice A360_1 ((qam l0 x18_1).f0.f1).length c360_1) ∧ w'.cell? ⟨gb361, 2, none⟩ = some (.int .i64 ((qam l0 x18_1).f1)) ∧ w'.cell? (ad363.add (x18_1).toNat) = some (.int .i64 (rd l1 x18_1))) (ds := []) #[qF,qF,qF,qF,qF,qF,qF,qF,qF,qF,qF,qF,qF,qF] (by kernel_rfl) rfl rfl ⟨(qas BK361.out 0).trans rfl, (qas BK361.out 1).trans rfl, (qas BK361.out 2).trans rfl, ((HB.out.cell (World.block_lt_of_cell? w _ hw363_0)).trans hw363_0)⟩ (fun hHeld => ?_); refine qbj qaO.tab8 qaO.bits8 (fun HT_ HW_ => ?_)
        generalize w14.drew = w15 at BK361 HB hx363_0 hHeld ⊢
        refine qP 0 (some 23) ?_ #[qT,qF,qF,qF,qF,qF,qF,qF,qF,qF,qF,qF,qF,qF] HT_.out rfl rfl (by kernel_rfl) (fun _ _ _ h => h) (Or.inl ⟨by rfl, ?_⟩) ?_ ?_ ?_; rotate_left; ·intro w'; go_simp; with_reducible rfl
        rotate_left; ·simp only [Act.put, qy1, qy2, qy3, i64_w, i32_w]; rfl
        refine qP 1 (some 24) ?_ #[qT,qT,qF,qF,qF,qF,qF,qF,qF,qF,qF,qF,qF,qF] HT_.out rfl rfl (by kernel_rfl) (fun _ _ _ h => h) (Or.inl ⟨by rfl, ?_⟩) ?_ ?_ ?_; rotate_left; ·intro w'; go_simp; with_reducible rfl
        rotate_left; ·simp only [Act.put, qy1, qy2, qy3, i64_w, i32_w]; rfl
        refine qP 3 (some 26) ?_ #[qT,qT,qF,qT,qF,qF,qF,qF,qF,qF,qF,qF,qF,qF] HT_.out rfl rfl (by kernel_rfl) (fun _ _ _ h => h) (Or.inl ⟨by rfl, ?_⟩) ?_ ?_ ?_; rotate_left; ·intro w'; go_simp; with_reducible rfl
        rotate_left; ·simp only [Act.put, qy1, qy2, qy3, i64_w, i32_w]; rfl
        refine qP 6 (some 29) ?_ #[qT,qT,qF,qT,qF,qF,qT,qF,qF,qF,qF,qF,qF,qF] HT_.out rfl rfl (by kernel_rfl) (fun _ _ _ h => h) (Or.inl ⟨by rfl, ?_⟩) ?_ ?_ ?_; rotate_left; ·intro w'; go_simp; with_reducible rfl
        rotate_left; ·simp only [Act.put, qy1, qy2, qy3, i64_w, i32_w]; rfl
        refine qP 7 (some 30) ?_ #[qT,qT,qF,qT,qF,qF,qT,qT,qF,qF,qF,qF,qF,qF] HT_.out rfl rfl (by kernel_rfl) (fun _ _ _ h => h) (Or.inl ⟨by rfl, ?_⟩) ?_ ?_ ?_; rotate_left; ·intro w'; go_simp; with_reducible rfl
        rotate_left; ·simp only [Act.put, qy1, qy2, qy3, i64_w, i32_w]; rfl
        refine qP 8 (some 31) ?_ #[qT,qT,qF,qT,qF,qF,qT,qT,qT,qF,qF,qF,qF,qF] HT_.out rfl rfl (by kernel_rfl) (fun _ _ _ h => h) (Or.inl ⟨by rfl, ?_⟩) ?_ ?_ ?_; rotate_left; ·intro w'; go_simp; with_reducible rfl
        rotate_left; ·simp only [Act.put, qy1, qy2, qy3, i64_w, i32_w]; rfl
        refine take_ (i := 2) (N := some 25) (v := ?_) (a' := ?_) #[qT,qT,qT,qT,qF,qF,qT,qT,qT,qF,qF,qF,qF,qF] rfl rfl (qaT HT_.out HW_.out (by kernel_rfl)) (fun _ _ _ h => h) (Or.inl ⟨by rfl, ?_⟩) hHeld ?_ ?_; rotate_left; ·rintro w' ⟨s0, s1, s2, s3⟩; go_simp; with_reducible rfl
        rotate_left; ·simp only [Act.put, qy1, qy2, qy3, i64_w, i32_w]; rfl
        refine take_ (i := 4) (N := some 27) (v := ?_) (a' := ?_) #[qT,qT,qT,qT,qT,qF,qT,qT,qT,qF,qF,qF,qF,qF] rfl rfl (qaT HT_.out HW_.out (by kernel_rfl)) (fun _ _ _ h => h) (Or.inl ⟨by rfl, ?_⟩) hHeld ?_ ?_; rotate_left; ·rintro w' ⟨s0, s1, s2, s3⟩; go_simp; with_reducible rfl
        rotate_left; ·simp only [Act.put, qy1, qy2, qy3, i64_w, i32_w]; rfl
        refine take_ (i := 9) (N := some 32) (v := ?_) (a' := ?_) #[qT,qT,qT,qT,qT,qF,qT,qT,qT,qT,qF,qF,qF,qF] rfl rfl (qaT HT_.out HW_.out (by kernel_rfl)) (fun _ _ _ h => h) (Or.inl ⟨by rfl, ?_⟩) hHeld ?_ ?_; rotate_left; ·rintro w' ⟨s0, s1, s2, s3⟩; go_simp; with_reducible rfl
        rotate_left; ·simp only [Act.put, qy1, qy2, qy3, i64_w, i32_w]; rfl
        refine one_ (i := 5) (N := some 28) #[qT,qT,qT,qT,qT,qT,qT,qT,qT,qT,qF,qF,qF,qF] rfl rfl (qbH HT_.out (by kernel_rfl)) (by decide) (fun K hK => ?_)
        refine goes_ Try.func54 (by kernel_rfl) rfl #[.agg #[.string ((qam l0 x18_1).f0.f0), .slice A360_1 ((qam l0 x18_1).f0.f1).length c360_1]] (by rfl) rfl rfl (by (try simp only [qy6, qy7, qy8]); first | done | rfl | (simp only [List.length_drop, List.length_take]; rfl)) ?_
        with_reducible refine (qaP.calls k1 ((qam l0 x18_1).f0.f0) _ _ ((qam l0 x18_1).f0.f1) t362 _ ?side1 ?side2 A9.out).mono ?_
        (case side1 => repeat (first | exact (Kd.qbt HR360_1.out HB.out) | (with_reducible refine Kd.qbl ?_ _) | (with_reducible refine Kd.qbk ?_ _) | (with_reducible refine Kd.qbw ?_)))
        (case side2 => exact HC360_1.out)
        rintro e w16 ⟨rfl, hb⟩
        refine ⟨_, rfl, ?_⟩
        have n0_ := qac.mk (qaS (g := gb361) (o := .cells #[.string ((qam l0 x18_1).f0.f0), .slice A360_1 ((qam l0 x18_1).f0.f1).length c360_1, .int .i64 ((qam l0 x18_1).f1)] 32 (0, 0)) (by (with_reducible repeat (first | refine qan ?_ _ | refine qap ?_ | refine qao ?_ _)); exact BK361.out) hb)
        have n1_ := qac.mk (qaB (by repeat (first | (with_reducible first | exact HB.out | apply qae | apply qab | apply qad | refine qah ?_ GE361.out) | exact HB.out)) hb)
        clear BK361; clear HB; have BK361 := n0_; have HB := n1_; clear n0_ n1_; (try clear hb); (try clear hb2); (try clear hk); (try clear hi); refine hK.out _ _ ⟨(qas BK361.out 0).trans rfl, (qas BK361.out 1).trans rfl, (qas BK361.out 2).trans rfl, ((HB.out.cell (World.block_lt_of_cell? w _ hw363_0)).trans hw363_0)⟩ (fun hHeld => ?_)
        clear hK K; refine norm_ (a' := ?_) ?_ ?_; rotate_left
        ·show Act.put _ (some 28) _ = _
         simp only [Act.put, qy1, qy2, qy3, i64_w, i32_w]
         rfl
        refine qP 10 (some 33) ?_ #[qT,qT,qT,qT,qT,qT,qT,qT,qT,qT,qT,qF,qF,qF] HT_.out rfl rfl (by kernel_rfl) (fun _ _ _ h => h) (Or.inl ⟨by rfl, ?_⟩) ?_ ?_ ?_; rotate_left; ·intro w'; go_simp; with_reducible rfl
        rotate_left; ·simp only [Act.put, qy1, qy2, qy3, i64_w, i32_w]; rfl
        refine qP 11 (some 34) ?_ #[qT,qT,qT,qT,qT,qT,qT,qT,qT,qT,qT,qT,qF,qF] HT_.out rfl rfl (by kernel_rfl) (fun _ _ _ h => h) (Or.inl ⟨by rfl, ?_⟩) ?_ ?_ ?_; rotate_left; ·intro w'; go_simp; with_reducible rfl
        rotate_left; ·simp only [Act.put, qy1, qy2, qy3, i64_w, i32_w]; rfl
        refine qP 12 (some 35) ?_ #[qT,qT,qT,qT,qT,qT,qT,qT,qT,qT,qT,qT,qT,qF] HT_.out rfl rfl (by kernel_rfl) (fun _ _ _ h => h) (Or.inl ⟨by rfl, ?_⟩) ?_ ?_ ?_; rotate_left; ·intro w'; go_simp; with_reducible rfl
        rotate_left; ·simp only [Act.put, qy1, qy2, qy3, i64_w, i32_w]; rfl
        refine qP 13 (some 7) ?_ #[qT,qT,qT,qT,qT,qT,qT,qT,qT,qT,qT,qT,qT,qT] HT_.out rfl rfl (by kernel_rfl) (fun _ _ _ h => h) (Or.inl ⟨by rfl, ?_⟩) ?_ ?_ ?_; rotate_left; ·intro w'; go_simp; with_reducible rfl
        rotate_left; ·simp only [Act.put, qy1, qy2, qy3, i64_w, i32_w]; rfl
        refine done_ (qby HT_.out (by kernel_rfl)) ?_
        try go_wp2
        go_roundg k1
        case measure => have := HK1.out; omega
        case rel => exact ⟨(wrap64 (x7_1 + (ji11))), (wrap64 (x18_1 + 1)), (by first | rfl | (simp; done) | (simp only [← hji11] <;> (first | rfl | simp)) | (simp [*]; done)), (by first | rfl | (simp; done) | (simp [*]; done)), H', ⟨by have := HK1.out; omega⟩, ⟨by repeat (first | (with_reducible first | exact HB.out | apply qae | apply qab | apply qad | refine qah ?_ GE361.out) | exact HB.out)⟩⟩
       ·rw [if_neg c10] at H; exact absurd H (by simp)
      ·rw [if_neg c8] at H; exact absurd H (by simp)
     ·rw [if_neg c7] at H; exact absurd H (by simp)
    ·rw [if_neg c6] at H; have c6b0 : decide (x18_1 < (l0.length : Int)) = false := decide_eq_false c6; clear c6; simp only [Option.some.injEq, Prod.mk.injEq] at H
     obtain ⟨rfl, rfl⟩ := H; go_wp2; go_ret2
     exact ⟨by first | rfl | (simp [qaz, qay] <;> rfl) | (simp [*, qaz, qay] <;> rfl), by repeat (first | (with_reducible first | exact HB.out | apply qae | apply qab | apply qad) | exact HB.out)⟩
 ·rw [if_neg c4] at H; have c4b0 : (t359 == 0) = false := beq_eq_false_iff_ne.mpr c4; have c4b1 : (t359 != 0) = true := bne_iff_ne.mpr c4; simp only [Option.some.injEq, Prod.mk.injEq] at H
  obtain ⟨rfl, rfl⟩ := H; go_enter Try.func20, Try.ntmps20; go_wp2_with (first | ((with_reducible refine qaL (f := 53) rfl ?_); refine qa9 (some 12) rfl rfl Try.func53 (by kernel_rfl) rfl #[.slice A0 l0.length c0, .slice A1 l1.length c1] rfl (by (try simp only [qy6, qy7, qy8]); first | done | rfl | (simp only [List.length_drop, List.length_take]; rfl)) ?_; (with_reducible refine (qaK.calls k _ _ l0 _ _ l1 t359 _ ?side1 ?side2 ?side3 ?side4 A3.out).mono ?_); (case side1 => repeat (first | exact HR0.out | (with_reducible refine Kd.qbl ?_ _) | (with_reducible refine Kd.qbk ?_ _) | (with_reducible refine Kd.qbw ?_))); (case side2 => exact HC0.out); (case side3 => repeat (first | exact HR1.out | (with_reducible refine Kd.qbl ?_ _) | (with_reducible refine Kd.qbk ?_ _) | (with_reducible refine Kd.qbw ?_))); (case side4 => exact HC1.out); rintro e w17 ⟨rfl, hb⟩; refine ⟨_, rfl, ?_⟩; have n0_ := qac.mk (qaB (by repeat (first | (with_reducible first | exact HB.out | apply qae | apply qab | apply qad) | exact HB.out)) hb); clear HB; have HB := n0_; clear n0_; (try clear hb); (try clear hb2); (try clear hk); (try clear hi)))
  go_ret2
  exact ⟨by first | rfl | (simp [qaz, qay] <;> rfl) | (simp [*, qaz, qay] <;> rfl), by repeat (first | (with_reducible first | exact HB.out | apply qae | apply qab | apply qad) | exact HB.out)⟩
def qa7.f (a0 : Int) (a1 : Int) (a2 : Int) : Option (Int) := if (wrap64 ((wrap64 (a2 - a1)) + 1)) = 0 then (none) else (some (wrap64 (a1 + (Int.tmod (wrap64 ((Int.tmod a0 (wrap64 ((wrap64 (a2 - a1)) + 1))) + (wrap64 ((wrap64 (a2 - a1)) + 1)))) (wrap64 ((wrap64 (a2 - a1)) + 1))))))
set_option maxHeartbeats 8000000 in
set_option maxRecDepth 100000 in
theorem qa7.calls (a0 : Int) (a1 : Int) (a2 : Int) (r : Int) (w : World) (h : qa7.f a0 a1 a2 = some r) :
  Calls Try.prog 21 #[.int .i64 a0, .int .i64 a1, .int .i64 a2] w fun e w' => e = .returned (.int .i64 r) ∧ qa6 w w' := by
 have H : (if (wrap64 ((wrap64 (a2 - a1)) + 1)) = 0 then (none) else (some (wrap64 (a1 + (Int.tmod (wrap64 ((Int.tmod a0 (wrap64 ((wrap64 (a2 - a1)) + 1))) + (wrap64 ((wrap64 (a2 - a1)) + 1)))) (wrap64 ((wrap64 (a2 - a1)) + 1))))))) = some r := h
 clear h; by_cases c4 : (wrap64 ((wrap64 (a2 - a1)) + 1)) = 0
 ·rw [if_pos c4] at H; exact absurd H (by simp)
 ·rw [if_neg c4] at H; have c4b0 : ((wrap64 ((wrap64 (a2 - a1)) + 1)) == 0) = false := beq_eq_false_iff_ne.mpr c4; have c4b1 : ((wrap64 ((wrap64 (a2 - a1)) + 1)) != 0) = true := bne_iff_ne.mpr c4; obtain rfl := Option.some.inj H
  go_enter Try.func21, Try.ntmps21; go_wp2; go_ret
  exact ⟨by first | rfl | (simp; done) | (simp [*]; done), by repeat (first | exact qa6.refl _ | apply qa6.step)⟩
end Go.Proofs.Ytfcifmbddikflaa.P
