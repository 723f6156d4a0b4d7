/- Texts of the claim, put together: Px18, Px19, Px20. -/
import Derived.Test.YtfcifmbddikflaaCReserveKept14
import Derived.Test.YtfcifmbddikflaaCReserveKept19
import Derived.Test.YtfcifmbddikflaaCReserveKept16
import Derived.Test.YtfcifmbddikflaaCReserveKept17
namespace Go.Proofs.Ytfcifmbddikflaa.P
open Go.RowKit Go.Proofs.YtfcifmbddikflaaW.PrintWords Go.Proofs.YtfcifmbddikflaaW.PrintLast Go.Proofs.YtfcifmbddikflaaW.PrintMore
attribute [local go_sem] qbi qbg qbp qbo qa5 qa4 qbh qbf
set_option linter.unusedVariables false
set_option linter.unusedSimpArgs false
def qaG.l0 : Nat → Int → List (S32) → Int → Int → Option (Int × Int)
 | 0, _, _, _, _ => none
 | k + 1, x5, x13, x14, x15 => if x15 < x14 then (if 0 ≤ x15 then (if x15 < (x13.length : Int) then ((qa3.f k ((qam x13 x15).f0.f0) ((qam x13 x15).f0.f1) ((qam x13 x15).f1)).bind fun t202 => (qaG.l0 k (wrap64 (x5 + t202)) x13 x14 (wrap64 (x15 + 1)))) else (none)) else (none)) else (some (x5, 0))
def qaG.f (k : Nat) (l0 : List (S32)) : Option (Int × Int) := (qaF.f k l0).bind fun t199 => (if t199 = 0 then (qaG.l0 k 0 l0 (l0.length : Int) 0) else (some (0, t199)))
theorem qaG.qbe : ∀ k, (∀ y0 y1 y2 y3, LeO (qaG.l0 k y0 y1 y2 y3) (qaG.l0 (k + 1) y0 y1 y2 y3))
 | 0 => fun _ _ _ _ r h => by simp [qaG.l0] at h
 | k + 1 => by
  have ih0 := qaG.qbe k
  ·intro y0 y1 y2 y3; unfold qaG.l0
   repeat' first
   | (with_reducible exact ih0 _ _ _ _)
   | (with_reducible exact qaF.mono _ _)
   | (with_reducible exact qa3.mono _ _ _ _)
   | (with_reducible exact LeO.refl _)
   | (with_reducible exact LeO.none _)
   | (with_reducible refine LeO.ite ?_ ?_)
   | (with_reducible refine LeO.bind ?_ (fun _ => ?_))
   | exact ih0 _ _ _ _
   | exact qaF.mono _ _
   | exact qa3.mono _ _ _ _
   | exact LeO.none _
   | refine LeO.ite ?_ ?_
   | refine LeO.bind ?_ (fun _ => ?_)
theorem qaG.mono : ∀ a0 k, LeO (qaG.f k a0) (qaG.f (k + 1) a0) := by
 intro a0 k; have ih0 := qaG.qbe k
 unfold qaG.f
 repeat' first
   | (with_reducible exact ih0 _ _ _ _)
   | (with_reducible exact qaF.mono _ _)
   | (with_reducible exact qa3.mono _ _ _ _)
   | (with_reducible exact LeO.refl _)
   | (with_reducible exact LeO.none _)
   | (with_reducible refine LeO.ite ?_ ?_)
   | (with_reducible refine LeO.bind ?_ (fun _ => ?_))
   | exact ih0 _ _ _ _
   | exact qaF.mono _ _
   | exact qa3.mono _ _ _ _
   | exact LeO.none _
   | refine LeO.ite ?_ ?_
   | refine LeO.bind ?_ (fun _ => ?_)
set_option maxHeartbeats 8000000 in
set_option maxRecDepth 100000 in
theorem qaG.calls (k : Nat) (A0 : Option Addr) (c0 : Nat) (l0 : List (S32)) (r1 : Int) (r2 : Int) (w : World) (hr0 : Kd.C k32 w A0 l0.length l0) (hc0 : l0.length ≤ c0) (h : qaG.f k l0 = some (r1, r2)) :
  Calls Try.prog 15 #[.slice A0 l0.length c0] w fun e w' => e = .returned (.tuple #[.int .i64 r1, .int .i64 r2]) ∧ Below w.heap.size w w' := by
 have hu32 := Try.underlying32; have HR0 := qac.mk hr0
 have HC0 := qac.mk hc0
 clear hr0 hc0; have HB := qac.mk (Below.refl w.heap.size w)
 have H : ((qaF.f k l0).bind fun t199 => (if t199 = 0 then (qaG.l0 k 0 l0 (l0.length : Int) 0) else (some (0, t199)))) = some (r1, r2) := h
 clear h; replace H := Option.bind_eq_some_iff.mp H; obtain ⟨t199, A20, H⟩ := H; replace H : (if t199 = 0 then (qaG.l0 k 0 l0 (l0.length : Int) 0) else (some (0, t199))) = some (r1, r2) := H
 have A2 := qac.mk A20
 clear A20; by_cases c3 : t199 = 0
 ·rw [if_pos c3] at H; have c3b0 : (t199 == 0) = true := beq_iff_eq.mpr c3; have c3b1 : (t199 != 0) = false := bne_eq_false_iff_eq.mpr c3; clear c3; have H' := qac.mk H; clear H; go_enter Try.func15, Try.ntmps15; go_wp2_with (first | ((with_reducible refine qaL (f := 19) rfl ?_); refine qa9 (some 9) rfl rfl Try.func19 (by kernel_rfl) rfl #[.slice A0 l0.length c0] rfl (by (try simp only [qy6, qy7, qy8]); first | done | rfl | (simp only [List.length_drop, List.length_take]; rfl)) ?_; (with_reducible refine (qaF.calls k (fun k_ => k_ < w.heap.size) _ _ l0 t199 _ ?side1 A2.out).mono ?_); (case side1 => exact Kd.V_mk HC0.out (Kd.F_below (Kd.C_F k32_heap HR0.out) (by repeat (first | (with_reducible first | exact HB.out | apply qae | apply qab | apply qad) | exact HB.out)))); rintro e w4 ⟨rfl, hb⟩; refine ⟨_, rfl, ?_⟩; have n0_ := qac.mk (qaB (by repeat (first | (with_reducible first | exact HB.out | apply qae | apply qab | apply qad) | exact HB.out)) hb); clear HB; have HB := n0_; clear n0_; (try clear hb); (try clear hb2); (try clear hk); (try clear hi)))
  (try simp only [Act.put, List.setIfInBounds_toArray, List.set_cons_zero, List.set_cons_succ])
  go_loopg [5, 15] k (fun kq v5 v15 w' => ∃ (x5_1 : Int) (x15_1 : Int), v5 = .int .i64 x5_1 ∧ v15 = .int .i64 x15_1 ∧ qac (qaG.l0 kq x5_1 l0 (l0.length : Int) x15_1 = some (r1, r2)) ∧ qac (kq ≤ k) ∧ qac (Below w.heap.size w w'))
  case atStart => exact ⟨(0), (0), (by first | rfl | (simp; done) | (simp [*]; done)), (by first | rfl | (simp; done) | (simp [*]; done)), H', ⟨Nat.le_refl _⟩, ⟨by repeat (first | (with_reducible first | exact HB.out | apply qae | apply qab | apply qad) | exact HB.out)⟩⟩
  case round =>
   clear H'; (try clear c1); (try clear p2); (try clear c3); (try clear c3b0); (try clear c3b1); obtain ⟨x5_1, x15_1, rfl, rfl, HA, HK1, HB⟩ := hrel
   cases gk with
   | zero => exact absurd HA.out (by simp [qaG.l0])
   | succ k1 =>
    have H := HA.out; clear HA; simp only [qaG.l0] at H
    by_cases c5 : x15_1 < (l0.length : Int)
    ·rw [if_pos c5] at H; have c5b0 : decide (x15_1 < (l0.length : Int)) = true := decide_eq_true c5; clear c5; by_cases c6 : 0 ≤ x15_1
     ·rw [if_pos c6] at H; have c6b0 : decide (0 ≤ x15_1) = true := decide_eq_true c6; clear c6; by_cases c7 : x15_1 < (l0.length : Int)
      ·rw [if_pos c7] at H; have c7b0 : decide (x15_1 < (l0.length : Int)) = true := decide_eq_true c7; clear c7; replace H := Option.bind_eq_some_iff.mp H; obtain ⟨t202, A80, H⟩ := H; replace H : (qaG.l0 k1 (wrap64 (x5_1 + t202)) l0 (l0.length : Int) (wrap64 (x15_1 + 1))) = some (r1, r2) := H
       have A8 := qac.mk A80
       clear A80; have H' := qac.mk H; clear H; have p200 : 0 ≤ (x15_1 : Int) := of_decide_eq_true (by first | (with_reducible assumption) | assumption)
       have q200 : x15_1 < (l0.length : Int) := of_decide_eq_true (by first | (with_reducible assumption) | assumption)
       obtain ⟨ad200, A200_1, c200_1, e200, hx200_0, hx200_1, hx200_2, hl200_1, hi200_1⟩ := at_T32 HR0.out x15_1 p200 q200
       cases e200
       replace hx200_0 := (HB.out.cell (World.block_lt_of_cell? w _ hx200_0)).trans hx200_0
       replace hx200_1 := (HB.out.cell (World.block_lt_of_cell? w _ hx200_1)).trans hx200_1
       replace hx200_2 := (HB.out.cell (World.block_lt_of_cell? w _ hx200_2)).trans hx200_2
       have HR200_1 := qac.mk hi200_1
       have HC200_1 := qac.mk hl200_1
       clear hi200_1 hl200_1; replace p200 := eq_true p200; replace q200 := eq_true q200; go_wp2_with (first | ((with_reducible refine qaV (N := 7) rfl ?_); refine qaU ?hg (N := 7) ?hd (cs := #[.string (⟨#[]⟩ : ByteArray), .slice none 0 0, .int .i64 0]) (t := 32) ?hr ?_; (case hd => rfl); (case hg => rfl); (case hr => first | (go_simp; done) | (go_simp; rfl)); intro gb201 hg w9 hbox hb; have n0_ := qac.mk (qaB (by repeat (first | (with_reducible first | exact HB.out | apply qae | apply qab | apply qad) | exact HB.out)) hb); have n1_ := qac.mk (hbox); have n2_ := qac.mk ((by rw [hg]; exact (qav (by repeat (first | (with_reducible first | exact HB.out | apply qae | apply qab | apply qad) | exact HB.out))) : w.heap.size ≤ gb201)); have n3_ := qac.mk ((by rw [hg]; exact (qav (by repeat (first | (with_reducible first | exact HB.out | apply qae | apply qab | apply qad) | exact HB.out))) : w.heap.size ≤ gb201)); clear HB; have HB := n0_; have BK201 := n1_; have GW201 := n2_; have GE201 := n3_; clear n0_ n1_ n2_ n3_; clear hb hbox hg; have hcz10_0 : w9.cell? ⟨gb201, 0, none⟩ = some (.string (⟨#[]⟩ : ByteArray)) := (qas BK201.out 0).trans rfl; have hcz10_1 : w9.cell? ⟨gb201, 1, none⟩ = some (.slice none 0 0) := (qas BK201.out 1).trans rfl; have hcz10_2 : w9.cell? ⟨gb201, 2, none⟩ = some (.int .i64 0) := (qas BK201.out 2).trans rfl; have hfz10_0 := qat BK201.out 0; have hfz10_1 := qat BK201.out 1; have hfz10_2 := qat BK201.out 2) | ((with_reducible refine qaL (f := 41) rfl ?_); refine qa9 (some 21) rfl rfl Try.func41 (by kernel_rfl) rfl #[.agg #[.string ((qam l0 x15_1).f0.f0), .slice A200_1 ((qam l0 x15_1).f0.f1).length c200_1, .int .i64 ((qam l0 x15_1).f1)]] rfl (by (try simp only [qy6, qy7, qy8]); first | done | rfl | (simp only [List.length_drop, List.length_take]; rfl)) ?_; (with_reducible refine (qa3.calls k1 ((qam l0 x15_1).f0.f0) _ _ ((qam l0 x15_1).f0.f1) ((qam l0 x15_1).f1) t202 _ ?side1 ?side2 A8.out).mono ?_); (case side1 => exact Kd.qbt HR200_1.out (by repeat (first | (with_reducible first | exact HB.out | apply qae | apply qab | apply qad | refine qah ?_ GE201.out) | exact HB.out))); (case side2 => exact HC200_1.out); rintro e w11 ⟨rfl, hb⟩; refine ⟨_, rfl, ?_⟩; have n0_ := qac.mk (qaS (g := gb201) (o := .cells #[.string ((qam l0 x15_1).f0.f0), .slice A200_1 ((qam l0 x15_1).f0.f1).length c200_1, .int .i64 ((qam l0 x15_1).f1)] 32 (0, 0)) (by (with_reducible repeat (first | refine qan ?_ _ | refine qap ?_ | refine qao ?_ _)); refine qa1 (cs := #[.string ((qam l0 x15_1).f0.f0), .slice A200_1 ((qam l0 x15_1).f0.f1).length c200_1, .int .i64 0]) ?_ 2 _ rfl; (with_reducible repeat (first | refine qan ?_ _ | refine qap ?_ | refine qao ?_ _)); refine qa1 (cs := #[.string ((qam l0 x15_1).f0.f0), .slice none 0 0, .int .i64 0]) ?_ 1 _ rfl; (with_reducible repeat (first | refine qan ?_ _ | refine qap ?_ | refine qao ?_ _)); refine qa1 (cs := #[.string (⟨#[]⟩ : ByteArray), .slice none 0 0, .int .i64 0]) ?_ 0 _ rfl; (with_reducible repeat (first | refine qan ?_ _ | refine qap ?_ | refine qao ?_ _)); exact BK201.out) hb); have n1_ := qac.mk (qaB (by repeat (first | (with_reducible first | exact HB.out | apply qae | apply qab | apply qad | refine qah ?_ GE201.out) | exact HB.out)) hb); clear BK201; clear HB; have BK201 := n0_; have HB := n1_; clear n0_ n1_; (try clear hb); (try clear hb2); (try clear hk); (try clear hi)))
       go_roundg k1
       case measure => have := HK1.out; omega
       case rel => exact ⟨(wrap64 (x5_1 + t202)), (wrap64 (x15_1 + 1)), (by first | rfl | (simp; done) | (simp [*]; done)), (by first | rfl | (simp; done) | (simp [*]; done)), H', ⟨by have := HK1.out; omega⟩, ⟨by repeat (first | (with_reducible first | exact HB.out | apply qae | apply qab | apply qad | refine qah ?_ GE201.out) | exact HB.out)⟩⟩
      ·rw [if_neg c7] at H; exact absurd H (by simp)
     ·rw [if_neg c6] at H; exact absurd H (by simp)
    ·rw [if_neg c5] at H; have c5b0 : decide (x15_1 < (l0.length : Int)) = false := decide_eq_false c5; clear c5; simp only [Option.some.injEq, Prod.mk.injEq] at H
     obtain ⟨rfl, rfl⟩ := H; go_wp2; go_ret2
     exact ⟨by first | rfl | (simp [qaz, qay] <;> rfl) | (simp [*, qaz, qay] <;> rfl), by repeat (first | (with_reducible first | exact HB.out | apply qae | apply qab | apply qad) | exact HB.out)⟩
 ·rw [if_neg c3] at H; have c3b0 : (t199 == 0) = false := beq_eq_false_iff_ne.mpr c3; have c3b1 : (t199 != 0) = true := bne_iff_ne.mpr c3; simp only [Option.some.injEq, Prod.mk.injEq] at H
  obtain ⟨rfl, rfl⟩ := H; go_enter Try.func15, Try.ntmps15; go_wp2_with (first | ((with_reducible refine qaL (f := 19) rfl ?_); refine qa9 (some 9) rfl rfl Try.func19 (by kernel_rfl) rfl #[.slice A0 l0.length c0] rfl (by (try simp only [qy6, qy7, qy8]); first | done | rfl | (simp only [List.length_drop, List.length_take]; rfl)) ?_; (with_reducible refine (qaF.calls k (fun k_ => k_ < w.heap.size) _ _ l0 t199 _ ?side1 A2.out).mono ?_); (case side1 => exact Kd.V_mk HC0.out (Kd.F_below (Kd.C_F k32_heap HR0.out) (by repeat (first | (with_reducible first | exact HB.out | apply qae | apply qab | apply qad) | exact HB.out)))); rintro e w12 ⟨rfl, hb⟩; refine ⟨_, rfl, ?_⟩; have n0_ := qac.mk (qaB (by repeat (first | (with_reducible first | exact HB.out | apply qae | apply qab | apply qad) | exact HB.out)) hb); clear HB; have HB := n0_; clear n0_; (try clear hb); (try clear hb2); (try clear hk); (try clear hi)))
  go_ret2
  exact ⟨by first | rfl | (simp [qaz, qay] <;> rfl) | (simp [*, qaz, qay] <;> rfl), by repeat (first | (with_reducible first | exact HB.out | apply qae | apply qab | apply qad) | exact HB.out)⟩
def cmp_isNaN_int.f (a0 : Int) : Option (Bool) := some (a0 != a0)
set_option maxHeartbeats 8000000 in
set_option maxRecDepth 100000 in
theorem cmp_isNaN_int.calls (a0 : Int) (r : Bool) (w : World) (h : cmp_isNaN_int.f a0 = some r) :
  Calls Try.prog 81 #[.int .i64 a0] w fun e w' => e = .returned (.bool r) ∧ qa6 w w' := by
 have H : (some (a0 != a0)) = some r := h
 clear h; obtain rfl := Option.some.inj H
 go_enter Try.func81, Try.ntmps81; go_wp2; go_ret
 exact ⟨by first | rfl | (simp; done) | (simp [*]; done), by repeat (first | exact qa6.refl _ | apply qa6.step)⟩
def cmp_Compare_int.f (a0 : Int) (a1 : Int) : Option (Int) := (cmp_isNaN_int.f a0).bind fun t203 => ((cmp_isNaN_int.f a1).bind fun t204 => (if t203 = true then (if t204 = true then (some 0) else (some (-1))) else (if t204 = true then (some 1) else (if a0 < a1 then (some (-1)) else (if a0 > a1 then (some 1) else (some 0))))))
set_option maxHeartbeats 8000000 in
set_option maxRecDepth 100000 in
theorem cmp_Compare_int.calls (a0 : Int) (a1 : Int) (r : Int) (w : World) (h : cmp_Compare_int.f a0 a1 = some r) :
  Calls Try.prog 57 #[.int .i64 a0, .int .i64 a1] w fun e w' => e = .returned (.int .i64 r) ∧ qa6 w w' := by
 have H : ((cmp_isNaN_int.f a0).bind fun t203 => ((cmp_isNaN_int.f a1).bind fun t204 => (if t203 = true then (if t204 = true then (some 0) else (some (-1))) else (if t204 = true then (some 1) else (if a0 < a1 then (some (-1)) else (if a0 > a1 then (some 1) else (some 0))))))) = some r := h
 clear h; replace H := Option.bind_eq_some_iff.mp H; obtain ⟨t203, A30, H⟩ := H; replace H : ((cmp_isNaN_int.f a1).bind fun t204 => (if t203 = true then (if t204 = true then (some 0) else (some (-1))) else (if t204 = true then (some 1) else (if a0 < a1 then (some (-1)) else (if a0 > a1 then (some 1) else (some 0)))))) = some r := H
 have A3 := qac.mk A30
 clear A30; replace H := Option.bind_eq_some_iff.mp H; obtain ⟨t204, A40, H⟩ := H; replace H : (if t203 = true then (if t204 = true then (some 0) else (some (-1))) else (if t204 = true then (some 1) else (if a0 < a1 then (some (-1)) else (if a0 > a1 then (some 1) else (some 0))))) = some r := H
 have A4 := qac.mk A40
 clear A40; by_cases c5 : t203 = true
 ·subst c5; have H1 : (if t204 = true then (some 0) else (some (-1))) = some r := by rw [if_pos rfl] at H; exact H
  clear H; have H := H1; clear H1; by_cases c6 : t204 = true
  ·subst c6; have H1 : (some 0) = some r := by rw [if_pos rfl] at H; exact H
   clear H; have H := H1; clear H1; obtain rfl := Option.some.inj H
   go_enter Try.func57, Try.ntmps57; go_wp2_with (first | ((with_reducible refine qaL (f := 81) rfl ?_); refine qa9 (some 8) rfl rfl Try.func81 (by kernel_rfl) rfl #[.int .i64 a0] rfl (by (try simp only [qy6, qy7, qy8]); first | done | rfl | (simp only [List.length_drop, List.length_take]; rfl)) ?_; (with_reducible refine (cmp_isNaN_int.calls a0 true _ A3.out).mono ?_); rintro e w' ⟨rfl, ⟨nd, rfl⟩⟩; refine ⟨_, rfl, ?_⟩) | ((with_reducible refine qaL (f := 81) rfl ?_); refine qa9 (some 10) rfl rfl Try.func81 (by kernel_rfl) rfl #[.int .i64 a1] rfl (by (try simp only [qy6, qy7, qy8]); first | done | rfl | (simp only [List.length_drop, List.length_take]; rfl)) ?_; (with_reducible refine (cmp_isNaN_int.calls a1 true _ A4.out).mono ?_); rintro e w' ⟨rfl, ⟨nd, rfl⟩⟩; refine ⟨_, rfl, ?_⟩))
   go_ret
   exact ⟨by first | rfl | (simp; done) | (simp [*]; done), by repeat (first | exact qa6.refl _ | apply qa6.step)⟩
  ·replace c6 := Bool.eq_false_iff.mpr c6
   subst c6; have H1 : (some (-1)) = some r := by rw [if_neg (show ¬ (false = true) by decide)] at H; exact H
   clear H; have H := H1; clear H1; obtain rfl := Option.some.inj H
   go_enter Try.func57, Try.ntmps57; go_wp2_with (first | ((with_reducible refine qaL (f := 81) rfl ?_); refine qa9 (some 8) rfl rfl Try.func81 (by kernel_rfl) rfl #[.int .i64 a0] rfl (by (try simp only [qy6, qy7, qy8]); first | done | rfl | (simp only [List.length_drop, List.length_take]; rfl)) ?_; (with_reducible refine (cmp_isNaN_int.calls a0 true _ A3.out).mono ?_); rintro e w' ⟨rfl, ⟨nd, rfl⟩⟩; refine ⟨_, rfl, ?_⟩) | ((with_reducible refine qaL (f := 81) rfl ?_); refine qa9 (some 10) rfl rfl Try.func81 (by kernel_rfl) rfl #[.int .i64 a1] rfl (by (try simp only [qy6, qy7, qy8]); first | done | rfl | (simp only [List.length_drop, List.length_take]; rfl)) ?_; (with_reducible refine (cmp_isNaN_int.calls a1 false _ A4.out).mono ?_); rintro e w' ⟨rfl, ⟨nd, rfl⟩⟩; refine ⟨_, rfl, ?_⟩))
   go_ret
   exact ⟨by first | rfl | (simp; done) | (simp [*]; done), by repeat (first | exact qa6.refl _ | apply qa6.step)⟩
 ·replace c5 := Bool.eq_false_iff.mpr c5
  subst c5; have H1 : (if t204 = true then (some 1) else (if a0 < a1 then (some (-1)) else (if a0 > a1 then (some 1) else (some 0)))) = some r := by rw [if_neg (show ¬ (false = true) by decide)] at H; exact H
  clear H; have H := H1; clear H1; by_cases c7 : t204 = true
  ·subst c7; have H1 : (some 1) = some r := by rw [if_pos rfl] at H; exact H
   clear H; have H := H1; clear H1; obtain rfl := Option.some.inj H
   go_enter Try.func57, Try.ntmps57; go_wp2_with (first | ((with_reducible refine qaL (f := 81) rfl ?_); refine qa9 (some 8) rfl rfl Try.func81 (by kernel_rfl) rfl #[.int .i64 a0] rfl (by (try simp only [qy6, qy7, qy8]); first | done | rfl | (simp only [List.length_drop, List.length_take]; rfl)) ?_; (with_reducible refine (cmp_isNaN_int.calls a0 false _ A3.out).mono ?_); rintro e w' ⟨rfl, ⟨nd, rfl⟩⟩; refine ⟨_, rfl, ?_⟩) | ((with_reducible refine qaL (f := 81) rfl ?_); refine qa9 (some 10) rfl rfl Try.func81 (by kernel_rfl) rfl #[.int .i64 a1] rfl (by (try simp only [qy6, qy7, qy8]); first | done | rfl | (simp only [List.length_drop, List.length_take]; rfl)) ?_; (with_reducible refine (cmp_isNaN_int.calls a1 true _ A4.out).mono ?_); rintro e w' ⟨rfl, ⟨nd, rfl⟩⟩; refine ⟨_, rfl, ?_⟩))
   go_ret
   exact ⟨by first | rfl | (simp; done) | (simp [*]; done), by repeat (first | exact qa6.refl _ | apply qa6.step)⟩
  ·replace c7 := Bool.eq_false_iff.mpr c7
   subst c7; have H1 : (if a0 < a1 then (some (-1)) else (if a0 > a1 then (some 1) else (some 0))) = some r := by rw [if_neg (show ¬ (false = true) by decide)] at H; exact H
   clear H; have H := H1; clear H1; by_cases c8 : a0 < a1
   ·rw [if_pos c8] at H; have c8b0 : decide (a0 < a1) = true := decide_eq_true c8; clear c8; obtain rfl := Option.some.inj H
    go_enter Try.func57, Try.ntmps57; go_wp2_with (first | ((with_reducible refine qaL (f := 81) rfl ?_); refine qa9 (some 8) rfl rfl Try.func81 (by kernel_rfl) rfl #[.int .i64 a0] rfl (by (try simp only [qy6, qy7, qy8]); first | done | rfl | (simp only [List.length_drop, List.length_take]; rfl)) ?_; (with_reducible refine (cmp_isNaN_int.calls a0 false _ A3.out).mono ?_); rintro e w' ⟨rfl, ⟨nd, rfl⟩⟩; refine ⟨_, rfl, ?_⟩) | ((with_reducible refine qaL (f := 81) rfl ?_); refine qa9 (some 10) rfl rfl Try.func81 (by kernel_rfl) rfl #[.int .i64 a1] rfl (by (try simp only [qy6, qy7, qy8]); first | done | rfl | (simp only [List.length_drop, List.length_take]; rfl)) ?_; (with_reducible refine (cmp_isNaN_int.calls a1 false _ A4.out).mono ?_); rintro e w' ⟨rfl, ⟨nd, rfl⟩⟩; refine ⟨_, rfl, ?_⟩))
    go_ret
    exact ⟨by first | rfl | (simp; done) | (simp [*]; done), by repeat (first | exact qa6.refl _ | apply qa6.step)⟩
   ·rw [if_neg c8] at H; have c8b0 : decide (a0 < a1) = false := decide_eq_false c8; clear c8; by_cases c9 : a0 > a1
    ·rw [if_pos c9] at H; have c9b0 : decide (a1 < a0) = true := decide_eq_true c9; clear c9; obtain rfl := Option.some.inj H
     go_enter Try.func57, Try.ntmps57; go_wp2_with (first | ((with_reducible refine qaL (f := 81) rfl ?_); refine qa9 (some 8) rfl rfl Try.func81 (by kernel_rfl) rfl #[.int .i64 a0] rfl (by (try simp only [qy6, qy7, qy8]); first | done | rfl | (simp only [List.length_drop, List.length_take]; rfl)) ?_; (with_reducible refine (cmp_isNaN_int.calls a0 false _ A3.out).mono ?_); rintro e w' ⟨rfl, ⟨nd, rfl⟩⟩; refine ⟨_, rfl, ?_⟩) | ((with_reducible refine qaL (f := 81) rfl ?_); refine qa9 (some 10) rfl rfl Try.func81 (by kernel_rfl) rfl #[.int .i64 a1] rfl (by (try simp only [qy6, qy7, qy8]); first | done | rfl | (simp only [List.length_drop, List.length_take]; rfl)) ?_; (with_reducible refine (cmp_isNaN_int.calls a1 false _ A4.out).mono ?_); rintro e w' ⟨rfl, ⟨nd, rfl⟩⟩; refine ⟨_, rfl, ?_⟩))
     go_ret
     exact ⟨by first | rfl | (simp; done) | (simp [*]; done), by repeat (first | exact qa6.refl _ | apply qa6.step)⟩
    ·rw [if_neg c9] at H; have c9b0 : decide (a1 < a0) = false := decide_eq_false c9; clear c9; obtain rfl := Option.some.inj H
     go_enter Try.func57, Try.ntmps57; go_wp2_with (first | ((with_reducible refine qaL (f := 81) rfl ?_); refine qa9 (some 8) rfl rfl Try.func81 (by kernel_rfl) rfl #[.int .i64 a0] rfl (by (try simp only [qy6, qy7, qy8]); first | done | rfl | (simp only [List.length_drop, List.length_take]; rfl)) ?_; (with_reducible refine (cmp_isNaN_int.calls a0 false _ A3.out).mono ?_); rintro e w' ⟨rfl, ⟨nd, rfl⟩⟩; refine ⟨_, rfl, ?_⟩) | ((with_reducible refine qaL (f := 81) rfl ?_); refine qa9 (some 10) rfl rfl Try.func81 (by kernel_rfl) rfl #[.int .i64 a1] rfl (by (try simp only [qy6, qy7, qy8]); first | done | rfl | (simp only [List.length_drop, List.length_take]; rfl)) ?_; (with_reducible refine (cmp_isNaN_int.calls a1 false _ A4.out).mono ?_); rintro e w' ⟨rfl, ⟨nd, rfl⟩⟩; refine ⟨_, rfl, ?_⟩))
     go_ret
     exact ⟨by first | rfl | (simp; done) | (simp [*]; done), by repeat (first | exact qa6.refl _ | apply qa6.step)⟩
def qaZ.l0 : Nat → Int → List Int → Int → Int → Option (Int)
 | 0, _, _, _, _ => none
 | k + 1, x3, x6, x7, x8 => if x8 < x7 then (if 0 ≤ x8 then (if x8 < (x6.length : Int) then (if (rd x6 x8) = x3 then (qaZ.l0 k x3 x6 x7 (wrap64 (x8 + 1))) else (some (rd x6 x8))) else (none)) else (none)) else (some x3)
def qaZ.f (k : Nat) (l0 : List Int) : Option (Int) := qaZ.l0 k 0 l0 (l0.length : Int) 0
theorem qaZ.qbe : ∀ k, (∀ y0 y1 y2 y3, LeO (qaZ.l0 k y0 y1 y2 y3) (qaZ.l0 (k + 1) y0 y1 y2 y3))
 | 0 => fun _ _ _ _ r h => by simp [qaZ.l0] at h
 | k + 1 => by
  have ih0 := qaZ.qbe k
  ·intro y0 y1 y2 y3; unfold qaZ.l0
   repeat' first
   | (with_reducible exact ih0 _ _ _ _)
   | (with_reducible exact LeO.refl _)
   | (with_reducible exact LeO.none _)
   | (with_reducible refine LeO.ite ?_ ?_)
   | (with_reducible refine LeO.bind ?_ (fun _ => ?_))
   | exact ih0 _ _ _ _
   | exact LeO.none _
   | refine LeO.ite ?_ ?_
   | refine LeO.bind ?_ (fun _ => ?_)
theorem qaZ.mono : ∀ a0 k, LeO (qaZ.f k a0) (qaZ.f (k + 1) a0) := by
 intro a0 k; have ih0 := qaZ.qbe k
 unfold qaZ.f
 repeat' first
   | (with_reducible exact ih0 _ _ _ _)
   | (with_reducible exact LeO.refl _)
   | (with_reducible exact LeO.none _)
   | (with_reducible refine LeO.ite ?_ ?_)
   | (with_reducible refine LeO.bind ?_ (fun _ => ?_))
   | exact ih0 _ _ _ _
   | exact LeO.none _
   | refine LeO.ite ?_ ?_
   | refine LeO.bind ?_ (fun _ => ?_)
set_option maxHeartbeats 8000000 in
set_option maxRecDepth 100000 in
theorem qaZ.calls (k : Nat) (A0 : Option Addr) (c0 : Nat) (l0 : List Int) (r : Int) (w : World) (hr0 : Kd.C (Kd.int .i64) w A0 l0.length l0) (hc0 : l0.length ≤ c0) (h : qaZ.f k l0 = some r) :
  Calls Try.prog 76 #[.slice A0 l0.length c0] w fun e w' => e = .returned (.int .i64 r) ∧ qa6 w w' := by
 have HR0 := qac.mk hr0
 have HC0 := qac.mk hc0
 clear hr0 hc0; have H : (qaZ.l0 k 0 l0 (l0.length : Int) 0) = some r := h
 clear h; have H' := qac.mk H; clear H; go_enter Try.func76, Try.ntmps76; go_wp2; go_loopg [8] k (fun kq v8 w' => ∃ (x8_1 : Int), v8 = .int .i64 x8_1 ∧ qac (qaZ.l0 kq 0 l0 (l0.length : Int) x8_1 = some r) ∧ qac (kq ≤ k) ∧ qa6 w w')
 case atStart => exact ⟨(0), (by first | rfl | (simp; done) | (simp [*]; done)), H', ⟨Nat.le_refl _⟩, by repeat (first | exact qa6.refl _ | apply qa6.step)⟩
 case round =>
  clear H'; obtain ⟨x8_1, rfl, HA, HK1, ⟨m1, rfl⟩⟩ := hrel
  cases gk with
  | zero => exact absurd HA.out (by simp [qaZ.l0])
  | succ k1 =>
   have H := HA.out; clear HA; simp only [qaZ.l0] at H
   by_cases c2 : x8_1 < (l0.length : Int)
   ·rw [if_pos c2] at H; have c2b0 : decide (x8_1 < (l0.length : Int)) = true := decide_eq_true c2; clear c2; by_cases c3 : 0 ≤ x8_1
    ·rw [if_pos c3] at H; have c3b0 : decide (0 ≤ x8_1) = true := decide_eq_true c3; clear c3; by_cases c4 : x8_1 < (l0.length : Int)
     ·rw [if_pos c4] at H; have c4b0 : decide (x8_1 < (l0.length : Int)) = true := decide_eq_true c4; clear c4; by_cases c5 : (rd l0 x8_1) = 0
      ·rw [if_pos c5] at H; have c5b0 : ((rd l0 x8_1) == 0) = true := beq_iff_eq.mpr c5; have c5b1 : ((rd l0 x8_1) != 0) = false := bne_eq_false_iff_eq.mpr c5; clear c5; have H' := qac.mk H; clear H; have p205 : 0 ≤ (x8_1 : Int) := of_decide_eq_true (by first | (with_reducible assumption) | assumption)
       have q205 : x8_1 < (l0.length : Int) := of_decide_eq_true (by first | (with_reducible assumption) | assumption)
       obtain ⟨ad205, e205, hx205_0⟩ := Kd.qbJ HR0.out x8_1 p205 q205
       cases e205
       replace p205 := eq_true p205; replace q205 := eq_true q205; go_wp2; go_roundg k1
       case measure => have := HK1.out; omega
       case rel => exact ⟨(wrap64 (x8_1 + 1)), (by first | rfl | (simp; done) | (simp [*]; done)), H', ⟨by have := HK1.out; omega⟩, by repeat (first | exact qa6.refl _ | apply qa6.step)⟩
      ·rw [if_neg c5] at H; have c5b0 : ((rd l0 x8_1) == 0) = false := beq_eq_false_iff_ne.mpr c5; have c5b1 : ((rd l0 x8_1) != 0) = true := bne_iff_ne.mpr c5; obtain rfl := Option.some.inj H
       have p205 : 0 ≤ (x8_1 : Int) := of_decide_eq_true (by first | (with_reducible assumption) | assumption)
       have q205 : x8_1 < (l0.length : Int) := of_decide_eq_true (by first | (with_reducible assumption) | assumption)
       obtain ⟨ad205, e205, hx205_0⟩ := Kd.qbJ HR0.out x8_1 p205 q205
       cases e205
       replace p205 := eq_true p205; replace q205 := eq_true q205; go_wp2; go_ret
       exact ⟨by first | rfl | (simp; done) | (simp [*]; done), by repeat (first | exact qa6.refl _ | apply qa6.step)⟩
     ·rw [if_neg c4] at H; exact absurd H (by simp)
    ·rw [if_neg c3] at H; exact absurd H (by simp)
   ·rw [if_neg c2] at H; have c2b0 : decide (x8_1 < (l0.length : Int)) = false := decide_eq_false c2; clear c2; obtain rfl := Option.some.inj H
    go_wp2; go_ret
    exact ⟨by first | rfl | (simp; done) | (simp [*]; done), by repeat (first | exact qa6.refl _ | apply qa6.step)⟩
end Go.Proofs.Ytfcifmbddikflaa.P
