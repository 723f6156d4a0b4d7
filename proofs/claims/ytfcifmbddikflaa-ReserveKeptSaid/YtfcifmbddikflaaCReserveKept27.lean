/- Texts of the claim, put together: Px32. -/
import Derived.Test.YtfcifmbddikflaaCReserveKept14
import Derived.Test.YtfcifmbddikflaaCReserveKept19
import Derived.Test.YtfcifmbddikflaaCReserveKept20
import Derived.Test.YtfcifmbddikflaaCReserveKept25
import Derived.Test.YtfcifmbddikflaaCReserveKept26
import Derived.Test.YtfcifmbddikflaaCReserveKept21
import Derived.Test.YtfcifmbddikflaaCReserveKept16
import Derived.Test.YtfcifmbddikflaaCReserveKept17
namespace Go.Proofs.Ytfcifmbddikflaa.P
open Go.RowKit Go.Proofs.YtfcifmbddikflaaW.PrintWords Go.Proofs.YtfcifmbddikflaaW.PrintLast Go.Proofs.YtfcifmbddikflaaW.PrintMore
attribute [local go_sem] qbi qbg qbp qbo qa5 qa4 qbh qbf
set_option linter.unusedVariables false
set_option linter.unusedSimpArgs false
mutual
def qaj.j0 : Nat → List (S32) → Int → Int → Int → Bool → Option (List Int × Int × Int)
 | 0, _, _, _, _, _ => none
 | k + 1, x0, x1, x2, x9, x47 => if x47 = true then (some (([] : List Int), 0, 4)) else ((qaD.f k x0).bind fun bt294 => ((qaQ.f k bt294.1).bind fun t300 => (if x2 > x9 then (qaj.j1 k x0 x1 x2 x9 bt294.1 bt294.2 (mx 0 (wrap64 (x1 - t300))) true) else (qaj.j1 k x0 x1 x2 x9 bt294.1 bt294.2 (mx 0 (wrap64 (x1 - t300))) (decide ((mx 0 (wrap64 (x1 - t300))) > (wrap64 (x9 - x2))))))))
def qaj.j1 : Nat → List (S32) → Int → Int → Int → List (S102) → List (S102) → Int → Bool → Option (List Int × Int × Int)
 | 0, _, _, _, _, _, _, _, _ => none
 | k + 1, x0, x1, x2, x9, x11, x12, x13, x67 => if x67 = true then (some (([] : List Int), 0, 8)) else ((qaM.f k x11 (wrap64 (x1 - x13))).bind fun t301 => ((qaM.f k x12 x13).bind fun t304 => ((qaq.f k x11 x12 t301 t304 (wrap64 ((wrap64 (x9 - x2)) - x13))).bind fun bt307 => (if 0 ≤ (x0.length : Int) then (if ((x0.length : Int) : Int).toNat ≤ 35184372088832 then (qaj.l0 k x0 x12 bt307.1 bt307.2 (List.replicate ((x0.length : Int) : Int).toNat 0) x11 (x11.length : Int) 0) else (none)) else (none)))))
def qaj.l0 : Nat → List (S32) → List (S102) → List Int → List Int → List Int → List (S102) → Int → Int → Option (List Int × Int × Int)
 | 0, _, _, _, _, _, _, _, _ => none
 | k + 1, x0, x12, x14, x15, x16, x89, x90, x91 => if x91 < x90 then (if 0 ≤ x91 then (if x91 < (x89.length : Int) then (if 0 ≤ ((qag x89 x91).f0) then (if ((qag x89 x91).f0) < (x16.length : Int) then (if x91 < (x14.length : Int) then (qaj.l0 k x0 x12 x14 x15 (x16.set (((qag x89 x91).f0) : Int).toNat (wrap64 ((rd x16 ((qag x89 x91).f0)) + (rd x14 x91)))) x89 x90 (wrap64 (x91 + 1))) else (none)) else (none)) else (none)) else (none)) else (none)) else (qaj.l1 k x0 x15 x16 x12 (x12.length : Int) 0)
def qaj.l1 : Nat → List (S32) → List Int → List Int → List (S102) → Int → Int → Option (List Int × Int × Int)
 | 0, _, _, _, _, _, _ => none
 | k + 1, x0, x15, x16, x108, x109, x110 => if x110 < x109 then (if 0 ≤ x110 then (if x110 < (x108.length : Int) then (if 0 ≤ ((qag x108 x110).f0) then (if ((qag x108 x110).f0) < (x16.length : Int) then (if x110 < (x15.length : Int) then (qaj.l1 k x0 x15 (x16.set (((qag x108 x110).f0) : Int).toNat (wrap64 ((rd x16 ((qag x108 x110).f0)) + (rd x15 x110)))) x108 x109 (wrap64 (x110 + 1))) else (none)) else (none)) else (none)) else (none)) else (none)) else (qaj.l2 k x16 0 x0 (x0.length : Int) 0)
def qaj.l2 : Nat → List Int → Int → List (S32) → Int → Int → Option (List Int × Int × Int)
 | 0, _, _, _, _, _ => none
 | k + 1, x16, x21, x127, x128, x129 => if x129 < x128 then (if 0 ≤ x129 then (if x129 < (x127.length : Int) then (if x129 < (x16.length : Int) then ((qaR.f k ((qam x127 x129).f0.f0) ((qam x127 x129).f0.f1) (rd x16 x129)).bind fun bt325 => (qaj.l2 k x16 (wrap64 (x21 + bt325.1)) x127 x128 (wrap64 (x129 + 1)))) else (none)) else (none)) else (none)) else (some (x16, x21, 0))
end
def qaj.f (k : Nat) (l0 : List (S32)) (a1 : Int) (a2 : Int) : Option (List Int × Int × Int) := (qaG.f k l0).bind fun bt292 => (if bt292.2 = 0 then (if a1 < 0 then (qaj.j0 k l0 a1 a2 bt292.1 true) else (if a1 > 1000000 then (qaj.j0 k l0 a1 a2 bt292.1 true) else (if a2 < 0 then (qaj.j0 k l0 a1 a2 bt292.1 true) else (qaj.j0 k l0 a1 a2 bt292.1 (decide (a2 > 1000000)))))) else (some (([] : List Int), 0, bt292.2)))
theorem qaj.qbe : ∀ k, (∀ y0 y1 y2 y3 y4, LeO (qaj.j0 k y0 y1 y2 y3 y4) (qaj.j0 (k + 1) y0 y1 y2 y3 y4)) ∧ (∀ y0 y1 y2 y3 y4 y5 y6 y7, LeO (qaj.j1 k y0 y1 y2 y3 y4 y5 y6 y7) (qaj.j1 (k + 1) y0 y1 y2 y3 y4 y5 y6 y7)) ∧ (∀ y0 y1 y2 y3 y4 y5 y6 y7, LeO (qaj.l0 k y0 y1 y2 y3 y4 y5 y6 y7) (qaj.l0 (k + 1) y0 y1 y2 y3 y4 y5 y6 y7)) ∧ (∀ y0 y1 y2 y3 y4 y5, LeO (qaj.l1 k y0 y1 y2 y3 y4 y5) (qaj.l1 (k + 1) y0 y1 y2 y3 y4 y5)) ∧ (∀ y0 y1 y2 y3 y4, LeO (qaj.l2 k y0 y1 y2 y3 y4) (qaj.l2 (k + 1) y0 y1 y2 y3 y4))
 | 0 => ⟨fun _ _ _ _ _ r h => by simp [qaj.j0] at h, fun _ _ _ _ _ _ _ _ r h => by simp [qaj.j1] at h, fun _ _ _ _ _ _ _ _ r h => by simp [qaj.l0] at h, fun _ _ _ _ _ _ r h => by simp [qaj.l1] at h, fun _ _ _ _ _ r h => by simp [qaj.l2] at h⟩
 | k + 1 => by
  obtain ⟨ih0, ih1, ih2, ih3, ih4⟩ := qaj.qbe k
  refine ⟨?_, ?_, ?_, ?_, ?_⟩
  ·intro y0 y1 y2 y3 y4; unfold qaj.j0
   repeat' first
   | (with_reducible exact ih0 _ _ _ _ _)
   | (with_reducible exact ih1 _ _ _ _ _ _ _ _)
   | (with_reducible exact ih2 _ _ _ _ _ _ _ _)
   | (with_reducible exact ih3 _ _ _ _ _ _)
   | (with_reducible exact ih4 _ _ _ _ _)
   | (with_reducible exact qaR.mono _ _ _ _)
   | (with_reducible exact qaG.mono _ _)
   | (with_reducible exact qaq.mono _ _ _ _ _ _)
   | (with_reducible exact qaD.mono _ _)
   | (with_reducible exact qaM.mono _ _ _)
   | (with_reducible exact qaQ.mono _ _)
   | (with_reducible exact LeO.refl _)
   | (with_reducible exact LeO.none _)
   | (with_reducible refine LeO.ite ?_ ?_)
   | (with_reducible refine LeO.bind ?_ (fun _ => ?_))
   | exact ih0 _ _ _ _ _
   | exact ih1 _ _ _ _ _ _ _ _
   | exact ih2 _ _ _ _ _ _ _ _
   | exact ih3 _ _ _ _ _ _
   | exact ih4 _ _ _ _ _
   | exact qaR.mono _ _ _ _
   | exact qaG.mono _ _
   | exact qaq.mono _ _ _ _ _ _
   | exact qaD.mono _ _
   | exact qaM.mono _ _ _
   | exact qaQ.mono _ _
   | exact LeO.none _
   | refine LeO.ite ?_ ?_
   | refine LeO.bind ?_ (fun _ => ?_)
  ·intro y0 y1 y2 y3 y4 y5 y6 y7; unfold qaj.j1
   repeat' first
   | (with_reducible exact ih0 _ _ _ _ _)
   | (with_reducible exact ih1 _ _ _ _ _ _ _ _)
   | (with_reducible exact ih2 _ _ _ _ _ _ _ _)
   | (with_reducible exact ih3 _ _ _ _ _ _)
   | (with_reducible exact ih4 _ _ _ _ _)
   | (with_reducible exact qaR.mono _ _ _ _)
   | (with_reducible exact qaG.mono _ _)
   | (with_reducible exact qaq.mono _ _ _ _ _ _)
   | (with_reducible exact qaD.mono _ _)
   | (with_reducible exact qaM.mono _ _ _)
   | (with_reducible exact qaQ.mono _ _)
   | (with_reducible exact LeO.refl _)
   | (with_reducible exact LeO.none _)
   | (with_reducible refine LeO.ite ?_ ?_)
   | (with_reducible refine LeO.bind ?_ (fun _ => ?_))
   | exact ih0 _ _ _ _ _
   | exact ih1 _ _ _ _ _ _ _ _
   | exact ih2 _ _ _ _ _ _ _ _
   | exact ih3 _ _ _ _ _ _
   | exact ih4 _ _ _ _ _
   | exact qaR.mono _ _ _ _
   | exact qaG.mono _ _
   | exact qaq.mono _ _ _ _ _ _
   | exact qaD.mono _ _
   | exact qaM.mono _ _ _
   | exact qaQ.mono _ _
   | exact LeO.none _
   | refine LeO.ite ?_ ?_
   | refine LeO.bind ?_ (fun _ => ?_)
  ·intro y0 y1 y2 y3 y4 y5 y6 y7; unfold qaj.l0
   repeat' first
   | (with_reducible exact ih0 _ _ _ _ _)
   | (with_reducible exact ih1 _ _ _ _ _ _ _ _)
   | (with_reducible exact ih2 _ _ _ _ _ _ _ _)
   | (with_reducible exact ih3 _ _ _ _ _ _)
   | (with_reducible exact ih4 _ _ _ _ _)
   | (with_reducible exact qaR.mono _ _ _ _)
   | (with_reducible exact qaG.mono _ _)
   | (with_reducible exact qaq.mono _ _ _ _ _ _)
   | (with_reducible exact qaD.mono _ _)
   | (with_reducible exact qaM.mono _ _ _)
   | (with_reducible exact qaQ.mono _ _)
   | (with_reducible exact LeO.refl _)
   | (with_reducible exact LeO.none _)
   | (with_reducible refine LeO.ite ?_ ?_)
   | (with_reducible refine LeO.bind ?_ (fun _ => ?_))
   | exact ih0 _ _ _ _ _
   | exact ih1 _ _ _ _ _ _ _ _
   | exact ih2 _ _ _ _ _ _ _ _
   | exact ih3 _ _ _ _ _ _
   | exact ih4 _ _ _ _ _
   | exact qaR.mono _ _ _ _
   | exact qaG.mono _ _
   | exact qaq.mono _ _ _ _ _ _
   | exact qaD.mono _ _
   | exact qaM.mono _ _ _
   | exact qaQ.mono _ _
   | exact LeO.none _
   | refine LeO.ite ?_ ?_
   | refine LeO.bind ?_ (fun _ => ?_)
  ·intro y0 y1 y2 y3 y4 y5; unfold qaj.l1
   repeat' first
   | (with_reducible exact ih0 _ _ _ _ _)
   | (with_reducible exact ih1 _ _ _ _ _ _ _ _)
   | (with_reducible exact ih2 _ _ _ _ _ _ _ _)
   | (with_reducible exact ih3 _ _ _ _ _ _)
   | (with_reducible exact ih4 _ _ _ _ _)
   | (with_reducible exact qaR.mono _ _ _ _)
   | (with_reducible exact qaG.mono _ _)
   | (with_reducible exact qaq.mono _ _ _ _ _ _)
   | (with_reducible exact qaD.mono _ _)
   | (with_reducible exact qaM.mono _ _ _)
   | (with_reducible exact qaQ.mono _ _)
   | (with_reducible exact LeO.refl _)
   | (with_reducible exact LeO.none _)
   | (with_reducible refine LeO.ite ?_ ?_)
   | (with_reducible refine LeO.bind ?_ (fun _ => ?_))
   | exact ih0 _ _ _ _ _
   | exact ih1 _ _ _ _ _ _ _ _
   | exact ih2 _ _ _ _ _ _ _ _
   | exact ih3 _ _ _ _ _ _
   | exact ih4 _ _ _ _ _
   | exact qaR.mono _ _ _ _
   | exact qaG.mono _ _
   | exact qaq.mono _ _ _ _ _ _
   | exact qaD.mono _ _
   | exact qaM.mono _ _ _
   | exact qaQ.mono _ _
   | exact LeO.none _
   | refine LeO.ite ?_ ?_
   | refine LeO.bind ?_ (fun _ => ?_)
  ·intro y0 y1 y2 y3 y4; unfold qaj.l2
   repeat' first
   | (with_reducible exact ih0 _ _ _ _ _)
   | (with_reducible exact ih1 _ _ _ _ _ _ _ _)
   | (with_reducible exact ih2 _ _ _ _ _ _ _ _)
   | (with_reducible exact ih3 _ _ _ _ _ _)
   | (with_reducible exact ih4 _ _ _ _ _)
   | (with_reducible exact qaR.mono _ _ _ _)
   | (with_reducible exact qaG.mono _ _)
   | (with_reducible exact qaq.mono _ _ _ _ _ _)
   | (with_reducible exact qaD.mono _ _)
   | (with_reducible exact qaM.mono _ _ _)
   | (with_reducible exact qaQ.mono _ _)
   | (with_reducible exact LeO.refl _)
   | (with_reducible exact LeO.none _)
   | (with_reducible refine LeO.ite ?_ ?_)
   | (with_reducible refine LeO.bind ?_ (fun _ => ?_))
   | exact ih0 _ _ _ _ _
   | exact ih1 _ _ _ _ _ _ _ _
   | exact ih2 _ _ _ _ _ _ _ _
   | exact ih3 _ _ _ _ _ _
   | exact ih4 _ _ _ _ _
   | exact qaR.mono _ _ _ _
   | exact qaG.mono _ _
   | exact qaq.mono _ _ _ _ _ _
   | exact qaD.mono _ _
   | exact qaM.mono _ _ _
   | exact qaQ.mono _ _
   | exact LeO.none _
   | refine LeO.ite ?_ ?_
   | refine LeO.bind ?_ (fun _ => ?_)
theorem qaj.mono : ∀ a0 a1 a2 k, LeO (qaj.f k a0 a1 a2) (qaj.f (k + 1) a0 a1 a2) := by
 intro a0 a1 a2 k; obtain ⟨ih0, ih1, ih2, ih3, ih4⟩ := qaj.qbe k
 unfold qaj.f
 repeat' first
   | (with_reducible exact ih0 _ _ _ _ _)
   | (with_reducible exact ih1 _ _ _ _ _ _ _ _)
   | (with_reducible exact ih2 _ _ _ _ _ _ _ _)
   | (with_reducible exact ih3 _ _ _ _ _ _)
   | (with_reducible exact ih4 _ _ _ _ _)
   | (with_reducible exact qaR.mono _ _ _ _)
   | (with_reducible exact qaG.mono _ _)
   | (with_reducible exact qaq.mono _ _ _ _ _ _)
   | (with_reducible exact qaD.mono _ _)
   | (with_reducible exact qaM.mono _ _ _)
   | (with_reducible exact qaQ.mono _ _)
   | (with_reducible exact LeO.refl _)
   | (with_reducible exact LeO.none _)
   | (with_reducible refine LeO.ite ?_ ?_)
   | (with_reducible refine LeO.bind ?_ (fun _ => ?_))
   | exact ih0 _ _ _ _ _
   | exact ih1 _ _ _ _ _ _ _ _
   | exact ih2 _ _ _ _ _ _ _ _
   | exact ih3 _ _ _ _ _ _
   | exact ih4 _ _ _ _ _
   | exact qaR.mono _ _ _ _
   | exact qaG.mono _ _
   | exact qaq.mono _ _ _ _ _ _
   | exact qaD.mono _ _
   | exact qaM.mono _ _ _
   | exact qaQ.mono _ _
   | exact LeO.none _
   | refine LeO.ite ?_ ?_
   | refine LeO.bind ?_ (fun _ => ?_)
def qaj.T16 : Bool × List (List Nat × List Nat) := (true, [([], []), ([], []), ([1], [1]), ([0, 2], [0, 2]), ([3], [3]), ([], []), ([], []), ([5, 6], [5, 6]), ([7], [7]), ([4, 8], [4, 8]), ([0, 2, 0, 1, 2, 3, 4, 5, 6, 7, 8, 9], [0, 2]), ([10, 9, 0, 1, 2, 3, 4, 5, 6, 7, 8, 9], [9, 10])])
def qaj.B16 : List Nat := [0, 0, 2, 7, 15, 0, 0, 96, 224, 511, 1023, 2047]
theorem qaj.tab16 : rtab .any (opsOf Try.f17 16) = qaj.T16 := by kernel_rfl
theorem qaj.bits16 : waitsOk qaj.T16.2 qaj.B16 = true := by kernel_rfl
def qaj.T21 : Bool × List (List Nat × List Nat) := (true, [([], []), ([], []), ([1], [1]), ([0, 2], [0, 2]), ([3], [3]), ([], []), ([], []), ([5, 6], [5, 6]), ([7], [7]), ([4, 8], [4, 8]), ([0, 2, 0, 1, 2, 3, 4, 5, 6, 7, 8, 9], [0, 2]), ([10, 9, 0, 1, 2, 3, 4, 5, 6, 7, 8, 9], [9, 10])])
def qaj.B21 : List Nat := [0, 0, 2, 7, 15, 0, 0, 96, 224, 511, 1023, 2047]
theorem qaj.tab21 : rtab .any (opsOf Try.f17 21) = qaj.T21 := by kernel_rfl
theorem qaj.bits21 : waitsOk qaj.T21.2 qaj.B21 = true := by kernel_rfl
def qaj.T27 : Bool × List (List Nat × List Nat) := (true, [([], []), ([0], [0]), ([], []), ([], []), ([2, 3], [2, 3]), ([4], [4]), ([1, 5], [1, 5]), ([6], [6]), ([7], [7]), ([7], [7]), ([8, 6, 0, 1, 2, 3, 4, 5, 6, 7, 8], [8]), ([9, 10, 0, 1, 2, 3, 4, 5, 6, 7, 8, 9, 10], [9])])
def qaj.B27 : List Nat := [0, 1, 0, 0, 12, 28, 63, 127, 255, 255, 511, 2047]
theorem qaj.tab27 : rtab .any (opsOf Try.f17 27) = qaj.T27 := by kernel_rfl
theorem qaj.bits27 : waitsOk qaj.T27.2 qaj.B27 = true := by kernel_rfl
set_option maxHeartbeats 8000000 in
set_option maxRecDepth 100000 in
theorem qaj.calls (k : Nat) (A0 : Option Addr) (c0 : Nat) (l0 : List (S32)) (a1 : Int) (a2 : Int) (r1 : List Int) (r2 : Int) (r3 : Int) (w : World) (hr0 : Kd.C k32 w A0 l0.length l0) (hc0 : l0.length ≤ c0) (h : qaj.f k l0 a1 a2 = some (r1, r2, r3)) :
  Calls Try.prog 17 #[.slice A0 l0.length c0, .int .i64 a1, .int .i64 a2] w fun e w' => ∃ v0_ : Value, e = .returned (.tuple #[v0_, .int .i64 r2, .int .i64 r3]) ∧ Kd.R (Kd.int .i64) 3 w' w.heap.size (fun _ => True) v0_ r1 ∧ Below w.heap.size w w' := by
 have hu102 := Try.underlying102; have hu32 := Try.underlying32; have hu29 := Try.underlying29; have HR0 := qac.mk hr0
 have HC0 := qac.mk hc0
 clear hr0 hc0; have HB := qac.mk (Below.refl w.heap.size w)
 have H : ((qaG.f k l0).bind fun bt292 => (if bt292.2 = 0 then (if a1 < 0 then (qaj.j0 k l0 a1 a2 bt292.1 true) else (if a1 > 1000000 then (qaj.j0 k l0 a1 a2 bt292.1 true) else (if a2 < 0 then (qaj.j0 k l0 a1 a2 bt292.1 true) else (qaj.j0 k l0 a1 a2 bt292.1 (decide (a2 > 1000000)))))) else (some (([] : List Int), 0, bt292.2)))) = some (r1, r2, r3) := h
 clear h; replace H := Option.bind_eq_some_iff.mp H; obtain ⟨⟨t292, t293⟩, A40, H⟩ := H
 replace H : (if t293 = 0 then (if a1 < 0 then (qaj.j0 k l0 a1 a2 t292 true) else (if a1 > 1000000 then (qaj.j0 k l0 a1 a2 t292 true) else (if a2 < 0 then (qaj.j0 k l0 a1 a2 t292 true) else (qaj.j0 k l0 a1 a2 t292 (decide (a2 > 1000000)))))) else (some (([] : List Int), 0, t293))) = some (r1, r2, r3) := H
 have A4 := qac.mk A40
 clear A40; by_cases c5 : t293 = 0
 ·rw [if_pos c5] at H; have c5b0 : (t293 == 0) = true := beq_iff_eq.mpr c5; have c5b1 : (t293 != 0) = false := bne_eq_false_iff_eq.mpr c5; clear c5; have HC6 := qac.mk H; clear H; go_enter Try.func17, Try.ntmps17; go_upto_region 4 with (first | ((with_reducible refine qaL (f := 15) rfl ?_); refine qa9 (some 28) rfl rfl Try.func15 (by kernel_rfl) rfl #[.slice A0 l0.length c0] rfl (by (try simp only [qy6, qy7, qy8]); first | done | rfl | (simp only [List.length_drop, List.length_take]; rfl)) ?_; (with_reducible refine (qaG.calls k _ _ l0 t292 t293 _ ?side1 ?side2 A4.out).mono ?_); (case side1 => repeat (first | exact HR0.out | (with_reducible refine Kd.qbl ?_ _) | (with_reducible refine Kd.qbk ?_ _) | (with_reducible refine Kd.qbw ?_))); (case side2 => exact HC0.out); rintro e w7 ⟨rfl, hb⟩; refine ⟨_, rfl, ?_⟩; have n0_ := qac.mk (qaB (by repeat (first | (with_reducible first | exact HB.out | apply qae | apply qab | apply qad) | exact HB.out)) hb); clear HB; have HB := n0_; clear n0_; (try clear hb); (try clear hb2); (try clear hk); (try clear hi)))
  (try simp only [Act.put, List.setIfInBounds_toArray, List.set_cons_zero, List.set_cons_succ])
  go_cut [47] (fun v47 wc => ∃ (kq : Nat) (x47_5 : Bool), v47 = .bool x47_5 ∧ qac (qaj.j0 kq l0 a1 a2 t292 x47_5 = some (r1, r2, r3)) ∧ qac (kq ≤ k) ∧ qac (Below w.heap.size w wc))
  case first =>
   have H := HC6.out; clear HC6; by_cases c8 : a1 < 0
   ·rw [if_pos c8] at H; have c8b0 : decide (a1 < 0) = true := decide_eq_true c8; clear c8; (first | rw [c8b0] | (simp only [i64_w, i32_w]; rw [c8b0]) | skip)
    have H' := qac.mk H; clear H; go_wp2; (refine Met.intro ?_; go_step; first | ((repeat apply Exists.intro); refine ⟨?rel, rfl⟩) | ((try simp only [c8b0] at H' ⊢); (try simp only [c5b1] at H' ⊢); (try simp only [c5b0] at H' ⊢); (repeat apply Exists.intro); refine ⟨?rel, rfl⟩))
    case rel => exact ⟨_, (true), (by first | rfl | (simp; done) | (simp [*]; done)), H', ⟨by first | omega | exact Nat.le_refl _⟩, ⟨by repeat (first | (with_reducible first | exact HB.out | apply qae | apply qab | apply qad) | exact HB.out)⟩⟩
   ·rw [if_neg c8] at H; have c8b0 : decide (a1 < 0) = false := decide_eq_false c8; clear c8; (first | rw [c8b0] | (simp only [i64_w, i32_w]; rw [c8b0]) | skip)
    by_cases c9 : a1 > 1000000
    ·rw [if_pos c9] at H; have c9b0 : decide (1000000 < a1) = true := decide_eq_true c9; clear c9; have H' := qac.mk H; clear H; go_wp2; (refine Met.intro ?_; go_step; first | ((repeat apply Exists.intro); refine ⟨?rel, rfl⟩) | ((try simp only [c9b0] at H' ⊢); (try simp only [c8b0] at H' ⊢); (try simp only [c5b1] at H' ⊢); (try simp only [c5b0] at H' ⊢); (repeat apply Exists.intro); refine ⟨?rel, rfl⟩))
     case rel => exact ⟨_, (true), (by first | rfl | (simp; done) | (simp [*]; done)), H', ⟨by first | omega | exact Nat.le_refl _⟩, ⟨by repeat (first | (with_reducible first | exact HB.out | apply qae | apply qab | apply qad) | exact HB.out)⟩⟩
    ·rw [if_neg c9] at H; have c9b0 : decide (1000000 < a1) = false := decide_eq_false c9; clear c9; by_cases c10 : a2 < 0
     ·rw [if_pos c10] at H; have c10b0 : decide (a2 < 0) = true := decide_eq_true c10; clear c10; have H' := qac.mk H; clear H; go_wp2; (refine Met.intro ?_; go_step; first | ((repeat apply Exists.intro); refine ⟨?rel, rfl⟩) | ((try simp only [c10b0] at H' ⊢); (try simp only [c9b0] at H' ⊢); (try simp only [c8b0] at H' ⊢); (try simp only [c5b1] at H' ⊢); (try simp only [c5b0] at H' ⊢); (repeat apply Exists.intro); refine ⟨?rel, rfl⟩))
      case rel => exact ⟨_, (true), (by first | rfl | (simp; done) | (simp [*]; done)), H', ⟨by first | omega | exact Nat.le_refl _⟩, ⟨by repeat (first | (with_reducible first | exact HB.out | apply qae | apply qab | apply qad) | exact HB.out)⟩⟩
     ·rw [if_neg c10] at H; have c10b0 : decide (a2 < 0) = false := decide_eq_false c10; clear c10; have H' := qac.mk H; clear H; go_wp2; (refine Met.intro ?_; go_step; first | ((repeat apply Exists.intro); refine ⟨?rel, rfl⟩) | ((try simp only [c10b0] at H' ⊢); (try simp only [c9b0] at H' ⊢); (try simp only [c8b0] at H' ⊢); (try simp only [c5b1] at H' ⊢); (try simp only [c5b0] at H' ⊢); (repeat apply Exists.intro); refine ⟨?rel, rfl⟩))
      case rel => exact ⟨_, (decide (a2 > 1000000)), (by first | rfl | (simp; done) | (simp [*]; done)), H', ⟨by first | omega | exact Nat.le_refl _⟩, ⟨by repeat (first | (with_reducible first | exact HB.out | apply qae | apply qab | apply qad) | exact HB.out)⟩⟩
  case rest =>
   clear HC6; (try clear c1); (try clear p2); (try clear c5); (try clear c5b0); (try clear c5b1); (try clear c8); (try clear c8b0); (try clear c9); (try clear c9b0); (try clear c10); (try clear c10b0); obtain ⟨kq, x47_5, rfl, HA, HJ5, HB⟩ := hcut
   cases kq with
   | zero => exact absurd HA.out (by simp [qaj.j0])
   | succ kj5 =>
    have H := HA.out; clear HA; simp only [qaj.j0] at H
    by_cases c11 : x47_5 = true
    ·subst c11; have H1 : (some (([] : List Int), 0, 4)) = some (r1, r2, r3) := by rw [if_pos rfl] at H; exact H
     clear H; have H := H1; clear H1; simp only [Option.some.injEq, Prod.mk.injEq] at H
     obtain ⟨rfl, rfl, rfl⟩ := H; go_wp2; go_ret3
     exact ⟨_, by first | rfl | (simp [qaz, qay] <;> rfl) | (simp [*, qaz, qay] <;> rfl), by first | exact Kd.R_nil _ _ _ _ _ | exact Kd.N_nil _ _ _ _ _ | exact Kd.V_nil _ _ _ _ _ | exact Kd.Q_nil _ _ _ _ _ | exact Kd.S_nil _ _ _ _ _, by repeat (first | (with_reducible first | exact HB.out | apply qae | apply qab | apply qad) | exact HB.out)⟩
    ·replace c11 := Bool.eq_false_iff.mpr c11
     subst c11; have H1 : ((qaD.f kj5 l0).bind fun bt294 => ((qaQ.f kj5 bt294.1).bind fun t300 => (if a2 > t292 then (qaj.j1 kj5 l0 a1 a2 t292 bt294.1 bt294.2 (mx 0 (wrap64 (a1 - t300))) true) else (qaj.j1 kj5 l0 a1 a2 t292 bt294.1 bt294.2 (mx 0 (wrap64 (a1 - t300))) (decide ((mx 0 (wrap64 (a1 - t300))) > (wrap64 (t292 - a2)))))))) = some (r1, r2, r3) := by rw [if_neg (show ¬ (false = true) by decide)] at H; exact H
     clear H; have H := H1; clear H1; replace H := Option.bind_eq_some_iff.mp H; obtain ⟨⟨t294, t295⟩, A120, H⟩ := H
     replace H : ((qaQ.f kj5 t294).bind fun t300 => (if a2 > t292 then (qaj.j1 kj5 l0 a1 a2 t292 t294 t295 (mx 0 (wrap64 (a1 - t300))) true) else (qaj.j1 kj5 l0 a1 a2 t292 t294 t295 (mx 0 (wrap64 (a1 - t300))) (decide ((mx 0 (wrap64 (a1 - t300))) > (wrap64 (t292 - a2))))))) = some (r1, r2, r3) := H
     have A12 := qac.mk A120
     clear A120; replace H := Option.bind_eq_some_iff.mp H; obtain ⟨t300, A130, H⟩ := H; replace H : (if a2 > t292 then (qaj.j1 kj5 l0 a1 a2 t292 t294 t295 (mx 0 (wrap64 (a1 - t300))) true) else (qaj.j1 kj5 l0 a1 a2 t292 t294 t295 (mx 0 (wrap64 (a1 - t300))) (decide ((mx 0 (wrap64 (a1 - t300))) > (wrap64 (t292 - a2)))))) = some (r1, r2, r3) := H
     have A13 := qac.mk A130
     clear A130; obtain ⟨ji14, hji14⟩ : ∃ j_ : Int, (mx 0 (wrap64 (a1 - t300))) = j_ := ⟨_, rfl⟩
     replace H : (if a2 > t292 then (qaj.j1 kj5 l0 a1 a2 t292 t294 t295 ji14 true) else (qaj.j1 kj5 l0 a1 a2 t292 t294 t295 ji14 (decide ((ji14) > (wrap64 (t292 - a2)))))) = some (r1, r2, r3) := by first | (rw [hji14] at H; exact H) | (simp only [hji14] at H ⊢; exact H)
     (try rw [hji14] at A12)
     (try rw [hji14] at A13)
     have hji14_ : (if 0 < (wrap64 (a1 - t300)) then (wrap64 (a1 - t300)) else 0) = ji14 := hji14
     have HC15 := qac.mk H; clear H; go_upto_region 8 with (first | ((with_reducible refine qaL (f := 42) rfl ?_); refine qa9 (some 50) rfl rfl Try.func42 (by kernel_rfl) rfl #[.slice A0 l0.length c0] rfl (by (try simp only [qy6, qy7, qy8]); first | done | rfl | (simp only [List.length_drop, List.length_take]; rfl)) ?_; (with_reducible refine (qaD.calls kj5 _ _ l0 t294 t295 _ ?side1 ?side2 A12.out).mono ?_); (case side1 => repeat (first | exact (Kd.qbt HR0.out HB.out) | (with_reducible refine Kd.qbl ?_ _) | (with_reducible refine Kd.qbk ?_ _) | (with_reducible refine Kd.qbw ?_))); (case side2 => exact HC0.out); rintro e w16 ⟨v296, v298, rfl, ho0, ho1, hb⟩; refine ⟨_, rfl, ?_⟩; have n0_ := qac.mk (Kd.qbG ho0 (qav (by repeat (first | (with_reducible first | exact HB.out | apply qae | apply qab | apply qad) | exact HB.out)))); have n1_ := qac.mk (Kd.qbG ho1 (qav (by repeat (first | (with_reducible first | exact HB.out | apply qae | apply qab | apply qad) | exact HB.out)))); have n2_ := qac.mk (qaB (by repeat (first | (with_reducible first | exact HB.out | apply qae | apply qab | apply qad) | exact HB.out)) hb); clear HB; have HO297 := n0_; have HO299 := n1_; have HB := n2_; clear n0_ n1_ n2_; (try clear hb); (try clear hb2); (try clear hk); (try clear hi); (try clear ho0); (try clear ho1); obtain ⟨Ao17, co17, eo17⟩ := Kd.qbc HO297.out; subst eo17) | ((with_reducible refine qaL (f := 43) rfl ?_); refine qa9 (some 55) rfl rfl Try.func43 (by kernel_rfl) rfl #[.slice Ao17 t294.length co17] rfl (by (try simp only [qy6, qy7, qy8]); first | done | rfl | (simp only [List.length_drop, List.length_take]; rfl)) ?_; (with_reducible refine (qaQ.calls kj5 _ _ t294 t300 _ ?side1 ?side2 A13.out).mono ?_); (case side1 => repeat (first | exact (Kd.qaN HO297.out).2.2 | (with_reducible refine Kd.qbl ?_ _) | (with_reducible refine Kd.qbk ?_ _) | (with_reducible refine Kd.qbw ?_))); (case side2 => exact (Kd.qaN HO297.out).2.1); rintro e w18 ⟨rfl, hb⟩; refine ⟨_, rfl, ?_⟩; have n0_ := qac.mk (Kd.qa8 (by (with_reducible repeat (first | apply Kd.qax | apply Kd.qaw | apply Kd.qaA)); exact HO297.out) hb); have n1_ := qac.mk (Kd.qa8 (by (with_reducible repeat (first | apply Kd.qax | apply Kd.qaw | apply Kd.qaA)); exact HO299.out) hb); have n2_ := qac.mk (qaB (by repeat (first | (with_reducible first | exact HB.out | apply qae | apply qab | apply qad) | exact HB.out)) hb); clear HO297; clear HO299; clear HB; have HO297 := n0_; have HO299 := n1_; have HB := n2_; clear n0_ n1_ n2_; (try clear hb); (try clear hb2); (try clear hk); (try clear hi)))
     (try simp only [Act.put, List.setIfInBounds_toArray, List.set_cons_zero, List.set_cons_succ])
     go_cut [67] (fun v67 wc => ∃ (kq : Nat) (x67_14 : Bool), v67 = .bool x67_14 ∧ qac (qaj.j1 kq l0 a1 a2 t292 t294 t295 ji14 x67_14 = some (r1, r2, r3)) ∧ qac (kq ≤ kj5) ∧ qac (Kd.R k102 102 wc w.heap.size (fun k_ => some k_ ≠ (v298 : Value).ownBlock) (.slice Ao17 t294.length co17) t294) ∧ qac (Kd.R k102 102 wc w.heap.size (fun k_ => some k_ ≠ ((.slice Ao17 t294.length co17) : Value).ownBlock) v298 t295) ∧ qac (Below w.heap.size w wc))
     case first =>
      have H := HC15.out; clear HC15; by_cases c19 : a2 > t292
      ·rw [if_pos c19] at H; have c19b0 : decide (t292 < a2) = true := decide_eq_true c19; clear c19; (first | rw [c19b0] | (simp only [i64_w, i32_w]; rw [c19b0]) | skip)
       have H' := qac.mk H; clear H; go_wp2; (refine Met.intro ?_; go_step; first | ((repeat apply Exists.intro); refine ⟨?rel, rfl⟩) | ((try simp only [c19b0] at H' ⊢); (try simp only [c5b1] at H' ⊢); (try simp only [c5b0] at H' ⊢); (repeat apply Exists.intro); refine ⟨?rel, rfl⟩))
       case rel => exact ⟨_, (true), (by first | rfl | (simp; done) | (simp [*]; done)), H', ⟨by have := HJ5.out; first | omega | exact Nat.le_refl _⟩, ⟨by (with_reducible repeat (first | apply Kd.qax | apply Kd.qaw | apply Kd.qaA)); exact HO297.out⟩, ⟨by (with_reducible repeat (first | apply Kd.qax | apply Kd.qaw | apply Kd.qaA)); exact HO299.out⟩, ⟨by repeat (first | (with_reducible first | exact HB.out | apply qae | apply qab | apply qad) | exact HB.out)⟩⟩
      ·rw [if_neg c19] at H; have c19b0 : decide (t292 < a2) = false := decide_eq_false c19; clear c19; (first | rw [c19b0] | (simp only [i64_w, i32_w]; rw [c19b0]) | skip)
       have H' := qac.mk H; clear H; go_wp2; (refine Met.intro ?_; go_step; first | ((repeat apply Exists.intro); refine ⟨?rel, rfl⟩) | ((try simp only [c19b0] at H' ⊢); (try simp only [c5b1] at H' ⊢); (try simp only [c5b0] at H' ⊢); (repeat apply Exists.intro); refine ⟨?rel, rfl⟩))
       case rel => exact ⟨_, (decide ((ji14) > (wrap64 (t292 - a2)))), (by first | rfl | (simp; done) | (simp only [← hji14] <;> (first | rfl | simp)) | (simp [*]; done)), H', ⟨by have := HJ5.out; first | omega | exact Nat.le_refl _⟩, ⟨by (with_reducible repeat (first | apply Kd.qax | apply Kd.qaw | apply Kd.qaA)); exact HO297.out⟩, ⟨by (with_reducible repeat (first | apply Kd.qax | apply Kd.qaw | apply Kd.qaA)); exact HO299.out⟩, ⟨by repeat (first | (with_reducible first | exact HB.out | apply qae | apply qab | apply qad) | exact HB.out)⟩⟩
     case rest =>
      clear HC15; (try clear c1); (try clear p2); (try clear c4); (try clear c5); (try clear c5b0); (try clear c5b1); (try clear p6); (try clear c8); (try clear c8b0); (try clear c9); (try clear c9b0); (try clear c10); (try clear c10b0); (try clear c11); (try clear c15); (try clear c17); (try clear c19); (try clear c19b0); (try clear p2); obtain ⟨kq, x67_14, rfl, HA, HJ14, HO_11, HO_12, HB⟩ := hcut
      cases kq with
      | zero => exact absurd HA.out (by simp [qaj.j1])
      | succ kj14 =>
       have H := HA.out; clear HA; simp only [qaj.j1] at H
       by_cases c20 : x67_14 = true
       ·subst c20; have H1 : (some (([] : List Int), 0, 8)) = some (r1, r2, r3) := by rw [if_pos rfl] at H; exact H
        clear H; have H := H1; clear H1; simp only [Option.some.injEq, Prod.mk.injEq] at H
        obtain ⟨rfl, rfl, rfl⟩ := H; go_wp2; go_ret3
        exact ⟨_, by first | rfl | (simp [qaz, qay] <;> rfl) | (simp only [← hji14]; first | rfl | (simp [qaz, qay] <;> rfl)) | (simp [*, qaz, qay] <;> rfl), by first | exact Kd.R_nil _ _ _ _ _ | exact Kd.N_nil _ _ _ _ _ | exact Kd.V_nil _ _ _ _ _ | exact Kd.Q_nil _ _ _ _ _ | exact Kd.S_nil _ _ _ _ _, by repeat (first | (with_reducible first | exact HB.out | apply qae | apply qab | apply qad) | exact HB.out)⟩
       ·replace c20 := Bool.eq_false_iff.mpr c20
        subst c20; have H1 : ((qaM.f kj14 t294 (wrap64 (a1 - ji14))).bind fun t301 => ((qaM.f kj14 t295 ji14).bind fun t304 => ((qaq.f kj14 t294 t295 t301 t304 (wrap64 ((wrap64 (t292 - a2)) - ji14))).bind fun bt307 => (if 0 ≤ (l0.length : Int) then (if ((l0.length : Int) : Int).toNat ≤ 35184372088832 then (qaj.l0 kj14 l0 t295 bt307.1 bt307.2 (List.replicate ((l0.length : Int) : Int).toNat 0) t294 (t294.length : Int) 0) else (none)) else (none))))) = some (r1, r2, r3) := by rw [if_neg (show ¬ (false = true) by decide)] at H; exact H
        clear H; have H := H1; clear H1; replace H := Option.bind_eq_some_iff.mp H; obtain ⟨t301, A210, H⟩ := H; replace H : ((qaM.f kj14 t295 ji14).bind fun t304 => ((qaq.f kj14 t294 t295 t301 t304 (wrap64 ((wrap64 (t292 - a2)) - ji14))).bind fun bt307 => (if 0 ≤ (l0.length : Int) then (if ((l0.length : Int) : Int).toNat ≤ 35184372088832 then (qaj.l0 kj14 l0 t295 bt307.1 bt307.2 (List.replicate ((l0.length : Int) : Int).toNat 0) t294 (t294.length : Int) 0) else (none)) else (none)))) = some (r1, r2, r3) := H
        have A21 := qac.mk A210
        clear A210; replace H := Option.bind_eq_some_iff.mp H; obtain ⟨t304, A220, H⟩ := H; replace H : ((qaq.f kj14 t294 t295 t301 t304 (wrap64 ((wrap64 (t292 - a2)) - ji14))).bind fun bt307 => (if 0 ≤ (l0.length : Int) then (if ((l0.length : Int) : Int).toNat ≤ 35184372088832 then (qaj.l0 kj14 l0 t295 bt307.1 bt307.2 (List.replicate ((l0.length : Int) : Int).toNat 0) t294 (t294.length : Int) 0) else (none)) else (none))) = some (r1, r2, r3) := H
        have A22 := qac.mk A220
        clear A220; replace H := Option.bind_eq_some_iff.mp H; obtain ⟨⟨t307, t308⟩, A230, H⟩ := H
        replace H : (if 0 ≤ (l0.length : Int) then (if ((l0.length : Int) : Int).toNat ≤ 35184372088832 then (qaj.l0 kj14 l0 t295 t307 t308 (List.replicate ((l0.length : Int) : Int).toNat 0) t294 (t294.length : Int) 0) else (none)) else (none)) = some (r1, r2, r3) := H
        have A23 := qac.mk A230
        clear A230; by_cases c24 : 0 ≤ (l0.length : Int)
        ·rw [if_pos c24] at H; have c24b0 := eq_true c24
         have c24b1 : decide (0 ≤ (l0.length : Int)) = true := decide_eq_true c24; clear c24; by_cases c25 : ((l0.length : Int) : Int).toNat ≤ 35184372088832
         ·rw [if_pos c25] at H; have c25b0 := eq_true c25
          have c25b1 : decide (((l0.length : Int) : Int).toNat ≤ 35184372088832) = true := decide_eq_true c25; clear c25; obtain ⟨y309, hy309⟩ : ∃ y_ : List Int, y_ = (List.replicate ((l0.length : Int) : Int).toNat 0) := ⟨_, rfl⟩
          replace H : (qaj.l0 kj14 l0 t295 t307 t308 y309 t294 (t294.length : Int) 0) = some (r1, r2, r3) := by first | (rw [hy309]; with_reducible exact H) | (have H2_ := (Option.bind_some _ _).symm.trans H; rw [hy309]; with_reducible exact H2_) | (have H2_ := (Option.bind_some _ _).symm.trans H; with_reducible exact H2_) | with_reducible exact H | (rw [hy309]; exact H) | exact H
          have Ny309 := qac.mk hy309
          clear hy309; have H' := qac.mk H; clear H; go_wp2_with (first | ((with_reducible refine qaL (f := 44) rfl ?_); refine qa9 (some 72) rfl rfl Try.func44 (by kernel_rfl) rfl #[.slice Ao17 t294.length co17, .int .i64 (wrap64 (a1 - ji14))] rfl (by (try simp only [qy6, qy7, qy8]); first | done | (simp only [hji14]; rfl) | rfl | (simp only [List.length_drop, List.length_take]; rfl)) ?_; (with_reducible refine (qaM.calls kj14 _ _ t294 (wrap64 (a1 - ji14)) t301 _ ?side1 ?side2 A21.out).mono ?_); (case side1 => repeat (first | exact (Kd.qaN HO_11.out).2.2 | (with_reducible refine Kd.qbl ?_ _) | (with_reducible refine Kd.qbk ?_ _) | (with_reducible refine Kd.qbw ?_))); (case side2 => exact (Kd.qaN HO_11.out).2.1); rintro e w26 ⟨v302, rfl, ho0, hb⟩; refine ⟨_, rfl, ?_⟩; have n0_ := qac.mk (Kd.qa8 (by (with_reducible repeat (first | apply Kd.qax | apply Kd.qaw | apply Kd.qaA)); exact HO_11.out) hb); have n1_ := qac.mk (Kd.qa8 (by (with_reducible repeat (first | apply Kd.qax | apply Kd.qaw | apply Kd.qaA)); exact HO_12.out) hb); have n2_ := qac.mk (Kd.qbG ho0 (qav (by repeat (first | (with_reducible first | exact HB.out | apply qae | apply qab | apply qad) | exact HB.out)))); have n3_ := qac.mk (qaB (by repeat (first | (with_reducible first | exact HB.out | apply qae | apply qab | apply qad) | exact HB.out)) hb); clear HO_11; clear HO_12; clear HB; have HO_11 := n0_; have HO_12 := n1_; have HO303 := n2_; have HB := n3_; clear n0_ n1_ n2_ n3_; (try clear hb); (try clear hb2); (try clear hk); (try clear hi); (try clear ho0); obtain ⟨Ao27, co27, eo27⟩ := Kd.qbc HO_12.out; subst eo27) | ((with_reducible refine qaL (f := 44) rfl ?_); refine qa9 (some 75) rfl rfl Try.func44 (by kernel_rfl) rfl #[.slice Ao27 t295.length co27, .int .i64 ji14] rfl (by (try simp only [qy6, qy7, qy8]); first | done | (simp only [hji14]; rfl) | rfl | (simp only [List.length_drop, List.length_take]; rfl)) ?_; (with_reducible refine (qaM.calls kj14 _ _ t295 ji14 t304 _ ?side1 ?side2 A22.out).mono ?_); (case side1 => repeat (first | exact (Kd.qaN HO_12.out).2.2 | (with_reducible refine Kd.qbl ?_ _) | (with_reducible refine Kd.qbk ?_ _) | (with_reducible refine Kd.qbw ?_))); (case side2 => exact (Kd.qaN HO_12.out).2.1); rintro e w28 ⟨v305, rfl, ho0, hb⟩; refine ⟨_, rfl, ?_⟩; have n0_ := qac.mk (Kd.qa8 (by (with_reducible repeat (first | apply Kd.qax | apply Kd.qaw | apply Kd.qaA)); exact HO_11.out) hb); have n1_ := qac.mk (Kd.qa8 (by (with_reducible repeat (first | apply Kd.qax | apply Kd.qaw | apply Kd.qaA)); exact HO_12.out) hb); have n2_ := qac.mk (Kd.R_elder' (by (with_reducible repeat (first | apply Kd.qax | apply Kd.qaw | apply Kd.qaA)); exact HO303.out) (Kd.qbB ho0) hb); have n3_ := qac.mk (Kd.qbG (Kd.R_new' ho0 (Kd.R_lt (by (with_reducible repeat (first | apply Kd.qax | apply Kd.qaw | apply Kd.qaA)); exact HO303.out))) (qav (by repeat (first | (with_reducible first | exact HB.out | apply qae | apply qab | apply qad) | exact HB.out)))); have n4_ := qac.mk (qaB (by repeat (first | (with_reducible first | exact HB.out | apply qae | apply qab | apply qad) | exact HB.out)) hb); clear HO_11; clear HO_12; clear HO303; clear HB; have HO_11 := n0_; have HO_12 := n1_; have HO303 := n2_; have HO306 := n3_; have HB := n4_; clear n0_ n1_ n2_ n3_ n4_; (try clear hb); (try clear hb2); (try clear hk); (try clear hi); (try clear ho0); obtain ⟨Ao29, co29, eo29⟩ := Kd.qbc HO303.out; subst eo29; obtain ⟨Ao30, co30, eo30⟩ := Kd.qbc HO306.out; subst eo30) | ((with_reducible refine qaL (f := 45) rfl ?_); refine qa9 (some 85) rfl rfl Try.func45 (by kernel_rfl) rfl #[.slice Ao17 t294.length co17, .slice Ao27 t295.length co27, .slice Ao29 t301.length co29, .slice Ao30 t304.length co30, .int .i64 (wrap64 ((wrap64 (t292 - a2)) - ji14))] rfl (by (try simp only [qy6, qy7, qy8]); first | done | (simp only [hji14]; rfl) | rfl | (simp only [List.length_drop, List.length_take]; rfl)) ?_; (with_reducible refine (qaq.calls kj14 _ _ t294 _ _ t295 (fun k_ => some k_ = (.slice Ao29 t301.length co29 : Value).ownBlock) (.slice Ao29 t301.length co29) t301 (fun k_ => some k_ = (.slice Ao30 t304.length co30 : Value).ownBlock) (.slice Ao30 t304.length co30) t304 (wrap64 ((wrap64 (t292 - a2)) - ji14)) t307 t308 w _ ?side1 ?side2 ?side3 ?side4 ?side5 ?side6 ?side7 ?side8 ?side9 A23.out).mono ?_); (case side1 => repeat (first | (with_reducible first | exact HB.out | apply qae | apply qab | apply qad) | exact HB.out)); (case side2 => exact Kd.C_kept_own ((Kd.R_apart' (Kd.R_apart' HO_11.out (Kd.R_typed HO303.out) (by decide)) (Kd.R_typed HO306.out) (by decide))) (fun k_ hk_ hs_ => Or.elim hs_ (fun e_ => (hk_.1.2) e_) (fun e_ => (hk_.2) e_))); (case side3 => exact (Kd.qaN HO_11.out).2.1); (case side4 => exact Kd.C_kept_own ((Kd.R_apart' (Kd.R_apart' HO_12.out (Kd.R_typed HO303.out) (by decide)) (Kd.R_typed HO306.out) (by decide))) (fun k_ hk_ hs_ => Or.elim hs_ (fun e_ => (hk_.1.2) e_) (fun e_ => (hk_.2) e_))); (case side5 => exact (Kd.qaN HO_12.out).2.1); (case side6 => exact Kd.qbI rfl HO303.out); (case side7 => exact fun k_ e_ => (HO303.out.1 k_ e_.symm).2); (case side8 => exact Kd.qbI rfl HO306.out); (case side9 => exact fun k_ e_ => (HO306.out.1 k_ e_.symm).2); rintro e w31 ⟨rfl, hy0, hy1, hb, hkp⟩; refine ⟨_, rfl, ?_⟩; have n0_ := qac.mk (Kd.qaY (ok' := fun k_ => some k_ ≠ (.slice Ao27 t295.length co27 : Value).ownBlock) (Kd.R_keptB ((Kd.R_apart' (Kd.R_apart' HO_11.out (Kd.R_typed HO303.out) (by decide)) (Kd.R_typed HO306.out) (by decide))) hkp (fun k_ hk_ hs_ => Or.elim hs_ (fun e_ => (hk_.1.2) e_) (fun e_ => (hk_.2) e_))) (fun k_ hk_ => hk_.1.1.1)); have n1_ := qac.mk (Kd.qaY (ok' := fun k_ => some k_ ≠ (.slice Ao17 t294.length co17 : Value).ownBlock) (Kd.R_keptB ((Kd.R_apart' (Kd.R_apart' HO_12.out (Kd.R_typed HO303.out) (by decide)) (Kd.R_typed HO306.out) (by decide))) hkp (fun k_ hk_ hs_ => Or.elim hs_ (fun e_ => (hk_.1.2) e_) (fun e_ => (hk_.2) e_))) (fun k_ hk_ => hk_.1.1.1)); have n2_ := qac.mk (Kd.R_reok rfl hy0 (fun k_ e_ => HO303.out.1 k_ e_)); have n3_ := qac.mk (Kd.R_reok rfl hy1 (fun k_ e_ => HO306.out.1 k_ e_)); have n4_ := qac.mk (hb); clear HO_11; clear HO_12; clear HO303; clear HO306; clear HB; have HO_11 := n0_; have HO_12 := n1_; have HO303 := n2_; have HO306 := n3_; have HB := n4_; clear n0_ n1_ n2_ n3_ n4_; (try clear hb); (try clear hkp); (try clear hy0); (try clear hy1)) | ((with_reducible refine qaV (N := 88) rfl ?_); refine Kd.R_make (Kd.int .i64) _ 3 rfl (N := 88) rfl 34 _ _ rfl (l0.length : Int) rfl rfl Try.underlying34 (.int .i64 0) 8 info3 rfl (by decide) (by omega) 0 (ok := fun _ => True) (okp := fun _ => True) rfl (fun _ hk => hk) trivial (of_decide_eq_true (by first | (with_reducible assumption) | assumption)) (Nat.le_trans (Nat.mul_le_mul_right _ (of_decide_eq_true (by first | (with_reducible assumption) | assumption) : (l0.length : Int).toNat ≤ 35184372088832)) (by omega)) (Below.refl _ _) (Nat.le_refl _) ?_; intro v310 w32 ho33 hb hg_ hnew_; clear hg_ hnew_; (first | rw [← Ny309.out] at ho33 | (simp only [Int.reduceToNat] at ho33; rw [← Ny309.out] at ho33)); have n0_ := qac.mk (Kd.qa8 (by (with_reducible repeat (first | apply Kd.qax | apply Kd.qaw | apply Kd.qaA)); exact HO_11.out) hb); have n1_ := qac.mk (Kd.qa8 (by (with_reducible repeat (first | apply Kd.qax | apply Kd.qaw | apply Kd.qaA)); exact HO_12.out) hb); have n2_ := qac.mk (Kd.R_elder' (by (with_reducible repeat (first | apply Kd.qax | apply Kd.qaw | apply Kd.qaA)); exact HO303.out) (Kd.qbB ho33) hb); have n3_ := qac.mk (Kd.R_elder' (by (with_reducible repeat (first | apply Kd.qax | apply Kd.qaw | apply Kd.qaA)); exact HO306.out) (Kd.qbB ho33) hb); have n4_ := qac.mk (Kd.qbG (Kd.R_new' (Kd.R_new' ho33 (Kd.R_lt (by (with_reducible repeat (first | apply Kd.qax | apply Kd.qaw | apply Kd.qaA)); exact HO303.out))) (Kd.R_lt (by (with_reducible repeat (first | apply Kd.qax | apply Kd.qaw | apply Kd.qaA)); exact HO306.out))) (qav (by repeat (first | (with_reducible first | exact HB.out | apply qae | apply qab | apply qad) | exact HB.out)))); have n5_ := qac.mk (qaB (by repeat (first | (with_reducible first | exact HB.out | apply qae | apply qab | apply qad) | exact HB.out)) hb); clear HO_11; clear HO_12; clear HO303; clear HO306; clear HB; have HO_11 := n0_; have HO_12 := n1_; have HO303 := n2_; have HO306 := n3_; have HO311 := n4_; have HB := n5_; clear n0_ n1_ n2_ n3_ n4_ n5_; clear hb ho33))
          (try simp only [Act.put, List.setIfInBounds_toArray, List.set_cons_zero, List.set_cons_succ])
          go_loopg [91] kj14 (fun kq v91 w' => ∃ (x16_3 : List Int) (x91_3 : Int), v91 = .int .i64 x91_3 ∧ qac (qaj.l0 kq l0 t295 t307 t308 x16_3 t294 (t294.length : Int) x91_3 = some (r1, r2, r3)) ∧ qac (kq ≤ kj14) ∧ qac (Kd.R k102 102 w' w.heap.size (fun k_ => some k_ ≠ ((.slice Ao17 t294.length co17) : Value).ownBlock) (.slice Ao27 t295.length co27) t295) ∧ qac (Kd.R (Kd.int .i64) 3 w' w.heap.size (fun k_ => some k_ ≠ ((.slice Ao30 t304.length co30) : Value).ownBlock ∧ some k_ ≠ (v310 : Value).ownBlock) (.slice Ao29 t301.length co29) t307) ∧ qac (Kd.R (Kd.int .i64) 3 w' w.heap.size (fun k_ => some k_ ≠ ((.slice Ao29 t301.length co29) : Value).ownBlock ∧ some k_ ≠ (v310 : Value).ownBlock) (.slice Ao30 t304.length co30) t308) ∧ qac (Kd.R (Kd.int .i64) 3 w' w.heap.size (fun k_ => some k_ ≠ ((.slice Ao29 t301.length co29) : Value).ownBlock ∧ some k_ ≠ ((.slice Ao30 t304.length co30) : Value).ownBlock) v310 x16_3) ∧ qac (Kd.R k102 102 w' w.heap.size (fun k_ => some k_ ≠ ((.slice Ao27 t295.length co27) : Value).ownBlock) (.slice Ao17 t294.length co17) t294) ∧ qac (Below w.heap.size w w'))
          case atStart => exact ⟨(y309), (0), (by first | rfl | (simp; done) | (simp [*]; done)), H', ⟨Nat.le_refl _⟩, ⟨by (with_reducible repeat (first | apply Kd.qax | apply Kd.qaw | apply Kd.qaA)); exact HO_12.out⟩, ⟨by (with_reducible repeat (first | apply Kd.qax | apply Kd.qaw | apply Kd.qaA)); exact Kd.qaY HO303.out (fun _ hk => ⟨hk.1.2, hk.2⟩)⟩, ⟨by (with_reducible repeat (first | apply Kd.qax | apply Kd.qaw | apply Kd.qaA)); exact Kd.qaY HO306.out (fun _ hk => ⟨hk.1.2, hk.2⟩)⟩, ⟨by (with_reducible repeat (first | apply Kd.qax | apply Kd.qaw | apply Kd.qaA)); exact Kd.qaY HO311.out (fun _ hk => ⟨hk.1.2, hk.2⟩)⟩, ⟨by (with_reducible repeat (first | apply Kd.qax | apply Kd.qaw | apply Kd.qaA)); exact HO_11.out⟩, ⟨by repeat (first | (with_reducible first | exact HB.out | apply qae | apply qab | apply qad) | exact HB.out)⟩⟩
          case round =>
           clear H'; (try clear c1); (try clear c2); (try clear p2); (try clear c4); (try clear c5); (try clear c5b0); (try clear c5b1); (try clear p6); (try clear c8); (try clear c8b0); (try clear c9); (try clear c9b0); (try clear c10); (try clear c10b0); (try clear c11); (try clear c15); (try clear c17); (try clear c19); (try clear c19b0); (try clear c20); (try clear c24); (try clear c24b0); (try clear c24b1); (try clear c25); (try clear c25b0); (try clear c25b1); (try clear p2); (try clear p6); obtain ⟨x16_3, x91_3, rfl, HA, HK3, HO_12, HO_14, HO_15, HO_16, HO_89, HB⟩ := hrel
           have hl14_3 := (Kd.qaN HO_14.out).1
           rw [hl14_3] at HO_14; (try simp only [hl14_3])
           (try simp only [hl14_3] at HO_12)
           (try simp only [hl14_3] at HO_15)
           (try simp only [hl14_3] at HO_16)
           (try simp only [hl14_3] at HO_89)
           have hl15_3 := (Kd.qaN HO_15.out).1
           rw [hl15_3] at HO_15; (try simp only [hl15_3])
           (try simp only [hl15_3] at HO_12)
           (try simp only [hl15_3] at HO_14)
           (try simp only [hl15_3] at HO_16)
           (try simp only [hl15_3] at HO_89)
           cases gk with
           | zero => exact absurd HA.out (by simp [qaj.l0])
           | succ k3 =>
            have H := HA.out; clear HA; simp only [qaj.l0] at H
            by_cases c34 : x91_3 < (t294.length : Int)
            ·rw [if_pos c34] at H; have c34b0 : decide (x91_3 < (t294.length : Int)) = true := decide_eq_true c34; clear c34; by_cases c35 : 0 ≤ x91_3
             ·rw [if_pos c35] at H; have c35b0 : decide (0 ≤ x91_3) = true := decide_eq_true c35; clear c35; by_cases c36 : x91_3 < (t294.length : Int)
              ·rw [if_pos c36] at H; have c36b0 : decide (x91_3 < (t294.length : Int)) = true := decide_eq_true c36; clear c36; by_cases c37 : 0 ≤ ((qag t294 x91_3).f0)
               ·rw [if_pos c37] at H; have c37b0 : decide (0 ≤ ((qag t294 x91_3).f0)) = true := decide_eq_true c37; clear c37; by_cases c38 : ((qag t294 x91_3).f0) < (x16_3.length : Int)
                ·rw [if_pos c38] at H; have c38b0 : decide (((qag t294 x91_3).f0) < (x16_3.length : Int)) = true := decide_eq_true c38; clear c38; by_cases c39 : x91_3 < (t307.length : Int)
                 ·rw [if_pos c39] at H; have c39b0 : decide (x91_3 < (t307.length : Int)) = true := decide_eq_true c39; clear c39; obtain ⟨y316, hy316⟩ : ∃ y_ : List Int, y_ = (x16_3.set (((qag t294 x91_3).f0) : Int).toNat (wrap64 ((rd x16_3 ((qag t294 x91_3).f0)) + (rd t307 x91_3)))) := ⟨_, rfl⟩
                  replace H : (qaj.l0 k3 l0 t295 t307 t308 y316 t294 (t294.length : Int) (wrap64 (x91_3 + 1))) = some (r1, r2, r3) := by first | (rw [hy316]; with_reducible exact H) | (have H2_ := (Option.bind_some _ _).symm.trans H; rw [hy316]; with_reducible exact H2_) | (have H2_ := (Option.bind_some _ _).symm.trans H; with_reducible exact H2_) | with_reducible exact H | (rw [hy316]; exact H) | exact H
                  have Ny316 := qac.mk hy316
                  clear hy316; have H' := qac.mk H; clear H; have p312 : 0 ≤ (x91_3 : Int) := of_decide_eq_true (by first | (with_reducible assumption) | assumption)
                  have q312 : x91_3 < (t294.length : Int) := of_decide_eq_true (by first | (with_reducible assumption) | assumption)
                  obtain ⟨ad312, e312, hx312_0, hx312_1, hx312_2⟩ := qbm (Kd.qaN HO_89.out).2.2 x91_3 p312 q312
                  cases e312
                  replace p312 := eq_true p312; replace q312 := eq_true q312; try go_wp2_with (first | ((with_reducible refine qaV (N := 18) rfl ?_); refine qaU ?hg (N := 18) ?hd (cs := #[.int .i64 0, .int .i64 0, .int .i64 0]) (t := 102) ?hr ?_; (case hd => rfl); (case hg => rfl); (case hr => first | (go_simp; done) | (go_simp; rfl)); intro gb313 hg w41 hbox hb; have n0_ := qac.mk (Kd.qa8 (Kd.R_elderB (by (with_reducible repeat (first | apply Kd.qax | apply Kd.qaw | apply Kd.qaA)); exact HO_12.out) gb313 (Nat.le_of_eq hg.symm)) hb); have n1_ := qac.mk (Kd.qa8 (by (with_reducible repeat (first | apply Kd.qax | apply Kd.qaw | apply Kd.qaA)); exact HO_14.out) hb); have n2_ := qac.mk (Kd.qa8 (by (with_reducible repeat (first | apply Kd.qax | apply Kd.qaw | apply Kd.qaA)); exact HO_15.out) hb); have n3_ := qac.mk (Kd.qa8 (by (with_reducible repeat (first | apply Kd.qax | apply Kd.qaw | apply Kd.qaA)); exact HO_16.out) hb); have n4_ := qac.mk (Kd.qa8 (Kd.R_elderB (by (with_reducible repeat (first | apply Kd.qax | apply Kd.qaw | apply Kd.qaA)); exact HO_89.out) gb313 (Nat.le_of_eq hg.symm)) hb); have n5_ := qac.mk (qaB (by repeat (first | (with_reducible first | exact HB.out | apply qae | apply qab | apply qad) | exact HB.out)) hb); have n6_ := qac.mk (hbox); have n7_ := qac.mk ((by rw [hg]; exact (qav (by repeat (first | (with_reducible first | exact HB.out | apply qae | apply qab | apply qad) | exact HB.out))) : w.heap.size ≤ gb313)); have n8_ := qac.mk ((by rw [hg]; exact (qav (by repeat (first | (with_reducible first | exact HB.out | apply qae | apply qab | apply qad) | exact HB.out))) : w.heap.size ≤ gb313)); clear HO_12; clear HO_14; clear HO_15; clear HO_16; clear HO_89; clear HB; have HO_12 := n0_; have HO_14 := n1_; have HO_15 := n2_; have HO_16 := n3_; have HO_89 := n4_; have HB := n5_; have BK313 := n6_; have GW313 := n7_; have GE313 := n8_; clear n0_ n1_ n2_ n3_ n4_ n5_ n6_ n7_ n8_; clear hb hbox hg; have hcz42_0 : w41.cell? ⟨gb313, 0, none⟩ = some (.int .i64 0) := (qas BK313.out 0).trans rfl; have hcz42_1 : w41.cell? ⟨gb313, 1, none⟩ = some (.int .i64 0) := (qas BK313.out 1).trans rfl; have hcz42_2 : w41.cell? ⟨gb313, 2, none⟩ = some (.int .i64 0) := (qas BK313.out 2).trans rfl; have hfz42_0 := qat BK313.out 0; have hfz42_1 := qat BK313.out 1; have hfz42_2 := qat BK313.out 2))
                  have n0_ : qac (Kd.R k102 102 (((w41.setCell ⟨gb313, 0, none⟩ (.int .i64 ((qag t294 x91_3).f0))).setCell ⟨gb313, 1, none⟩ (.int .i64 ((qag t294 x91_3).f1))).setCell ⟨gb313, 2, none⟩ (.int .i64 ((qag t294 x91_3).f2))) w.heap.size (fun k_ => some k_ ≠ (.slice (some ad312) t294.length co17 : Value).ownBlock ∧ k_ ≠ gb313) (.slice Ao27 t295.length co27) t295) := ⟨by (with_reducible repeat (first | apply Kd.qax | apply Kd.qaw | apply Kd.qaA)); exact Kd.qaY (Kd.R_far (p := ⟨gb313, 2, none⟩) (Kd.R_far (p := ⟨gb313, 1, none⟩) (Kd.R_far (p := ⟨gb313, 0, none⟩) (Kd.qaY HO_12.out (fun k_ hk => (⟨hk, hk.2⟩ : _ ∧ k_ ≠ gb313))) (fun _ hk => hk.2) (.int .i64 ((qag t294 x91_3).f0))) (fun _ hk => hk.2) (.int .i64 ((qag t294 x91_3).f1))) (fun _ hk => hk.2) (.int .i64 ((qag t294 x91_3).f2))) (fun _ hk => ⟨hk.1.1, hk.1.2⟩)⟩
                  have n1_ : qac (Kd.R (Kd.int .i64) 3 (((w41.setCell ⟨gb313, 0, none⟩ (.int .i64 ((qag t294 x91_3).f0))).setCell ⟨gb313, 1, none⟩ (.int .i64 ((qag t294 x91_3).f1))).setCell ⟨gb313, 2, none⟩ (.int .i64 ((qag t294 x91_3).f2))) w.heap.size (fun k_ => some k_ ≠ (.slice Ao30 t308.length co30 : Value).ownBlock ∧ some k_ ≠ (v310 : Value).ownBlock) (.slice Ao29 t307.length co29) t307) := ⟨by (with_reducible repeat (first | apply Kd.qax | apply Kd.qaw | apply Kd.qaA)); exact Kd.qaY (Kd.R_far (p := ⟨gb313, 2, none⟩) (Kd.R_far (p := ⟨gb313, 1, none⟩) (Kd.R_far (p := ⟨gb313, 0, none⟩) (Kd.qbs HO_14.out BK313.out (by decide)) (fun _ hk => hk.2) (.int .i64 ((qag t294 x91_3).f0))) (fun _ hk => hk.2) (.int .i64 ((qag t294 x91_3).f1))) (fun _ hk => hk.2) (.int .i64 ((qag t294 x91_3).f2))) (fun _ hk => ⟨hk.1.1, hk.1.2⟩)⟩
                  have n2_ : qac (Kd.R (Kd.int .i64) 3 (((w41.setCell ⟨gb313, 0, none⟩ (.int .i64 ((qag t294 x91_3).f0))).setCell ⟨gb313, 1, none⟩ (.int .i64 ((qag t294 x91_3).f1))).setCell ⟨gb313, 2, none⟩ (.int .i64 ((qag t294 x91_3).f2))) w.heap.size (fun k_ => some k_ ≠ (.slice Ao29 t307.length co29 : Value).ownBlock ∧ some k_ ≠ (v310 : Value).ownBlock) (.slice Ao30 t308.length co30) t308) := ⟨by (with_reducible repeat (first | apply Kd.qax | apply Kd.qaw | apply Kd.qaA)); exact Kd.qaY (Kd.R_far (p := ⟨gb313, 2, none⟩) (Kd.R_far (p := ⟨gb313, 1, none⟩) (Kd.R_far (p := ⟨gb313, 0, none⟩) (Kd.qbs HO_15.out BK313.out (by decide)) (fun _ hk => hk.2) (.int .i64 ((qag t294 x91_3).f0))) (fun _ hk => hk.2) (.int .i64 ((qag t294 x91_3).f1))) (fun _ hk => hk.2) (.int .i64 ((qag t294 x91_3).f2))) (fun _ hk => ⟨hk.1.1, hk.1.2⟩)⟩
                  have n3_ : qac (Kd.R (Kd.int .i64) 3 (((w41.setCell ⟨gb313, 0, none⟩ (.int .i64 ((qag t294 x91_3).f0))).setCell ⟨gb313, 1, none⟩ (.int .i64 ((qag t294 x91_3).f1))).setCell ⟨gb313, 2, none⟩ (.int .i64 ((qag t294 x91_3).f2))) w.heap.size (fun k_ => some k_ ≠ (.slice Ao29 t307.length co29 : Value).ownBlock ∧ some k_ ≠ (.slice Ao30 t308.length co30 : Value).ownBlock) v310 x16_3) := ⟨by (with_reducible repeat (first | apply Kd.qax | apply Kd.qaw | apply Kd.qaA)); exact Kd.qaY (Kd.R_far (p := ⟨gb313, 2, none⟩) (Kd.R_far (p := ⟨gb313, 1, none⟩) (Kd.R_far (p := ⟨gb313, 0, none⟩) (Kd.qbs HO_16.out BK313.out (by decide)) (fun _ hk => hk.2) (.int .i64 ((qag t294 x91_3).f0))) (fun _ hk => hk.2) (.int .i64 ((qag t294 x91_3).f1))) (fun _ hk => hk.2) (.int .i64 ((qag t294 x91_3).f2))) (fun _ hk => ⟨hk.1.1, hk.1.2⟩)⟩
                  have n4_ : qac (Kd.R k102 102 (((w41.setCell ⟨gb313, 0, none⟩ (.int .i64 ((qag t294 x91_3).f0))).setCell ⟨gb313, 1, none⟩ (.int .i64 ((qag t294 x91_3).f1))).setCell ⟨gb313, 2, none⟩ (.int .i64 ((qag t294 x91_3).f2))) w.heap.size (fun k_ => some k_ ≠ (.slice Ao27 t295.length co27 : Value).ownBlock ∧ k_ ≠ gb313) (.slice (some ad312) t294.length co17) t294) := ⟨by (with_reducible repeat (first | apply Kd.qax | apply Kd.qaw | apply Kd.qaA)); exact Kd.qaY (Kd.R_far (p := ⟨gb313, 2, none⟩) (Kd.R_far (p := ⟨gb313, 1, none⟩) (Kd.R_far (p := ⟨gb313, 0, none⟩) (Kd.qaY HO_89.out (fun k_ hk => (⟨hk, hk.2⟩ : _ ∧ k_ ≠ gb313))) (fun _ hk => hk.2) (.int .i64 ((qag t294 x91_3).f0))) (fun _ hk => hk.2) (.int .i64 ((qag t294 x91_3).f1))) (fun _ hk => hk.2) (.int .i64 ((qag t294 x91_3).f2))) (fun _ hk => ⟨hk.1.1, hk.1.2⟩)⟩
                  have n5_ : qac ((((w41.setCell ⟨gb313, 0, none⟩ (.int .i64 ((qag t294 x91_3).f0))).setCell ⟨gb313, 1, none⟩ (.int .i64 ((qag t294 x91_3).f1))).setCell ⟨gb313, 2, none⟩ (.int .i64 ((qag t294 x91_3).f2))).heap[gb313]? = some (.cells #[.int .i64 ((qag t294 x91_3).f0), .int .i64 ((qag t294 x91_3).f1), .int .i64 ((qag t294 x91_3).f2)] 102 (0, 0))) := ⟨by (with_reducible repeat (first | refine qan ?_ _ | refine qap ?_ | refine qao ?_ _)); refine qa1 (cs := #[.int .i64 ((qag t294 x91_3).f0), .int .i64 ((qag t294 x91_3).f1), .int .i64 0]) ?_ 2 _ rfl; (with_reducible repeat (first | refine qan ?_ _ | refine qap ?_ | refine qao ?_ _)); refine qa1 (cs := #[.int .i64 ((qag t294 x91_3).f0), .int .i64 0, .int .i64 0]) ?_ 1 _ rfl; (with_reducible repeat (first | refine qan ?_ _ | refine qap ?_ | refine qao ?_ _)); refine qa1 (cs := #[.int .i64 0, .int .i64 0, .int .i64 0]) ?_ 0 _ rfl; (with_reducible repeat (first | refine qan ?_ _ | refine qap ?_ | refine qao ?_ _)); exact BK313.out⟩
                  have n6_ : qac (Below w.heap.size w (((w41.setCell ⟨gb313, 0, none⟩ (.int .i64 ((qag t294 x91_3).f0))).setCell ⟨gb313, 1, none⟩ (.int .i64 ((qag t294 x91_3).f1))).setCell ⟨gb313, 2, none⟩ (.int .i64 ((qag t294 x91_3).f2)))) := ⟨by repeat (first | (with_reducible first | exact HB.out | apply qae | apply qab | apply qad | refine qah ?_ GE313.out) | exact HB.out)⟩
                  (try clear HO_12); (try clear HO_14); (try clear HO_15); (try clear HO_16); (try clear HO_89); (try clear BK313); (try clear HB); generalize (((w41.setCell ⟨gb313, 0, none⟩ (.int .i64 ((qag t294 x91_3).f0))).setCell ⟨gb313, 1, none⟩ (.int .i64 ((qag t294 x91_3).f1))).setCell ⟨gb313, 2, none⟩ (.int .i64 ((qag t294 x91_3).f2))) = w43 at n0_ n1_ n2_ n3_ n4_ n5_ n6_ ⊢
                  have HO_12 := n0_; have HO_14 := n1_; have HO_15 := n2_; have HO_16 := n3_; have HO_89 := n4_; have BK313 := n5_; have HB := n6_; clear n0_ n1_ n2_ n3_ n4_ n5_ n6_; have n0_ := qac.mk (Kd.qaA HO_12.out)
                  have n1_ := qac.mk (Kd.qaA HO_14.out)
                  have n2_ := qac.mk (Kd.qaA HO_15.out)
                  have n3_ := qac.mk (Kd.qaA HO_16.out)
                  have n4_ := qac.mk (Kd.qaA HO_89.out)
                  have n5_ := qac.mk (qap BK313.out)
                  have n6_ := qac.mk (qad HB.out)
                  clear HO_12; clear HO_14; clear HO_15; clear HO_16; clear HO_89; clear BK313; clear HB; have HO_12 := n0_; have HO_14 := n1_; have HO_15 := n2_; have HO_16 := n3_; have HO_89 := n4_; have BK313 := n5_; have HB := n6_; clear n0_ n1_ n2_ n3_ n4_ n5_ n6_; obtain ⟨Ao45, co45, eo45⟩ := Kd.qbc HO_16.out
                  (first | subst eo45 | (injection eo45 with f1_ f2_ f3_; have f4_ := f1_.symm; have f5_ := f3_.symm; clear f1_ f2_ f3_; subst f4_; subst f5_))
                  have p314 : 0 ≤ (((qag t294 x91_3).f0) : Int) := of_decide_eq_true (by first | (with_reducible assumption) | assumption)
                  have q314 : ((qag t294 x91_3).f0) < (x16_3.length : Int) := of_decide_eq_true (by first | (with_reducible assumption) | assumption)
                  obtain ⟨ad314, e314, hx314_0⟩ := Kd.qbJ (Kd.qaN HO_16.out).2.2 ((qag t294 x91_3).f0) p314 q314
                  cases e314
                  replace p314 := eq_true p314; replace q314 := eq_true q314; have p315 : 0 ≤ (x91_3 : Int) := of_decide_eq_true (by first | (with_reducible assumption) | assumption)
                  have q315 : x91_3 < (t307.length : Int) := of_decide_eq_true (by first | (with_reducible assumption) | assumption)
                  obtain ⟨ad315, e315, hx315_0⟩ := Kd.qbJ (Kd.qaN HO_14.out).2.2 x91_3 p315 q315
                  cases e315
                  replace p315 := eq_true p315; replace q315 := eq_true q315; have p40 : 0 ≤ (((qag t294 x91_3).f0) : Int) := of_decide_eq_true (by first | (with_reducible assumption) | assumption)
                  have q40 : (((qag t294 x91_3).f0) : Int) < ((x16_3.length : Int) : Int) := of_decide_eq_true (by first | (with_reducible assumption) | assumption)
                  obtain ⟨go40, co40, eo40, gb40, gl40, cl40, HG40⟩ := Kd.R_form HO_16.out (by omega)
                  (first | cases eo40 | (injection eo40 with ea_ en_ ec_; (first | subst ea_ | (injection ea_ with ea_; subst ea_)); subst ec_; clear en_))
                  have GB40 := qac.mk gb40
                  have GG40 := qac.mk HG40
                  clear gb40 gl40 HG40; (first | simp only [add_plain] at hx314_0 | skip)
                  obtain ⟨hx40_0, hf40_0⟩ := Kd.R_celln 0 HO_16.out (((qag t294 x91_3).f0) : Int) p40 q40
                  replace p40 := eq_true p40; replace q40 := eq_true q40; have HP46 := Kd.R_putn HO_16.out (((qag t294 x91_3).f0) : Int) (wrap64 ((rd x16_3 ((qag t294 x91_3).f0)) + (rd t307 x91_3)))
                  rw [← Ny316.out] at HP46; have HQ46 := qac.mk HP46
                  clear HP46; refine qbD (n := 12) (S := fun w' => w'.cell? ⟨gb313, 0, none⟩ = some (.int .i64 ((qag t294 x91_3).f0)) ∧ w'.cell? ⟨gb313, 1, none⟩ = some (.int .i64 ((qag t294 x91_3).f1)) ∧ w'.cell? ⟨gb313, 2, none⟩ = some (.int .i64 ((qag t294 x91_3).f2)) ∧ w'.cell? ⟨go40, (((qag t294 x91_3).f0)).toNat, none⟩ = some (.int .i64 (rd x16_3 ((qag t294 x91_3).f0))) ∧ w'.cell? (ad315.add (x91_3).toNat) = some (.int .i64 (rd t307 x91_3))) (ds := [11]) #[qF,qF,qF,qF,qF,qF,qF,qF,qF,qF,qF,qF] (by kernel_rfl) rfl rfl ⟨(qas BK313.out 0).trans rfl, (qas BK313.out 1).trans rfl, (qas BK313.out 2).trans rfl, hx314_0, hx315_0⟩ (fun hHeld => ?_); refine qbj qaj.tab16 qaj.bits16 (fun HT_ HW_ => ?_)
                  generalize w43.drew = w44 at HO_12 HO_14 HO_15 HO_16 HO_89 BK313 HB GG40 HQ46 hf40_0 hx314_0 hx315_0 hx40_0 hHeld ⊢
                  refine qP 0 (some 96) ?_ #[qT,qF,qF,qF,qF,qF,qF,qF,qF,qF,qF,qF] HT_.out rfl rfl (by kernel_rfl) (fun _ _ _ h => h) (Or.inl ⟨by rfl, ?_⟩) ?_ ?_ ?_; rotate_left; ·intro w'; go_simp; with_reducible rfl
                  rotate_left; ·simp only [Act.put, qy1, qy2, qy3, i64_w, i32_w]; rfl
                  refine qP 1 (some 97) ?_ #[qT,qT,qF,qF,qF,qF,qF,qF,qF,qF,qF,qF] HT_.out rfl rfl (by kernel_rfl) (fun _ _ _ h => h) (Or.inl ⟨by rfl, ?_⟩) ?_ ?_ ?_; rotate_left; ·intro w'; go_simp; with_reducible rfl
                  rotate_left; ·simp only [Act.put, qy1, qy2, qy3, i64_w, i32_w]; rfl
                  refine qP 5 (some 101) ?_ #[qT,qT,qF,qF,qF,qT,qF,qF,qF,qF,qF,qF] HT_.out rfl rfl (by kernel_rfl) (fun _ _ _ h => h) (Or.inl ⟨by rfl, ?_⟩) ?_ ?_ ?_; rotate_left; ·intro w'; go_simp; with_reducible rfl
                  rotate_left; ·simp only [Act.put, qy1, qy2, qy3, i64_w, i32_w]; rfl
                  refine qP 6 (some 102) ?_ #[qT,qT,qF,qF,qF,qT,qT,qF,qF,qF,qF,qF] HT_.out rfl rfl (by kernel_rfl) (fun _ _ _ h => h) (Or.inl ⟨by rfl, ?_⟩) ?_ ?_ ?_; rotate_left; ·intro w'; go_simp; with_reducible rfl
                  rotate_left; ·simp only [Act.put, qy1, qy2, qy3, i64_w, i32_w]; rfl
                  refine qP 7 (some 103) ?_ #[qT,qT,qF,qF,qF,qT,qT,qT,qF,qF,qF,qF] HT_.out rfl rfl (by kernel_rfl) (fun _ _ _ h => h) (Or.inl ⟨by rfl, ?_⟩) ?_ ?_ ?_; rotate_left; ·intro w'; go_simp; with_reducible rfl
                  rotate_left; ·simp only [Act.put, qy1, qy2, qy3, i64_w, i32_w]; rfl
                  refine take_ (i := 2) (N := some 98) (v := ?_) (a' := ?_) #[qT,qT,qT,qF,qF,qT,qT,qT,qF,qF,qF,qF] rfl rfl (qaT HT_.out HW_.out (by kernel_rfl)) (fun _ _ _ h => h) (Or.inl ⟨by rfl, ?_⟩) hHeld ?_ ?_; rotate_left; ·rintro w' ⟨s0, s1, s2, s3, s4⟩; go_simp; with_reducible rfl
                  rotate_left; ·simp only [Act.put, qy1, qy2, qy3, i64_w, i32_w]; rfl
                  refine qP 3 (some 99) ?_ #[qT,qT,qT,qT,qF,qT,qT,qT,qF,qF,qF,qF] HT_.out rfl rfl (by kernel_rfl) (fun _ _ _ h => h) (Or.inl ⟨by rfl, ?_⟩) ?_ ?_ ?_; rotate_left; ·intro w'; go_simp; with_reducible rfl
                  rotate_left; ·simp only [Act.put, qy1, qy2, qy3, i64_w, i32_w]; rfl
                  refine take_ (i := 4) (N := some 100) (v := ?_) (a' := ?_) #[qT,qT,qT,qT,qT,qT,qT,qT,qF,qF,qF,qF] rfl rfl (qaT HT_.out HW_.out (by kernel_rfl)) (fun _ _ _ h => h) (Or.inl ⟨by rfl, ?_⟩) hHeld ?_ ?_; rotate_left; ·rintro w' ⟨s0, s1, s2, s3, s4⟩; go_simp; with_reducible rfl
                  rotate_left; ·simp only [Act.put, qy1, qy2, qy3, i64_w, i32_w]; rfl
                  refine take_ (i := 8) (N := some 104) (v := ?_) (a' := ?_) #[qT,qT,qT,qT,qT,qT,qT,qT,qT,qF,qF,qF] rfl rfl (qaT HT_.out HW_.out (by kernel_rfl)) (fun _ _ _ h => h) (Or.inl ⟨by rfl, ?_⟩) hHeld ?_ ?_; rotate_left; ·rintro w' ⟨s0, s1, s2, s3, s4⟩; go_simp; with_reducible rfl
                  rotate_left; ·simp only [Act.put, qy1, qy2, qy3, i64_w, i32_w]; rfl
                  refine qP 9 (some 105) ?_ #[qT,qT,qT,qT,qT,qT,qT,qT,qT,qT,qF,qF] HT_.out rfl rfl (by kernel_rfl) (fun _ _ _ h => h) (Or.inl ⟨by rfl, ?_⟩) ?_ ?_ ?_; rotate_left; ·intro w'; go_simp; with_reducible rfl
                  rotate_left; ·simp only [Act.put, qy1, qy2, qy3, i64_w, i32_w]; rfl
                  refine qP 10 (some 106) ?_ #[qT,qT,qT,qT,qT,qT,qT,qT,qT,qT,qT,qF] HT_.out rfl rfl (by kernel_rfl) (fun _ _ _ h => h) (Or.inl ⟨by rfl, ?_⟩) ?_ ?_ ?_; rotate_left; ·intro w'; go_simp; with_reducible rfl
                  rotate_left; ·simp only [Act.put, qy1, qy2, qy3, i64_w, i32_w]; rfl
                  refine last_ (i := 11) (N := none) #[qT,qT,qT,qT,qT,qT,qT,qT,qT,qT,qT,qT] rfl rfl (qbH HT_.out (by kernel_rfl)) (by decide) (fun K hK => ?_)
                  refine skip_ (w1 := ?_) (by rfl) rfl ?_ ?_
                  rotate_left; ·go_simp; rfl
                  refine hK.out _ _ ?_
                  clear hK K; refine done_ (qby HT_.out (by kernel_rfl)) ?_
                  try go_wp2
                  (try simp only [← hl14_3, ← hl15_3])
                  go_roundg k3
                  case measure => have := HJ5.out; have := HJ14.out; have := HK3.out; omega
                  case rel => exact ⟨(y316), (wrap64 (x91_3 + 1)), (by first | rfl | (simp; done) | (simp [*]; done)), H', ⟨by have := HJ5.out; have := HJ14.out; have := HK3.out; omega⟩, ⟨by (try simp only [hl14_3]); (try simp only [hl15_3]); (with_reducible repeat (first | apply Kd.qax | apply Kd.qaw | apply Kd.qaA)); exact Kd.qaY (Kd.R_far (p := ⟨go40, (((qag t294 x91_3).f0) : Int).toNat, none⟩) (Kd.qbs HO_12.out GG40.out (by decide)) (fun _ hk => hk.2) (.int .i64 (wrap64 ((rd x16_3 ((qag t294 x91_3).f0)) + (rd t307 x91_3))))) (fun _ hk => hk.1.1)⟩, ⟨by (try simp only [hl14_3]); (try simp only [hl15_3]); (with_reducible repeat (first | apply Kd.qax | apply Kd.qaw | apply Kd.qaA)); exact Kd.qaY (Kd.R_far (p := ⟨go40, (((qag t294 x91_3).f0) : Int).toNat, none⟩) (Kd.qaY HO_14.out (fun k_ hk => (⟨hk, fun e_ => hk.2 (by rw [e_]; rfl)⟩ : _ ∧ k_ ≠ go40))) (fun _ hk => hk.2) (.int .i64 (wrap64 ((rd x16_3 ((qag t294 x91_3).f0)) + (rd t307 x91_3))))) (fun _ hk => ⟨hk.1.1, hk.1.2⟩)⟩, ⟨by (try simp only [hl14_3]); (try simp only [hl15_3]); (with_reducible repeat (first | apply Kd.qax | apply Kd.qaw | apply Kd.qaA)); exact Kd.qaY (Kd.R_far (p := ⟨go40, (((qag t294 x91_3).f0) : Int).toNat, none⟩) (Kd.qaY HO_15.out (fun k_ hk => (⟨hk, fun e_ => hk.2 (by rw [e_]; rfl)⟩ : _ ∧ k_ ≠ go40))) (fun _ hk => hk.2) (.int .i64 (wrap64 ((rd x16_3 ((qag t294 x91_3).f0)) + (rd t307 x91_3))))) (fun _ hk => ⟨hk.1.1, hk.1.2⟩)⟩, ⟨by (try simp only [hl14_3]); (try simp only [hl15_3]); (with_reducible repeat (first | apply Kd.qax | apply Kd.qaw | apply Kd.qaA)); exact HQ46.out⟩, ⟨by (try simp only [hl14_3]); (try simp only [hl15_3]); (with_reducible repeat (first | apply Kd.qax | apply Kd.qaw | apply Kd.qaA)); exact Kd.qaY (Kd.R_far (p := ⟨go40, (((qag t294 x91_3).f0) : Int).toNat, none⟩) (Kd.qbs HO_89.out GG40.out (by decide)) (fun _ hk => hk.2) (.int .i64 (wrap64 ((rd x16_3 ((qag t294 x91_3).f0)) + (rd t307 x91_3))))) (fun _ hk => hk.1.1)⟩, ⟨by repeat (first | (with_reducible first | exact HB.out | apply qae | apply qab | apply qad | refine qah ?_ GB40.out | refine qah ?_ GE313.out) | exact HB.out)⟩⟩
                 ·rw [if_neg c39] at H; exact absurd H (by simp)
                ·rw [if_neg c38] at H; exact absurd H (by simp)
               ·rw [if_neg c37] at H; exact absurd H (by simp)
              ·rw [if_neg c36] at H; exact absurd H (by simp)
             ·rw [if_neg c35] at H; exact absurd H (by simp)
            ·rw [if_neg c34] at H; have c34b0 : decide (x91_3 < (t294.length : Int)) = false := decide_eq_false c34; clear c34; have H' := qac.mk H; clear H; go_wp2; go_loopg [110] k3 (fun kq v110 w' => ∃ (x16_4 : List Int) (x110_4 : Int), v110 = .int .i64 x110_4 ∧ qac (qaj.l1 kq l0 t308 x16_4 t295 (t295.length : Int) x110_4 = some (r1, r2, r3)) ∧ qac (kq ≤ k3) ∧ qac (Kd.R (Kd.int .i64) 3 w' w.heap.size (fun k_ => some k_ ≠ (v310 : Value).ownBlock) (.slice Ao30 t308.length co30) t308) ∧ qac (Kd.R (Kd.int .i64) 3 w' w.heap.size (fun k_ => some k_ ≠ ((.slice Ao30 t308.length co30) : Value).ownBlock) v310 x16_4) ∧ qac (Kd.R k102 102 w' w.heap.size (fun _ => True) (.slice Ao27 t295.length co27) t295) ∧ qac (Below w.heap.size w w'))
             case atStart => exact ⟨(x16_3), (0), (by first | rfl | (simp; done) | (simp [*]; done)), H', ⟨Nat.le_refl _⟩, ⟨by (try simp only [hl14_3]); (try simp only [hl15_3]); (with_reducible repeat (first | apply Kd.qax | apply Kd.qaw | apply Kd.qaA)); exact Kd.qaY HO_15.out (fun _ hk => hk.2)⟩, ⟨by (try simp only [hl14_3]); (try simp only [hl15_3]); (with_reducible repeat (first | apply Kd.qax | apply Kd.qaw | apply Kd.qaA)); exact Kd.qaY HO_16.out (fun _ hk => hk.2)⟩, ⟨by (try simp only [hl14_3]); (try simp only [hl15_3]); (with_reducible repeat (first | apply Kd.qax | apply Kd.qaw | apply Kd.qaA)); exact Kd.qaY HO_12.out (fun _ hk => trivial)⟩, ⟨by repeat (first | (with_reducible first | exact HB.out | apply qae | apply qab | apply qad) | exact HB.out)⟩⟩
             case round =>
              clear H'; (try clear c1); (try clear c2); (try clear p2); (try clear c3); (try clear p3); (try clear q3); (try clear hx3); (try clear c4); (try clear p4); (try clear q4); (try clear hx4); (try clear hf4); (try clear c5); (try clear c5b0); (try clear c5b1); (try clear p6); (try clear c8); (try clear c8b0); (try clear c9); (try clear c9b0); (try clear c10); (try clear c10b0); (try clear c11); (try clear c15); (try clear c17); (try clear c19); (try clear c19b0); (try clear c20); (try clear c24); (try clear c24b0); (try clear c24b1); (try clear c25); (try clear c25b0); (try clear c25b1); (try clear p31); (try clear q31); (try clear hx31); (try clear c34); (try clear c34b0); (try clear c35); (try clear c35b0); (try clear c36); (try clear c36b0); (try clear c37); (try clear c37b0); (try clear c38); (try clear c38b0); (try clear c39); (try clear c39b0); (try clear p40); (try clear q40); (try clear hx40); (try clear hf40); (try clear c42); (try clear c43); (try clear c44); (try clear c45); (try clear hcz42_0); (try clear hcz42_1); (try clear hcz42_2); (try clear hfz42_0); (try clear hfz42_1); (try clear hfz42_2); (try clear hx312_0); (try clear hx312_1); (try clear hx312_2); (try clear hx314_0); (try clear hx315_0); (try clear hx40_0); (try clear p2); (try clear p312); (try clear p314); (try clear p315); (try clear p40); (try clear p6); (try clear q312); (try clear q314); (try clear q315); (try clear q40); obtain ⟨x16_4, x110_4, rfl, HA, HK4, HO_15, HO_16, HO_108, HB⟩ := hrel
              cases gk with
              | zero => exact absurd HA.out (by simp [qaj.l1])
              | succ k4 =>
               have H := HA.out; clear HA; simp only [qaj.l1] at H
               by_cases c47 : x110_4 < (t295.length : Int)
               ·rw [if_pos c47] at H; have c47b0 : decide (x110_4 < (t295.length : Int)) = true := decide_eq_true c47; clear c47; by_cases c48 : 0 ≤ x110_4
                ·rw [if_pos c48] at H; have c48b0 : decide (0 ≤ x110_4) = true := decide_eq_true c48; clear c48; by_cases c49 : x110_4 < (t295.length : Int)
                 ·rw [if_pos c49] at H; have c49b0 : decide (x110_4 < (t295.length : Int)) = true := decide_eq_true c49; clear c49; by_cases c50 : 0 ≤ ((qag t295 x110_4).f0)
                  ·rw [if_pos c50] at H; have c50b0 : decide (0 ≤ ((qag t295 x110_4).f0)) = true := decide_eq_true c50; clear c50; by_cases c51 : ((qag t295 x110_4).f0) < (x16_4.length : Int)
                   ·rw [if_pos c51] at H; have c51b0 : decide (((qag t295 x110_4).f0) < (x16_4.length : Int)) = true := decide_eq_true c51; clear c51; by_cases c52 : x110_4 < (t308.length : Int)
                    ·rw [if_pos c52] at H; have c52b0 : decide (x110_4 < (t308.length : Int)) = true := decide_eq_true c52; clear c52; obtain ⟨y321, hy321⟩ : ∃ y_ : List Int, y_ = (x16_4.set (((qag t295 x110_4).f0) : Int).toNat (wrap64 ((rd x16_4 ((qag t295 x110_4).f0)) + (rd t308 x110_4)))) := ⟨_, rfl⟩
                     replace H : (qaj.l1 k4 l0 t308 y321 t295 (t295.length : Int) (wrap64 (x110_4 + 1))) = some (r1, r2, r3) := by first | (rw [hy321]; with_reducible exact H) | (have H2_ := (Option.bind_some _ _).symm.trans H; rw [hy321]; with_reducible exact H2_) | (have H2_ := (Option.bind_some _ _).symm.trans H; with_reducible exact H2_) | with_reducible exact H | (rw [hy321]; exact H) | exact H
                     have Ny321 := qac.mk hy321
                     clear hy321; have H' := qac.mk H; clear H; have p317 : 0 ≤ (x110_4 : Int) := of_decide_eq_true (by first | (with_reducible assumption) | assumption)
                     have q317 : x110_4 < (t295.length : Int) := of_decide_eq_true (by first | (with_reducible assumption) | assumption)
                     obtain ⟨ad317, e317, hx317_0, hx317_1, hx317_2⟩ := qbm (Kd.qaN HO_108.out).2.2 x110_4 p317 q317
                     cases e317
                     replace p317 := eq_true p317; replace q317 := eq_true q317; try go_wp2_with (first | ((with_reducible refine qaV (N := 20) rfl ?_); refine qaU ?hg (N := 20) ?hd (cs := #[.int .i64 0, .int .i64 0, .int .i64 0]) (t := 102) ?hr ?_; (case hd => rfl); (case hg => rfl); (case hr => first | (go_simp; done) | (go_simp; rfl)); intro gb318 hg w54 hbox hb; have n0_ := qac.mk (Kd.qa8 (by (with_reducible repeat (first | apply Kd.qax | apply Kd.qaw | apply Kd.qaA)); exact HO_15.out) hb); have n1_ := qac.mk (Kd.qa8 (by (with_reducible repeat (first | apply Kd.qax | apply Kd.qaw | apply Kd.qaA)); exact HO_16.out) hb); have n2_ := qac.mk (Kd.qa8 (Kd.R_elderB (by (with_reducible repeat (first | apply Kd.qax | apply Kd.qaw | apply Kd.qaA)); exact HO_108.out) gb318 (Nat.le_of_eq hg.symm)) hb); have n3_ := qac.mk (qaB (by repeat (first | (with_reducible first | exact HB.out | apply qae | apply qab | apply qad) | exact HB.out)) hb); have n4_ := qac.mk (hbox); have n5_ := qac.mk ((by rw [hg]; exact (qav (by repeat (first | (with_reducible first | exact HB.out | apply qae | apply qab | apply qad) | exact HB.out))) : w.heap.size ≤ gb318)); have n6_ := qac.mk ((by rw [hg]; exact (qav (by repeat (first | (with_reducible first | exact HB.out | apply qae | apply qab | apply qad) | exact HB.out))) : w.heap.size ≤ gb318)); clear HO_15; clear HO_16; clear HO_108; clear HB; have HO_15 := n0_; have HO_16 := n1_; have HO_108 := n2_; have HB := n3_; have BK318 := n4_; have GW318 := n5_; have GE318 := n6_; clear n0_ n1_ n2_ n3_ n4_ n5_ n6_; clear hb hbox hg; have hcz55_0 : w54.cell? ⟨gb318, 0, none⟩ = some (.int .i64 0) := (qas BK318.out 0).trans rfl; have hcz55_1 : w54.cell? ⟨gb318, 1, none⟩ = some (.int .i64 0) := (qas BK318.out 1).trans rfl; have hcz55_2 : w54.cell? ⟨gb318, 2, none⟩ = some (.int .i64 0) := (qas BK318.out 2).trans rfl; have hfz55_0 := qat BK318.out 0; have hfz55_1 := qat BK318.out 1; have hfz55_2 := qat BK318.out 2))
                     have n0_ : qac (Kd.R (Kd.int .i64) 3 (((w54.setCell ⟨gb318, 0, none⟩ (.int .i64 ((qag t295 x110_4).f0))).setCell ⟨gb318, 1, none⟩ (.int .i64 ((qag t295 x110_4).f1))).setCell ⟨gb318, 2, none⟩ (.int .i64 ((qag t295 x110_4).f2))) w.heap.size (fun k_ => some k_ ≠ (v310 : Value).ownBlock) (.slice Ao30 t308.length co30) t308) := ⟨by (with_reducible repeat (first | apply Kd.qax | apply Kd.qaw | apply Kd.qaA)); exact Kd.qaY (Kd.R_far (p := ⟨gb318, 2, none⟩) (Kd.R_far (p := ⟨gb318, 1, none⟩) (Kd.R_far (p := ⟨gb318, 0, none⟩) (Kd.qbs HO_15.out BK318.out (by decide)) (fun _ hk => hk.2) (.int .i64 ((qag t295 x110_4).f0))) (fun _ hk => hk.2) (.int .i64 ((qag t295 x110_4).f1))) (fun _ hk => hk.2) (.int .i64 ((qag t295 x110_4).f2))) (fun _ hk => hk.1)⟩
                     have n1_ : qac (Kd.R (Kd.int .i64) 3 (((w54.setCell ⟨gb318, 0, none⟩ (.int .i64 ((qag t295 x110_4).f0))).setCell ⟨gb318, 1, none⟩ (.int .i64 ((qag t295 x110_4).f1))).setCell ⟨gb318, 2, none⟩ (.int .i64 ((qag t295 x110_4).f2))) w.heap.size (fun k_ => some k_ ≠ (.slice Ao30 t308.length co30 : Value).ownBlock) v310 x16_4) := ⟨by (with_reducible repeat (first | apply Kd.qax | apply Kd.qaw | apply Kd.qaA)); exact Kd.qaY (Kd.R_far (p := ⟨gb318, 2, none⟩) (Kd.R_far (p := ⟨gb318, 1, none⟩) (Kd.R_far (p := ⟨gb318, 0, none⟩) (Kd.qbs HO_16.out BK318.out (by decide)) (fun _ hk => hk.2) (.int .i64 ((qag t295 x110_4).f0))) (fun _ hk => hk.2) (.int .i64 ((qag t295 x110_4).f1))) (fun _ hk => hk.2) (.int .i64 ((qag t295 x110_4).f2))) (fun _ hk => hk.1)⟩
                     have n2_ : qac (Kd.R k102 102 (((w54.setCell ⟨gb318, 0, none⟩ (.int .i64 ((qag t295 x110_4).f0))).setCell ⟨gb318, 1, none⟩ (.int .i64 ((qag t295 x110_4).f1))).setCell ⟨gb318, 2, none⟩ (.int .i64 ((qag t295 x110_4).f2))) w.heap.size (fun k_ => k_ ≠ gb318) (.slice (some ad317) t295.length co27) t295) := ⟨by (with_reducible repeat (first | apply Kd.qax | apply Kd.qaw | apply Kd.qaA)); exact Kd.qaY (Kd.R_far (p := ⟨gb318, 2, none⟩) (Kd.R_far (p := ⟨gb318, 1, none⟩) (Kd.R_far (p := ⟨gb318, 0, none⟩) (Kd.qaY HO_108.out (fun k_ hk => (⟨hk, hk.2⟩ : _ ∧ k_ ≠ gb318))) (fun _ hk => hk.2) (.int .i64 ((qag t295 x110_4).f0))) (fun _ hk => hk.2) (.int .i64 ((qag t295 x110_4).f1))) (fun _ hk => hk.2) (.int .i64 ((qag t295 x110_4).f2))) (fun _ hk => hk.1.2)⟩
                     have n3_ : qac ((((w54.setCell ⟨gb318, 0, none⟩ (.int .i64 ((qag t295 x110_4).f0))).setCell ⟨gb318, 1, none⟩ (.int .i64 ((qag t295 x110_4).f1))).setCell ⟨gb318, 2, none⟩ (.int .i64 ((qag t295 x110_4).f2))).heap[gb318]? = some (.cells #[.int .i64 ((qag t295 x110_4).f0), .int .i64 ((qag t295 x110_4).f1), .int .i64 ((qag t295 x110_4).f2)] 102 (0, 0))) := ⟨by (with_reducible repeat (first | refine qan ?_ _ | refine qap ?_ | refine qao ?_ _)); refine qa1 (cs := #[.int .i64 ((qag t295 x110_4).f0), .int .i64 ((qag t295 x110_4).f1), .int .i64 0]) ?_ 2 _ rfl; (with_reducible repeat (first | refine qan ?_ _ | refine qap ?_ | refine qao ?_ _)); refine qa1 (cs := #[.int .i64 ((qag t295 x110_4).f0), .int .i64 0, .int .i64 0]) ?_ 1 _ rfl; (with_reducible repeat (first | refine qan ?_ _ | refine qap ?_ | refine qao ?_ _)); refine qa1 (cs := #[.int .i64 0, .int .i64 0, .int .i64 0]) ?_ 0 _ rfl; (with_reducible repeat (first | refine qan ?_ _ | refine qap ?_ | refine qao ?_ _)); exact BK318.out⟩
                     have n4_ : qac (Below w.heap.size w (((w54.setCell ⟨gb318, 0, none⟩ (.int .i64 ((qag t295 x110_4).f0))).setCell ⟨gb318, 1, none⟩ (.int .i64 ((qag t295 x110_4).f1))).setCell ⟨gb318, 2, none⟩ (.int .i64 ((qag t295 x110_4).f2)))) := ⟨by repeat (first | (with_reducible first | exact HB.out | apply qae | apply qab | apply qad | refine qah ?_ GE318.out) | exact HB.out)⟩
                     (try clear HO_15); (try clear HO_16); (try clear HO_108); (try clear BK318); (try clear HB); generalize (((w54.setCell ⟨gb318, 0, none⟩ (.int .i64 ((qag t295 x110_4).f0))).setCell ⟨gb318, 1, none⟩ (.int .i64 ((qag t295 x110_4).f1))).setCell ⟨gb318, 2, none⟩ (.int .i64 ((qag t295 x110_4).f2))) = w56 at n0_ n1_ n2_ n3_ n4_ ⊢
                     have HO_15 := n0_; have HO_16 := n1_; have HO_108 := n2_; have BK318 := n3_; have HB := n4_; clear n0_ n1_ n2_ n3_ n4_; have n0_ := qac.mk (Kd.qaA HO_15.out)
                     have n1_ := qac.mk (Kd.qaA HO_16.out)
                     have n2_ := qac.mk (Kd.qaA HO_108.out)
                     have n3_ := qac.mk (qap BK318.out)
                     have n4_ := qac.mk (qad HB.out)
                     clear HO_15; clear HO_16; clear HO_108; clear BK318; clear HB; have HO_15 := n0_; have HO_16 := n1_; have HO_108 := n2_; have BK318 := n3_; have HB := n4_; clear n0_ n1_ n2_ n3_ n4_; obtain ⟨Ao58, co58, eo58⟩ := Kd.qbc HO_16.out
                     (first | subst eo58 | (injection eo58 with f1_ f2_ f3_; have f4_ := f1_.symm; have f5_ := f3_.symm; clear f1_ f2_ f3_; subst f4_; subst f5_))
                     have p319 : 0 ≤ (((qag t295 x110_4).f0) : Int) := of_decide_eq_true (by first | (with_reducible assumption) | assumption)
                     have q319 : ((qag t295 x110_4).f0) < (x16_4.length : Int) := of_decide_eq_true (by first | (with_reducible assumption) | assumption)
                     obtain ⟨ad319, e319, hx319_0⟩ := Kd.qbJ (Kd.qaN HO_16.out).2.2 ((qag t295 x110_4).f0) p319 q319
                     cases e319
                     replace p319 := eq_true p319; replace q319 := eq_true q319; have p320 : 0 ≤ (x110_4 : Int) := of_decide_eq_true (by first | (with_reducible assumption) | assumption)
                     have q320 : x110_4 < (t308.length : Int) := of_decide_eq_true (by first | (with_reducible assumption) | assumption)
                     obtain ⟨ad320, e320, hx320_0⟩ := Kd.qbJ (Kd.qaN HO_15.out).2.2 x110_4 p320 q320
                     cases e320
                     replace p320 := eq_true p320; replace q320 := eq_true q320; have p53 : 0 ≤ (((qag t295 x110_4).f0) : Int) := of_decide_eq_true (by first | (with_reducible assumption) | assumption)
                     have q53 : (((qag t295 x110_4).f0) : Int) < ((x16_4.length : Int) : Int) := of_decide_eq_true (by first | (with_reducible assumption) | assumption)
                     obtain ⟨go53, co53, eo53, gb53, gl53, cl53, HG53⟩ := Kd.R_form HO_16.out (by omega)
                     (first | cases eo53 | (injection eo53 with ea_ en_ ec_; (first | subst ea_ | (injection ea_ with ea_; subst ea_)); subst ec_; clear en_))
                     have GB53 := qac.mk gb53
                     have GG53 := qac.mk HG53
                     clear gb53 gl53 HG53; (first | simp only [add_plain] at hx319_0 | skip)
                     obtain ⟨hx53_0, hf53_0⟩ := Kd.R_celln 0 HO_16.out (((qag t295 x110_4).f0) : Int) p53 q53
                     replace p53 := eq_true p53; replace q53 := eq_true q53; have HP59 := Kd.R_putn HO_16.out (((qag t295 x110_4).f0) : Int) (wrap64 ((rd x16_4 ((qag t295 x110_4).f0)) + (rd t308 x110_4)))
                     rw [← Ny321.out] at HP59; have HQ59 := qac.mk HP59
                     clear HP59; refine qbD (n := 12) (S := fun w' => w'.cell? ⟨gb318, 0, none⟩ = some (.int .i64 ((qag t295 x110_4).f0)) ∧ w'.cell? ⟨gb318, 1, none⟩ = some (.int .i64 ((qag t295 x110_4).f1)) ∧ w'.cell? ⟨gb318, 2, none⟩ = some (.int .i64 ((qag t295 x110_4).f2)) ∧ w'.cell? ⟨go53, (((qag t295 x110_4).f0)).toNat, none⟩ = some (.int .i64 (rd x16_4 ((qag t295 x110_4).f0))) ∧ w'.cell? (ad320.add (x110_4).toNat) = some (.int .i64 (rd t308 x110_4))) (ds := [11]) #[qF,qF,qF,qF,qF,qF,qF,qF,qF,qF,qF,qF] (by kernel_rfl) rfl rfl ⟨(qas BK318.out 0).trans rfl, (qas BK318.out 1).trans rfl, (qas BK318.out 2).trans rfl, hx319_0, hx320_0⟩ (fun hHeld => ?_); refine qbj qaj.tab21 qaj.bits21 (fun HT_ HW_ => ?_)
                     generalize w56.drew = w57 at HO_15 HO_16 HO_108 BK318 HB GG53 HQ59 hf53_0 hx319_0 hx320_0 hx53_0 hHeld ⊢
                     refine qP 0 (some 115) ?_ #[qT,qF,qF,qF,qF,qF,qF,qF,qF,qF,qF,qF] HT_.out rfl rfl (by kernel_rfl) (fun _ _ _ h => h) (Or.inl ⟨by rfl, ?_⟩) ?_ ?_ ?_; rotate_left; ·intro w'; go_simp; with_reducible rfl
                     rotate_left; ·simp only [Act.put, qy1, qy2, qy3, i64_w, i32_w]; rfl
                     refine qP 1 (some 116) ?_ #[qT,qT,qF,qF,qF,qF,qF,qF,qF,qF,qF,qF] HT_.out rfl rfl (by kernel_rfl) (fun _ _ _ h => h) (Or.inl ⟨by rfl, ?_⟩) ?_ ?_ ?_; rotate_left; ·intro w'; go_simp; with_reducible rfl
                     rotate_left; ·simp only [Act.put, qy1, qy2, qy3, i64_w, i32_w]; rfl
                     refine qP 5 (some 120) ?_ #[qT,qT,qF,qF,qF,qT,qF,qF,qF,qF,qF,qF] HT_.out rfl rfl (by kernel_rfl) (fun _ _ _ h => h) (Or.inl ⟨by rfl, ?_⟩) ?_ ?_ ?_; rotate_left; ·intro w'; go_simp; with_reducible rfl
                     rotate_left; ·simp only [Act.put, qy1, qy2, qy3, i64_w, i32_w]; rfl
                     refine qP 6 (some 121) ?_ #[qT,qT,qF,qF,qF,qT,qT,qF,qF,qF,qF,qF] HT_.out rfl rfl (by kernel_rfl) (fun _ _ _ h => h) (Or.inl ⟨by rfl, ?_⟩) ?_ ?_ ?_; rotate_left; ·intro w'; go_simp; with_reducible rfl
                     rotate_left; ·simp only [Act.put, qy1, qy2, qy3, i64_w, i32_w]; rfl
                     refine qP 7 (some 122) ?_ #[qT,qT,qF,qF,qF,qT,qT,qT,qF,qF,qF,qF] HT_.out rfl rfl (by kernel_rfl) (fun _ _ _ h => h) (Or.inl ⟨by rfl, ?_⟩) ?_ ?_ ?_; rotate_left; ·intro w'; go_simp; with_reducible rfl
                     rotate_left; ·simp only [Act.put, qy1, qy2, qy3, i64_w, i32_w]; rfl
                     refine take_ (i := 2) (N := some 117) (v := ?_) (a' := ?_) #[qT,qT,qT,qF,qF,qT,qT,qT,qF,qF,qF,qF] rfl rfl (qaT HT_.out HW_.out (by kernel_rfl)) (fun _ _ _ h => h) (Or.inl ⟨by rfl, ?_⟩) hHeld ?_ ?_; rotate_left; ·rintro w' ⟨s0, s1, s2, s3, s4⟩; go_simp; with_reducible rfl
                     rotate_left; ·simp only [Act.put, qy1, qy2, qy3, i64_w, i32_w]; rfl
                     refine qP 3 (some 118) ?_ #[qT,qT,qT,qT,qF,qT,qT,qT,qF,qF,qF,qF] HT_.out rfl rfl (by kernel_rfl) (fun _ _ _ h => h) (Or.inl ⟨by rfl, ?_⟩) ?_ ?_ ?_; rotate_left; ·intro w'; go_simp; with_reducible rfl
                     rotate_left; ·simp only [Act.put, qy1, qy2, qy3, i64_w, i32_w]; rfl
                     refine take_ (i := 4) (N := some 119) (v := ?_) (a' := ?_) #[qT,qT,qT,qT,qT,qT,qT,qT,qF,qF,qF,qF] rfl rfl (qaT HT_.out HW_.out (by kernel_rfl)) (fun _ _ _ h => h) (Or.inl ⟨by rfl, ?_⟩) hHeld ?_ ?_; rotate_left; ·rintro w' ⟨s0, s1, s2, s3, s4⟩; go_simp; with_reducible rfl
                     rotate_left; ·simp only [Act.put, qy1, qy2, qy3, i64_w, i32_w]; rfl
                     refine take_ (i := 8) (N := some 123) (v := ?_) (a' := ?_) #[qT,qT,qT,qT,qT,qT,qT,qT,qT,qF,qF,qF] rfl rfl (qaT HT_.out HW_.out (by kernel_rfl)) (fun _ _ _ h => h) (Or.inl ⟨by rfl, ?_⟩) hHeld ?_ ?_; rotate_left; ·rintro w' ⟨s0, s1, s2, s3, s4⟩; go_simp; with_reducible rfl
                     rotate_left; ·simp only [Act.put, qy1, qy2, qy3, i64_w, i32_w]; rfl
                     refine qP 9 (some 124) ?_ #[qT,qT,qT,qT,qT,qT,qT,qT,qT,qT,qF,qF] HT_.out rfl rfl (by kernel_rfl) (fun _ _ _ h => h) (Or.inl ⟨by rfl, ?_⟩) ?_ ?_ ?_; rotate_left; ·intro w'; go_simp; with_reducible rfl
                     rotate_left; ·simp only [Act.put, qy1, qy2, qy3, i64_w, i32_w]; rfl
                     refine qP 10 (some 125) ?_ #[qT,qT,qT,qT,qT,qT,qT,qT,qT,qT,qT,qF] HT_.out rfl rfl (by kernel_rfl) (fun _ _ _ h => h) (Or.inl ⟨by rfl, ?_⟩) ?_ ?_ ?_; rotate_left; ·intro w'; go_simp; with_reducible rfl
                     rotate_left; ·simp only [Act.put, qy1, qy2, qy3, i64_w, i32_w]; rfl
                     refine last_ (i := 11) (N := none) #[qT,qT,qT,qT,qT,qT,qT,qT,qT,qT,qT,qT] rfl rfl (qbH HT_.out (by kernel_rfl)) (by decide) (fun K hK => ?_)
                     refine skip_ (w1 := ?_) (by rfl) rfl ?_ ?_
                     rotate_left; ·go_simp; rfl
                     refine hK.out _ _ ?_
                     clear hK K; refine done_ (qby HT_.out (by kernel_rfl)) ?_
                     try go_wp2
                     go_roundg k4
                     case measure => have := HJ5.out; have := HJ14.out; have := HK3.out; have := HK4.out; omega
                     case rel => exact ⟨(y321), (wrap64 (x110_4 + 1)), (by first | rfl | (simp; done) | (simp [*]; done)), H', ⟨by have := HJ5.out; have := HJ14.out; have := HK3.out; have := HK4.out; omega⟩, ⟨by (try simp only [hl14_3]); (try simp only [hl15_3]); (with_reducible repeat (first | apply Kd.qax | apply Kd.qaw | apply Kd.qaA)); exact Kd.qaY (Kd.R_far (p := ⟨go53, (((qag t295 x110_4).f0) : Int).toNat, none⟩) (Kd.qaY HO_15.out (fun k_ hk => (⟨hk, fun e_ => hk (by rw [e_]; rfl)⟩ : _ ∧ k_ ≠ go53))) (fun _ hk => hk.2) (.int .i64 (wrap64 ((rd x16_4 ((qag t295 x110_4).f0)) + (rd t308 x110_4))))) (fun _ hk => hk.1)⟩, ⟨by (try simp only [hl14_3]); (try simp only [hl15_3]); (with_reducible repeat (first | apply Kd.qax | apply Kd.qaw | apply Kd.qaA)); exact HQ59.out⟩, ⟨by (try simp only [hl14_3]); (try simp only [hl15_3]); (with_reducible repeat (first | apply Kd.qax | apply Kd.qaw | apply Kd.qaA)); exact Kd.qaY (Kd.R_far (p := ⟨go53, (((qag t295 x110_4).f0) : Int).toNat, none⟩) (Kd.qbs HO_108.out GG53.out (by decide)) (fun _ hk => hk.2) (.int .i64 (wrap64 ((rd x16_4 ((qag t295 x110_4).f0)) + (rd t308 x110_4))))) (fun _ hk => trivial)⟩, ⟨by repeat (first | (with_reducible first | exact HB.out | apply qae | apply qab | apply qad | refine qah ?_ GB53.out | refine qah ?_ GE318.out) | exact HB.out)⟩⟩
                    ·rw [if_neg c52] at H; exact absurd H (by simp)
                   ·rw [if_neg c51] at H; exact absurd H (by simp)
                  ·rw [if_neg c50] at H; exact absurd H (by simp)
                 ·rw [if_neg c49] at H; exact absurd H (by simp)
                ·rw [if_neg c48] at H; exact absurd H (by simp)
               ·rw [if_neg c47] at H; have c47b0 : decide (x110_4 < (t295.length : Int)) = false := decide_eq_false c47; clear c47; have H' := qac.mk H; clear H; go_wp2; go_loopg [21, 129] k4 (fun kq v21 v129 w' => ∃ (x21_5 : Int) (x129_5 : Int), v21 = .int .i64 x21_5 ∧ v129 = .int .i64 x129_5 ∧ qac (qaj.l2 kq x16_4 x21_5 l0 (l0.length : Int) x129_5 = some (r1, r2, r3)) ∧ qac (kq ≤ k4) ∧ qac (Kd.R (Kd.int .i64) 3 w' w.heap.size (fun _ => True) v310 x16_4) ∧ qac (Below w.heap.size w w'))
                case atStart => exact ⟨(0), (0), (by first | rfl | (simp; done) | (simp [*]; done)), (by first | rfl | (simp; done) | (simp [*]; done)), H', ⟨Nat.le_refl _⟩, ⟨by (try simp only [hl14_3]); (try simp only [hl15_3]); (with_reducible repeat (first | apply Kd.qax | apply Kd.qaw | apply Kd.qaA)); exact Kd.qaY HO_16.out (fun _ hk => trivial)⟩, ⟨by repeat (first | (with_reducible first | exact HB.out | apply qae | apply qab | apply qad) | exact HB.out)⟩⟩
                case round =>
                 clear H'; (try clear c1); (try clear c2); (try clear p2); (try clear c3); (try clear p3); (try clear q3); (try clear hx3); (try clear c4); (try clear p4); (try clear q4); (try clear hx4); (try clear hf4); (try clear c5); (try clear c5b0); (try clear c5b1); (try clear p5); (try clear q5); (try clear hx5); (try clear hf5); (try clear p6); (try clear c8); (try clear c8b0); (try clear c9); (try clear c9b0); (try clear c10); (try clear c10b0); (try clear c11); (try clear c15); (try clear c17); (try clear c19); (try clear c19b0); (try clear c20); (try clear c24); (try clear c24b0); (try clear c24b1); (try clear c25); (try clear c25b0); (try clear c25b1); (try clear p31); (try clear q31); (try clear hx31); (try clear p32); (try clear q32); (try clear hx32); (try clear c34); (try clear c34b0); (try clear c35); (try clear c35b0); (try clear c36); (try clear c36b0); (try clear c37); (try clear c37b0); (try clear c38); (try clear c38b0); (try clear c39); (try clear c39b0); (try clear p40); (try clear q40); (try clear hx40); (try clear hf40); (try clear c42); (try clear c43); (try clear c44); (try clear c45); (try clear c47); (try clear c47b0); (try clear c48); (try clear c48b0); (try clear c49); (try clear c49b0); (try clear c50); (try clear c50b0); (try clear c51); (try clear c51b0); (try clear c52); (try clear c52b0); (try clear p53); (try clear q53); (try clear hx53); (try clear hf53); (try clear hcz42_0); (try clear hcz42_1); (try clear hcz42_2); (try clear hcz55_0); (try clear hcz55_1); (try clear hcz55_2); (try clear hfz42_0); (try clear hfz42_1); (try clear hfz42_2); (try clear hfz55_0); (try clear hfz55_1); (try clear hfz55_2); (try clear hx312_0); (try clear hx312_1); (try clear hx312_2); (try clear hx314_0); (try clear hx315_0); (try clear hx317_0); (try clear hx317_1); (try clear hx317_2); (try clear hx319_0); (try clear hx320_0); (try clear hx40_0); (try clear hx53_0); (try clear p2); (try clear p3); (try clear p31); (try clear p312); (try clear p314); (try clear p315); (try clear p317); (try clear p319); (try clear p320); (try clear p4); (try clear p40); (try clear p53); (try clear p6); (try clear q3); (try clear q31); (try clear q312); (try clear q314); (try clear q315); (try clear q317); (try clear q319); (try clear q320); (try clear q4); (try clear q40); (try clear q53); obtain ⟨x21_5, x129_5, rfl, rfl, HA, HK5, HO_16, HB⟩ := hrel
                 cases gk with
                 | zero => exact absurd HA.out (by simp [qaj.l2])
                 | succ k5 =>
                  have H := HA.out; clear HA; simp only [qaj.l2] at H
                  by_cases c60 : x129_5 < (l0.length : Int)
                  ·rw [if_pos c60] at H; have c60b0 : decide (x129_5 < (l0.length : Int)) = true := decide_eq_true c60; clear c60; by_cases c61 : 0 ≤ x129_5
                   ·rw [if_pos c61] at H; have c61b0 : decide (0 ≤ x129_5) = true := decide_eq_true c61; clear c61; by_cases c62 : x129_5 < (l0.length : Int)
                    ·rw [if_pos c62] at H; have c62b0 : decide (x129_5 < (l0.length : Int)) = true := decide_eq_true c62; clear c62; by_cases c63 : x129_5 < (x16_4.length : Int)
                     ·rw [if_pos c63] at H; have c63b0 : decide (x129_5 < (x16_4.length : Int)) = true := decide_eq_true c63; clear c63; replace H := Option.bind_eq_some_iff.mp H; obtain ⟨⟨t325, t326⟩, A640, H⟩ := H
                      replace H : (qaj.l2 k5 x16_4 (wrap64 (x21_5 + t325)) l0 (l0.length : Int) (wrap64 (x129_5 + 1))) = some (r1, r2, r3) := H
                      have A64 := qac.mk A640
                      clear A640; have H' := qac.mk H; clear H; have p322 : 0 ≤ (x129_5 : Int) := of_decide_eq_true (by first | (with_reducible assumption) | assumption)
                      have q322 : x129_5 < (l0.length : Int) := of_decide_eq_true (by first | (with_reducible assumption) | assumption)
                      obtain ⟨ad322, A322_1, c322_1, e322, hx322_0, hx322_1, hx322_2, hl322_1, hi322_1⟩ := at_T32 HR0.out x129_5 p322 q322
                      cases e322
                      replace hx322_0 := (HB.out.cell (World.block_lt_of_cell? w _ hx322_0)).trans hx322_0
                      replace hx322_1 := (HB.out.cell (World.block_lt_of_cell? w _ hx322_1)).trans hx322_1
                      replace hx322_2 := (HB.out.cell (World.block_lt_of_cell? w _ hx322_2)).trans hx322_2
                      have HR322_1 := qac.mk hi322_1
                      have HC322_1 := qac.mk hl322_1
                      clear hi322_1 hl322_1; replace p322 := eq_true p322; replace q322 := eq_true q322; try go_wp2_with (first | ((with_reducible refine qaV (N := 23) rfl ?_); refine qaU ?hg (N := 23) ?hd (cs := #[.string (⟨#[]⟩ : ByteArray), .slice none 0 0, .int .i64 0]) (t := 32) ?hr ?_; (case hd => rfl); (case hg => rfl); (case hr => first | (go_simp; done) | (go_simp; rfl)); intro gb323 hg w65 hbox hb; have n0_ := qac.mk (Kd.qa8 (by (with_reducible repeat (first | apply Kd.qax | apply Kd.qaw | apply Kd.qaA)); exact HO_16.out) hb); have n1_ := qac.mk (qaB (by repeat (first | (with_reducible first | exact HB.out | apply qae | apply qab | apply qad) | exact HB.out)) hb); have n2_ := qac.mk (hbox); have n3_ := qac.mk ((by rw [hg]; exact (qav (by repeat (first | (with_reducible first | exact HB.out | apply qae | apply qab | apply qad) | exact HB.out))) : w.heap.size ≤ gb323)); have n4_ := qac.mk ((by rw [hg]; exact (qav (by repeat (first | (with_reducible first | exact HB.out | apply qae | apply qab | apply qad) | exact HB.out))) : w.heap.size ≤ gb323)); clear HO_16; clear HB; have HO_16 := n0_; have HB := n1_; have BK323 := n2_; have GW323 := n3_; have GE323 := n4_; clear n0_ n1_ n2_ n3_ n4_; clear hb hbox hg; have hcz66_0 : w65.cell? ⟨gb323, 0, none⟩ = some (.string (⟨#[]⟩ : ByteArray)) := (qas BK323.out 0).trans rfl; have hcz66_1 : w65.cell? ⟨gb323, 1, none⟩ = some (.slice none 0 0) := (qas BK323.out 1).trans rfl; have hcz66_2 : w65.cell? ⟨gb323, 2, none⟩ = some (.int .i64 0) := (qas BK323.out 2).trans rfl; have hfz66_0 := qat BK323.out 0; have hfz66_1 := qat BK323.out 1; have hfz66_2 := qat BK323.out 2))
                      have n0_ : qac (Kd.R (Kd.int .i64) 3 (((w65.setCell ⟨gb323, 0, none⟩ (.string ((qam l0 x129_5).f0.f0))).setCell ⟨gb323, 1, none⟩ (.slice A322_1 ((qam l0 x129_5).f0.f1).length c322_1)).setCell ⟨gb323, 2, none⟩ (.int .i64 ((qam l0 x129_5).f1))) w.heap.size (fun _ => True) v310 x16_4) := ⟨by (with_reducible repeat (first | apply Kd.qax | apply Kd.qaw | apply Kd.qaA)); exact Kd.qaY (Kd.R_far (p := ⟨gb323, 2, none⟩) (Kd.R_far (p := ⟨gb323, 1, none⟩) (Kd.R_far (p := ⟨gb323, 0, none⟩) (Kd.qbs HO_16.out BK323.out (by decide)) (fun _ hk => hk.2) (.string ((qam l0 x129_5).f0.f0))) (fun _ hk => hk.2) (.slice A322_1 ((qam l0 x129_5).f0.f1).length c322_1)) (fun _ hk => hk.2) (.int .i64 ((qam l0 x129_5).f1))) (fun _ hk => trivial)⟩
                      have n1_ : qac ((((w65.setCell ⟨gb323, 0, none⟩ (.string ((qam l0 x129_5).f0.f0))).setCell ⟨gb323, 1, none⟩ (.slice A322_1 ((qam l0 x129_5).f0.f1).length c322_1)).setCell ⟨gb323, 2, none⟩ (.int .i64 ((qam l0 x129_5).f1))).heap[gb323]? = some (.cells #[.string ((qam l0 x129_5).f0.f0), .slice A322_1 ((qam l0 x129_5).f0.f1).length c322_1, .int .i64 ((qam l0 x129_5).f1)] 32 (0, 0))) := ⟨by (with_reducible repeat (first | refine qan ?_ _ | refine qap ?_ | refine qao ?_ _)); refine qa1 (cs := #[.string ((qam l0 x129_5).f0.f0), .slice A322_1 ((qam l0 x129_5).f0.f1).length c322_1, .int .i64 0]) ?_ 2 _ rfl; (with_reducible repeat (first | refine qan ?_ _ | refine qap ?_ | refine qao ?_ _)); refine qa1 (cs := #[.string ((qam l0 x129_5).f0.f0), .slice none 0 0, .int .i64 0]) ?_ 1 _ rfl; (with_reducible repeat (first | refine qan ?_ _ | refine qap ?_ | refine qao ?_ _)); refine qa1 (cs := #[.string (⟨#[]⟩ : ByteArray), .slice none 0 0, .int .i64 0]) ?_ 0 _ rfl; (with_reducible repeat (first | refine qan ?_ _ | refine qap ?_ | refine qao ?_ _)); exact BK323.out⟩
                      have n2_ : qac (Below w.heap.size w (((w65.setCell ⟨gb323, 0, none⟩ (.string ((qam l0 x129_5).f0.f0))).setCell ⟨gb323, 1, none⟩ (.slice A322_1 ((qam l0 x129_5).f0.f1).length c322_1)).setCell ⟨gb323, 2, none⟩ (.int .i64 ((qam l0 x129_5).f1)))) := ⟨by repeat (first | (with_reducible first | exact HB.out | apply qae | apply qab | apply qad | refine qah ?_ GE323.out) | exact HB.out)⟩
                      (try clear HO_16); (try clear BK323); (try clear HB); generalize (((w65.setCell ⟨gb323, 0, none⟩ (.string ((qam l0 x129_5).f0.f0))).setCell ⟨gb323, 1, none⟩ (.slice A322_1 ((qam l0 x129_5).f0.f1).length c322_1)).setCell ⟨gb323, 2, none⟩ (.int .i64 ((qam l0 x129_5).f1))) = w67 at n0_ n1_ n2_ ⊢
                      have HO_16 := n0_; have BK323 := n1_; have HB := n2_; clear n0_ n1_ n2_; have n0_ := qac.mk (Kd.qaA HO_16.out)
                      have n1_ := qac.mk (qap BK323.out)
                      have n2_ := qac.mk (qad HB.out)
                      clear HO_16; clear BK323; clear HB; have HO_16 := n0_; have BK323 := n1_; have HB := n2_; clear n0_ n1_ n2_; obtain ⟨Ao69, co69, eo69⟩ := Kd.qbc HO_16.out
                      (first | subst eo69 | (injection eo69 with f1_ f2_ f3_; have f4_ := f1_.symm; have f5_ := f3_.symm; clear f1_ f2_ f3_; subst f4_; subst f5_))
                      have p324 : 0 ≤ (x129_5 : Int) := of_decide_eq_true (by first | (with_reducible assumption) | assumption)
                      have q324 : x129_5 < (x16_4.length : Int) := of_decide_eq_true (by first | (with_reducible assumption) | assumption)
                      obtain ⟨ad324, e324, hx324_0⟩ := Kd.qbJ (Kd.qaN HO_16.out).2.2 x129_5 p324 q324
                      cases e324
                      replace p324 := eq_true p324; replace q324 := eq_true q324; refine qbD (n := 12) (S := fun w' => w'.cell? ⟨gb323, 0, none⟩ = some (.string ((qam l0 x129_5).f0.f0)) ∧ w'.cell? ⟨gb323, 1, none⟩ = some (.slice A322_1 ((qam l0 x129_5).f0.f1).length c322_1) ∧ w'.cell? ⟨gb323, 2, none⟩ = some (.int .i64 ((qam l0 x129_5).f1)) ∧ w'.cell? (ad324.add (x129_5).toNat) = some (.int .i64 (rd x16_4 x129_5))) (ds := []) #[qF,qF,qF,qF,qF,qF,qF,qF,qF,qF,qF,qF] (by kernel_rfl) rfl rfl ⟨(qas BK323.out 0).trans rfl, (qas BK323.out 1).trans rfl, (qas BK323.out 2).trans rfl, hx324_0⟩ (fun hHeld => ?_); refine qbj qaj.tab27 qaj.bits27 (fun HT_ HW_ => ?_)
                      generalize w67.drew = w68 at HO_16 BK323 HB hx324_0 hHeld ⊢
                      refine qP 0 (some 135) ?_ #[qT,qF,qF,qF,qF,qF,qF,qF,qF,qF,qF,qF] HT_.out rfl rfl (by kernel_rfl) (fun _ _ _ h => h) (Or.inl ⟨by rfl, ?_⟩) ?_ ?_ ?_; rotate_left; ·intro w'; go_simp; with_reducible rfl
                      rotate_left; ·simp only [Act.put, qy1, qy2, qy3, i64_w, i32_w]; rfl
                      refine qP 2 (some 137) ?_ #[qT,qF,qT,qF,qF,qF,qF,qF,qF,qF,qF,qF] HT_.out rfl rfl (by kernel_rfl) (fun _ _ _ h => h) (Or.inl ⟨by rfl, ?_⟩) ?_ ?_ ?_; rotate_left; ·intro w'; go_simp; with_reducible rfl
                      rotate_left; ·simp only [Act.put, qy1, qy2, qy3, i64_w, i32_w]; rfl
                      refine qP 3 (some 138) ?_ #[qT,qF,qT,qT,qF,qF,qF,qF,qF,qF,qF,qF] HT_.out rfl rfl (by kernel_rfl) (fun _ _ _ h => h) (Or.inl ⟨by rfl, ?_⟩) ?_ ?_ ?_; rotate_left; ·intro w'; go_simp; with_reducible rfl
                      rotate_left; ·simp only [Act.put, qy1, qy2, qy3, i64_w, i32_w]; rfl
                      refine qP 4 (some 139) ?_ #[qT,qF,qT,qT,qT,qF,qF,qF,qF,qF,qF,qF] HT_.out rfl rfl (by kernel_rfl) (fun _ _ _ h => h) (Or.inl ⟨by rfl, ?_⟩) ?_ ?_ ?_; rotate_left; ·intro w'; go_simp; with_reducible rfl
                      rotate_left; ·simp only [Act.put, qy1, qy2, qy3, i64_w, i32_w]; rfl
                      refine take_ (i := 1) (N := some 136) (v := ?_) (a' := ?_) #[qT,qT,qT,qT,qT,qF,qF,qF,qF,qF,qF,qF] rfl rfl (qaT HT_.out HW_.out (by kernel_rfl)) (fun _ _ _ h => h) (Or.inl ⟨by rfl, ?_⟩) hHeld ?_ ?_; rotate_left; ·rintro w' ⟨s0, s1, s2, s3⟩; go_simp; with_reducible rfl
                      rotate_left; ·simp only [Act.put, qy1, qy2, qy3, i64_w, i32_w]; rfl
                      refine take_ (i := 5) (N := some 140) (v := ?_) (a' := ?_) #[qT,qT,qT,qT,qT,qT,qF,qF,qF,qF,qF,qF] rfl rfl (qaT HT_.out HW_.out (by kernel_rfl)) (fun _ _ _ h => h) (Or.inl ⟨by rfl, ?_⟩) hHeld ?_ ?_; rotate_left; ·rintro w' ⟨s0, s1, s2, s3⟩; go_simp; with_reducible rfl
                      rotate_left; ·simp only [Act.put, qy1, qy2, qy3, i64_w, i32_w]; rfl
                      refine one_ (i := 6) (N := some 141) #[qT,qT,qT,qT,qT,qT,qT,qF,qF,qF,qF,qF] rfl rfl (qbH HT_.out (by kernel_rfl)) (by decide) (fun K hK => ?_)
                      refine goes_ Try.func46 (by kernel_rfl) rfl #[.agg #[.string ((qam l0 x129_5).f0.f0), .slice A322_1 ((qam l0 x129_5).f0.f1).length c322_1], .int .i64 (rd x16_4 x129_5)] (by rfl) rfl rfl (by (try simp only [qy6, qy7, qy8]); first | done | rfl | (simp only [List.length_drop, List.length_take]; rfl)) ?_
                      with_reducible refine (qaR.calls k5 ((qam l0 x129_5).f0.f0) _ _ ((qam l0 x129_5).f0.f1) (rd x16_4 x129_5) t325 t326 _ ?side1 ?side2 A64.out).mono ?_
                      (case side1 => repeat (first | exact (Kd.qbt HR322_1.out HB.out) | (with_reducible refine Kd.qbl ?_ _) | (with_reducible refine Kd.qbk ?_ _) | (with_reducible refine Kd.qbw ?_)))
                      (case side2 => exact HC322_1.out)
                      rintro e w70 ⟨rfl, hb⟩
                      have HS3_ := (hb.cell (World.block_lt_of_cell? _ _ (hHeld.2.2.2))).trans (hHeld.2.2.2)
                      refine ⟨_, rfl, ?_⟩
                      have n0_ := qac.mk (Kd.qa8 (by (with_reducible repeat (first | apply Kd.qax | apply Kd.qaw | apply Kd.qaA)); exact HO_16.out) hb)
                      have n1_ := qac.mk (qaS (g := gb323) (o := .cells #[.string ((qam l0 x129_5).f0.f0), .slice A322_1 ((qam l0 x129_5).f0.f1).length c322_1, .int .i64 ((qam l0 x129_5).f1)] 32 (0, 0)) (by (with_reducible repeat (first | refine qan ?_ _ | refine qap ?_ | refine qao ?_ _)); exact BK323.out) hb)
                      have n2_ := qac.mk (qaB (by repeat (first | (with_reducible first | exact HB.out | apply qae | apply qab | apply qad | refine qah ?_ GE323.out) | exact HB.out)) hb)
                      clear HO_16; clear BK323; clear HB; have HO_16 := n0_; have BK323 := n1_; have HB := n2_; clear n0_ n1_ n2_; (try clear hb); (try clear hb2); (try clear hk); (try clear hi); refine hK.out _ _ ⟨(qas BK323.out 0).trans rfl, (qas BK323.out 1).trans rfl, (qas BK323.out 2).trans rfl, HS3_⟩ (fun hHeld => ?_)
                      clear hK K; refine norm_ (a' := ?_) ?_ ?_; rotate_left
                      ·show Act.put _ (some 141) _ = _
                       simp only [Act.put, qy1, qy2, qy3, i64_w, i32_w]
                       rfl
                      refine qP 7 (some 134) ?_ #[qT,qT,qT,qT,qT,qT,qT,qT,qF,qF,qF,qF] HT_.out rfl rfl (by kernel_rfl) (fun _ _ _ h => h) (Or.inl ⟨by rfl, ?_⟩) ?_ ?_ ?_; rotate_left; ·intro w'; go_simp; with_reducible rfl
                      rotate_left; ·simp only [Act.put, qy1, qy2, qy3, i64_w, i32_w]; rfl
                      refine qP 8 (some 142) ?_ #[qT,qT,qT,qT,qT,qT,qT,qT,qT,qF,qF,qF] HT_.out rfl rfl (by kernel_rfl) (fun _ _ _ h => h) (Or.inl ⟨by rfl, ?_⟩) ?_ ?_ ?_; rotate_left; ·intro w'; go_simp; with_reducible rfl
                      rotate_left; ·simp only [Act.put, qy1, qy2, qy3, i64_w, i32_w]; rfl
                      refine qP 9 (some 143) ?_ #[qT,qT,qT,qT,qT,qT,qT,qT,qT,qT,qF,qF] HT_.out rfl rfl (by kernel_rfl) (fun _ _ _ h => h) (Or.inl ⟨by rfl, ?_⟩) ?_ ?_ ?_; rotate_left; ·intro w'; go_simp; with_reducible rfl
                      rotate_left; ·simp only [Act.put, qy1, qy2, qy3, i64_w, i32_w]; rfl
                      refine qP 10 (some 24) ?_ #[qT,qT,qT,qT,qT,qT,qT,qT,qT,qT,qT,qF] HT_.out rfl rfl (by kernel_rfl) (fun _ _ _ h => h) (Or.inl ⟨by rfl, ?_⟩) ?_ ?_ ?_; rotate_left; ·intro w'; go_simp; with_reducible rfl
                      rotate_left; ·simp only [Act.put, qy1, qy2, qy3, i64_w, i32_w]; rfl
                      refine qP 11 (some 25) ?_ #[qT,qT,qT,qT,qT,qT,qT,qT,qT,qT,qT,qT] HT_.out rfl rfl (by kernel_rfl) (fun _ _ _ h => h) (Or.inl ⟨by rfl, ?_⟩) ?_ ?_ ?_; rotate_left; ·intro w'; go_simp; with_reducible rfl
                      rotate_left; ·simp only [Act.put, qy1, qy2, qy3, i64_w, i32_w]; rfl
                      refine done_ (qby HT_.out (by kernel_rfl)) ?_
                      try go_wp2
                      go_roundg k5
                      case measure => have := HJ5.out; have := HJ14.out; have := HK3.out; have := HK4.out; have := HK5.out; omega
                      case rel => exact ⟨(wrap64 (x21_5 + t325)), (wrap64 (x129_5 + 1)), (by first | rfl | (simp; done) | (simp [*]; done)), (by first | rfl | (simp; done) | (simp [*]; done)), H', ⟨by have := HJ5.out; have := HJ14.out; have := HK3.out; have := HK4.out; have := HK5.out; omega⟩, ⟨by (try simp only [hl14_3]); (try simp only [hl15_3]); (with_reducible repeat (first | apply Kd.qax | apply Kd.qaw | apply Kd.qaA)); exact HO_16.out⟩, ⟨by repeat (first | (with_reducible first | exact HB.out | apply qae | apply qab | apply qad | refine qah ?_ GE323.out) | exact HB.out)⟩⟩
                     ·rw [if_neg c63] at H; exact absurd H (by simp)
                    ·rw [if_neg c62] at H; exact absurd H (by simp)
                   ·rw [if_neg c61] at H; exact absurd H (by simp)
                  ·rw [if_neg c60] at H; have c60b0 : decide (x129_5 < (l0.length : Int)) = false := decide_eq_false c60; clear c60; simp only [Option.some.injEq, Prod.mk.injEq] at H
                   obtain ⟨rfl, rfl, rfl⟩ := H; go_wp2; go_ret3
                   exact ⟨_, by first | rfl | (simp [qaz, qay] <;> rfl) | (simp only [← hji14]; first | rfl | (simp [qaz, qay] <;> rfl)) | (simp [*, qaz, qay] <;> rfl), by (with_reducible repeat (first | apply Kd.qax | apply Kd.qaw | apply Kd.qaA)); exact HO_16.out, by repeat (first | (with_reducible first | exact HB.out | apply qae | apply qab | apply qad) | exact HB.out)⟩
         ·rw [if_neg c25] at H; exact absurd H (by simp)
        ·rw [if_neg c24] at H; exact absurd H (by simp)
 ·rw [if_neg c5] at H; have c5b0 : (t293 == 0) = false := beq_eq_false_iff_ne.mpr c5; have c5b1 : (t293 != 0) = true := bne_iff_ne.mpr c5; simp only [Option.some.injEq, Prod.mk.injEq] at H
  obtain ⟨rfl, rfl, rfl⟩ := H; go_enter Try.func17, Try.ntmps17; go_wp2_with (first | ((with_reducible refine qaL (f := 15) rfl ?_); refine qa9 (some 28) rfl rfl Try.func15 (by kernel_rfl) rfl #[.slice A0 l0.length c0] rfl (by (try simp only [qy6, qy7, qy8]); first | done | rfl | (simp only [List.length_drop, List.length_take]; rfl)) ?_; (with_reducible refine (qaG.calls k _ _ l0 t292 t293 _ ?side1 ?side2 A4.out).mono ?_); (case side1 => repeat (first | exact HR0.out | (with_reducible refine Kd.qbl ?_ _) | (with_reducible refine Kd.qbk ?_ _) | (with_reducible refine Kd.qbw ?_))); (case side2 => exact HC0.out); rintro e w71 ⟨rfl, hb⟩; refine ⟨_, rfl, ?_⟩; have n0_ := qac.mk (qaB (by repeat (first | (with_reducible first | exact HB.out | apply qae | apply qab | apply qad) | exact HB.out)) hb); clear HB; have HB := n0_; clear n0_; (try clear hb); (try clear hb2); (try clear hk); (try clear hi)))
  go_ret3
  exact ⟨_, by first | rfl | (simp [qaz, qay] <;> rfl) | (simp [*, qaz, qay] <;> rfl), by first | exact Kd.R_nil _ _ _ _ _ | exact Kd.N_nil _ _ _ _ _ | exact Kd.V_nil _ _ _ _ _ | exact Kd.Q_nil _ _ _ _ _ | exact Kd.S_nil _ _ _ _ _, by repeat (first | (with_reducible first | exact HB.out | apply qae | apply qab | apply qad) | exact HB.out)⟩
end Go.Proofs.Ytfcifmbddikflaa.P
