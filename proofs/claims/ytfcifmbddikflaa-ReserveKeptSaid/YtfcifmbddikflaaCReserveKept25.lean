/- Texts of the claim, put together: Px26, Px27, Px28, Px29. -/
import Derived.Test.YtfcifmbddikflaaCReserveKept14
import Derived.Test.YtfcifmbddikflaaCReserveKept22
import Derived.Test.YtfcifmbddikflaaCReserveKept24
import Derived.Test.YtfcifmbddikflaaCReserveKept16
import Derived.Test.YtfcifmbddikflaaCReserveKept17
import Derived.Test.YtfcifmbddikflaaCReserveKept18
import Derived.Test.YtfcifmbddikflaaCReserveKept19
namespace Go.Proofs.Ytfcifmbddikflaa.P
open Go.RowKit Go.Proofs.YtfcifmbddikflaaW.PrintWords Go.Proofs.YtfcifmbddikflaaW.PrintLast Go.Proofs.YtfcifmbddikflaaW.PrintMore
attribute [local go_sem] qbi qbg qbp qbo qa5 qa4 qbh qbf
set_option linter.unusedVariables false
set_option linter.unusedSimpArgs false
mutual
def qai.l0 : Nat → List (S102) → Int → Int → Int → Int → Option ((List (S102)))
 | 0, _, _, _, _, _ => none
 | k + 1, x0, x1, x6, x7, x8 => if x8 ≤ x1 then ((qaf.f k x0 x7 x8).bind fun t249 => (qai.l0 k t249 x1 x6 x8 (wrap64 (x8 + x6)))) else ((qaf.f k x0 x7 x1).bind fun t250 => (qai.l1 k t250 x1 x6))
def qai.l1 : Nat → List (S102) → Int → Int → Option ((List (S102)))
 | 0, _, _, _ => none
 | k + 1, x0, x1, x6 => if x6 < x1 then (qai.l2 k x0 x1 x6 0 (wrap64 (2 * x6))) else (some x0)
def qai.l2 : Nat → List (S102) → Int → Int → Int → Int → Option ((List (S102)))
 | 0, _, _, _, _, _ => none
 | k + 1, x0, x1, x6, x7, x8 => if x8 ≤ x1 then ((qaa.f k x0 x7 (wrap64 (x7 + x6)) x8).bind fun t251 => (qai.l2 k t251 x1 x6 x8 (wrap64 (x8 + (wrap64 (2 * x6)))))) else (if (wrap64 (x7 + x6)) < x1 then ((qaa.f k x0 x7 (wrap64 (x7 + x6)) x1).bind fun t252 => (qai.l1 k t252 x1 (wrap64 (x6 * 2)))) else (qai.l1 k x0 x1 (wrap64 (x6 * 2))))
end
def qai.f (k : Nat) (l0 : List (S102)) (a1 : Int)  : Option ((List (S102))) := qai.l0 k l0 a1 20 0 20
theorem qai.qbe : ∀ k, (∀ y0 y1 y2 y3 y4, LeO (qai.l0 k y0 y1 y2 y3 y4) (qai.l0 (k + 1) y0 y1 y2 y3 y4)) ∧ (∀ y0 y1 y2, LeO (qai.l1 k y0 y1 y2) (qai.l1 (k + 1) y0 y1 y2)) ∧ (∀ y0 y1 y2 y3 y4, LeO (qai.l2 k y0 y1 y2 y3 y4) (qai.l2 (k + 1) y0 y1 y2 y3 y4))
 | 0 => ⟨fun _ _ _ _ _ r h => by simp [qai.l0] at h, fun _ _ _ r h => by simp [qai.l1] at h, fun _ _ _ _ _ r h => by simp [qai.l2] at h⟩
 | k + 1 => by
  obtain ⟨ih0, ih1, ih2⟩ := qai.qbe k
  refine ⟨?_, ?_, ?_⟩
  ·intro y0 y1 y2 y3 y4; unfold qai.l0
   repeat' first
   | (with_reducible exact ih0 _ _ _ _ _)
   | (with_reducible exact ih1 _ _ _)
   | (with_reducible exact ih2 _ _ _ _ _)
   | (with_reducible exact qaf.mono _ _ _ _)
   | (with_reducible exact qaa.mono _ _ _ _ _)
   | (with_reducible exact LeO.refl _)
   | (with_reducible exact LeO.none _)
   | (with_reducible refine LeO.ite ?_ ?_)
   | (with_reducible refine LeO.bind ?_ (fun _ => ?_))
   | exact ih0 _ _ _ _ _
   | exact ih1 _ _ _
   | exact ih2 _ _ _ _ _
   | exact qaf.mono _ _ _ _
   | exact qaa.mono _ _ _ _ _
   | exact LeO.none _
   | refine LeO.ite ?_ ?_
   | refine LeO.bind ?_ (fun _ => ?_)
  ·intro y0 y1 y2; unfold qai.l1
   repeat' first
   | (with_reducible exact ih0 _ _ _ _ _)
   | (with_reducible exact ih1 _ _ _)
   | (with_reducible exact ih2 _ _ _ _ _)
   | (with_reducible exact qaf.mono _ _ _ _)
   | (with_reducible exact qaa.mono _ _ _ _ _)
   | (with_reducible exact LeO.refl _)
   | (with_reducible exact LeO.none _)
   | (with_reducible refine LeO.ite ?_ ?_)
   | (with_reducible refine LeO.bind ?_ (fun _ => ?_))
   | exact ih0 _ _ _ _ _
   | exact ih1 _ _ _
   | exact ih2 _ _ _ _ _
   | exact qaf.mono _ _ _ _
   | exact qaa.mono _ _ _ _ _
   | exact LeO.none _
   | refine LeO.ite ?_ ?_
   | refine LeO.bind ?_ (fun _ => ?_)
  ·intro y0 y1 y2 y3 y4; unfold qai.l2
   repeat' first
   | (with_reducible exact ih0 _ _ _ _ _)
   | (with_reducible exact ih1 _ _ _)
   | (with_reducible exact ih2 _ _ _ _ _)
   | (with_reducible exact qaf.mono _ _ _ _)
   | (with_reducible exact qaa.mono _ _ _ _ _)
   | (with_reducible exact LeO.refl _)
   | (with_reducible exact LeO.none _)
   | (with_reducible refine LeO.ite ?_ ?_)
   | (with_reducible refine LeO.bind ?_ (fun _ => ?_))
   | exact ih0 _ _ _ _ _
   | exact ih1 _ _ _
   | exact ih2 _ _ _ _ _
   | exact qaf.mono _ _ _ _
   | exact qaa.mono _ _ _ _ _
   | exact LeO.none _
   | refine LeO.ite ?_ ?_
   | refine LeO.bind ?_ (fun _ => ?_)
theorem qai.mono : ∀ a0 a1 k, LeO (qai.f k a0 a1) (qai.f (k + 1) a0 a1) := by
 intro a0 a1 k; obtain ⟨ih0, ih1, ih2⟩ := qai.qbe k
 unfold qai.f
 repeat' first
   | (with_reducible exact ih0 _ _ _ _ _)
   | (with_reducible exact ih1 _ _ _)
   | (with_reducible exact ih2 _ _ _ _ _)
   | (with_reducible exact qaf.mono _ _ _ _)
   | (with_reducible exact qaa.mono _ _ _ _ _)
   | (with_reducible exact LeO.refl _)
   | (with_reducible exact LeO.none _)
   | (with_reducible refine LeO.ite ?_ ?_)
   | (with_reducible refine LeO.bind ?_ (fun _ => ?_))
   | exact ih0 _ _ _ _ _
   | exact ih1 _ _ _
   | exact ih2 _ _ _ _ _
   | exact qaf.mono _ _ _ _
   | exact qaa.mono _ _ _ _ _
   | exact LeO.none _
   | refine LeO.ite ?_ ?_
   | refine LeO.bind ?_ (fun _ => ?_)
set_option maxHeartbeats 8000000 in
set_option maxRecDepth 100000 in
theorem qai.calls (k : Nat) (P0_ : Nat → Prop) (u9000_ : Value) (l0 : List (S102)) (a1 : Int)  (r : List (S102)) (w0 w : World) (hB : Below w0.heap.size w0 w) (ho0 : Kd.R k102 102 w w0.heap.size P0_ u9000_ l0) (h : qai.f k l0 a1 = some r) :
  Calls Try.prog 92 #[u9000_, .int .i64 a1, .func (.func 75) #[] #[]] w fun e w' => e = .returned (.tuple #[]) ∧ Kd.R k102 102 w' w0.heap.size (fun k_ => (P0_ k_ ∨ w.heap.size ≤ k_)) u9000_ r ∧ Below w0.heap.size w0 w' ∧ Kept w w' (fun k_ => P0_ k_) := by
 have HO0 := qac.mk (show Kd.R k102 102 w w0.heap.size (fun k_ => (P0_ k_ ∨ w.heap.size ≤ k_)) u9000_ l0 from Kd.qaY ho0 (fun k_ hk => (.inl hk)))
 have HK := qac.mk (Kept.refl w (fun k_ => P0_ k_))
 have HW0 := qac.mk hB.size
 have HB := qac.mk hB
 clear hB; have H : (qai.l0 k l0 a1 20 0 20) = some r := h
 clear h; have H' := qac.mk H; clear H; go_enter Try.func92, Try.ntmps92; go_wp2; go_loopg [7, 8] k (fun kq v7 v8 w' => ∃ (x0_1 : List (S102)) (x7_1 : Int) (x8_1 : Int), v7 = .int .i64 x7_1 ∧ v8 = .int .i64 x8_1 ∧ qac (qai.l0 kq x0_1 a1 20 x7_1 x8_1 = some r) ∧ qac (kq ≤ k) ∧ qac (Kd.R k102 102 w' w0.heap.size (fun k_ => (P0_ k_ ∨ w.heap.size ≤ k_)) u9000_ x0_1) ∧ qac (Kept w w' (fun k_ => P0_ k_)) ∧ qac (Below w0.heap.size w0 w'))
 case atStart => exact ⟨(l0), (0), (20), (by first | rfl | (simp; done) | (simp [*]; done)), (by first | rfl | (simp; done) | (simp [*]; done)), H', ⟨Nat.le_refl _⟩, ⟨by (with_reducible repeat (first | apply Kd.qax | apply Kd.qaw | apply Kd.qaA)); exact HO0.out⟩, ⟨by repeat (first | (with_reducible first | exact HK.out | apply Kept.alloc | apply Kept.drewN | apply Kept.drew) | exact HK.out)⟩, ⟨by repeat (first | (with_reducible first | exact HB.out | apply qae | apply qab | apply qad) | exact HB.out)⟩⟩
 case round =>
  clear H'; (try clear p2); obtain ⟨x0_1, x7_1, x8_1, rfl, rfl, HA, HK1, HO_0, HK, HB⟩ := hrel
  cases gk with
  | zero => exact absurd HA.out (by simp [qai.l0])
  | succ k1 =>
   have H := HA.out; clear HA; simp only [qai.l0] at H
   by_cases c4 : x8_1 ≤ a1
   ·rw [if_pos c4] at H; have c4b0 : decide (x8_1 ≤ a1) = true := decide_eq_true c4; clear c4; replace H := Option.bind_eq_some_iff.mp H; obtain ⟨t249, A50, H⟩ := H; replace H : (qai.l0 k1 t249 a1 20 x8_1 (wrap64 (x8_1 + 20))) = some r := H
    have A5 := qac.mk A50
    clear A50; have H' := qac.mk H; clear H; obtain ⟨Ao6, co6, eo6⟩ := Kd.qbc HO_0.out
    subst eo6; go_wp2_with (first | ((with_reducible refine qaL (f := 100) rfl ?_); refine qa9 (some 18) rfl rfl Try.func100 (by kernel_rfl) rfl #[.slice Ao6 x0_1.length co6, .int .i64 x7_1, .int .i64 x8_1, .func (.func 75) #[] #[]] rfl (by (try simp only [qy6, qy7, qy8]); first | done | rfl | (simp only [List.length_drop, List.length_take]; rfl)) ?_; (with_reducible refine (qaf.calls k1 (fun k_ => some k_ = (.slice Ao6 x0_1.length co6 : Value).ownBlock) (.slice Ao6 x0_1.length co6) x0_1 x7_1 x8_1  t249 w0 _ ?side1 ?side2 A5.out).mono ?_); (case side1 => repeat (first | (with_reducible first | exact HB.out | apply qae | apply qab | apply qad) | exact HB.out)); (case side2 => exact Kd.qbI rfl HO_0.out); rintro e w7 ⟨rfl, hy0, hb, hkp⟩; refine ⟨_, rfl, ?_⟩; have n0_ := qac.mk (Kd.R_reok rfl hy0 (fun k_ e_ => HO_0.out.1 k_ e_)); have n1_ := qac.mk (Kept.then_ (S := (fun k_ => P0_ k_)) (by repeat (first | (with_reducible first | exact HK.out | apply Kept.alloc | apply Kept.drewN | apply Kept.drew) | exact HK.out)) hkp (fun k_ hs_ => (fun e_ => (HO_0.out.1 k_ e_.symm)) hs_)); have n2_ := qac.mk (hb); clear HO_0; clear HK; clear HB; have HO_0 := n0_; have HK := n1_; have HB := n2_; clear n0_ n1_ n2_; (try clear hb); (try clear hkp); (try clear hy0)))
    go_roundg k1
    case measure => have := HK1.out; omega
    case rel => exact ⟨(t249), (x8_1), (wrap64 (x8_1 + 20)), (by first | rfl | (simp; done) | (simp [*]; done)), (by first | rfl | (simp; done) | (simp [*]; done)), H', ⟨by have := HK1.out; omega⟩, ⟨by (with_reducible repeat (first | apply Kd.qax | apply Kd.qaw | apply Kd.qaA)); exact HO_0.out⟩, ⟨by repeat (first | (with_reducible first | exact HK.out | apply Kept.alloc | apply Kept.drewN | apply Kept.drew) | exact HK.out)⟩, ⟨by repeat (first | (with_reducible first | exact HB.out | apply qae | apply qab | apply qad) | exact HB.out)⟩⟩
   ·rw [if_neg c4] at H; have c4b0 : decide (x8_1 ≤ a1) = false := decide_eq_false c4; clear c4; replace H := Option.bind_eq_some_iff.mp H; obtain ⟨t250, A80, H⟩ := H; replace H : (qai.l1 k1 t250 a1 20) = some r := H
    have A8 := qac.mk A80
    clear A80; have H' := qac.mk H; clear H; obtain ⟨Ao9, co9, eo9⟩ := Kd.qbc HO_0.out
    subst eo9; go_wp2_with (first | ((with_reducible refine qaL (f := 100) rfl ?_); refine qa9 (some 27) rfl rfl Try.func100 (by kernel_rfl) rfl #[.slice Ao9 x0_1.length co9, .int .i64 x7_1, .int .i64 a1, .func (.func 75) #[] #[]] rfl (by (try simp only [qy6, qy7, qy8]); first | done | rfl | (simp only [List.length_drop, List.length_take]; rfl)) ?_; (with_reducible refine (qaf.calls k1 (fun k_ => some k_ = (.slice Ao9 x0_1.length co9 : Value).ownBlock) (.slice Ao9 x0_1.length co9) x0_1 x7_1 a1  t250 w0 _ ?side1 ?side2 A8.out).mono ?_); (case side1 => repeat (first | (with_reducible first | exact HB.out | apply qae | apply qab | apply qad) | exact HB.out)); (case side2 => exact Kd.qbI rfl HO_0.out); rintro e w10 ⟨rfl, hy0, hb, hkp⟩; refine ⟨_, rfl, ?_⟩; have n0_ := qac.mk (Kd.R_reok rfl hy0 (fun k_ e_ => HO_0.out.1 k_ e_)); have n1_ := qac.mk (Kept.then_ (S := (fun k_ => P0_ k_)) (by repeat (first | (with_reducible first | exact HK.out | apply Kept.alloc | apply Kept.drewN | apply Kept.drew) | exact HK.out)) hkp (fun k_ hs_ => (fun e_ => (HO_0.out.1 k_ e_.symm)) hs_)); have n2_ := qac.mk (hb); clear HO_0; clear HK; clear HB; have HO_0 := n0_; have HK := n1_; have HB := n2_; clear n0_ n1_ n2_; (try clear hb); (try clear hkp); (try clear hy0)))
    (try simp only [Act.put, List.setIfInBounds_toArray, List.set_cons_zero, List.set_cons_succ])
    go_loopg [6] k1 (fun kq v6 w' => ∃ (x0_2 : List (S102)) (x6_2 : Int), v6 = .int .i64 x6_2 ∧ qac (qai.l1 kq x0_2 a1 x6_2 = some r) ∧ qac (kq ≤ k1) ∧ qac (Kd.R k102 102 w' w0.heap.size (fun k_ => (P0_ k_ ∨ w.heap.size ≤ k_)) (.slice Ao9 x0_1.length co9) x0_2) ∧ qac (Kept w w' (fun k_ => P0_ k_)) ∧ qac (Below w0.heap.size w0 w'))
    case atStart => exact ⟨(t250), (20), (by first | rfl | (simp; done) | (simp [*]; done)), H', ⟨Nat.le_refl _⟩, ⟨by (with_reducible repeat (first | apply Kd.qax | apply Kd.qaw | apply Kd.qaA)); exact HO_0.out⟩, ⟨by repeat (first | (with_reducible first | exact HK.out | apply Kept.alloc | apply Kept.drewN | apply Kept.drew) | exact HK.out)⟩, ⟨by repeat (first | (with_reducible first | exact HB.out | apply qae | apply qab | apply qad) | exact HB.out)⟩⟩
    case round =>
     clear H'; (try clear c1); (try clear p2); (try clear c4); (try clear c4b0); (try clear p6); (try clear c9); (try clear c10); (try clear p2); obtain ⟨x0_2, x6_2, rfl, HA, HK2, HO_0, HK, HB⟩ := hrel
     have hl0_2 := (Kd.qaN HO_0.out).1
     rw [hl0_2] at HO_0; (try simp only [hl0_2])
     cases gk with
     | zero => exact absurd HA.out (by simp [qai.l1])
     | succ k2 =>
      have H := HA.out; clear HA; simp only [qai.l1] at H
      by_cases c11 : x6_2 < a1
      ·rw [if_pos c11] at H; have c11b0 : decide (x6_2 < a1) = true := decide_eq_true c11; clear c11; have H' := qac.mk H; clear H; go_wp2; go_loopg [7, 8] k2 (fun kq v7 v8 w' => ∃ (x0_3 : List (S102)) (x7_3 : Int) (x8_3 : Int), v7 = .int .i64 x7_3 ∧ v8 = .int .i64 x8_3 ∧ qac (qai.l2 kq x0_3 a1 x6_2 x7_3 x8_3 = some r) ∧ qac (kq ≤ k2) ∧ qac (Kd.R k102 102 w' w0.heap.size (fun k_ => (P0_ k_ ∨ w.heap.size ≤ k_)) (.slice Ao9 x0_2.length co9) x0_3) ∧ qac (Kept w w' (fun k_ => P0_ k_)) ∧ qac (Below w0.heap.size w0 w'))
       case atStart => exact ⟨(x0_2), (0), (wrap64 (2 * x6_2)), (by first | rfl | (simp; done) | (simp [*]; done)), (by first | rfl | (simp; done) | (simp [*]; done)), H', ⟨Nat.le_refl _⟩, ⟨by (try simp only [hl0_2]); (with_reducible repeat (first | apply Kd.qax | apply Kd.qaw | apply Kd.qaA)); exact HO_0.out⟩, ⟨by repeat (first | (with_reducible first | exact HK.out | apply Kept.alloc | apply Kept.drewN | apply Kept.drew) | exact HK.out)⟩, ⟨by repeat (first | (with_reducible first | exact HB.out | apply qae | apply qab | apply qad) | exact HB.out)⟩⟩
       case round =>
        clear H'; (try clear c1); (try clear p2); (try clear c4); (try clear c4b0); (try clear p6); (try clear c9); (try clear c10); (try clear c11); (try clear c11b0); (try clear p2); (try clear p6); obtain ⟨x0_3, x7_3, x8_3, rfl, rfl, HA, HK3, HO_0, HK, HB⟩ := hrel
        have hl0_3 := (Kd.qaN HO_0.out).1
        rw [hl0_3] at HO_0; (try simp only [hl0_3])
        cases gk with
        | zero => exact absurd HA.out (by simp [qai.l2])
        | succ k3 =>
         have H := HA.out; clear HA; simp only [qai.l2] at H
         by_cases c12 : x8_3 ≤ a1
         ·rw [if_pos c12] at H; have c12b0 : decide (x8_3 ≤ a1) = true := decide_eq_true c12; clear c12; replace H := Option.bind_eq_some_iff.mp H; obtain ⟨t251, A130, H⟩ := H; replace H : (qai.l2 k3 t251 a1 x6_2 x8_3 (wrap64 (x8_3 + (wrap64 (2 * x6_2))))) = some r := H
          have A13 := qac.mk A130
          clear A130; have H' := qac.mk H; clear H; go_wp2_with (first | ((with_reducible refine qaL (f := 101) rfl ?_); refine qa9 (some 43) rfl rfl Try.func101 (by kernel_rfl) rfl #[.slice Ao9 x0_3.length co9, .int .i64 x7_3, .int .i64 (wrap64 (x7_3 + x6_2)), .int .i64 x8_3, .func (.func 75) #[] #[]] rfl (by (try simp only [qy6, qy7, qy8]); first | done | rfl | (simp only [List.length_drop, List.length_take]; rfl)) ?_; (with_reducible refine (qaa.calls k3 (fun k_ => some k_ = (.slice Ao9 x0_3.length co9 : Value).ownBlock) (.slice Ao9 x0_3.length co9) x0_3 x7_3 (wrap64 (x7_3 + x6_2)) x8_3  t251 w0 _ ?side1 ?side2 A13.out).mono ?_); (case side1 => repeat (first | (with_reducible first | exact HB.out | apply qae | apply qab | apply qad) | exact HB.out)); (case side2 => exact Kd.qbI rfl HO_0.out); rintro e w14 ⟨rfl, hy0, hb, hkp⟩; refine ⟨_, rfl, ?_⟩; have n0_ := qac.mk (Kd.R_reok rfl hy0 (fun k_ e_ => HO_0.out.1 k_ e_)); have n1_ := qac.mk (Kept.then_ (S := (fun k_ => P0_ k_)) (by repeat (first | (with_reducible first | exact HK.out | apply Kept.alloc | apply Kept.drewN | apply Kept.drew) | exact HK.out)) hkp (fun k_ hs_ => (fun e_ => (HO_0.out.1 k_ e_.symm)) hs_)); have n2_ := qac.mk (hb); clear HO_0; clear HK; clear HB; have HO_0 := n0_; have HK := n1_; have HB := n2_; clear n0_ n1_ n2_; (try clear hb); (try clear hkp); (try clear hy0)))
          (try simp only [← hl0_3])
          go_roundg k3
          case measure => have := HK1.out; have := HK2.out; have := HK3.out; omega
          case rel => exact ⟨(t251), (x8_3), (wrap64 (x8_3 + (wrap64 (2 * x6_2)))), (by first | rfl | (simp; done) | (simp [*]; done)), (by first | rfl | (simp; done) | (simp [*]; done)), H', ⟨by have := HK1.out; have := HK2.out; have := HK3.out; omega⟩, ⟨by (try simp only [hl0_2]); (try simp only [hl0_3]); (with_reducible repeat (first | apply Kd.qax | apply Kd.qaw | apply Kd.qaA)); exact HO_0.out⟩, ⟨by repeat (first | (with_reducible first | exact HK.out | apply Kept.alloc | apply Kept.drewN | apply Kept.drew) | exact HK.out)⟩, ⟨by repeat (first | (with_reducible first | exact HB.out | apply qae | apply qab | apply qad) | exact HB.out)⟩⟩
         ·rw [if_neg c12] at H; have c12b0 : decide (x8_3 ≤ a1) = false := decide_eq_false c12; clear c12; by_cases c15 : (wrap64 (x7_3 + x6_2)) < a1
          ·rw [if_pos c15] at H; have c15b0 : decide ((wrap64 (x7_3 + x6_2)) < a1) = true := decide_eq_true c15; clear c15; replace H := Option.bind_eq_some_iff.mp H; obtain ⟨t252, A160, H⟩ := H; replace H : (qai.l1 k3 t252 a1 (wrap64 (x6_2 * 2))) = some r := H
           have A16 := qac.mk A160
           clear A160; have H' := qac.mk H; clear H; go_wp2_with (first | ((with_reducible refine qaL (f := 101) rfl ?_); refine qa9 (some 60) rfl rfl Try.func101 (by kernel_rfl) rfl #[.slice Ao9 x0_3.length co9, .int .i64 x7_3, .int .i64 (wrap64 (x7_3 + x6_2)), .int .i64 a1, .func (.func 75) #[] #[]] rfl (by (try simp only [qy6, qy7, qy8]); first | done | rfl | (simp only [List.length_drop, List.length_take]; rfl)) ?_; (with_reducible refine (qaa.calls k3 (fun k_ => some k_ = (.slice Ao9 x0_3.length co9 : Value).ownBlock) (.slice Ao9 x0_3.length co9) x0_3 x7_3 (wrap64 (x7_3 + x6_2)) a1  t252 w0 _ ?side1 ?side2 A16.out).mono ?_); (case side1 => repeat (first | (with_reducible first | exact HB.out | apply qae | apply qab | apply qad) | exact HB.out)); (case side2 => exact Kd.qbI rfl HO_0.out); rintro e w17 ⟨rfl, hy0, hb, hkp⟩; refine ⟨_, rfl, ?_⟩; have n0_ := qac.mk (Kd.R_reok rfl hy0 (fun k_ e_ => HO_0.out.1 k_ e_)); have n1_ := qac.mk (Kept.then_ (S := (fun k_ => P0_ k_)) (by repeat (first | (with_reducible first | exact HK.out | apply Kept.alloc | apply Kept.drewN | apply Kept.drew) | exact HK.out)) hkp (fun k_ hs_ => (fun e_ => (HO_0.out.1 k_ e_.symm)) hs_)); have n2_ := qac.mk (hb); clear HO_0; clear HK; clear HB; have HO_0 := n0_; have HK := n1_; have HB := n2_; clear n0_ n1_ n2_; (try clear hb); (try clear hkp); (try clear hy0)))
           (try simp only [← hl0_2, ← hl0_3])
           go_roundg k3
           case measure => have := HK1.out; have := HK2.out; have := HK3.out; omega
           case rel => exact ⟨(t252), (wrap64 (x6_2 * 2)), (by first | rfl | (simp; done) | (simp [*]; done)), H', ⟨by have := HK1.out; have := HK2.out; have := HK3.out; omega⟩, ⟨by (try simp only [hl0_2]); (try simp only [hl0_3]); (with_reducible repeat (first | apply Kd.qax | apply Kd.qaw | apply Kd.qaA)); exact HO_0.out⟩, ⟨by repeat (first | (with_reducible first | exact HK.out | apply Kept.alloc | apply Kept.drewN | apply Kept.drew) | exact HK.out)⟩, ⟨by repeat (first | (with_reducible first | exact HB.out | apply qae | apply qab | apply qad) | exact HB.out)⟩⟩
          ·rw [if_neg c15] at H; have c15b0 : decide ((wrap64 (x7_3 + x6_2)) < a1) = false := decide_eq_false c15; clear c15; have H' := qac.mk H; clear H; go_wp2; (try simp only [← hl0_2, ← hl0_3])
           go_roundg k3
           case measure => have := HK1.out; have := HK2.out; have := HK3.out; omega
           case rel => exact ⟨(x0_3), (wrap64 (x6_2 * 2)), (by first | rfl | (simp; done) | (simp [*]; done)), H', ⟨by have := HK1.out; have := HK2.out; have := HK3.out; omega⟩, ⟨by (try simp only [hl0_2]); (try simp only [hl0_3]); (with_reducible repeat (first | apply Kd.qax | apply Kd.qaw | apply Kd.qaA)); exact HO_0.out⟩, ⟨by repeat (first | (with_reducible first | exact HK.out | apply Kept.alloc | apply Kept.drewN | apply Kept.drew) | exact HK.out)⟩, ⟨by repeat (first | (with_reducible first | exact HB.out | apply qae | apply qab | apply qad) | exact HB.out)⟩⟩
      ·rw [if_neg c11] at H; have c11b0 : decide (x6_2 < a1) = false := decide_eq_false c11; clear c11; obtain rfl := Option.some.inj H
       go_wp2; first | go_end0 | ((try simp only [Exit.inBlock, Exit.then]); refine bodyPost_ret (results_none rfl _ _ _) rfl ?_)
       exact ⟨by first | rfl | (simp [qaz, qay] <;> rfl) | (simp [*, qaz, qay] <;> rfl), (by first | exact (by (with_reducible repeat (first | apply Kd.qax | apply Kd.qaw | apply Kd.qaA)); exact HO_0.out) | (simp only [hl0_2]; exact (by (with_reducible repeat (first | apply Kd.qax | apply Kd.qaw | apply Kd.qaA)); exact HO_0.out))), by repeat (first | (with_reducible first | exact HB.out | apply qae | apply qab | apply qad) | exact HB.out), by repeat (first | (with_reducible first | exact HK.out | apply Kept.alloc | apply Kept.drewN | apply Kept.drew) | exact HK.out)⟩
def qau.f (k : Nat) (l0 : List (S102))  : Option ((List (S102))) := (qai.f k l0 (l0.length : Int)).bind fun t253 => (some t253)
theorem qau.mono : ∀ a0 k, LeO (qau.f k a0) (qau.f (k + 1) a0) := by
 intro a0 k; unfold qau.f
 repeat' first
   | (with_reducible exact qai.mono _ _ _)
   | (with_reducible exact LeO.refl _)
   | (with_reducible exact LeO.none _)
   | (with_reducible refine LeO.ite ?_ ?_)
   | (with_reducible refine LeO.bind ?_ (fun _ => ?_))
   | exact qai.mono _ _ _
   | exact LeO.none _
   | refine LeO.ite ?_ ?_
   | refine LeO.bind ?_ (fun _ => ?_)
set_option maxHeartbeats 8000000 in
set_option maxRecDepth 100000 in
theorem qau.calls (k : Nat) (P0_ : Nat → Prop) (u9000_ : Value) (l0 : List (S102))  (r : List (S102)) (w0 w : World) (hB : Below w0.heap.size w0 w) (ho0 : Kd.R k102 102 w w0.heap.size P0_ u9000_ l0) (h : qau.f k l0 = some r) :
  Calls Try.prog 77 #[u9000_, .func (.func 75) #[] #[]] w fun e w' => e = .returned (.tuple #[]) ∧ Kd.R k102 102 w' w0.heap.size (fun k_ => (P0_ k_ ∨ w.heap.size ≤ k_)) u9000_ r ∧ Below w0.heap.size w0 w' ∧ Kept w w' (fun k_ => P0_ k_) := by
 have HO0 := qac.mk (show Kd.R k102 102 w w0.heap.size (fun k_ => (P0_ k_ ∨ w.heap.size ≤ k_)) u9000_ l0 from Kd.qaY ho0 (fun k_ hk => (.inl hk)))
 have HK := qac.mk (Kept.refl w (fun k_ => P0_ k_))
 have HW0 := qac.mk hB.size
 have HB := qac.mk hB
 clear hB; have H : ((qai.f k l0 (l0.length : Int)).bind fun t253 => (some t253)) = some r := h
 clear h; replace H := Option.bind_eq_some_iff.mp H; obtain ⟨t253, A30, H⟩ := H; replace H : (some t253) = some r := H
 have A3 := qac.mk A30
 clear A30; obtain rfl := Option.some.inj H
 obtain ⟨Ao4, co4, eo4⟩ := Kd.qbc HO0.out
 subst eo4; go_enter Try.func77, Try.ntmps77; go_wp2_with (first | ((with_reducible refine qaL (f := 92) rfl ?_); refine qa9 (some 8) rfl rfl Try.func92 (by kernel_rfl) rfl #[.slice Ao4 l0.length co4, .int .i64 (l0.length : Int), .func (.func 75) #[] #[]] rfl (by (try simp only [qy6, qy7, qy8]); first | done | rfl | (simp only [List.length_drop, List.length_take]; rfl)) ?_; (with_reducible refine (qai.calls k (fun k_ => some k_ = (.slice Ao4 l0.length co4 : Value).ownBlock) (.slice Ao4 l0.length co4) l0 (l0.length : Int)  t253 w0 _ ?side1 ?side2 A3.out).mono ?_); (case side1 => repeat (first | (with_reducible first | exact HB.out | apply qae | apply qab | apply qad) | exact HB.out)); (case side2 => exact Kd.qbI rfl HO0.out); rintro e w5 ⟨rfl, hy0, hb, hkp⟩; refine ⟨_, rfl, ?_⟩; have n0_ := qac.mk (Kd.R_reok rfl hy0 (fun k_ e_ => HO0.out.1 k_ e_)); have n1_ := qac.mk (Kept.then_ (S := (fun k_ => P0_ k_)) (by repeat (first | (with_reducible first | exact HK.out | apply Kept.alloc | apply Kept.drewN | apply Kept.drew) | exact HK.out)) hkp (fun k_ hs_ => (fun e_ => (HO0.out.1 k_ e_.symm)) hs_)); have n2_ := qac.mk (hb); clear HO0; clear HK; clear HB; have HO0 := n0_; have HK := n1_; have HB := n2_; clear n0_ n1_ n2_; (try clear hb); (try clear hkp); (try clear hy0)))
 first | go_end0 | ((try simp only [Exit.inBlock, Exit.then]); refine bodyPost_ret (results_none rfl _ _ _) rfl ?_)
 exact ⟨by first | rfl | (simp [qaz, qay] <;> rfl) | (simp [*, qaz, qay] <;> rfl), by (with_reducible repeat (first | apply Kd.qax | apply Kd.qaw | apply Kd.qaA)); exact HO0.out, by repeat (first | (with_reducible first | exact HB.out | apply qae | apply qab | apply qad) | exact HB.out), by repeat (first | (with_reducible first | exact HK.out | apply Kept.alloc | apply Kept.drewN | apply Kept.drew) | exact HK.out)⟩
mutual
def qaD.l0 : Nat → List (S102) → List (S102) → List (S32) → Int → Int → Option ((List (S102)) × (List (S102)))
 | 0, _, _, _, _, _ => none
 | k + 1, x4, x5, x13, x14, x15 => if x15 < x14 then (if 0 ≤ x15 then (if x15 < (x13.length : Int) then ((qaP.f k ((qam x13 x15).f0.f0) ((qam x13 x15).f0.f1)).bind fun t258 => ((qa3.f k ((qam x13 x15).f0.f0) ((qam x13 x15).f0.f1) ((qam x13 x15).f1)).bind fun t259 => (qaD.l1 k x4 x5 x15 (wrap64 (t258 - t259)) x13 x14 x15 ((qam x13 x15).f0.f1) (((qam x13 x15).f0.f1).length : Int) 0))) else (none)) else (none)) else ((qau.f k x4).bind fun t254 => ((qau.f k x5).bind fun t255 => (some (t254, t255))))
def qaD.l1 : Nat → List (S102) → List (S102) → Int → Int → List (S32) → Int → Int → List (S41) → Int → Int → Option ((List (S102)) × (List (S102)))
 | 0, _, _, _, _, _, _, _, _, _, _ => none
 | k + 1, x4, x5, x6, x8, x13, x14, x15, x28, x29, x30 => if x30 < x29 then (if 0 ≤ x30 then (if x30 < (x28.length : Int) then (if (mn x8 ((qaI x28 x30).f0)) > 0 then (if x4.length < 5864062014805 then ((some (x4 ++ [(⟨x6, mn x8 ((qaI x28 x30).f0), (qaI x28 x30).f1⟩ : S102)] : List (S102))).bind fun y262 => (if (mn x8 ((qaI x28 x30).f0)) < ((qaI x28 x30).f0) then (if x5.length < 5864062014805 then (qaD.l1 k y262 (x5 ++ [(⟨x6, wrap64 (((qaI x28 x30).f0) - (mn x8 ((qaI x28 x30).f0))), (qaI x28 x30).f1⟩ : S102)]) x6 (wrap64 (x8 - (mn x8 ((qaI x28 x30).f0)))) x13 x14 x15 x28 x29 (wrap64 (x30 + 1))) else (none)) else (qaD.l1 k y262 x5 x6 (wrap64 (x8 - (mn x8 ((qaI x28 x30).f0)))) x13 x14 x15 x28 x29 (wrap64 (x30 + 1))))) else (none)) else (if (mn x8 ((qaI x28 x30).f0)) < ((qaI x28 x30).f0) then (if x5.length < 5864062014805 then (qaD.l1 k x4 (x5 ++ [(⟨x6, wrap64 (((qaI x28 x30).f0) - (mn x8 ((qaI x28 x30).f0))), (qaI x28 x30).f1⟩ : S102)]) x6 (wrap64 (x8 - (mn x8 ((qaI x28 x30).f0)))) x13 x14 x15 x28 x29 (wrap64 (x30 + 1))) else (none)) else (qaD.l1 k x4 x5 x6 (wrap64 (x8 - (mn x8 ((qaI x28 x30).f0)))) x13 x14 x15 x28 x29 (wrap64 (x30 + 1))))) else (none)) else (none)) else (qaD.l0 k x4 x5 x13 x14 (wrap64 (x15 + 1)))
end
def qaD.f (k : Nat) (l0 : List (S32)) : Option ((List (S102)) × (List (S102))) := qaD.l0 k ([] : List (S102)) ([] : List (S102)) l0 (l0.length : Int) 0
theorem qaD.qbe : ∀ k, (∀ y0 y1 y2 y3 y4, LeO (qaD.l0 k y0 y1 y2 y3 y4) (qaD.l0 (k + 1) y0 y1 y2 y3 y4)) ∧ (∀ y0 y1 y2 y3 y4 y5 y6 y7 y8 y9, LeO (qaD.l1 k y0 y1 y2 y3 y4 y5 y6 y7 y8 y9) (qaD.l1 (k + 1) y0 y1 y2 y3 y4 y5 y6 y7 y8 y9))
 | 0 => ⟨fun _ _ _ _ _ r h => by simp [qaD.l0] at h, fun _ _ _ _ _ _ _ _ _ _ r h => by simp [qaD.l1] at h⟩
 | k + 1 => by
  obtain ⟨ih0, ih1⟩ := qaD.qbe k
  refine ⟨?_, ?_⟩
  ·intro y0 y1 y2 y3 y4; unfold qaD.l0
   repeat' first
   | (with_reducible exact ih0 _ _ _ _ _)
   | (with_reducible exact ih1 _ _ _ _ _ _ _ _ _ _)
   | (with_reducible exact qaP.mono _ _ _)
   | (with_reducible exact qa3.mono _ _ _ _)
   | (with_reducible exact qau.mono _ _)
   | (with_reducible exact LeO.refl _)
   | (with_reducible exact LeO.none _)
   | (with_reducible refine LeO.ite ?_ ?_)
   | (with_reducible refine LeO.bind ?_ (fun _ => ?_))
   | exact ih0 _ _ _ _ _
   | exact ih1 _ _ _ _ _ _ _ _ _ _
   | exact qaP.mono _ _ _
   | exact qa3.mono _ _ _ _
   | exact qau.mono _ _
   | exact LeO.none _
   | refine LeO.ite ?_ ?_
   | refine LeO.bind ?_ (fun _ => ?_)
  ·intro y0 y1 y2 y3 y4 y5 y6 y7 y8 y9; unfold qaD.l1
   repeat' first
   | (with_reducible exact ih0 _ _ _ _ _)
   | (with_reducible exact ih1 _ _ _ _ _ _ _ _ _ _)
   | (with_reducible exact qaP.mono _ _ _)
   | (with_reducible exact qa3.mono _ _ _ _)
   | (with_reducible exact qau.mono _ _)
   | (with_reducible exact LeO.refl _)
   | (with_reducible exact LeO.none _)
   | (with_reducible refine LeO.ite ?_ ?_)
   | (with_reducible refine LeO.bind ?_ (fun _ => ?_))
   | exact ih0 _ _ _ _ _
   | exact ih1 _ _ _ _ _ _ _ _ _ _
   | exact qaP.mono _ _ _
   | exact qa3.mono _ _ _ _
   | exact qau.mono _ _
   | exact LeO.none _
   | refine LeO.ite ?_ ?_
   | refine LeO.bind ?_ (fun _ => ?_)
theorem qaD.mono : ∀ a0 k, LeO (qaD.f k a0) (qaD.f (k + 1) a0) := by
 intro a0 k; obtain ⟨ih0, ih1⟩ := qaD.qbe k
 unfold qaD.f
 repeat' first
   | (with_reducible exact ih0 _ _ _ _ _)
   | (with_reducible exact ih1 _ _ _ _ _ _ _ _ _ _)
   | (with_reducible exact qaP.mono _ _ _)
   | (with_reducible exact qa3.mono _ _ _ _)
   | (with_reducible exact qau.mono _ _)
   | (with_reducible exact LeO.refl _)
   | (with_reducible exact LeO.none _)
   | (with_reducible refine LeO.ite ?_ ?_)
   | (with_reducible refine LeO.bind ?_ (fun _ => ?_))
   | exact ih0 _ _ _ _ _
   | exact ih1 _ _ _ _ _ _ _ _ _ _
   | exact qaP.mono _ _ _
   | exact qa3.mono _ _ _ _
   | exact qau.mono _ _
   | exact LeO.none _
   | refine LeO.ite ?_ ?_
   | refine LeO.bind ?_ (fun _ => ?_)
set_option maxHeartbeats 8000000 in
set_option maxRecDepth 100000 in
theorem qaD.calls (k : Nat) (A0 : Option Addr) (c0 : Nat) (l0 : List (S32)) (r1 : List (S102)) (r2 : List (S102)) (w : World) (hr0 : Kd.C k32 w A0 l0.length l0) (hc0 : l0.length ≤ c0) (h : qaD.f k l0 = some (r1, r2)) :
  Calls Try.prog 42 #[.slice A0 l0.length c0] w fun e w' => ∃ v0_ v1_ : Value, e = .returned (.tuple #[v0_, v1_]) ∧ Kd.R k102 102 w' w.heap.size (fun k_ => some k_ ≠ (v1_ : Value).ownBlock) v0_ r1 ∧ Kd.R k102 102 w' w.heap.size (fun k_ => some k_ ≠ (v0_ : Value).ownBlock) v1_ r2 ∧ Below w.heap.size w w' := by
 have hu32 := Try.underlying32; have hu29 := Try.underlying29; have hu41 := Try.underlying41; have hu102 := Try.underlying102; have HR0 := qac.mk hr0
 have HC0 := qac.mk hc0
 clear hr0 hc0; have HB := qac.mk (Below.refl w.heap.size w)
 have H : (qaD.l0 k ([] : List (S102)) ([] : List (S102)) l0 (l0.length : Int) 0) = some (r1, r2) := h
 clear h; have H' := qac.mk H; clear H; go_enter Try.func42, Try.ntmps42; go_wp2; go_loopg [4, 5, 15] k (fun kq v4 v5 v15 w' => ∃ (x4_1 : List (S102)) (x5_1 : List (S102)) (x15_1 : Int), v15 = .int .i64 x15_1 ∧ qac (qaD.l0 kq x4_1 x5_1 l0 (l0.length : Int) x15_1 = some (r1, r2)) ∧ qac (kq ≤ k) ∧ qac (Kd.R k102 102 w' w.heap.size (fun k_ => some k_ ≠ (v5 : Value).ownBlock) v4 x4_1) ∧ qac (Kd.R k102 102 w' w.heap.size (fun k_ => some k_ ≠ (v4 : Value).ownBlock) v5 x5_1) ∧ qac (Below w.heap.size w w'))
 case atStart => exact ⟨(([] : List (S102))), (([] : List (S102))), (0), (by first | rfl | (simp; done) | (simp [*]; done)), H', ⟨Nat.le_refl _⟩, ⟨by first | exact Kd.R_nil _ _ _ _ _ | exact Kd.N_nil _ _ _ _ _ | exact Kd.V_nil _ _ _ _ _ | exact Kd.Q_nil _ _ _ _ _ | exact Kd.S_nil _ _ _ _ _⟩, ⟨by first | exact Kd.R_nil _ _ _ _ _ | exact Kd.N_nil _ _ _ _ _ | exact Kd.V_nil _ _ _ _ _ | exact Kd.Q_nil _ _ _ _ _ | exact Kd.S_nil _ _ _ _ _⟩, ⟨by repeat (first | (with_reducible first | exact HB.out | apply qae | apply qab | apply qad) | exact HB.out)⟩⟩
 case round =>
  clear H'; obtain ⟨x4_1, x5_1, x15_1, rfl, HA, HK1, HO_4, HO_5, HB⟩ := hrel
  cases gk with
  | zero => exact absurd HA.out (by simp [qaD.l0])
  | succ k1 =>
   have H := HA.out; clear HA; simp only [qaD.l0] at H
   by_cases c2 : x15_1 < (l0.length : Int)
   ·rw [if_pos c2] at H; have c2b0 : decide (x15_1 < (l0.length : Int)) = true := decide_eq_true c2; clear c2; by_cases c3 : 0 ≤ x15_1
    ·rw [if_pos c3] at H; have c3b0 : decide (0 ≤ x15_1) = true := decide_eq_true c3; clear c3; by_cases c4 : x15_1 < (l0.length : Int)
     ·rw [if_pos c4] at H; have c4b0 : decide (x15_1 < (l0.length : Int)) = true := decide_eq_true c4; clear c4; replace H := Option.bind_eq_some_iff.mp H; obtain ⟨t258, A50, H⟩ := H; replace H : ((qa3.f k1 ((qam l0 x15_1).f0.f0) ((qam l0 x15_1).f0.f1) ((qam l0 x15_1).f1)).bind fun t259 => (qaD.l1 k1 x4_1 x5_1 x15_1 (wrap64 (t258 - t259)) l0 (l0.length : Int) x15_1 ((qam l0 x15_1).f0.f1) (((qam l0 x15_1).f0.f1).length : Int) 0)) = some (r1, r2) := H
      have A5 := qac.mk A50
      clear A50; replace H := Option.bind_eq_some_iff.mp H; obtain ⟨t259, A60, H⟩ := H; replace H : (qaD.l1 k1 x4_1 x5_1 x15_1 (wrap64 (t258 - t259)) l0 (l0.length : Int) x15_1 ((qam l0 x15_1).f0.f1) (((qam l0 x15_1).f0.f1).length : Int) 0) = some (r1, r2) := H
      have A6 := qac.mk A60
      clear A60; have H' := qac.mk H; clear H; have p256 : 0 ≤ (x15_1 : Int) := of_decide_eq_true (by first | (with_reducible assumption) | assumption)
      have q256 : x15_1 < (l0.length : Int) := of_decide_eq_true (by first | (with_reducible assumption) | assumption)
      obtain ⟨ad256, A256_1, c256_1, e256, hx256_0, hx256_1, hx256_2, hl256_1, hi256_1⟩ := at_T32 HR0.out x15_1 p256 q256
      cases e256
      replace hx256_0 := (HB.out.cell (World.block_lt_of_cell? w _ hx256_0)).trans hx256_0
      replace hx256_1 := (HB.out.cell (World.block_lt_of_cell? w _ hx256_1)).trans hx256_1
      replace hx256_2 := (HB.out.cell (World.block_lt_of_cell? w _ hx256_2)).trans hx256_2
      have HR256_1 := qac.mk hi256_1
      have HC256_1 := qac.mk hl256_1
      clear hi256_1 hl256_1; replace p256 := eq_true p256; replace q256 := eq_true q256; try go_wp2_with (first | ((with_reducible refine qaV (N := 7) rfl ?_); refine qaU ?hg (N := 7) ?hd (cs := #[.string (⟨#[]⟩ : ByteArray), .slice none 0 0, .int .i64 0]) (t := 32) ?hr ?_; (case hd => rfl); (case hg => rfl); (case hr => first | (go_simp; done) | (go_simp; rfl)); intro gb257 hg w7 hbox hb; have n0_ := qac.mk (Kd.qa8 (by (with_reducible repeat (first | apply Kd.qax | apply Kd.qaw | apply Kd.qaA)); exact HO_4.out) hb); have n1_ := qac.mk (Kd.qa8 (by (with_reducible repeat (first | apply Kd.qax | apply Kd.qaw | apply Kd.qaA)); exact HO_5.out) hb); have n2_ := qac.mk (qaB (by repeat (first | (with_reducible first | exact HB.out | apply qae | apply qab | apply qad) | exact HB.out)) hb); have n3_ := qac.mk (hbox); have n4_ := qac.mk ((by rw [hg]; exact (qav (by repeat (first | (with_reducible first | exact HB.out | apply qae | apply qab | apply qad) | exact HB.out))) : w.heap.size ≤ gb257)); have n5_ := qac.mk ((by rw [hg]; exact (qav (by repeat (first | (with_reducible first | exact HB.out | apply qae | apply qab | apply qad) | exact HB.out))) : w.heap.size ≤ gb257)); clear HO_4; clear HO_5; clear HB; have HO_4 := n0_; have HO_5 := n1_; have HB := n2_; have BK257 := n3_; have GW257 := n4_; have GE257 := n5_; clear n0_ n1_ n2_ n3_ n4_ n5_; clear hb hbox hg; have hcz8_0 : w7.cell? ⟨gb257, 0, none⟩ = some (.string (⟨#[]⟩ : ByteArray)) := (qas BK257.out 0).trans rfl; have hcz8_1 : w7.cell? ⟨gb257, 1, none⟩ = some (.slice none 0 0) := (qas BK257.out 1).trans rfl; have hcz8_2 : w7.cell? ⟨gb257, 2, none⟩ = some (.int .i64 0) := (qas BK257.out 2).trans rfl; have hfz8_0 := qat BK257.out 0; have hfz8_1 := qat BK257.out 1; have hfz8_2 := qat BK257.out 2))
      have n0_ : qac (Kd.R k102 102 (((w7.setCell ⟨gb257, 0, none⟩ (.string ((qam l0 x15_1).f0.f0))).setCell ⟨gb257, 1, none⟩ (.slice A256_1 ((qam l0 x15_1).f0.f1).length c256_1)).setCell ⟨gb257, 2, none⟩ (.int .i64 ((qam l0 x15_1).f1))) w.heap.size (fun k_ => some k_ ≠ (u5 : Value).ownBlock) u4 x4_1) := ⟨by (with_reducible repeat (first | apply Kd.qax | apply Kd.qaw | apply Kd.qaA)); exact Kd.qaY (Kd.R_far (p := ⟨gb257, 2, none⟩) (Kd.R_far (p := ⟨gb257, 1, none⟩) (Kd.R_far (p := ⟨gb257, 0, none⟩) (Kd.qbs HO_4.out BK257.out (by decide)) (fun _ hk => hk.2) (.string ((qam l0 x15_1).f0.f0))) (fun _ hk => hk.2) (.slice A256_1 ((qam l0 x15_1).f0.f1).length c256_1)) (fun _ hk => hk.2) (.int .i64 ((qam l0 x15_1).f1))) (fun _ hk => hk.1)⟩
      have n1_ : qac (Kd.R k102 102 (((w7.setCell ⟨gb257, 0, none⟩ (.string ((qam l0 x15_1).f0.f0))).setCell ⟨gb257, 1, none⟩ (.slice A256_1 ((qam l0 x15_1).f0.f1).length c256_1)).setCell ⟨gb257, 2, none⟩ (.int .i64 ((qam l0 x15_1).f1))) w.heap.size (fun k_ => some k_ ≠ (u4 : Value).ownBlock) u5 x5_1) := ⟨by (with_reducible repeat (first | apply Kd.qax | apply Kd.qaw | apply Kd.qaA)); exact Kd.qaY (Kd.R_far (p := ⟨gb257, 2, none⟩) (Kd.R_far (p := ⟨gb257, 1, none⟩) (Kd.R_far (p := ⟨gb257, 0, none⟩) (Kd.qbs HO_5.out BK257.out (by decide)) (fun _ hk => hk.2) (.string ((qam l0 x15_1).f0.f0))) (fun _ hk => hk.2) (.slice A256_1 ((qam l0 x15_1).f0.f1).length c256_1)) (fun _ hk => hk.2) (.int .i64 ((qam l0 x15_1).f1))) (fun _ hk => hk.1)⟩
      have n2_ : qac ((((w7.setCell ⟨gb257, 0, none⟩ (.string ((qam l0 x15_1).f0.f0))).setCell ⟨gb257, 1, none⟩ (.slice A256_1 ((qam l0 x15_1).f0.f1).length c256_1)).setCell ⟨gb257, 2, none⟩ (.int .i64 ((qam l0 x15_1).f1))).heap[gb257]? = some (.cells #[.string ((qam l0 x15_1).f0.f0), .slice A256_1 ((qam l0 x15_1).f0.f1).length c256_1, .int .i64 ((qam l0 x15_1).f1)] 32 (0, 0))) := ⟨by (with_reducible repeat (first | refine qan ?_ _ | refine qap ?_ | refine qao ?_ _)); refine qa1 (cs := #[.string ((qam l0 x15_1).f0.f0), .slice A256_1 ((qam l0 x15_1).f0.f1).length c256_1, .int .i64 0]) ?_ 2 _ rfl; (with_reducible repeat (first | refine qan ?_ _ | refine qap ?_ | refine qao ?_ _)); refine qa1 (cs := #[.string ((qam l0 x15_1).f0.f0), .slice none 0 0, .int .i64 0]) ?_ 1 _ rfl; (with_reducible repeat (first | refine qan ?_ _ | refine qap ?_ | refine qao ?_ _)); refine qa1 (cs := #[.string (⟨#[]⟩ : ByteArray), .slice none 0 0, .int .i64 0]) ?_ 0 _ rfl; (with_reducible repeat (first | refine qan ?_ _ | refine qap ?_ | refine qao ?_ _)); exact BK257.out⟩
      have n3_ : qac (Below w.heap.size w (((w7.setCell ⟨gb257, 0, none⟩ (.string ((qam l0 x15_1).f0.f0))).setCell ⟨gb257, 1, none⟩ (.slice A256_1 ((qam l0 x15_1).f0.f1).length c256_1)).setCell ⟨gb257, 2, none⟩ (.int .i64 ((qam l0 x15_1).f1)))) := ⟨by repeat (first | (with_reducible first | exact HB.out | apply qae | apply qab | apply qad | refine qah ?_ GE257.out) | exact HB.out)⟩
      (try clear HO_4); (try clear HO_5); (try clear BK257); (try clear HB); generalize (((w7.setCell ⟨gb257, 0, none⟩ (.string ((qam l0 x15_1).f0.f0))).setCell ⟨gb257, 1, none⟩ (.slice A256_1 ((qam l0 x15_1).f0.f1).length c256_1)).setCell ⟨gb257, 2, none⟩ (.int .i64 ((qam l0 x15_1).f1))) = w9 at n0_ n1_ n2_ n3_ ⊢
      have HO_4 := n0_; have HO_5 := n1_; have BK257 := n2_; have HB := n3_; clear n0_ n1_ n2_ n3_; have n0_ := qac.mk (Kd.qaA HO_4.out)
      have n1_ := qac.mk (Kd.qaA HO_5.out)
      have n2_ := qac.mk (qap BK257.out)
      have n3_ := qac.mk (qad HB.out)
      clear HO_4; clear HO_5; clear BK257; clear HB; have HO_4 := n0_; have HO_5 := n1_; have BK257 := n2_; have HB := n3_; clear n0_ n1_ n2_ n3_; refine qbD (n := 7) (S := fun w' => w'.cell? ⟨gb257, 0, none⟩ = some (.string ((qam l0 x15_1).f0.f0)) ∧ w'.cell? ⟨gb257, 1, none⟩ = some (.slice A256_1 ((qam l0 x15_1).f0.f1).length c256_1) ∧ w'.cell? ⟨gb257, 2, none⟩ = some (.int .i64 ((qam l0 x15_1).f1))) (ds := []) #[qF,qF,qF,qF,qF,qF,qF] (by kernel_rfl) rfl rfl ⟨(qas BK257.out 0).trans rfl, (qas BK257.out 1).trans rfl, (qas BK257.out 2).trans rfl⟩ (fun hHeld => ?_)
      generalize w9.drew = w10 at HO_4 HO_5 BK257 HB hHeld ⊢
      refine pure_ (i := 0) (N := some 20) (v := ?_) (a' := ?_) #[qT,qF,qF,qF,qF,qF,qF] rfl rfl (by kernel_rfl) (fun _ _ _ h => h) (Or.inl ⟨by rfl, ?_⟩) ?_ ?_; rotate_left; ·intro w'; go_simp; with_reducible rfl
      rotate_left; ·simp only [Act.put, qy1, qy2, qy3, i64_w, i32_w]; rfl
      refine take_ (i := 1) (N := some 21) (v := ?_) (a' := ?_) #[qT,qT,qF,qF,qF,qF,qF] rfl rfl (by kernel_rfl) (fun _ _ _ h => h) (Or.inl ⟨by rfl, ?_⟩) hHeld ?_ ?_; rotate_left; ·rintro w' ⟨s0, s1, s2⟩; go_simp; with_reducible rfl
      rotate_left; ·simp only [Act.put, qy1, qy2, qy3, i64_w, i32_w]; rfl
      refine take_ (i := 3) (N := some 23) (v := ?_) (a' := ?_) #[qT,qT,qF,qT,qF,qF,qF] rfl rfl (by kernel_rfl) (fun _ _ _ h => h) (Or.inl ⟨by rfl, ?_⟩) hHeld ?_ ?_; rotate_left; ·rintro w' ⟨s0, s1, s2⟩; go_simp; with_reducible rfl
      rotate_left; ·simp only [Act.put, qy1, qy2, qy3, i64_w, i32_w]; rfl
      refine one_ (i := 2) (N := some 22) #[qT,qT,qT,qT,qF,qF,qF] rfl rfl (by kernel_rfl) (by decide) (fun K hK => ?_)
      refine goes_ Try.func54 (by kernel_rfl) rfl #[.agg #[.string ((qam l0 x15_1).f0.f0), .slice A256_1 ((qam l0 x15_1).f0.f1).length c256_1]] (by rfl) rfl rfl (by (try simp only [qy6, qy7, qy8]); first | done | rfl | (simp only [List.length_drop, List.length_take]; rfl)) ?_
      with_reducible refine (qaP.calls k1 ((qam l0 x15_1).f0.f0) _ _ ((qam l0 x15_1).f0.f1) t258 _ ?side1 ?side2 A5.out).mono ?_
      (case side1 => repeat (first | exact (Kd.qbt HR256_1.out HB.out) | (with_reducible refine Kd.qbl ?_ _) | (with_reducible refine Kd.qbk ?_ _) | (with_reducible refine Kd.qbw ?_)))
      (case side2 => exact HC256_1.out)
      rintro e w11 ⟨rfl, hb⟩
      refine ⟨_, rfl, ?_⟩
      have n0_ := qac.mk (Kd.qa8 (by (with_reducible repeat (first | apply Kd.qax | apply Kd.qaw | apply Kd.qaA)); exact HO_4.out) hb)
      have n1_ := qac.mk (Kd.qa8 (by (with_reducible repeat (first | apply Kd.qax | apply Kd.qaw | apply Kd.qaA)); exact HO_5.out) hb)
      have n2_ := qac.mk (qaS (g := gb257) (o := .cells #[.string ((qam l0 x15_1).f0.f0), .slice A256_1 ((qam l0 x15_1).f0.f1).length c256_1, .int .i64 ((qam l0 x15_1).f1)] 32 (0, 0)) (by (with_reducible repeat (first | refine qan ?_ _ | refine qap ?_ | refine qao ?_ _)); exact BK257.out) hb)
      have n3_ := qac.mk (qaB (by repeat (first | (with_reducible first | exact HB.out | apply qae | apply qab | apply qad | refine qah ?_ GE257.out) | exact HB.out)) hb)
      clear HO_4; clear HO_5; clear BK257; clear HB; have HO_4 := n0_; have HO_5 := n1_; have BK257 := n2_; have HB := n3_; clear n0_ n1_ n2_ n3_; (try clear hb); (try clear hb2); (try clear hk); (try clear hi); refine hK.out _ _ ⟨(qas BK257.out 0).trans rfl, (qas BK257.out 1).trans rfl, (qas BK257.out 2).trans rfl⟩ (fun hHeld => ?_)
      clear hK K; refine norm_ (a' := ?_) ?_ ?_; rotate_left
      ·show Act.put _ (some 22) _ = _
       simp only [Act.put, qy1, qy2, qy3, i64_w, i32_w]
       rfl
      refine one_ (i := 4) (N := some 24) #[qT,qT,qT,qT,qT,qF,qF] rfl rfl (by kernel_rfl) (by decide) (fun K hK => ?_)
      refine goes_ Try.func41 (by kernel_rfl) rfl #[.agg #[.string ((qam l0 x15_1).f0.f0), .slice A256_1 ((qam l0 x15_1).f0.f1).length c256_1, .int .i64 ((qam l0 x15_1).f1)]] (by rfl) rfl rfl (by (try simp only [qy6, qy7, qy8]); first | done | rfl | (simp only [List.length_drop, List.length_take]; rfl)) ?_
      with_reducible refine (qa3.calls k1 ((qam l0 x15_1).f0.f0) _ _ ((qam l0 x15_1).f0.f1) ((qam l0 x15_1).f1) t259 _ ?side1 ?side2 A6.out).mono ?_
      (case side1 => repeat (first | exact (Kd.qbt HR256_1.out HB.out) | (with_reducible refine Kd.qbl ?_ _) | (with_reducible refine Kd.qbk ?_ _) | (with_reducible refine Kd.qbw ?_)))
      (case side2 => exact HC256_1.out)
      rintro e w12 ⟨rfl, hb⟩
      refine ⟨_, rfl, ?_⟩
      have n0_ := qac.mk (Kd.qa8 (by (with_reducible repeat (first | apply Kd.qax | apply Kd.qaw | apply Kd.qaA)); exact HO_4.out) hb)
      have n1_ := qac.mk (Kd.qa8 (by (with_reducible repeat (first | apply Kd.qax | apply Kd.qaw | apply Kd.qaA)); exact HO_5.out) hb)
      have n2_ := qac.mk (qaS (g := gb257) (o := .cells #[.string ((qam l0 x15_1).f0.f0), .slice A256_1 ((qam l0 x15_1).f0.f1).length c256_1, .int .i64 ((qam l0 x15_1).f1)] 32 (0, 0)) (by (with_reducible repeat (first | refine qan ?_ _ | refine qap ?_ | refine qao ?_ _)); exact BK257.out) hb)
      have n3_ := qac.mk (qaB (by repeat (first | (with_reducible first | exact HB.out | apply qae | apply qab | apply qad | refine qah ?_ GE257.out) | exact HB.out)) hb)
      clear HO_4; clear HO_5; clear BK257; clear HB; have HO_4 := n0_; have HO_5 := n1_; have BK257 := n2_; have HB := n3_; clear n0_ n1_ n2_ n3_; (try clear hb); (try clear hb2); (try clear hk); (try clear hi); refine hK.out _ _ ⟨(qas BK257.out 0).trans rfl, (qas BK257.out 1).trans rfl, (qas BK257.out 2).trans rfl⟩ (fun hHeld => ?_)
      clear hK K; refine norm_ (a' := ?_) ?_ ?_; rotate_left
      ·show Act.put _ (some 24) _ = _
       simp only [Act.put, qy1, qy2, qy3, i64_w, i32_w]
       rfl
      refine pure_ (i := 5) (N := some 25) (v := ?_) (a' := ?_) #[qT,qT,qT,qT,qT,qT,qF] rfl rfl (by kernel_rfl) (fun _ _ _ h => h) (Or.inl ⟨by rfl, ?_⟩) ?_ ?_; rotate_left; ·intro w'; go_simp; with_reducible rfl
      rotate_left; ·simp only [Act.put, qy1, qy2, qy3, i64_w, i32_w]; rfl
      refine pure_ (i := 6) (N := some 8) (v := ?_) (a' := ?_) #[qT,qT,qT,qT,qT,qT,qT] rfl rfl (by kernel_rfl) (fun _ _ _ h => h) (Or.inl ⟨by rfl, ?_⟩) ?_ ?_; rotate_left; ·intro w'; go_simp; with_reducible rfl
      rotate_left; ·simp only [Act.put, qy1, qy2, qy3, i64_w, i32_w]; rfl
      refine done_ (by kernel_rfl) ?_
      have hcz13_0 : w12.cell? ⟨gb257, 0, none⟩ = some (.string ((qam l0 x15_1).f0.f0)) := (qas BK257.out 0).trans rfl
      have hcz13_1 : w12.cell? ⟨gb257, 1, none⟩ = some (.slice A256_1 ((qam l0 x15_1).f0.f1).length c256_1) := (qas BK257.out 1).trans rfl
      have hcz13_2 : w12.cell? ⟨gb257, 2, none⟩ = some (.int .i64 ((qam l0 x15_1).f1)) := (qas BK257.out 2).trans rfl
      have hfz13_0 := qat BK257.out 0
      have hfz13_1 := qat BK257.out 1
      have hfz13_2 := qat BK257.out 2
      try go_wp2
      go_loopg [4, 5, 8, 30] k1 (fun kq v4 v5 v8 v30 w' => ∃ (x4_2 : List (S102)) (x5_2 : List (S102)) (x8_2 : Int) (x30_2 : Int), v8 = .int .i64 x8_2 ∧ v30 = .int .i64 x30_2 ∧ qac (qaD.l1 kq x4_2 x5_2 x15_1 x8_2 l0 (l0.length : Int) x15_1 ((qam l0 x15_1).f0.f1) (((qam l0 x15_1).f0.f1).length : Int) x30_2 = some (r1, r2)) ∧ qac (kq ≤ k1) ∧ qac (Kd.R k102 102 w' w.heap.size (fun k_ => some k_ ≠ (v5 : Value).ownBlock) v4 x4_2) ∧ qac (Kd.R k102 102 w' w.heap.size (fun k_ => some k_ ≠ (v4 : Value).ownBlock) v5 x5_2) ∧ qac (w'.heap[gb257]? = some (.cells #[.string ((qam l0 x15_1).f0.f0), (.slice A256_1 ((qam l0 x15_1).f0.f1).length c256_1), .int .i64 ((qam l0 x15_1).f1)] 32 (0, 0))) ∧ qac (Below w.heap.size w w'))
      case atStart => exact ⟨(x4_1), (x5_1), (wrap64 (t258 - t259)), (0), (by first | rfl | (simp; done) | (simp [*]; done)), (by first | rfl | (simp; done) | (simp [*]; done)), H', ⟨Nat.le_refl _⟩, ⟨by (with_reducible repeat (first | apply Kd.qax | apply Kd.qaw | apply Kd.qaA)); exact HO_4.out⟩, ⟨by (with_reducible repeat (first | apply Kd.qax | apply Kd.qaw | apply Kd.qaA)); exact HO_5.out⟩, ⟨by (with_reducible repeat (first | refine qan ?_ _ | refine qap ?_ | refine qao ?_ _)); exact BK257.out⟩, ⟨by repeat (first | (with_reducible first | exact HB.out | apply qae | apply qab | apply qad | refine qah ?_ GE257.out) | exact HB.out)⟩⟩
      case round =>
       clear H'; (try clear c2); (try clear c2b0); (try clear p2); (try clear q2); (try clear hx2); (try clear c3); (try clear c3b0); (try clear c4); (try clear c4b0); (try clear c5); (try clear p6); (try clear hcz13_0); (try clear hcz13_1); (try clear hcz13_2); (try clear hcz8_0); (try clear hcz8_1); (try clear hcz8_2); (try clear hfz13_0); (try clear hfz13_1); (try clear hfz13_2); (try clear hfz8_0); (try clear hfz8_1); (try clear hfz8_2); (try clear hx256_0); (try clear hx256_1); (try clear hx256_2); (try clear p256); (try clear q256); obtain ⟨x4_2, x5_2, x8_2, x30_2, rfl, rfl, HA, HK2, HO_4, HO_5, BK257, HB⟩ := hrel
       cases gk with
       | zero => exact absurd HA.out (by simp [qaD.l1])
       | succ k2 =>
        have H := HA.out; clear HA; simp only [qaD.l1] at H
        by_cases c14 : x30_2 < (((qam l0 x15_1).f0.f1).length : Int)
        ·rw [if_pos c14] at H; have c14b0 : decide (x30_2 < (((qam l0 x15_1).f0.f1).length : Int)) = true := decide_eq_true c14; clear c14; by_cases c15 : 0 ≤ x30_2
         ·rw [if_pos c15] at H; have c15b0 : decide (0 ≤ x30_2) = true := decide_eq_true c15; clear c15; by_cases c16 : x30_2 < (((qam l0 x15_1).f0.f1).length : Int)
          ·rw [if_pos c16] at H; have c16b0 : decide (x30_2 < (((qam l0 x15_1).f0.f1).length : Int)) = true := decide_eq_true c16; clear c16; obtain ⟨ji17, hji17⟩ : ∃ j_ : Int, (mn x8_2 ((qaI ((qam l0 x15_1).f0.f1) x30_2).f0)) = j_ := ⟨_, rfl⟩
           replace H : (if (ji17) > 0 then (if x4_2.length < 5864062014805 then ((some (x4_2 ++ [(⟨x15_1, ji17, (qaI ((qam l0 x15_1).f0.f1) x30_2).f1⟩ : S102)] : List (S102))).bind fun y262 => (if (ji17) < ((qaI ((qam l0 x15_1).f0.f1) x30_2).f0) then (if x5_2.length < 5864062014805 then (qaD.l1 k2 y262 (x5_2 ++ [(⟨x15_1, wrap64 (((qaI ((qam l0 x15_1).f0.f1) x30_2).f0) - (ji17)), (qaI ((qam l0 x15_1).f0.f1) x30_2).f1⟩ : S102)]) x15_1 (wrap64 (x8_2 - (ji17))) l0 (l0.length : Int) x15_1 ((qam l0 x15_1).f0.f1) (((qam l0 x15_1).f0.f1).length : Int) (wrap64 (x30_2 + 1))) else (none)) else (qaD.l1 k2 y262 x5_2 x15_1 (wrap64 (x8_2 - (ji17))) l0 (l0.length : Int) x15_1 ((qam l0 x15_1).f0.f1) (((qam l0 x15_1).f0.f1).length : Int) (wrap64 (x30_2 + 1))))) else (none)) else (if (ji17) < ((qaI ((qam l0 x15_1).f0.f1) x30_2).f0) then (if x5_2.length < 5864062014805 then (qaD.l1 k2 x4_2 (x5_2 ++ [(⟨x15_1, wrap64 (((qaI ((qam l0 x15_1).f0.f1) x30_2).f0) - (ji17)), (qaI ((qam l0 x15_1).f0.f1) x30_2).f1⟩ : S102)]) x15_1 (wrap64 (x8_2 - (ji17))) l0 (l0.length : Int) x15_1 ((qam l0 x15_1).f0.f1) (((qam l0 x15_1).f0.f1).length : Int) (wrap64 (x30_2 + 1))) else (none)) else (qaD.l1 k2 x4_2 x5_2 x15_1 (wrap64 (x8_2 - (ji17))) l0 (l0.length : Int) x15_1 ((qam l0 x15_1).f0.f1) (((qam l0 x15_1).f0.f1).length : Int) (wrap64 (x30_2 + 1))))) = some (r1, r2) := by first | (rw [hji17] at H; exact H) | (simp only [hji17] at H ⊢; exact H)
           have hji17_ : (if ((qaI ((qam l0 x15_1).f0.f1) x30_2).f0) < x8_2 then ((qaI ((qam l0 x15_1).f0.f1) x30_2).f0) else x8_2) = ji17 := hji17
           by_cases c18 : (ji17) > 0
           ·rw [if_pos c18] at H; have c18b0 : decide (0 < (ji17)) = true := decide_eq_true c18; clear c18; by_cases c19 : x4_2.length < 5864062014805
            ·rw [if_pos c19] at H; have LMc19 := qac.mk c19
             clear c19; obtain ⟨y262, hy262⟩ : ∃ y_ : List (S102), y_ = (x4_2 ++ [(⟨x15_1, ji17, (qaI ((qam l0 x15_1).f0.f1) x30_2).f1⟩ : S102)]) := ⟨_, rfl⟩
             replace H : (if (ji17) < ((qaI ((qam l0 x15_1).f0.f1) x30_2).f0) then (if x5_2.length < 5864062014805 then (qaD.l1 k2 y262 (x5_2 ++ [(⟨x15_1, wrap64 (((qaI ((qam l0 x15_1).f0.f1) x30_2).f0) - (ji17)), (qaI ((qam l0 x15_1).f0.f1) x30_2).f1⟩ : S102)]) x15_1 (wrap64 (x8_2 - (ji17))) l0 (l0.length : Int) x15_1 ((qam l0 x15_1).f0.f1) (((qam l0 x15_1).f0.f1).length : Int) (wrap64 (x30_2 + 1))) else (none)) else (qaD.l1 k2 y262 x5_2 x15_1 (wrap64 (x8_2 - (ji17))) l0 (l0.length : Int) x15_1 ((qam l0 x15_1).f0.f1) (((qam l0 x15_1).f0.f1).length : Int) (wrap64 (x30_2 + 1)))) = some (r1, r2) := by first | (rw [hy262]; with_reducible exact H) | (have H2_ := (Option.bind_some _ _).symm.trans H; rw [hy262]; with_reducible exact H2_) | (have H2_ := (Option.bind_some _ _).symm.trans H; with_reducible exact H2_) | with_reducible exact H | (rw [hy262]; exact H) | exact H
             have Ny262 := qac.mk hy262
             clear hy262; by_cases c20 : (ji17) < ((qaI ((qam l0 x15_1).f0.f1) x30_2).f0)
             ·rw [if_pos c20] at H; have c20b0 : decide ((ji17) < ((qaI ((qam l0 x15_1).f0.f1) x30_2).f0)) = true := decide_eq_true c20; clear c20; by_cases c21 : x5_2.length < 5864062014805
              ·rw [if_pos c21] at H; have LMc21 := qac.mk c21
               clear c21; obtain ⟨y265, hy265⟩ : ∃ y_ : List (S102), y_ = (x5_2 ++ [(⟨x15_1, wrap64 (((qaI ((qam l0 x15_1).f0.f1) x30_2).f0) - (ji17)), (qaI ((qam l0 x15_1).f0.f1) x30_2).f1⟩ : S102)]) := ⟨_, rfl⟩
               replace H : (qaD.l1 k2 y262 y265 x15_1 (wrap64 (x8_2 - (ji17))) l0 (l0.length : Int) x15_1 ((qam l0 x15_1).f0.f1) (((qam l0 x15_1).f0.f1).length : Int) (wrap64 (x30_2 + 1))) = some (r1, r2) := by first | (rw [hy265]; with_reducible exact H) | (have H2_ := (Option.bind_some _ _).symm.trans H; rw [hy265]; with_reducible exact H2_) | (have H2_ := (Option.bind_some _ _).symm.trans H; with_reducible exact H2_) | with_reducible exact H | (rw [hy265]; exact H) | exact H
               have Ny265 := qac.mk hy265
               clear hy265; have H' := qac.mk H; clear H; have p260 : 0 ≤ (x30_2 : Int) := of_decide_eq_true (by first | (with_reducible assumption) | assumption)
               have q260 : x30_2 < (((qam l0 x15_1).f0.f1).length : Int) := of_decide_eq_true (by first | (with_reducible assumption) | assumption)
               obtain ⟨ad260, e260, hx260_0, hx260_1⟩ := at_T41 HR256_1.out x30_2 p260 q260
               cases e260
               replace hx260_0 := (HB.out.cell (World.block_lt_of_cell? w _ hx260_0)).trans hx260_0
               replace hx260_1 := (HB.out.cell (World.block_lt_of_cell? w _ hx260_1)).trans hx260_1
               replace p260 := eq_true p260; replace q260 := eq_true q260; go_wp2_with (first | ((with_reducible refine qaV (N := 10) rfl ?_); refine qaU ?hg (N := 10) ?hd (cs := #[.int .i64 0, .int .i64 0]) (t := 41) ?hr ?_; (case hd => rfl); (case hg => rfl); (case hr => first | (go_simp; done) | (go_simp; rfl)); intro gb261 hg w22 hbox hb; have n0_ := qac.mk (Kd.qa8 (by (with_reducible repeat (first | apply Kd.qax | apply Kd.qaw | apply Kd.qaA)); exact HO_4.out) hb); have n1_ := qac.mk (Kd.qa8 (by (with_reducible repeat (first | apply Kd.qax | apply Kd.qaw | apply Kd.qaA)); exact HO_5.out) hb); have n2_ := qac.mk (qaS (g := gb257) (o := .cells #[.string ((qam l0 x15_1).f0.f0), .slice (some ad260) ((qam l0 x15_1).f0.f1).length c256_1, .int .i64 ((qam l0 x15_1).f1)] 32 (0, 0)) (by (with_reducible repeat (first | refine qan ?_ _ | refine qap ?_ | refine qao ?_ _)); exact BK257.out) hb); have n3_ := qac.mk (qaB (by repeat (first | (with_reducible first | exact HB.out | apply qae | apply qab | apply qad | refine qah ?_ GE257.out) | exact HB.out)) hb); have n4_ := qac.mk (hbox); have n5_ := qac.mk ((by rw [hg]; exact (qav (by repeat (first | (with_reducible first | exact HB.out | apply qae | apply qab | apply qad | refine qah ?_ GE257.out) | exact HB.out))) : w.heap.size ≤ gb261)); have n6_ := qac.mk ((by rw [hg]; exact (qav (by repeat (first | (with_reducible first | exact HB.out | apply qae | apply qab | apply qad | refine qah ?_ GE257.out) | exact HB.out))) : w.heap.size ≤ gb261)); have n7_ := qac.mk ((by rw [hg]; exact Nat.ne_of_lt (qbC (g := gb257) (o := .cells #[.string ((qam l0 x15_1).f0.f0), .slice (some ad260) ((qam l0 x15_1).f0.f1).length c256_1, .int .i64 ((qam l0 x15_1).f1)] 32 (0, 0)) (by (with_reducible repeat (first | refine qan ?_ _ | refine qap ?_ | refine qao ?_ _)); exact BK257.out)) : gb257 ≠ gb261)); have n8_ := qac.mk ((by rw [hg]; exact Nat.ne_of_gt (qbC (g := gb257) (o := .cells #[.string ((qam l0 x15_1).f0.f0), .slice (some ad260) ((qam l0 x15_1).f0.f1).length c256_1, .int .i64 ((qam l0 x15_1).f1)] 32 (0, 0)) (by (with_reducible repeat (first | refine qan ?_ _ | refine qap ?_ | refine qao ?_ _)); exact BK257.out)) : gb261 ≠ gb257)); clear HO_4; clear HO_5; clear BK257; clear HB; have HO_4 := n0_; have HO_5 := n1_; have BK257 := n2_; have HB := n3_; have BK261 := n4_; have GW261 := n5_; have GE261 := n6_; have NB257_261 := n7_; have NB261_257 := n8_; clear n0_ n1_ n2_ n3_ n4_ n5_ n6_ n7_ n8_; clear hb hbox hg; have hnb23 := NB261_257.out; have hnc23 := NB257_261.out; have hcz24_0 : w22.cell? ⟨gb261, 0, none⟩ = some (.int .i64 0) := (qas BK261.out 0).trans rfl; have hcz24_1 : w22.cell? ⟨gb261, 1, none⟩ = some (.int .i64 0) := (qas BK261.out 1).trans rfl; have hfz24_0 := qat BK261.out 0; have hfz24_1 := qat BK261.out 1) | ((with_reducible refine gate_builtin (b := .append) (xs := #[.tmp 43, .tmp 49]) rfl ?_); at_builtin; refine Kd.R_append k102 (w0 := w) w.heap.size rfl (.tmp 43) (.tmp 49) 95 102 (.agg #[(.int .i64 0), (.int .i64 0), (.int .i64 0)]) 24 rfl Try.underlying95 info102 rfl (by decide) (by omega) u4 x4_2 (⟨x15_1, ji17, (qaI ((qam l0 x15_1).f0.f1) x30_2).f1⟩ : S102) [.int .i64 x15_1, .int .i64 ji17, .int .i64 ((qaI ((qam l0 x15_1).f0.f1) x30_2).f1)] (fun k_ => some k_ ≠ (u5 : Value).ownBlock) (fun _ => False) rfl (by first | (go_simp; done) | (go_simp; rfl)) ?aP (fun _ hk => hk.elim) ?aF ?aO ?aB ?aS ?aL ?_; (case aP => exact qbQ _ _ _ (⟨x15_1, ji17, (qaI ((qam l0 x15_1).f0.f1) x30_2).f1⟩ : S102)); (case aB => exact (by repeat (first | (with_reducible first | exact HB.out | apply qae | apply qab | apply qad | refine qah ?_ GE257.out | refine qah ?_ GE261.out) | exact HB.out))); (case aF => exact (fun k_ hk => Kd.fresh' (Kd.R_lt (by (with_reducible repeat (first | apply Kd.qax | apply Kd.qaw | apply Kd.qaA)); exact (Kd.qaY (Kd.R_far (p := ⟨gb261, 1, none⟩) (Kd.R_far (p := ⟨gb261, 0, none⟩) (Kd.qbs HO_5.out BK261.out (by decide)) (fun _ hk => hk.2) (.int .i64 ((qaI ((qam l0 x15_1).f0.f1) x30_2).f0))) (fun _ hk => hk.2) (.int .i64 ((qaI ((qam l0 x15_1).f0.f1) x30_2).f1))) (fun _ h_ => h_.1)))) k_ hk)); (case aO => exact (by (with_reducible repeat (first | apply Kd.qax | apply Kd.qaw | apply Kd.qaA)); exact Kd.qaY (Kd.R_far (p := ⟨gb261, 1, none⟩) (Kd.R_far (p := ⟨gb261, 0, none⟩) (Kd.qbs HO_4.out BK261.out (by decide)) (fun _ hk => hk.2) (.int .i64 ((qaI ((qam l0 x15_1).f0.f1) x30_2).f0))) (fun _ hk => hk.2) (.int .i64 ((qaI ((qam l0 x15_1).f0.f1) x30_2).f1))) (fun _ hk => hk.1))); (case aS => exact (qav (by repeat (first | (with_reducible first | exact HB.out | apply qae | apply qab | apply qad | refine qah ?_ GE257.out | refine qah ?_ GE261.out) | exact HB.out)))); (case aL => have := LMc19.out; omega); intro v263 w25 ho hb hg hat; rw [← Ny262.out] at ho; have n0_ := qac.mk (Kd.R_after (ok := (fun _ => True)) (by (with_reducible repeat (first | apply Kd.qax | apply Kd.qaw | apply Kd.qaA)); exact Kd.qaY (Kd.R_far (p := ⟨gb261, 1, none⟩) (Kd.R_far (p := ⟨gb261, 0, none⟩) (Kd.qbs HO_5.out BK261.out (by decide)) (fun _ hk => hk.2) (.int .i64 ((qaI ((qam l0 x15_1).f0.f1) x30_2).f0))) (fun _ hk => hk.2) (.int .i64 ((qaI ((qam l0 x15_1).f0.f1) x30_2).f1))) (fun _ hk => ⟨trivial, hk.1⟩)) hg hat); have n1_ := qac.mk (qbN (g := gb257) (o := .cells #[.string ((qam l0 x15_1).f0.f0), .slice (some ad260) ((qam l0 x15_1).f0.f1).length c256_1, .int .i64 ((qam l0 x15_1).f1)] 32 (0, 0)) (by (with_reducible repeat (first | refine qan ?_ _ | refine qap ?_ | refine qao ?_ _)); refine qbA ?_ NB257_261.out _; (with_reducible repeat (first | refine qan ?_ _ | refine qap ?_ | refine qao ?_ _)); refine qbA ?_ NB257_261.out _; (with_reducible repeat (first | refine qan ?_ _ | refine qap ?_ | refine qao ?_ _)); exact BK257.out) hg (Kd.R_ne HO_4.out BK257.out (by decide))); have n2_ := qac.mk (qbN (g := gb261) (o := .cells #[.int .i64 ((qaI ((qam l0 x15_1).f0.f1) x30_2).f0), .int .i64 ((qaI ((qam l0 x15_1).f0.f1) x30_2).f1)] 41 (0, 0)) (by (with_reducible repeat (first | refine qan ?_ _ | refine qap ?_ | refine qao ?_ _)); refine qa1 (cs := #[.int .i64 ((qaI ((qam l0 x15_1).f0.f1) x30_2).f0), .int .i64 0]) ?_ 1 _ rfl; (with_reducible repeat (first | refine qan ?_ _ | refine qap ?_ | refine qao ?_ _)); refine qa1 (cs := #[.int .i64 0, .int .i64 0]) ?_ 0 _ rfl; (with_reducible repeat (first | refine qan ?_ _ | refine qap ?_ | refine qao ?_ _)); exact BK261.out) hg (Kd.R_ne HO_4.out BK261.out (by decide))); have n3_ := qac.mk (hb); have n4_ := qac.mk (ho); clear HO_5; clear BK257; clear BK261; clear HB; clear HO_4; have HO_5 := n0_; have BK257 := n1_; have BK261 := n2_; have HB := n3_; have HO264 := n4_; clear n0_ n1_ n2_ n3_ n4_; clear ho hb hg hat; have hcz26_0 : w25.cell? ⟨gb261, 0, none⟩ = some (.int .i64 ((qaI ((qam l0 x15_1).f0.f1) x30_2).f0)) := (qas BK261.out 0).trans rfl; have hcz26_1 : w25.cell? ⟨gb261, 1, none⟩ = some (.int .i64 ((qaI ((qam l0 x15_1).f0.f1) x30_2).f1)) := (qas BK261.out 1).trans rfl; have hfz26_0 := qat BK261.out 0; have hfz26_1 := qat BK261.out 1) | ((with_reducible refine gate_builtin (b := .append) (xs := #[.tmp 55, .tmp 64]) rfl ?_); at_builtin; refine Kd.R_append k102 (w0 := w) w.heap.size rfl (.tmp 55) (.tmp 64) 95 102 (.agg #[(.int .i64 0), (.int .i64 0), (.int .i64 0)]) 24 rfl Try.underlying95 info102 rfl (by decide) (by omega) u5 x5_2 (⟨x15_1, wrap64 (((qaI ((qam l0 x15_1).f0.f1) x30_2).f0) - (ji17)), (qaI ((qam l0 x15_1).f0.f1) x30_2).f1⟩ : S102) [.int .i64 x15_1, .int .i64 (wrap64 (((qaI ((qam l0 x15_1).f0.f1) x30_2).f0) - (ji17))), .int .i64 ((qaI ((qam l0 x15_1).f0.f1) x30_2).f1)] (fun k_ => some k_ ≠ (v263 : Value).ownBlock) (fun _ => False) rfl rfl ?aP (fun _ hk => hk.elim) ?aF ?aO ?aB ?aS ?aL ?_; (case aP => exact qbQ _ _ _ (⟨x15_1, wrap64 (((qaI ((qam l0 x15_1).f0.f1) x30_2).f0) - (ji17)), (qaI ((qam l0 x15_1).f0.f1) x30_2).f1⟩ : S102)); (case aB => exact (by repeat (first | (with_reducible first | exact HB.out | apply qae | apply qab | apply qad | refine qah ?_ GE257.out | refine qah ?_ GE261.out) | exact HB.out))); (case aF => exact (fun k_ hk => Kd.fresh' (Kd.R_lt (by (with_reducible repeat (first | apply Kd.qax | apply Kd.qaw | apply Kd.qaA)); exact HO264.out)) k_ hk)); (case aO => exact (by (with_reducible repeat (first | apply Kd.qax | apply Kd.qaw | apply Kd.qaA)); exact Kd.qaY HO_5.out (fun _ hk => hk.2))); (case aS => exact (qav (by repeat (first | (with_reducible first | exact HB.out | apply qae | apply qab | apply qad | refine qah ?_ GE257.out | refine qah ?_ GE261.out) | exact HB.out)))); (case aL => have := LMc21.out; omega); intro v266 w27 ho hb hg hat; rw [← Ny265.out] at ho; have n0_ := qac.mk (qbN (g := gb257) (o := .cells #[.string ((qam l0 x15_1).f0.f0), .slice (some ad260) ((qam l0 x15_1).f0.f1).length c256_1, .int .i64 ((qam l0 x15_1).f1)] 32 (0, 0)) (by (with_reducible repeat (first | refine qan ?_ _ | refine qap ?_ | refine qao ?_ _)); exact BK257.out) hg (Kd.R_ne HO_5.out BK257.out (by decide))); have n1_ := qac.mk (qbN (g := gb261) (o := .cells #[.int .i64 ((qaI ((qam l0 x15_1).f0.f1) x30_2).f0), .int .i64 ((qaI ((qam l0 x15_1).f0.f1) x30_2).f1)] 41 (0, 0)) (by (with_reducible repeat (first | refine qan ?_ _ | refine qap ?_ | refine qao ?_ _)); exact BK261.out) hg (Kd.R_ne HO_5.out BK261.out (by decide))); have n2_ := qac.mk (Kd.R_after (ok := (fun _ => True)) (by (with_reducible repeat (first | apply Kd.qax | apply Kd.qaw | apply Kd.qaA)); exact Kd.qaY HO264.out (fun _ hk => ⟨trivial, hk⟩)) hg hat); have n3_ := qac.mk (hb); have n4_ := qac.mk (ho); clear BK257; clear BK261; clear HO264; clear HB; clear HO_5; have BK257 := n0_; have BK261 := n1_; have HO264 := n2_; have HB := n3_; have HO267 := n4_; clear n0_ n1_ n2_ n3_ n4_; clear ho hb hg hat))
               go_roundg k2
               case measure => have := HK1.out; have := HK2.out; omega
               case rel => exact ⟨(y262), (y265), (wrap64 (x8_2 - (ji17))), (wrap64 (x30_2 + 1)), (by first | rfl | (simp; done) | (simp only [← hji17] <;> (first | rfl | simp)) | (simp [*]; done)), (by first | rfl | (simp; done) | (simp [*]; done)), H', ⟨by have := HK1.out; have := HK2.out; omega⟩, ⟨by (with_reducible repeat (first | apply Kd.qax | apply Kd.qaw | apply Kd.qaA)); exact Kd.qaY HO264.out (fun _ hk => hk.2)⟩, ⟨by (with_reducible repeat (first | apply Kd.qax | apply Kd.qaw | apply Kd.qaA)); exact HO267.out⟩, ⟨by (with_reducible repeat (first | refine qan ?_ _ | refine qap ?_ | refine qao ?_ _)); exact BK257.out⟩, ⟨by repeat (first | (with_reducible first | exact HB.out | apply qae | apply qab | apply qad | refine qah ?_ GE257.out | refine qah ?_ GE261.out) | exact HB.out)⟩⟩
              ·rw [if_neg c21] at H; exact absurd H (by simp)
             ·rw [if_neg c20] at H; have c20b0 : decide ((ji17) < ((qaI ((qam l0 x15_1).f0.f1) x30_2).f0)) = false := decide_eq_false c20; clear c20; have H' := qac.mk H; clear H; have p260 : 0 ≤ (x30_2 : Int) := of_decide_eq_true (by first | (with_reducible assumption) | assumption)
              have q260 : x30_2 < (((qam l0 x15_1).f0.f1).length : Int) := of_decide_eq_true (by first | (with_reducible assumption) | assumption)
              obtain ⟨ad260, e260, hx260_0, hx260_1⟩ := at_T41 HR256_1.out x30_2 p260 q260
              cases e260
              replace hx260_0 := (HB.out.cell (World.block_lt_of_cell? w _ hx260_0)).trans hx260_0
              replace hx260_1 := (HB.out.cell (World.block_lt_of_cell? w _ hx260_1)).trans hx260_1
              replace p260 := eq_true p260; replace q260 := eq_true q260; go_wp2_with (first | ((with_reducible refine qaV (N := 10) rfl ?_); refine qaU ?hg (N := 10) ?hd (cs := #[.int .i64 0, .int .i64 0]) (t := 41) ?hr ?_; (case hd => rfl); (case hg => rfl); (case hr => first | (go_simp; done) | (go_simp; rfl)); intro gb261 hg w28 hbox hb; have n0_ := qac.mk (Kd.qa8 (by (with_reducible repeat (first | apply Kd.qax | apply Kd.qaw | apply Kd.qaA)); exact HO_4.out) hb); have n1_ := qac.mk (Kd.qa8 (by (with_reducible repeat (first | apply Kd.qax | apply Kd.qaw | apply Kd.qaA)); exact HO_5.out) hb); have n2_ := qac.mk (qaS (g := gb257) (o := .cells #[.string ((qam l0 x15_1).f0.f0), .slice (some ad260) ((qam l0 x15_1).f0.f1).length c256_1, .int .i64 ((qam l0 x15_1).f1)] 32 (0, 0)) (by (with_reducible repeat (first | refine qan ?_ _ | refine qap ?_ | refine qao ?_ _)); exact BK257.out) hb); have n3_ := qac.mk (qaB (by repeat (first | (with_reducible first | exact HB.out | apply qae | apply qab | apply qad | refine qah ?_ GE257.out) | exact HB.out)) hb); have n4_ := qac.mk (hbox); have n5_ := qac.mk ((by rw [hg]; exact (qav (by repeat (first | (with_reducible first | exact HB.out | apply qae | apply qab | apply qad | refine qah ?_ GE257.out) | exact HB.out))) : w.heap.size ≤ gb261)); have n6_ := qac.mk ((by rw [hg]; exact (qav (by repeat (first | (with_reducible first | exact HB.out | apply qae | apply qab | apply qad | refine qah ?_ GE257.out) | exact HB.out))) : w.heap.size ≤ gb261)); have n7_ := qac.mk ((by rw [hg]; exact Nat.ne_of_lt (qbC (g := gb257) (o := .cells #[.string ((qam l0 x15_1).f0.f0), .slice (some ad260) ((qam l0 x15_1).f0.f1).length c256_1, .int .i64 ((qam l0 x15_1).f1)] 32 (0, 0)) (by (with_reducible repeat (first | refine qan ?_ _ | refine qap ?_ | refine qao ?_ _)); exact BK257.out)) : gb257 ≠ gb261)); have n8_ := qac.mk ((by rw [hg]; exact Nat.ne_of_gt (qbC (g := gb257) (o := .cells #[.string ((qam l0 x15_1).f0.f0), .slice (some ad260) ((qam l0 x15_1).f0.f1).length c256_1, .int .i64 ((qam l0 x15_1).f1)] 32 (0, 0)) (by (with_reducible repeat (first | refine qan ?_ _ | refine qap ?_ | refine qao ?_ _)); exact BK257.out)) : gb261 ≠ gb257)); clear HO_4; clear HO_5; clear BK257; clear HB; have HO_4 := n0_; have HO_5 := n1_; have BK257 := n2_; have HB := n3_; have BK261 := n4_; have GW261 := n5_; have GE261 := n6_; have NB257_261 := n7_; have NB261_257 := n8_; clear n0_ n1_ n2_ n3_ n4_ n5_ n6_ n7_ n8_; clear hb hbox hg; have hnb29 := NB261_257.out; have hnc29 := NB257_261.out; have hcz30_0 : w28.cell? ⟨gb261, 0, none⟩ = some (.int .i64 0) := (qas BK261.out 0).trans rfl; have hcz30_1 : w28.cell? ⟨gb261, 1, none⟩ = some (.int .i64 0) := (qas BK261.out 1).trans rfl; have hfz30_0 := qat BK261.out 0; have hfz30_1 := qat BK261.out 1) | ((with_reducible refine gate_builtin (b := .append) (xs := #[.tmp 43, .tmp 49]) rfl ?_); at_builtin; refine Kd.R_append k102 (w0 := w) w.heap.size rfl (.tmp 43) (.tmp 49) 95 102 (.agg #[(.int .i64 0), (.int .i64 0), (.int .i64 0)]) 24 rfl Try.underlying95 info102 rfl (by decide) (by omega) u4 x4_2 (⟨x15_1, ji17, (qaI ((qam l0 x15_1).f0.f1) x30_2).f1⟩ : S102) [.int .i64 x15_1, .int .i64 ji17, .int .i64 ((qaI ((qam l0 x15_1).f0.f1) x30_2).f1)] (fun k_ => some k_ ≠ (u5 : Value).ownBlock) (fun _ => False) rfl (by first | (go_simp; done) | (go_simp; rfl)) ?aP (fun _ hk => hk.elim) ?aF ?aO ?aB ?aS ?aL ?_; (case aP => exact qbQ _ _ _ (⟨x15_1, ji17, (qaI ((qam l0 x15_1).f0.f1) x30_2).f1⟩ : S102)); (case aB => exact (by repeat (first | (with_reducible first | exact HB.out | apply qae | apply qab | apply qad | refine qah ?_ GE257.out | refine qah ?_ GE261.out) | exact HB.out))); (case aF => exact (fun k_ hk => Kd.fresh' (Kd.R_lt (by (with_reducible repeat (first | apply Kd.qax | apply Kd.qaw | apply Kd.qaA)); exact (Kd.qaY (Kd.R_far (p := ⟨gb261, 1, none⟩) (Kd.R_far (p := ⟨gb261, 0, none⟩) (Kd.qbs HO_5.out BK261.out (by decide)) (fun _ hk => hk.2) (.int .i64 ((qaI ((qam l0 x15_1).f0.f1) x30_2).f0))) (fun _ hk => hk.2) (.int .i64 ((qaI ((qam l0 x15_1).f0.f1) x30_2).f1))) (fun _ h_ => h_.1)))) k_ hk)); (case aO => exact (by (with_reducible repeat (first | apply Kd.qax | apply Kd.qaw | apply Kd.qaA)); exact Kd.qaY (Kd.R_far (p := ⟨gb261, 1, none⟩) (Kd.R_far (p := ⟨gb261, 0, none⟩) (Kd.qbs HO_4.out BK261.out (by decide)) (fun _ hk => hk.2) (.int .i64 ((qaI ((qam l0 x15_1).f0.f1) x30_2).f0))) (fun _ hk => hk.2) (.int .i64 ((qaI ((qam l0 x15_1).f0.f1) x30_2).f1))) (fun _ hk => hk.1))); (case aS => exact (qav (by repeat (first | (with_reducible first | exact HB.out | apply qae | apply qab | apply qad | refine qah ?_ GE257.out | refine qah ?_ GE261.out) | exact HB.out)))); (case aL => have := LMc19.out; omega); intro v263 w31 ho hb hg hat; rw [← Ny262.out] at ho; have n0_ := qac.mk (Kd.R_after (ok := (fun _ => True)) (by (with_reducible repeat (first | apply Kd.qax | apply Kd.qaw | apply Kd.qaA)); exact Kd.qaY (Kd.R_far (p := ⟨gb261, 1, none⟩) (Kd.R_far (p := ⟨gb261, 0, none⟩) (Kd.qbs HO_5.out BK261.out (by decide)) (fun _ hk => hk.2) (.int .i64 ((qaI ((qam l0 x15_1).f0.f1) x30_2).f0))) (fun _ hk => hk.2) (.int .i64 ((qaI ((qam l0 x15_1).f0.f1) x30_2).f1))) (fun _ hk => ⟨trivial, hk.1⟩)) hg hat); have n1_ := qac.mk (qbN (g := gb257) (o := .cells #[.string ((qam l0 x15_1).f0.f0), .slice (some ad260) ((qam l0 x15_1).f0.f1).length c256_1, .int .i64 ((qam l0 x15_1).f1)] 32 (0, 0)) (by (with_reducible repeat (first | refine qan ?_ _ | refine qap ?_ | refine qao ?_ _)); refine qbA ?_ NB257_261.out _; (with_reducible repeat (first | refine qan ?_ _ | refine qap ?_ | refine qao ?_ _)); refine qbA ?_ NB257_261.out _; (with_reducible repeat (first | refine qan ?_ _ | refine qap ?_ | refine qao ?_ _)); exact BK257.out) hg (Kd.R_ne HO_4.out BK257.out (by decide))); have n2_ := qac.mk (qbN (g := gb261) (o := .cells #[.int .i64 ((qaI ((qam l0 x15_1).f0.f1) x30_2).f0), .int .i64 ((qaI ((qam l0 x15_1).f0.f1) x30_2).f1)] 41 (0, 0)) (by (with_reducible repeat (first | refine qan ?_ _ | refine qap ?_ | refine qao ?_ _)); refine qa1 (cs := #[.int .i64 ((qaI ((qam l0 x15_1).f0.f1) x30_2).f0), .int .i64 0]) ?_ 1 _ rfl; (with_reducible repeat (first | refine qan ?_ _ | refine qap ?_ | refine qao ?_ _)); refine qa1 (cs := #[.int .i64 0, .int .i64 0]) ?_ 0 _ rfl; (with_reducible repeat (first | refine qan ?_ _ | refine qap ?_ | refine qao ?_ _)); exact BK261.out) hg (Kd.R_ne HO_4.out BK261.out (by decide))); have n3_ := qac.mk (hb); have n4_ := qac.mk (ho); clear HO_5; clear BK257; clear BK261; clear HB; clear HO_4; have HO_5 := n0_; have BK257 := n1_; have BK261 := n2_; have HB := n3_; have HO264 := n4_; clear n0_ n1_ n2_ n3_ n4_; clear ho hb hg hat; have hcz32_0 : w31.cell? ⟨gb261, 0, none⟩ = some (.int .i64 ((qaI ((qam l0 x15_1).f0.f1) x30_2).f0)) := (qas BK261.out 0).trans rfl; have hcz32_1 : w31.cell? ⟨gb261, 1, none⟩ = some (.int .i64 ((qaI ((qam l0 x15_1).f0.f1) x30_2).f1)) := (qas BK261.out 1).trans rfl; have hfz32_0 := qat BK261.out 0; have hfz32_1 := qat BK261.out 1))
              go_roundg k2
              case measure => have := HK1.out; have := HK2.out; omega
              case rel => exact ⟨(y262), (x5_2), (wrap64 (x8_2 - (ji17))), (wrap64 (x30_2 + 1)), (by first | rfl | (simp; done) | (simp only [← hji17] <;> (first | rfl | simp)) | (simp [*]; done)), (by first | rfl | (simp; done) | (simp [*]; done)), H', ⟨by have := HK1.out; have := HK2.out; omega⟩, ⟨by (with_reducible repeat (first | apply Kd.qax | apply Kd.qaw | apply Kd.qaA)); exact HO264.out⟩, ⟨by (with_reducible repeat (first | apply Kd.qax | apply Kd.qaw | apply Kd.qaA)); exact Kd.qaY HO_5.out (fun _ hk => hk.2)⟩, ⟨by (with_reducible repeat (first | refine qan ?_ _ | refine qap ?_ | refine qao ?_ _)); exact BK257.out⟩, ⟨by repeat (first | (with_reducible first | exact HB.out | apply qae | apply qab | apply qad | refine qah ?_ GE257.out | refine qah ?_ GE261.out) | exact HB.out)⟩⟩
            ·rw [if_neg c19] at H; exact absurd H (by simp)
           ·rw [if_neg c18] at H; have c18b0 : decide (0 < (ji17)) = false := decide_eq_false c18; clear c18; by_cases c33 : (ji17) < ((qaI ((qam l0 x15_1).f0.f1) x30_2).f0)
            ·rw [if_pos c33] at H; have c33b0 : decide ((ji17) < ((qaI ((qam l0 x15_1).f0.f1) x30_2).f0)) = true := decide_eq_true c33; clear c33; by_cases c34 : x5_2.length < 5864062014805
             ·rw [if_pos c34] at H; have LMc34 := qac.mk c34
              clear c34; obtain ⟨y268, hy268⟩ : ∃ y_ : List (S102), y_ = (x5_2 ++ [(⟨x15_1, wrap64 (((qaI ((qam l0 x15_1).f0.f1) x30_2).f0) - (ji17)), (qaI ((qam l0 x15_1).f0.f1) x30_2).f1⟩ : S102)]) := ⟨_, rfl⟩
              replace H : (qaD.l1 k2 x4_2 y268 x15_1 (wrap64 (x8_2 - (ji17))) l0 (l0.length : Int) x15_1 ((qam l0 x15_1).f0.f1) (((qam l0 x15_1).f0.f1).length : Int) (wrap64 (x30_2 + 1))) = some (r1, r2) := by first | (rw [hy268]; with_reducible exact H) | (have H2_ := (Option.bind_some _ _).symm.trans H; rw [hy268]; with_reducible exact H2_) | (have H2_ := (Option.bind_some _ _).symm.trans H; with_reducible exact H2_) | with_reducible exact H | (rw [hy268]; exact H) | exact H
              have Ny268 := qac.mk hy268
              clear hy268; have H' := qac.mk H; clear H; have p260 : 0 ≤ (x30_2 : Int) := of_decide_eq_true (by first | (with_reducible assumption) | assumption)
              have q260 : x30_2 < (((qam l0 x15_1).f0.f1).length : Int) := of_decide_eq_true (by first | (with_reducible assumption) | assumption)
              obtain ⟨ad260, e260, hx260_0, hx260_1⟩ := at_T41 HR256_1.out x30_2 p260 q260
              cases e260
              replace hx260_0 := (HB.out.cell (World.block_lt_of_cell? w _ hx260_0)).trans hx260_0
              replace hx260_1 := (HB.out.cell (World.block_lt_of_cell? w _ hx260_1)).trans hx260_1
              replace p260 := eq_true p260; replace q260 := eq_true q260; go_wp2_with (first | ((with_reducible refine qaV (N := 10) rfl ?_); refine qaU ?hg (N := 10) ?hd (cs := #[.int .i64 0, .int .i64 0]) (t := 41) ?hr ?_; (case hd => rfl); (case hg => rfl); (case hr => first | (go_simp; done) | (go_simp; rfl)); intro gb261 hg w35 hbox hb; have n0_ := qac.mk (Kd.qa8 (by (with_reducible repeat (first | apply Kd.qax | apply Kd.qaw | apply Kd.qaA)); exact HO_4.out) hb); have n1_ := qac.mk (Kd.qa8 (by (with_reducible repeat (first | apply Kd.qax | apply Kd.qaw | apply Kd.qaA)); exact HO_5.out) hb); have n2_ := qac.mk (qaS (g := gb257) (o := .cells #[.string ((qam l0 x15_1).f0.f0), .slice (some ad260) ((qam l0 x15_1).f0.f1).length c256_1, .int .i64 ((qam l0 x15_1).f1)] 32 (0, 0)) (by (with_reducible repeat (first | refine qan ?_ _ | refine qap ?_ | refine qao ?_ _)); exact BK257.out) hb); have n3_ := qac.mk (qaB (by repeat (first | (with_reducible first | exact HB.out | apply qae | apply qab | apply qad | refine qah ?_ GE257.out) | exact HB.out)) hb); have n4_ := qac.mk (hbox); have n5_ := qac.mk ((by rw [hg]; exact (qav (by repeat (first | (with_reducible first | exact HB.out | apply qae | apply qab | apply qad | refine qah ?_ GE257.out) | exact HB.out))) : w.heap.size ≤ gb261)); have n6_ := qac.mk ((by rw [hg]; exact (qav (by repeat (first | (with_reducible first | exact HB.out | apply qae | apply qab | apply qad | refine qah ?_ GE257.out) | exact HB.out))) : w.heap.size ≤ gb261)); have n7_ := qac.mk ((by rw [hg]; exact Nat.ne_of_lt (qbC (g := gb257) (o := .cells #[.string ((qam l0 x15_1).f0.f0), .slice (some ad260) ((qam l0 x15_1).f0.f1).length c256_1, .int .i64 ((qam l0 x15_1).f1)] 32 (0, 0)) (by (with_reducible repeat (first | refine qan ?_ _ | refine qap ?_ | refine qao ?_ _)); exact BK257.out)) : gb257 ≠ gb261)); have n8_ := qac.mk ((by rw [hg]; exact Nat.ne_of_gt (qbC (g := gb257) (o := .cells #[.string ((qam l0 x15_1).f0.f0), .slice (some ad260) ((qam l0 x15_1).f0.f1).length c256_1, .int .i64 ((qam l0 x15_1).f1)] 32 (0, 0)) (by (with_reducible repeat (first | refine qan ?_ _ | refine qap ?_ | refine qao ?_ _)); exact BK257.out)) : gb261 ≠ gb257)); clear HO_4; clear HO_5; clear BK257; clear HB; have HO_4 := n0_; have HO_5 := n1_; have BK257 := n2_; have HB := n3_; have BK261 := n4_; have GW261 := n5_; have GE261 := n6_; have NB257_261 := n7_; have NB261_257 := n8_; clear n0_ n1_ n2_ n3_ n4_ n5_ n6_ n7_ n8_; clear hb hbox hg; have hnb36 := NB261_257.out; have hnc36 := NB257_261.out; have hcz37_0 : w35.cell? ⟨gb261, 0, none⟩ = some (.int .i64 0) := (qas BK261.out 0).trans rfl; have hcz37_1 : w35.cell? ⟨gb261, 1, none⟩ = some (.int .i64 0) := (qas BK261.out 1).trans rfl; have hfz37_0 := qat BK261.out 0; have hfz37_1 := qat BK261.out 1) | ((with_reducible refine gate_builtin (b := .append) (xs := #[.tmp 55, .tmp 64]) rfl ?_); at_builtin; refine Kd.R_append k102 (w0 := w) w.heap.size rfl (.tmp 55) (.tmp 64) 95 102 (.agg #[(.int .i64 0), (.int .i64 0), (.int .i64 0)]) 24 rfl Try.underlying95 info102 rfl (by decide) (by omega) u5 x5_2 (⟨x15_1, wrap64 (((qaI ((qam l0 x15_1).f0.f1) x30_2).f0) - (ji17)), (qaI ((qam l0 x15_1).f0.f1) x30_2).f1⟩ : S102) [.int .i64 x15_1, .int .i64 (wrap64 (((qaI ((qam l0 x15_1).f0.f1) x30_2).f0) - (ji17))), .int .i64 ((qaI ((qam l0 x15_1).f0.f1) x30_2).f1)] (fun k_ => some k_ ≠ (u4 : Value).ownBlock) (fun _ => False) rfl (by first | (go_simp; done) | (go_simp; rfl)) ?aP (fun _ hk => hk.elim) ?aF ?aO ?aB ?aS ?aL ?_; (case aP => exact qbQ _ _ _ (⟨x15_1, wrap64 (((qaI ((qam l0 x15_1).f0.f1) x30_2).f0) - (ji17)), (qaI ((qam l0 x15_1).f0.f1) x30_2).f1⟩ : S102)); (case aB => exact (by repeat (first | (with_reducible first | exact HB.out | apply qae | apply qab | apply qad | refine qah ?_ GE257.out | refine qah ?_ GE261.out) | exact HB.out))); (case aF => exact (fun k_ hk => Kd.fresh' (Kd.R_lt (by (with_reducible repeat (first | apply Kd.qax | apply Kd.qaw | apply Kd.qaA)); exact (Kd.qaY (Kd.R_far (p := ⟨gb261, 1, none⟩) (Kd.R_far (p := ⟨gb261, 0, none⟩) (Kd.qbs HO_4.out BK261.out (by decide)) (fun _ hk => hk.2) (.int .i64 ((qaI ((qam l0 x15_1).f0.f1) x30_2).f0))) (fun _ hk => hk.2) (.int .i64 ((qaI ((qam l0 x15_1).f0.f1) x30_2).f1))) (fun _ h_ => h_.1)))) k_ hk)); (case aO => exact (by (with_reducible repeat (first | apply Kd.qax | apply Kd.qaw | apply Kd.qaA)); exact Kd.qaY (Kd.R_far (p := ⟨gb261, 1, none⟩) (Kd.R_far (p := ⟨gb261, 0, none⟩) (Kd.qbs HO_5.out BK261.out (by decide)) (fun _ hk => hk.2) (.int .i64 ((qaI ((qam l0 x15_1).f0.f1) x30_2).f0))) (fun _ hk => hk.2) (.int .i64 ((qaI ((qam l0 x15_1).f0.f1) x30_2).f1))) (fun _ hk => hk.1))); (case aS => exact (qav (by repeat (first | (with_reducible first | exact HB.out | apply qae | apply qab | apply qad | refine qah ?_ GE257.out | refine qah ?_ GE261.out) | exact HB.out)))); (case aL => have := LMc34.out; omega); intro v269 w38 ho hb hg hat; rw [← Ny268.out] at ho; have n0_ := qac.mk (Kd.R_after (ok := (fun _ => True)) (by (with_reducible repeat (first | apply Kd.qax | apply Kd.qaw | apply Kd.qaA)); exact Kd.qaY (Kd.R_far (p := ⟨gb261, 1, none⟩) (Kd.R_far (p := ⟨gb261, 0, none⟩) (Kd.qbs HO_4.out BK261.out (by decide)) (fun _ hk => hk.2) (.int .i64 ((qaI ((qam l0 x15_1).f0.f1) x30_2).f0))) (fun _ hk => hk.2) (.int .i64 ((qaI ((qam l0 x15_1).f0.f1) x30_2).f1))) (fun _ hk => ⟨trivial, hk.1⟩)) hg hat); have n1_ := qac.mk (qbN (g := gb257) (o := .cells #[.string ((qam l0 x15_1).f0.f0), .slice (some ad260) ((qam l0 x15_1).f0.f1).length c256_1, .int .i64 ((qam l0 x15_1).f1)] 32 (0, 0)) (by (with_reducible repeat (first | refine qan ?_ _ | refine qap ?_ | refine qao ?_ _)); refine qbA ?_ NB257_261.out _; (with_reducible repeat (first | refine qan ?_ _ | refine qap ?_ | refine qao ?_ _)); refine qbA ?_ NB257_261.out _; (with_reducible repeat (first | refine qan ?_ _ | refine qap ?_ | refine qao ?_ _)); exact BK257.out) hg (Kd.R_ne HO_5.out BK257.out (by decide))); have n2_ := qac.mk (qbN (g := gb261) (o := .cells #[.int .i64 ((qaI ((qam l0 x15_1).f0.f1) x30_2).f0), .int .i64 ((qaI ((qam l0 x15_1).f0.f1) x30_2).f1)] 41 (0, 0)) (by (with_reducible repeat (first | refine qan ?_ _ | refine qap ?_ | refine qao ?_ _)); refine qa1 (cs := #[.int .i64 ((qaI ((qam l0 x15_1).f0.f1) x30_2).f0), .int .i64 0]) ?_ 1 _ rfl; (with_reducible repeat (first | refine qan ?_ _ | refine qap ?_ | refine qao ?_ _)); refine qa1 (cs := #[.int .i64 0, .int .i64 0]) ?_ 0 _ rfl; (with_reducible repeat (first | refine qan ?_ _ | refine qap ?_ | refine qao ?_ _)); exact BK261.out) hg (Kd.R_ne HO_5.out BK261.out (by decide))); have n3_ := qac.mk (hb); have n4_ := qac.mk (ho); clear HO_4; clear BK257; clear BK261; clear HB; clear HO_5; have HO_4 := n0_; have BK257 := n1_; have BK261 := n2_; have HB := n3_; have HO270 := n4_; clear n0_ n1_ n2_ n3_ n4_; clear ho hb hg hat))
              go_roundg k2
              case measure => have := HK1.out; have := HK2.out; omega
              case rel => exact ⟨(x4_2), (y268), (wrap64 (x8_2 - (ji17))), (wrap64 (x30_2 + 1)), (by first | rfl | (simp; done) | (simp only [← hji17] <;> (first | rfl | simp)) | (simp [*]; done)), (by first | rfl | (simp; done) | (simp [*]; done)), H', ⟨by have := HK1.out; have := HK2.out; omega⟩, ⟨by (with_reducible repeat (first | apply Kd.qax | apply Kd.qaw | apply Kd.qaA)); exact Kd.qaY HO_4.out (fun _ hk => hk.2)⟩, ⟨by (with_reducible repeat (first | apply Kd.qax | apply Kd.qaw | apply Kd.qaA)); exact HO270.out⟩, ⟨by (with_reducible repeat (first | refine qan ?_ _ | refine qap ?_ | refine qao ?_ _)); exact BK257.out⟩, ⟨by repeat (first | (with_reducible first | exact HB.out | apply qae | apply qab | apply qad | refine qah ?_ GE257.out | refine qah ?_ GE261.out) | exact HB.out)⟩⟩
             ·rw [if_neg c34] at H; exact absurd H (by simp)
            ·rw [if_neg c33] at H; have c33b0 : decide ((ji17) < ((qaI ((qam l0 x15_1).f0.f1) x30_2).f0)) = false := decide_eq_false c33; clear c33; have H' := qac.mk H; clear H; have p260 : 0 ≤ (x30_2 : Int) := of_decide_eq_true (by first | (with_reducible assumption) | assumption)
             have q260 : x30_2 < (((qam l0 x15_1).f0.f1).length : Int) := of_decide_eq_true (by first | (with_reducible assumption) | assumption)
             obtain ⟨ad260, e260, hx260_0, hx260_1⟩ := at_T41 HR256_1.out x30_2 p260 q260
             cases e260
             replace hx260_0 := (HB.out.cell (World.block_lt_of_cell? w _ hx260_0)).trans hx260_0
             replace hx260_1 := (HB.out.cell (World.block_lt_of_cell? w _ hx260_1)).trans hx260_1
             replace p260 := eq_true p260; replace q260 := eq_true q260; go_wp2_with (first | ((with_reducible refine qaV (N := 10) rfl ?_); refine qaU ?hg (N := 10) ?hd (cs := #[.int .i64 0, .int .i64 0]) (t := 41) ?hr ?_; (case hd => rfl); (case hg => rfl); (case hr => first | (go_simp; done) | (go_simp; rfl)); intro gb261 hg w39 hbox hb; have n0_ := qac.mk (Kd.qa8 (by (with_reducible repeat (first | apply Kd.qax | apply Kd.qaw | apply Kd.qaA)); exact HO_4.out) hb); have n1_ := qac.mk (Kd.qa8 (by (with_reducible repeat (first | apply Kd.qax | apply Kd.qaw | apply Kd.qaA)); exact HO_5.out) hb); have n2_ := qac.mk (qaS (g := gb257) (o := .cells #[.string ((qam l0 x15_1).f0.f0), .slice (some ad260) ((qam l0 x15_1).f0.f1).length c256_1, .int .i64 ((qam l0 x15_1).f1)] 32 (0, 0)) (by (with_reducible repeat (first | refine qan ?_ _ | refine qap ?_ | refine qao ?_ _)); exact BK257.out) hb); have n3_ := qac.mk (qaB (by repeat (first | (with_reducible first | exact HB.out | apply qae | apply qab | apply qad | refine qah ?_ GE257.out) | exact HB.out)) hb); have n4_ := qac.mk (hbox); have n5_ := qac.mk ((by rw [hg]; exact (qav (by repeat (first | (with_reducible first | exact HB.out | apply qae | apply qab | apply qad | refine qah ?_ GE257.out) | exact HB.out))) : w.heap.size ≤ gb261)); have n6_ := qac.mk ((by rw [hg]; exact (qav (by repeat (first | (with_reducible first | exact HB.out | apply qae | apply qab | apply qad | refine qah ?_ GE257.out) | exact HB.out))) : w.heap.size ≤ gb261)); have n7_ := qac.mk ((by rw [hg]; exact Nat.ne_of_lt (qbC (g := gb257) (o := .cells #[.string ((qam l0 x15_1).f0.f0), .slice (some ad260) ((qam l0 x15_1).f0.f1).length c256_1, .int .i64 ((qam l0 x15_1).f1)] 32 (0, 0)) (by (with_reducible repeat (first | refine qan ?_ _ | refine qap ?_ | refine qao ?_ _)); exact BK257.out)) : gb257 ≠ gb261)); have n8_ := qac.mk ((by rw [hg]; exact Nat.ne_of_gt (qbC (g := gb257) (o := .cells #[.string ((qam l0 x15_1).f0.f0), .slice (some ad260) ((qam l0 x15_1).f0.f1).length c256_1, .int .i64 ((qam l0 x15_1).f1)] 32 (0, 0)) (by (with_reducible repeat (first | refine qan ?_ _ | refine qap ?_ | refine qao ?_ _)); exact BK257.out)) : gb261 ≠ gb257)); clear HO_4; clear HO_5; clear BK257; clear HB; have HO_4 := n0_; have HO_5 := n1_; have BK257 := n2_; have HB := n3_; have BK261 := n4_; have GW261 := n5_; have GE261 := n6_; have NB257_261 := n7_; have NB261_257 := n8_; clear n0_ n1_ n2_ n3_ n4_ n5_ n6_ n7_ n8_; clear hb hbox hg; have hnb40 := NB261_257.out; have hnc40 := NB257_261.out; have hcz41_0 : w39.cell? ⟨gb261, 0, none⟩ = some (.int .i64 0) := (qas BK261.out 0).trans rfl; have hcz41_1 : w39.cell? ⟨gb261, 1, none⟩ = some (.int .i64 0) := (qas BK261.out 1).trans rfl; have hfz41_0 := qat BK261.out 0; have hfz41_1 := qat BK261.out 1))
             go_roundg k2
             case measure => have := HK1.out; have := HK2.out; omega
             case rel => exact ⟨(x4_2), (x5_2), (wrap64 (x8_2 - (ji17))), (wrap64 (x30_2 + 1)), (by first | rfl | (simp; done) | (simp only [← hji17] <;> (first | rfl | simp)) | (simp [*]; done)), (by first | rfl | (simp; done) | (simp [*]; done)), H', ⟨by have := HK1.out; have := HK2.out; omega⟩, ⟨by (with_reducible repeat (first | apply Kd.qax | apply Kd.qaw | apply Kd.qaA)); exact Kd.qaY (Kd.R_far (p := ⟨gb261, 1, none⟩) (Kd.R_far (p := ⟨gb261, 0, none⟩) (Kd.qbs HO_4.out BK261.out (by decide)) (fun _ hk => hk.2) (.int .i64 ((qaI ((qam l0 x15_1).f0.f1) x30_2).f0))) (fun _ hk => hk.2) (.int .i64 ((qaI ((qam l0 x15_1).f0.f1) x30_2).f1))) (fun _ hk => hk.1)⟩, ⟨by (with_reducible repeat (first | apply Kd.qax | apply Kd.qaw | apply Kd.qaA)); exact Kd.qaY (Kd.R_far (p := ⟨gb261, 1, none⟩) (Kd.R_far (p := ⟨gb261, 0, none⟩) (Kd.qbs HO_5.out BK261.out (by decide)) (fun _ hk => hk.2) (.int .i64 ((qaI ((qam l0 x15_1).f0.f1) x30_2).f0))) (fun _ hk => hk.2) (.int .i64 ((qaI ((qam l0 x15_1).f0.f1) x30_2).f1))) (fun _ hk => hk.1)⟩, ⟨by (with_reducible repeat (first | refine qan ?_ _ | refine qap ?_ | refine qao ?_ _)); refine qbA ?_ NB257_261.out _; (with_reducible repeat (first | refine qan ?_ _ | refine qap ?_ | refine qao ?_ _)); refine qbA ?_ NB257_261.out _; (with_reducible repeat (first | refine qan ?_ _ | refine qap ?_ | refine qao ?_ _)); exact BK257.out⟩, ⟨by repeat (first | (with_reducible first | exact HB.out | apply qae | apply qab | apply qad | refine qah ?_ GE257.out | refine qah ?_ GE261.out) | exact HB.out)⟩⟩
          ·rw [if_neg c16] at H; exact absurd H (by simp)
         ·rw [if_neg c15] at H; exact absurd H (by simp)
        ·rw [if_neg c14] at H; have c14b0 : decide (x30_2 < (((qam l0 x15_1).f0.f1).length : Int)) = false := decide_eq_false c14; clear c14; have H' := qac.mk H; clear H; go_wp2; go_roundg k2
         case measure => have := HK1.out; have := HK2.out; omega
         case rel => exact ⟨(x4_2), (x5_2), (wrap64 (x15_1 + 1)), (by first | rfl | (simp; done) | (simp [*]; done)), H', ⟨by have := HK1.out; have := HK2.out; omega⟩, ⟨by (with_reducible repeat (first | apply Kd.qax | apply Kd.qaw | apply Kd.qaA)); exact HO_4.out⟩, ⟨by (with_reducible repeat (first | apply Kd.qax | apply Kd.qaw | apply Kd.qaA)); exact HO_5.out⟩, ⟨by repeat (first | (with_reducible first | exact HB.out | apply qae | apply qab | apply qad | refine qah ?_ GE257.out) | exact HB.out)⟩⟩
     ·rw [if_neg c4] at H; exact absurd H (by simp)
    ·rw [if_neg c3] at H; exact absurd H (by simp)
   ·rw [if_neg c2] at H; have c2b0 : decide (x15_1 < (l0.length : Int)) = false := decide_eq_false c2; clear c2; replace H := Option.bind_eq_some_iff.mp H; obtain ⟨t254, A420, H⟩ := H; replace H : ((qau.f k1 x5_1).bind fun t255 => (some (t254, t255))) = some (r1, r2) := H
    have A42 := qac.mk A420
    clear A420; replace H := Option.bind_eq_some_iff.mp H; obtain ⟨t255, A430, H⟩ := H; replace H : (some (t254, t255)) = some (r1, r2) := H
    have A43 := qac.mk A430
    clear A430; simp only [Option.some.injEq, Prod.mk.injEq] at H
    obtain ⟨rfl, rfl⟩ := H; obtain ⟨Ao44, co44, eo44⟩ := Kd.qbc HO_4.out
    subst eo44; go_wp2_with (first | ((with_reducible refine qaL (f := 77) rfl ?_); refine qa9 (some 70) rfl rfl Try.func77 (by kernel_rfl) rfl #[.slice Ao44 x4_1.length co44, .func (.func 75) #[] #[]] rfl (by (try simp only [qy6, qy7, qy8]); first | done | rfl | (simp only [List.length_drop, List.length_take]; rfl)) ?_; (with_reducible refine (qau.calls k1 (fun k_ => some k_ = (.slice Ao44 x4_1.length co44 : Value).ownBlock) (.slice Ao44 x4_1.length co44) x4_1  t254 w _ ?side1 ?side2 A42.out).mono ?_); (case side1 => repeat (first | (with_reducible first | exact HB.out | apply qae | apply qab | apply qad) | exact HB.out)); (case side2 => exact Kd.qbI rfl HO_4.out); rintro e w45 ⟨rfl, hy0, hb, hkp⟩; refine ⟨_, rfl, ?_⟩; have n0_ := qac.mk (Kd.R_reok rfl hy0 (fun k_ e_ => HO_4.out.1 k_ e_)); have n1_ := qac.mk (Kd.qaY (ok' := fun k_ => some k_ ≠ (.slice Ao44 x4_1.length co44 : Value).ownBlock) (Kd.R_keptB (HO_5.out) hkp (fun k_ hk_ hs_ => (hk_) hs_)) (fun k_ hk_ => hk_.1)); have n2_ := qac.mk (hb); clear HO_4; clear HO_5; clear HB; have HO_4 := n0_; have HO_5 := n1_; have HB := n2_; clear n0_ n1_ n2_; (try clear hb); (try clear hkp); (try clear hy0); obtain ⟨Ao46, co46, eo46⟩ := Kd.qbc HO_5.out; subst eo46) | ((with_reducible refine qaL (f := 77) rfl ?_); refine qa9 (some 73) rfl rfl Try.func77 (by kernel_rfl) rfl #[.slice Ao46 x5_1.length co46, .func (.func 75) #[] #[]] rfl (by (try simp only [qy6, qy7, qy8]); first | done | rfl | (simp only [List.length_drop, List.length_take]; rfl)) ?_; (with_reducible refine (qau.calls k1 (fun k_ => some k_ = (.slice Ao46 x5_1.length co46 : Value).ownBlock) (.slice Ao46 x5_1.length co46) x5_1  t255 w _ ?side1 ?side2 A43.out).mono ?_); (case side1 => repeat (first | (with_reducible first | exact HB.out | apply qae | apply qab | apply qad) | exact HB.out)); (case side2 => exact Kd.qbI rfl HO_5.out); rintro e w47 ⟨rfl, hy0, hb, hkp⟩; refine ⟨_, rfl, ?_⟩; have n0_ := qac.mk (Kd.qaY (ok' := fun k_ => some k_ ≠ (.slice Ao46 x5_1.length co46 : Value).ownBlock) (Kd.R_keptB (HO_4.out) hkp (fun k_ hk_ hs_ => (hk_) hs_)) (fun k_ hk_ => hk_.1)); have n1_ := qac.mk (Kd.R_reok rfl hy0 (fun k_ e_ => HO_5.out.1 k_ e_)); have n2_ := qac.mk (hb); clear HO_4; clear HO_5; clear HB; have HO_4 := n0_; have HO_5 := n1_; have HB := n2_; clear n0_ n1_ n2_; (try clear hb); (try clear hkp); (try clear hy0)))
    go_ret2
    exact ⟨_, _, by first | rfl | (simp [qaz, qay] <;> rfl) | (simp [*, qaz, qay] <;> rfl), by (with_reducible repeat (first | apply Kd.qax | apply Kd.qaw | apply Kd.qaA)); exact HO_4.out, by (with_reducible repeat (first | apply Kd.qax | apply Kd.qaw | apply Kd.qaA)); exact HO_5.out, by repeat (first | (with_reducible first | exact HB.out | apply qae | apply qab | apply qad) | exact HB.out)⟩
def qaQ.l0 : Nat → Int → List (S102) → Int → Int → Option (Int)
 | 0, _, _, _, _ => none
 | k + 1, x3, x6, x7, x8 => if x8 < x7 then (if 0 ≤ x8 then (if x8 < (x6.length : Int) then (qaQ.l0 k (wrap64 (x3 + ((qag x6 x8).f1))) x6 x7 (wrap64 (x8 + 1))) else (none)) else (none)) else (some x3)
def qaQ.f (k : Nat) (l0 : List (S102)) : Option (Int) := qaQ.l0 k 0 l0 (l0.length : Int) 0
theorem qaQ.qbe : ∀ k, (∀ y0 y1 y2 y3, LeO (qaQ.l0 k y0 y1 y2 y3) (qaQ.l0 (k + 1) y0 y1 y2 y3))
 | 0 => fun _ _ _ _ r h => by simp [qaQ.l0] at h
 | k + 1 => by
  have ih0 := qaQ.qbe k
  ·intro y0 y1 y2 y3; unfold qaQ.l0
   repeat' first
   | (with_reducible exact ih0 _ _ _ _)
   | (with_reducible exact LeO.refl _)
   | (with_reducible exact LeO.none _)
   | (with_reducible refine LeO.ite ?_ ?_)
   | (with_reducible refine LeO.bind ?_ (fun _ => ?_))
   | exact ih0 _ _ _ _
   | exact LeO.none _
   | refine LeO.ite ?_ ?_
   | refine LeO.bind ?_ (fun _ => ?_)
theorem qaQ.mono : ∀ a0 k, LeO (qaQ.f k a0) (qaQ.f (k + 1) a0) := by
 intro a0 k; have ih0 := qaQ.qbe k
 unfold qaQ.f
 repeat' first
   | (with_reducible exact ih0 _ _ _ _)
   | (with_reducible exact LeO.refl _)
   | (with_reducible exact LeO.none _)
   | (with_reducible refine LeO.ite ?_ ?_)
   | (with_reducible refine LeO.bind ?_ (fun _ => ?_))
   | exact ih0 _ _ _ _
   | exact LeO.none _
   | refine LeO.ite ?_ ?_
   | refine LeO.bind ?_ (fun _ => ?_)
set_option maxHeartbeats 8000000 in
set_option maxRecDepth 100000 in
theorem qaQ.calls (k : Nat) (A0 : Option Addr) (c0 : Nat) (l0 : List (S102)) (r : Int) (w : World) (hr0 : Kd.C k102 w A0 l0.length l0) (hc0 : l0.length ≤ c0) (h : qaQ.f k l0 = some r) :
  Calls Try.prog 43 #[.slice A0 l0.length c0] w fun e w' => e = .returned (.int .i64 r) ∧ Below w.heap.size w w' := by
 have hu102 := Try.underlying102; have HR0 := qac.mk hr0
 have HC0 := qac.mk hc0
 clear hr0 hc0; have HB := qac.mk (Below.refl w.heap.size w)
 have H : (qaQ.l0 k 0 l0 (l0.length : Int) 0) = some r := h
 clear h; have H' := qac.mk H; clear H; go_enter Try.func43, Try.ntmps43; go_wp2; go_loopg [3, 8] k (fun kq v3 v8 w' => ∃ (x3_1 : Int) (x8_1 : Int), v3 = .int .i64 x3_1 ∧ v8 = .int .i64 x8_1 ∧ qac (qaQ.l0 kq x3_1 l0 (l0.length : Int) x8_1 = some r) ∧ qac (kq ≤ k) ∧ qac (Below w.heap.size w w'))
 case atStart => exact ⟨(0), (0), (by first | rfl | (simp; done) | (simp [*]; done)), (by first | rfl | (simp; done) | (simp [*]; done)), H', ⟨Nat.le_refl _⟩, ⟨by repeat (first | (with_reducible first | exact HB.out | apply qae | apply qab | apply qad) | exact HB.out)⟩⟩
 case round =>
  clear H'; obtain ⟨x3_1, x8_1, rfl, rfl, HA, HK1, HB⟩ := hrel
  cases gk with
  | zero => exact absurd HA.out (by simp [qaQ.l0])
  | succ k1 =>
   have H := HA.out; clear HA; simp only [qaQ.l0] at H
   by_cases c2 : x8_1 < (l0.length : Int)
   ·rw [if_pos c2] at H; have c2b0 : decide (x8_1 < (l0.length : Int)) = true := decide_eq_true c2; clear c2; by_cases c3 : 0 ≤ x8_1
    ·rw [if_pos c3] at H; have c3b0 : decide (0 ≤ x8_1) = true := decide_eq_true c3; clear c3; by_cases c4 : x8_1 < (l0.length : Int)
     ·rw [if_pos c4] at H; have c4b0 : decide (x8_1 < (l0.length : Int)) = true := decide_eq_true c4; clear c4; have H' := qac.mk H; clear H; have p271 : 0 ≤ (x8_1 : Int) := of_decide_eq_true (by first | (with_reducible assumption) | assumption)
      have q271 : x8_1 < (l0.length : Int) := of_decide_eq_true (by first | (with_reducible assumption) | assumption)
      obtain ⟨ad271, e271, hx271_0, hx271_1, hx271_2⟩ := qbm HR0.out x8_1 p271 q271
      cases e271
      replace hx271_0 := (HB.out.cell (World.block_lt_of_cell? w _ hx271_0)).trans hx271_0
      replace hx271_1 := (HB.out.cell (World.block_lt_of_cell? w _ hx271_1)).trans hx271_1
      replace hx271_2 := (HB.out.cell (World.block_lt_of_cell? w _ hx271_2)).trans hx271_2
      replace p271 := eq_true p271; replace q271 := eq_true q271; go_wp2_with (first | ((with_reducible refine qaV (N := 5) rfl ?_); refine qaU ?hg (N := 5) ?hd (cs := #[.int .i64 0, .int .i64 0, .int .i64 0]) (t := 102) ?hr ?_; (case hd => rfl); (case hg => rfl); (case hr => first | (go_simp; done) | (go_simp; rfl)); intro gb272 hg w5 hbox hb; have n0_ := qac.mk (qaB (by repeat (first | (with_reducible first | exact HB.out | apply qae | apply qab | apply qad) | exact HB.out)) hb); have n1_ := qac.mk (hbox); have n2_ := qac.mk ((by rw [hg]; exact (qav (by repeat (first | (with_reducible first | exact HB.out | apply qae | apply qab | apply qad) | exact HB.out))) : w.heap.size ≤ gb272)); have n3_ := qac.mk ((by rw [hg]; exact (qav (by repeat (first | (with_reducible first | exact HB.out | apply qae | apply qab | apply qad) | exact HB.out))) : w.heap.size ≤ gb272)); clear HB; have HB := n0_; have BK272 := n1_; have GW272 := n2_; have GE272 := n3_; clear n0_ n1_ n2_ n3_; clear hb hbox hg; have hcz6_0 : w5.cell? ⟨gb272, 0, none⟩ = some (.int .i64 0) := (qas BK272.out 0).trans rfl; have hcz6_1 : w5.cell? ⟨gb272, 1, none⟩ = some (.int .i64 0) := (qas BK272.out 1).trans rfl; have hcz6_2 : w5.cell? ⟨gb272, 2, none⟩ = some (.int .i64 0) := (qas BK272.out 2).trans rfl; have hfz6_0 := qat BK272.out 0; have hfz6_1 := qat BK272.out 1; have hfz6_2 := qat BK272.out 2))
      go_roundg k1
      case measure => have := HK1.out; omega
      case rel => exact ⟨(wrap64 (x3_1 + ((qag l0 x8_1).f1))), (wrap64 (x8_1 + 1)), (by first | rfl | (simp; done) | (simp [*]; done)), (by first | rfl | (simp; done) | (simp [*]; done)), H', ⟨by have := HK1.out; omega⟩, ⟨by repeat (first | (with_reducible first | exact HB.out | apply qae | apply qab | apply qad | refine qah ?_ GE272.out) | exact HB.out)⟩⟩
     ·rw [if_neg c4] at H; exact absurd H (by simp)
    ·rw [if_neg c3] at H; exact absurd H (by simp)
   ·rw [if_neg c2] at H; have c2b0 : decide (x8_1 < (l0.length : Int)) = false := decide_eq_false c2; clear c2; obtain rfl := Option.some.inj H
    go_wp2; go_ret
    exact ⟨by first | rfl | (simp [qaz, qay] <;> rfl) | (simp [*, qaz, qay] <;> rfl), by repeat (first | (with_reducible first | exact HB.out | apply qae | apply qab | apply qad) | exact HB.out)⟩
end Go.Proofs.Ytfcifmbddikflaa.P
