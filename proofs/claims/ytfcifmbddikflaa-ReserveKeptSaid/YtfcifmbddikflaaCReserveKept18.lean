/- Texts of the claim, put together: Px2, Px3, Px5. -/
import Derived.Test.YtfcifmbddikflaaCReserveKept14
import Derived.Test.YtfcifmbddikflaaCReserveKept16
import Derived.Test.YtfcifmbddikflaaCReserveKept17
namespace Go.Proofs.Ytfcifmbddikflaa.P
open Go.RowKit Go.Proofs.YtfcifmbddikflaaW.PrintWords Go.Proofs.YtfcifmbddikflaaW.PrintLast Go.Proofs.YtfcifmbddikflaaW.PrintMore
attribute [local go_sem] qbi qbg qbp qbo qa5 qa4 qbh qbf
set_option linter.unusedVariables false
set_option linter.unusedSimpArgs false
mutual
def qaJ.j0 : Nat → ByteArray → Bool → Option (Bool)
 | 0, _, _ => none
 | k + 1, x0, x20 => if x20 = true then (some false) else (qaJ.l0 k x0 (x0.size : Int) 0)
def qaJ.l0 : Nat → ByteArray → Int → Int → Option (Bool)
 | 0, _, _, _ => none
 | k + 1, x0, x22, x23 => if x23 < x22 then (if 0 ≤ x23 then (if x23 < (x0.size : Int) then (if (bt x0 x23) < 65 then (if (bt x0 x23) < 48 then (some false) else (if (bt x0 x23) > 57 then (some false) else (qaJ.l0 k x0 x22 (wrap64 (x23 + 1))))) else (if (bt x0 x23) > 90 then (if (bt x0 x23) < 48 then (some false) else (if (bt x0 x23) > 57 then (some false) else (qaJ.l0 k x0 x22 (wrap64 (x23 + 1))))) else (qaJ.l0 k x0 x22 (wrap64 (x23 + 1))))) else (none)) else (none)) else (some true)
end
def qaJ.f (k : Nat) (a0 : ByteArray) : Option (Bool) := if a0.toList = ([] : List UInt8) then (qaJ.j0 k a0 true) else (if (a0.size : Int) > 8 then (qaJ.j0 k a0 true) else (if 0 < (a0.size : Int) then (if (bt a0 0) ≥ 48 then (qaJ.j0 k a0 (decide ((bt a0 0) ≤ 57))) else (qaJ.j0 k a0 false)) else (none)))
theorem qaJ.qbe : ∀ k, (∀ y0 y1, LeO (qaJ.j0 k y0 y1) (qaJ.j0 (k + 1) y0 y1)) ∧ (∀ y0 y1 y2, LeO (qaJ.l0 k y0 y1 y2) (qaJ.l0 (k + 1) y0 y1 y2))
 | 0 => ⟨fun _ _ r h => by simp [qaJ.j0] at h, fun _ _ _ r h => by simp [qaJ.l0] at h⟩
 | k + 1 => by
  obtain ⟨ih0, ih1⟩ := qaJ.qbe k
  refine ⟨?_, ?_⟩
  ·intro y0 y1; unfold qaJ.j0
   repeat' first
   | (with_reducible exact ih0 _ _)
   | (with_reducible exact ih1 _ _ _)
   | (with_reducible exact LeO.refl _)
   | (with_reducible exact LeO.none _)
   | (with_reducible refine LeO.ite ?_ ?_)
   | (with_reducible refine LeO.bind ?_ (fun _ => ?_))
   | exact ih0 _ _
   | exact ih1 _ _ _
   | exact LeO.none _
   | refine LeO.ite ?_ ?_
   | refine LeO.bind ?_ (fun _ => ?_)
  ·intro y0 y1 y2; unfold qaJ.l0
   repeat' first
   | (with_reducible exact ih0 _ _)
   | (with_reducible exact ih1 _ _ _)
   | (with_reducible exact LeO.refl _)
   | (with_reducible exact LeO.none _)
   | (with_reducible refine LeO.ite ?_ ?_)
   | (with_reducible refine LeO.bind ?_ (fun _ => ?_))
   | exact ih0 _ _
   | exact ih1 _ _ _
   | exact LeO.none _
   | refine LeO.ite ?_ ?_
   | refine LeO.bind ?_ (fun _ => ?_)
theorem qaJ.mono : ∀ a0 k, LeO (qaJ.f k a0) (qaJ.f (k + 1) a0) := by
 intro a0 k; obtain ⟨ih0, ih1⟩ := qaJ.qbe k
 unfold qaJ.f
 repeat' first
   | (with_reducible exact ih0 _ _)
   | (with_reducible exact ih1 _ _ _)
   | (with_reducible exact LeO.refl _)
   | (with_reducible exact LeO.none _)
   | (with_reducible refine LeO.ite ?_ ?_)
   | (with_reducible refine LeO.bind ?_ (fun _ => ?_))
   | exact ih0 _ _
   | exact ih1 _ _ _
   | exact LeO.none _
   | refine LeO.ite ?_ ?_
   | refine LeO.bind ?_ (fun _ => ?_)
set_option maxHeartbeats 8000000 in
set_option maxRecDepth 100000 in
theorem qaJ.calls (k : Nat) (a0 : ByteArray) (r : Bool) (w : World) (h : qaJ.f k a0 = some r) :
  Calls Try.prog 93 #[.string a0] w fun e w' => e = .returned (.bool r) ∧ qa6 w w' := by
 have H : (if a0.toList = ([] : List UInt8) then (qaJ.j0 k a0 true) else (if (a0.size : Int) > 8 then (qaJ.j0 k a0 true) else (if 0 < (a0.size : Int) then (if (bt a0 0) ≥ 48 then (qaJ.j0 k a0 (decide ((bt a0 0) ≤ 57))) else (qaJ.j0 k a0 false)) else (none)))) = some r := h
 clear h; have HC2 := qac.mk H; clear H; go_enter Try.func93, Try.ntmps93; go_upto_region 1 with (fail)
 go_cut [20] (fun v20 wc => ∃ (kq : Nat) (x20_1 : Bool), v20 = .bool x20_1 ∧ qac (qaJ.j0 kq a0 x20_1 = some r) ∧ qac (kq ≤ k) ∧ qa6 w wc)
 case first =>
  have H := HC2.out; clear HC2; by_cases c3 : a0.toList = ([] : List UInt8)
  ·rw [if_pos c3] at H; have c3b0 : (a0.toList == ([] : List UInt8)) = true := beq_iff_eq.mpr c3; have c3b1 : (a0.toList != ([] : List UInt8)) = false := bne_eq_false_iff_eq.mpr c3; clear c3; (first | rw [c3b0] | (simp only [i64_w, i32_w]; rw [c3b0]) | skip)
   have H' := qac.mk H; clear H; go_wp2; (refine Met.intro ?_; go_step; first | ((repeat apply Exists.intro); refine ⟨?rel, rfl⟩) | ((try simp only [c3b1] at H' ⊢); (try simp only [c3b0] at H' ⊢); (repeat apply Exists.intro); refine ⟨?rel, rfl⟩))
   case rel => exact ⟨_, (true), (by first | rfl | (simp; done) | (simp [*]; done)), H', ⟨by first | omega | exact Nat.le_refl _⟩, by repeat (first | exact qa6.refl _ | apply qa6.step)⟩
  ·rw [if_neg c3] at H; have c3b0 : (a0.toList == ([] : List UInt8)) = false := beq_eq_false_iff_ne.mpr c3; have c3b1 : (a0.toList != ([] : List UInt8)) = true := bne_iff_ne.mpr c3; (first | rw [c3b0] | (simp only [i64_w, i32_w]; rw [c3b0]) | skip)
   by_cases c4 : (a0.size : Int) > 8
   ·rw [if_pos c4] at H; have c4b0 : decide (8 < (a0.size : Int)) = true := decide_eq_true c4; have c4b1 : decide (8 < a0.size) = true := decide_eq_true (by omega)
    clear c4; have H' := qac.mk H; clear H; go_wp2; (refine Met.intro ?_; go_step; first | ((repeat apply Exists.intro); refine ⟨?rel, rfl⟩) | ((try simp only [c4b1] at H' ⊢); (try simp only [c4b0] at H' ⊢); (try simp only [c3b1] at H' ⊢); (try simp only [c3b0] at H' ⊢); (repeat apply Exists.intro); refine ⟨?rel, rfl⟩))
    case rel => exact ⟨_, (true), (by first | rfl | (simp; done) | (simp [*]; done)), H', ⟨by first | omega | exact Nat.le_refl _⟩, by repeat (first | exact qa6.refl _ | apply qa6.step)⟩
   ·rw [if_neg c4] at H; have c4b0 : decide (8 < (a0.size : Int)) = false := decide_eq_false c4; have c4b1 : decide (8 < a0.size) = false := decide_eq_false (by omega)
    clear c4; by_cases c5 : 0 < (a0.size : Int)
    ·rw [if_pos c5] at H; have c5b0 : decide (0 < (a0.size : Int)) = true := decide_eq_true c5; have c5b1 : decide (0 < a0.size) = true := decide_eq_true (by omega)
     clear c5; by_cases c7 : (bt a0 0) ≥ 48
     ·rw [if_pos c7] at H; have c7b0 : decide (48 ≤ (bt a0 0)) = true := decide_eq_true c7; clear c7; have H' := qac.mk H; clear H; have p6 : 0 ≤ (0 : Int) := (by omega)
      have q6 : 0 < a0.size := (by have : (0 : Int) < (a0.size : Int) := of_decide_eq_true (by first | (with_reducible assumption) | assumption); omega)
      have hx6 : ∀ h : 0 < a0.size, ((a0[0]'h).toNat : Int) = bt a0 0 := bt_at a0 0
      clear p6; have qi6 : (0 < (a0.size : Int)) = True := eq_true (of_decide_eq_true (by first | (with_reducible assumption) | assumption))
      replace q6 := eq_true q6; have p8 : 0 ≤ (0 : Int) := (by omega)
      have q8 : 0 < a0.size := (by have : (0 : Int) < (a0.size : Int) := of_decide_eq_true (by first | (with_reducible assumption) | assumption); omega)
      have hx8 : ∀ h : 0 < a0.size, ((a0[0]'h).toNat : Int) = bt a0 0 := bt_at a0 0
      clear p8; have qi8 : (0 < (a0.size : Int)) = True := eq_true (of_decide_eq_true (by first | (with_reducible assumption) | assumption))
      replace q8 := eq_true q8; go_wp2; (refine Met.intro ?_; go_step; first | ((repeat apply Exists.intro); refine ⟨?rel, rfl⟩) | ((try simp only [c7b0] at H' ⊢); (try simp only [c5b1] at H' ⊢); (try simp only [c5b0] at H' ⊢); (try simp only [c4b1] at H' ⊢); (try simp only [c4b0] at H' ⊢); (try simp only [c3b1] at H' ⊢); (try simp only [c3b0] at H' ⊢); (repeat apply Exists.intro); refine ⟨?rel, rfl⟩))
      case rel => exact ⟨_, (decide ((bt a0 0) ≤ 57)), (by first | rfl | (simp; done) | (simp [*]; done)), H', ⟨by first | omega | exact Nat.le_refl _⟩, by repeat (first | exact qa6.refl _ | apply qa6.step)⟩
     ·rw [if_neg c7] at H; have c7b0 : decide (48 ≤ (bt a0 0)) = false := decide_eq_false c7; clear c7; have H' := qac.mk H; clear H; have p6 : 0 ≤ (0 : Int) := (by omega)
      have q6 : 0 < a0.size := (by have : (0 : Int) < (a0.size : Int) := of_decide_eq_true (by first | (with_reducible assumption) | assumption); omega)
      have hx6 : ∀ h : 0 < a0.size, ((a0[0]'h).toNat : Int) = bt a0 0 := bt_at a0 0
      clear p6; have qi6 : (0 < (a0.size : Int)) = True := eq_true (of_decide_eq_true (by first | (with_reducible assumption) | assumption))
      replace q6 := eq_true q6; go_wp2; (refine Met.intro ?_; go_step; first | ((repeat apply Exists.intro); refine ⟨?rel, rfl⟩) | ((try simp only [c7b0] at H' ⊢); (try simp only [c5b1] at H' ⊢); (try simp only [c5b0] at H' ⊢); (try simp only [c4b1] at H' ⊢); (try simp only [c4b0] at H' ⊢); (try simp only [c3b1] at H' ⊢); (try simp only [c3b0] at H' ⊢); (repeat apply Exists.intro); refine ⟨?rel, rfl⟩))
      case rel => exact ⟨_, (false), (by first | rfl | (simp; done) | (simp [*]; done)), H', ⟨by first | omega | exact Nat.le_refl _⟩, by repeat (first | exact qa6.refl _ | apply qa6.step)⟩
    ·rw [if_neg c5] at H; exact absurd H (by simp)
 case rest =>
  clear HC2; (try clear p2); (try clear c3); (try clear c3b0); (try clear c3b1); (try clear c4); (try clear c4b0); (try clear c4b1); (try clear c5); (try clear c5b0); (try clear c5b1); (try clear p6); (try clear q6); (try clear hx6); (try clear qi6); (try clear c7); (try clear c7b0); (try clear p8); (try clear q8); (try clear hx8); (try clear qi8); (try clear p6); (try clear p8); (try clear q6); (try clear q8); obtain ⟨kq, x20_1, rfl, HA, HJ1, ⟨mc1, rfl⟩⟩ := hcut
  cases kq with
  | zero => exact absurd HA.out (by simp [qaJ.j0])
  | succ kj1 =>
   have H := HA.out; clear HA; simp only [qaJ.j0] at H
   by_cases c9 : x20_1 = true
   ·subst c9; have H1 : (some false) = some r := by rw [if_pos rfl] at H; exact H
    clear H; have H := H1; clear H1; obtain rfl := Option.some.inj H
    go_wp2; go_ret
    exact ⟨by first | rfl | (simp; done) | (simp [*]; done), by repeat (first | exact qa6.refl _ | apply qa6.step)⟩
   ·replace c9 := Bool.eq_false_iff.mpr c9
    subst c9; have H1 : (qaJ.l0 kj1 a0 (a0.size : Int) 0) = some r := by rw [if_neg (show ¬ (false = true) by decide)] at H; exact H
    clear H; have H := H1; clear H1; have H' := qac.mk H; clear H; go_wp2; go_loopg [23] kj1 (fun kq v23 w' => ∃ (x23_2 : Int), v23 = .int .i64 x23_2 ∧ qac (qaJ.l0 kq a0 (a0.size : Int) x23_2 = some r) ∧ qac (kq ≤ kj1) ∧ qa6 w w')
    case atStart => exact ⟨(0), (by first | rfl | (simp; done) | (simp [*]; done)), H', ⟨Nat.le_refl _⟩, by repeat (first | exact qa6.refl _ | apply qa6.step)⟩
    case round =>
     clear H'; (try clear c1); (try clear p2); (try clear c3); (try clear c3b0); (try clear c3b1); (try clear c4); (try clear c4b0); (try clear c4b1); (try clear c5); (try clear c5b0); (try clear c5b1); (try clear p6); (try clear q6); (try clear hx6); (try clear qi6); (try clear c7); (try clear c7b0); (try clear p8); (try clear q8); (try clear hx8); (try clear qi8); (try clear c9); (try clear p2); (try clear p6); (try clear p8); (try clear q6); (try clear q8); obtain ⟨x23_2, rfl, HA, HK2, ⟨m2, rfl⟩⟩ := hrel
     cases gk with
     | zero => exact absurd HA.out (by simp [qaJ.l0])
     | succ k2 =>
      have H := HA.out; clear HA; simp only [qaJ.l0] at H
      by_cases c10 : x23_2 < (a0.size : Int)
      ·rw [if_pos c10] at H; have c10b0 : decide (x23_2 < (a0.size : Int)) = true := decide_eq_true c10; clear c10; by_cases c11 : 0 ≤ x23_2
       ·rw [if_pos c11] at H; have c11b0 : decide (0 ≤ x23_2) = true := decide_eq_true c11; clear c11; by_cases c12 : x23_2 < (a0.size : Int)
        ·rw [if_pos c12] at H; have c12b0 : decide (x23_2 < (a0.size : Int)) = true := decide_eq_true c12; clear c12; by_cases c14 : (bt a0 x23_2) < 65
         ·rw [if_pos c14] at H; have c14b0 : decide ((bt a0 x23_2) < 65) = true := decide_eq_true c14; clear c14; by_cases c16 : (bt a0 x23_2) < 48
          ·rw [if_pos c16] at H; have c16b0 : decide ((bt a0 x23_2) < 48) = true := decide_eq_true c16; clear c16; obtain rfl := Option.some.inj H
           have p13 : 0 ≤ (x23_2 : Int) := of_decide_eq_true (by first | (with_reducible assumption) | assumption)
           have q13 : x23_2 < (a0.size : Int) := of_decide_eq_true (by first | (with_reducible assumption) | assumption)
           have hx13 := bt_at a0 x23_2
           replace p13 := eq_true p13; replace q13 := eq_true q13; have p15 : 0 ≤ (x23_2 : Int) := of_decide_eq_true (by first | (with_reducible assumption) | assumption)
           have q15 : x23_2 < (a0.size : Int) := of_decide_eq_true (by first | (with_reducible assumption) | assumption)
           have hx15 := bt_at a0 x23_2
           replace p15 := eq_true p15; replace q15 := eq_true q15; go_wp2; go_ret
           exact ⟨by first | rfl | (simp; done) | (simp [*]; done), by repeat (first | exact qa6.refl _ | apply qa6.step)⟩
          ·rw [if_neg c16] at H; have c16b0 : decide ((bt a0 x23_2) < 48) = false := decide_eq_false c16; clear c16; by_cases c18 : (bt a0 x23_2) > 57
           ·rw [if_pos c18] at H; have c18b0 : decide (57 < (bt a0 x23_2)) = true := decide_eq_true c18; clear c18; obtain rfl := Option.some.inj H
            have p13 : 0 ≤ (x23_2 : Int) := of_decide_eq_true (by first | (with_reducible assumption) | assumption)
            have q13 : x23_2 < (a0.size : Int) := of_decide_eq_true (by first | (with_reducible assumption) | assumption)
            have hx13 := bt_at a0 x23_2
            replace p13 := eq_true p13; replace q13 := eq_true q13; have p15 : 0 ≤ (x23_2 : Int) := of_decide_eq_true (by first | (with_reducible assumption) | assumption)
            have q15 : x23_2 < (a0.size : Int) := of_decide_eq_true (by first | (with_reducible assumption) | assumption)
            have hx15 := bt_at a0 x23_2
            replace p15 := eq_true p15; replace q15 := eq_true q15; have p17 : 0 ≤ (x23_2 : Int) := of_decide_eq_true (by first | (with_reducible assumption) | assumption)
            have q17 : x23_2 < (a0.size : Int) := of_decide_eq_true (by first | (with_reducible assumption) | assumption)
            have hx17 := bt_at a0 x23_2
            replace p17 := eq_true p17; replace q17 := eq_true q17; go_wp2; go_ret
            exact ⟨by first | rfl | (simp; done) | (simp [*]; done), by repeat (first | exact qa6.refl _ | apply qa6.step)⟩
           ·rw [if_neg c18] at H; have c18b0 : decide (57 < (bt a0 x23_2)) = false := decide_eq_false c18; clear c18; have H' := qac.mk H; clear H; have p13 : 0 ≤ (x23_2 : Int) := of_decide_eq_true (by first | (with_reducible assumption) | assumption)
            have q13 : x23_2 < (a0.size : Int) := of_decide_eq_true (by first | (with_reducible assumption) | assumption)
            have hx13 := bt_at a0 x23_2
            replace p13 := eq_true p13; replace q13 := eq_true q13; have p15 : 0 ≤ (x23_2 : Int) := of_decide_eq_true (by first | (with_reducible assumption) | assumption)
            have q15 : x23_2 < (a0.size : Int) := of_decide_eq_true (by first | (with_reducible assumption) | assumption)
            have hx15 := bt_at a0 x23_2
            replace p15 := eq_true p15; replace q15 := eq_true q15; have p17 : 0 ≤ (x23_2 : Int) := of_decide_eq_true (by first | (with_reducible assumption) | assumption)
            have q17 : x23_2 < (a0.size : Int) := of_decide_eq_true (by first | (with_reducible assumption) | assumption)
            have hx17 := bt_at a0 x23_2
            replace p17 := eq_true p17; replace q17 := eq_true q17; go_wp2; go_roundg k2
            case measure => have := HJ1.out; have := HK2.out; omega
            case rel => exact ⟨(wrap64 (x23_2 + 1)), (by first | rfl | (simp; done) | (simp [*]; done)), H', ⟨by have := HJ1.out; have := HK2.out; omega⟩, by repeat (first | exact qa6.refl _ | apply qa6.step)⟩
         ·rw [if_neg c14] at H; have c14b0 : decide ((bt a0 x23_2) < 65) = false := decide_eq_false c14; clear c14; by_cases c20 : (bt a0 x23_2) > 90
          ·rw [if_pos c20] at H; have c20b0 : decide (90 < (bt a0 x23_2)) = true := decide_eq_true c20; clear c20; by_cases c22 : (bt a0 x23_2) < 48
           ·rw [if_pos c22] at H; have c22b0 : decide ((bt a0 x23_2) < 48) = true := decide_eq_true c22; clear c22; obtain rfl := Option.some.inj H
            have p13 : 0 ≤ (x23_2 : Int) := of_decide_eq_true (by first | (with_reducible assumption) | assumption)
            have q13 : x23_2 < (a0.size : Int) := of_decide_eq_true (by first | (with_reducible assumption) | assumption)
            have hx13 := bt_at a0 x23_2
            replace p13 := eq_true p13; replace q13 := eq_true q13; have p19 : 0 ≤ (x23_2 : Int) := of_decide_eq_true (by first | (with_reducible assumption) | assumption)
            have q19 : x23_2 < (a0.size : Int) := of_decide_eq_true (by first | (with_reducible assumption) | assumption)
            have hx19 := bt_at a0 x23_2
            replace p19 := eq_true p19; replace q19 := eq_true q19; have p21 : 0 ≤ (x23_2 : Int) := of_decide_eq_true (by first | (with_reducible assumption) | assumption)
            have q21 : x23_2 < (a0.size : Int) := of_decide_eq_true (by first | (with_reducible assumption) | assumption)
            have hx21 := bt_at a0 x23_2
            replace p21 := eq_true p21; replace q21 := eq_true q21; go_wp2; go_ret
            exact ⟨by first | rfl | (simp; done) | (simp [*]; done), by repeat (first | exact qa6.refl _ | apply qa6.step)⟩
           ·rw [if_neg c22] at H; have c22b0 : decide ((bt a0 x23_2) < 48) = false := decide_eq_false c22; clear c22; by_cases c24 : (bt a0 x23_2) > 57
            ·rw [if_pos c24] at H; have c24b0 : decide (57 < (bt a0 x23_2)) = true := decide_eq_true c24; clear c24; obtain rfl := Option.some.inj H
             have p13 : 0 ≤ (x23_2 : Int) := of_decide_eq_true (by first | (with_reducible assumption) | assumption)
             have q13 : x23_2 < (a0.size : Int) := of_decide_eq_true (by first | (with_reducible assumption) | assumption)
             have hx13 := bt_at a0 x23_2
             replace p13 := eq_true p13; replace q13 := eq_true q13; have p19 : 0 ≤ (x23_2 : Int) := of_decide_eq_true (by first | (with_reducible assumption) | assumption)
             have q19 : x23_2 < (a0.size : Int) := of_decide_eq_true (by first | (with_reducible assumption) | assumption)
             have hx19 := bt_at a0 x23_2
             replace p19 := eq_true p19; replace q19 := eq_true q19; have p21 : 0 ≤ (x23_2 : Int) := of_decide_eq_true (by first | (with_reducible assumption) | assumption)
             have q21 : x23_2 < (a0.size : Int) := of_decide_eq_true (by first | (with_reducible assumption) | assumption)
             have hx21 := bt_at a0 x23_2
             replace p21 := eq_true p21; replace q21 := eq_true q21; have p23 : 0 ≤ (x23_2 : Int) := of_decide_eq_true (by first | (with_reducible assumption) | assumption)
             have q23 : x23_2 < (a0.size : Int) := of_decide_eq_true (by first | (with_reducible assumption) | assumption)
             have hx23 := bt_at a0 x23_2
             replace p23 := eq_true p23; replace q23 := eq_true q23; go_wp2; go_ret
             exact ⟨by first | rfl | (simp; done) | (simp [*]; done), by repeat (first | exact qa6.refl _ | apply qa6.step)⟩
            ·rw [if_neg c24] at H; have c24b0 : decide (57 < (bt a0 x23_2)) = false := decide_eq_false c24; clear c24; have H' := qac.mk H; clear H; have p13 : 0 ≤ (x23_2 : Int) := of_decide_eq_true (by first | (with_reducible assumption) | assumption)
             have q13 : x23_2 < (a0.size : Int) := of_decide_eq_true (by first | (with_reducible assumption) | assumption)
             have hx13 := bt_at a0 x23_2
             replace p13 := eq_true p13; replace q13 := eq_true q13; have p19 : 0 ≤ (x23_2 : Int) := of_decide_eq_true (by first | (with_reducible assumption) | assumption)
             have q19 : x23_2 < (a0.size : Int) := of_decide_eq_true (by first | (with_reducible assumption) | assumption)
             have hx19 := bt_at a0 x23_2
             replace p19 := eq_true p19; replace q19 := eq_true q19; have p21 : 0 ≤ (x23_2 : Int) := of_decide_eq_true (by first | (with_reducible assumption) | assumption)
             have q21 : x23_2 < (a0.size : Int) := of_decide_eq_true (by first | (with_reducible assumption) | assumption)
             have hx21 := bt_at a0 x23_2
             replace p21 := eq_true p21; replace q21 := eq_true q21; have p23 : 0 ≤ (x23_2 : Int) := of_decide_eq_true (by first | (with_reducible assumption) | assumption)
             have q23 : x23_2 < (a0.size : Int) := of_decide_eq_true (by first | (with_reducible assumption) | assumption)
             have hx23 := bt_at a0 x23_2
             replace p23 := eq_true p23; replace q23 := eq_true q23; go_wp2; go_roundg k2
             case measure => have := HJ1.out; have := HK2.out; omega
             case rel => exact ⟨(wrap64 (x23_2 + 1)), (by first | rfl | (simp; done) | (simp [*]; done)), H', ⟨by have := HJ1.out; have := HK2.out; omega⟩, by repeat (first | exact qa6.refl _ | apply qa6.step)⟩
          ·rw [if_neg c20] at H; have c20b0 : decide (90 < (bt a0 x23_2)) = false := decide_eq_false c20; clear c20; have H' := qac.mk H; clear H; have p13 : 0 ≤ (x23_2 : Int) := of_decide_eq_true (by first | (with_reducible assumption) | assumption)
           have q13 : x23_2 < (a0.size : Int) := of_decide_eq_true (by first | (with_reducible assumption) | assumption)
           have hx13 := bt_at a0 x23_2
           replace p13 := eq_true p13; replace q13 := eq_true q13; have p19 : 0 ≤ (x23_2 : Int) := of_decide_eq_true (by first | (with_reducible assumption) | assumption)
           have q19 : x23_2 < (a0.size : Int) := of_decide_eq_true (by first | (with_reducible assumption) | assumption)
           have hx19 := bt_at a0 x23_2
           replace p19 := eq_true p19; replace q19 := eq_true q19; go_wp2; go_roundg k2
           case measure => have := HJ1.out; have := HK2.out; omega
           case rel => exact ⟨(wrap64 (x23_2 + 1)), (by first | rfl | (simp; done) | (simp [*]; done)), H', ⟨by have := HJ1.out; have := HK2.out; omega⟩, by repeat (first | exact qa6.refl _ | apply qa6.step)⟩
        ·rw [if_neg c12] at H; exact absurd H (by simp)
       ·rw [if_neg c11] at H; exact absurd H (by simp)
      ·rw [if_neg c10] at H; have c10b0 : decide (x23_2 < (a0.size : Int)) = false := decide_eq_false c10; clear c10; obtain rfl := Option.some.inj H
       go_wp2; go_ret
       exact ⟨by first | rfl | (simp; done) | (simp [*]; done), by repeat (first | exact qa6.refl _ | apply qa6.step)⟩
mutual
def qaE.l0 : Nat → Int → List (S41) → Int → Int → ByteArray → List (S41) → Option (Int)
 | 0, _, _, _, _, _, _ => none
 | k + 1, x3, x15, x16, x17, x106000, x106001 => if x17 < x16 then (if 0 ≤ x17 then (if x17 < (x15.length : Int) then (if ((qaI x15 x17).f0) < 1 then (qaE.j1 k x3 x17 x15 x16 x17 true x106000 x106001 ((qaI x15 x17).f0) ((qaI x15 x17).f1)) else (if ((qaI x15 x17).f0) > 100000 then (qaE.j1 k x3 x17 x15 x16 x17 true x106000 x106001 ((qaI x15 x17).f0) ((qaI x15 x17).f1)) else (if ((qaI x15 x17).f1) < (-1000000) then (qaE.j1 k x3 x17 x15 x16 x17 true x106000 x106001 ((qaI x15 x17).f0) ((qaI x15 x17).f1)) else (qaE.j1 k x3 x17 x15 x16 x17 (decide (((qaI x15 x17).f1) > 1000000)) x106000 x106001 ((qaI x15 x17).f0) ((qaI x15 x17).f1))))) else (none)) else (none)) else (some 0)
def qaE.j1 : Nat → Int → Int → List (S41) → Int → Int → Bool → ByteArray → List (S41) → Int → Int → Option (Int)
 | 0, _, _, _, _, _, _, _, _, _, _ => none
 | k + 1, x3, x4, x15, x16, x17, x22, x106000, x106001, x109000, x109001 => if x22 = true then (some 4) else (if x4 > 0 then (if 0 ≤ (wrap64 (x4 - 1)) then (if (wrap64 (x4 - 1)) < (x106001.length : Int) then (qaE.j2 k x3 x15 x16 x17 (decide (x109001 < ((qaI x106001 (wrap64 (x4 - 1))).f1))) x106000 x106001 x109000 x109001) else (none)) else (none)) else (qaE.j2 k x3 x15 x16 x17 false x106000 x106001 x109000 x109001))
def qaE.j2 : Nat → Int → List (S41) → Int → Int → Bool → ByteArray → List (S41) → Int → Int → Option (Int)
 | 0, _, _, _, _, _, _, _, _, _ => none
 | k + 1, x3, x15, x16, x17, x41, x106000, x106001, x109000, x109001 => if x41 = true then (some 3) else (if (wrap64 (x3 + x109000)) > 100000 then (some 2) else (qaE.l0 k (wrap64 (x3 + x109000)) x15 x16 (wrap64 (x17 + 1)) x106000 x106001))
end
def qaE.f (k : Nat) (a0_0 : ByteArray) (l0_1 : List (S41)) : Option (Int) := (qaJ.f k a0_0).bind fun t106 => (if t106 = true then (if (l0_1.length : Int) > 12 then (some 2) else (qaE.l0 k 0 l0_1 (l0_1.length : Int) 0 a0_0 l0_1)) else (some 6))
theorem qaE.qbe : ∀ k, (∀ y0 y1 y2 y3 y4 y5, LeO (qaE.l0 k y0 y1 y2 y3 y4 y5) (qaE.l0 (k + 1) y0 y1 y2 y3 y4 y5)) ∧ (∀ y0 y1 y2 y3 y4 y5 y6 y7 y8 y9, LeO (qaE.j1 k y0 y1 y2 y3 y4 y5 y6 y7 y8 y9) (qaE.j1 (k + 1) y0 y1 y2 y3 y4 y5 y6 y7 y8 y9)) ∧ (∀ y0 y1 y2 y3 y4 y5 y6 y7 y8, LeO (qaE.j2 k y0 y1 y2 y3 y4 y5 y6 y7 y8) (qaE.j2 (k + 1) y0 y1 y2 y3 y4 y5 y6 y7 y8))
 | 0 => ⟨fun _ _ _ _ _ _ r h => by simp [qaE.l0] at h, fun _ _ _ _ _ _ _ _ _ _ r h => by simp [qaE.j1] at h, fun _ _ _ _ _ _ _ _ _ r h => by simp [qaE.j2] at h⟩
 | k + 1 => by
  obtain ⟨ih0, ih1, ih2⟩ := qaE.qbe k
  refine ⟨?_, ?_, ?_⟩
  ·intro y0 y1 y2 y3 y4 y5; unfold qaE.l0
   repeat' first
   | (with_reducible exact ih0 _ _ _ _ _ _)
   | (with_reducible exact ih1 _ _ _ _ _ _ _ _ _ _)
   | (with_reducible exact ih2 _ _ _ _ _ _ _ _ _)
   | (with_reducible exact qaJ.mono _ _)
   | (with_reducible exact LeO.refl _)
   | (with_reducible exact LeO.none _)
   | (with_reducible refine LeO.ite ?_ ?_)
   | (with_reducible refine LeO.bind ?_ (fun _ => ?_))
   | exact ih0 _ _ _ _ _ _
   | exact ih1 _ _ _ _ _ _ _ _ _ _
   | exact ih2 _ _ _ _ _ _ _ _ _
   | exact qaJ.mono _ _
   | exact LeO.none _
   | refine LeO.ite ?_ ?_
   | refine LeO.bind ?_ (fun _ => ?_)
  ·intro y0 y1 y2 y3 y4 y5 y6 y7 y8 y9; unfold qaE.j1
   repeat' first
   | (with_reducible exact ih0 _ _ _ _ _ _)
   | (with_reducible exact ih1 _ _ _ _ _ _ _ _ _ _)
   | (with_reducible exact ih2 _ _ _ _ _ _ _ _ _)
   | (with_reducible exact qaJ.mono _ _)
   | (with_reducible exact LeO.refl _)
   | (with_reducible exact LeO.none _)
   | (with_reducible refine LeO.ite ?_ ?_)
   | (with_reducible refine LeO.bind ?_ (fun _ => ?_))
   | exact ih0 _ _ _ _ _ _
   | exact ih1 _ _ _ _ _ _ _ _ _ _
   | exact ih2 _ _ _ _ _ _ _ _ _
   | exact qaJ.mono _ _
   | exact LeO.none _
   | refine LeO.ite ?_ ?_
   | refine LeO.bind ?_ (fun _ => ?_)
  ·intro y0 y1 y2 y3 y4 y5 y6 y7 y8; unfold qaE.j2
   repeat' first
   | (with_reducible exact ih0 _ _ _ _ _ _)
   | (with_reducible exact ih1 _ _ _ _ _ _ _ _ _ _)
   | (with_reducible exact ih2 _ _ _ _ _ _ _ _ _)
   | (with_reducible exact qaJ.mono _ _)
   | (with_reducible exact LeO.refl _)
   | (with_reducible exact LeO.none _)
   | (with_reducible refine LeO.ite ?_ ?_)
   | (with_reducible refine LeO.bind ?_ (fun _ => ?_))
   | exact ih0 _ _ _ _ _ _
   | exact ih1 _ _ _ _ _ _ _ _ _ _
   | exact ih2 _ _ _ _ _ _ _ _ _
   | exact qaJ.mono _ _
   | exact LeO.none _
   | refine LeO.ite ?_ ?_
   | refine LeO.bind ?_ (fun _ => ?_)
theorem qaE.mono : ∀ a0 a1 k, LeO (qaE.f k a0 a1) (qaE.f (k + 1) a0 a1) := by
 intro a0 a1 k; obtain ⟨ih0, ih1, ih2⟩ := qaE.qbe k
 unfold qaE.f
 repeat' first
   | (with_reducible exact ih0 _ _ _ _ _ _)
   | (with_reducible exact ih1 _ _ _ _ _ _ _ _ _ _)
   | (with_reducible exact ih2 _ _ _ _ _ _ _ _ _)
   | (with_reducible exact qaJ.mono _ _)
   | (with_reducible exact LeO.refl _)
   | (with_reducible exact LeO.none _)
   | (with_reducible refine LeO.ite ?_ ?_)
   | (with_reducible refine LeO.bind ?_ (fun _ => ?_))
   | exact ih0 _ _ _ _ _ _
   | exact ih1 _ _ _ _ _ _ _ _ _ _
   | exact ih2 _ _ _ _ _ _ _ _ _
   | exact qaJ.mono _ _
   | exact LeO.none _
   | refine LeO.ite ?_ ?_
   | refine LeO.bind ?_ (fun _ => ?_)
set_option maxHeartbeats 8000000 in
set_option maxRecDepth 100000 in
theorem qaE.calls (k : Nat) (a0_0 : ByteArray) (A0_1 : Option Addr) (c0_1 : Nat) (l0_1 : List (S41)) (r : Int) (w : World) (hr0_1 : Kd.C k41 w A0_1 l0_1.length l0_1) (hc0_1 : l0_1.length ≤ c0_1) (h : qaE.f k a0_0 l0_1 = some r) :
  Calls Try.prog 78 #[.agg #[.string a0_0, .slice A0_1 l0_1.length c0_1]] w fun e w' => e = .returned (.int .i64 r) ∧ Below w.heap.size w w' := by
 have hu29 := Try.underlying29; have hu41 := Try.underlying41; have HR0_1 := qac.mk hr0_1
 have HC0_1 := qac.mk hc0_1
 clear hr0_1 hc0_1; have HB := qac.mk (Below.refl w.heap.size w)
 have H : ((qaJ.f k a0_0).bind fun t106 => (if t106 = true then (if (l0_1.length : Int) > 12 then (some 2) else (qaE.l0 k 0 l0_1 (l0_1.length : Int) 0 a0_0 l0_1)) else (some 6))) = some r := h
 clear h; replace H := Option.bind_eq_some_iff.mp H; obtain ⟨t106, A20, H⟩ := H; replace H : (if t106 = true then (if (l0_1.length : Int) > 12 then (some 2) else (qaE.l0 k 0 l0_1 (l0_1.length : Int) 0 a0_0 l0_1)) else (some 6)) = some r := H
 have A2 := qac.mk A20
 clear A20; by_cases c3 : t106 = true
 ·subst c3; have H1 : (if (l0_1.length : Int) > 12 then (some 2) else (qaE.l0 k 0 l0_1 (l0_1.length : Int) 0 a0_0 l0_1)) = some r := by rw [if_pos rfl] at H; exact H
  clear H; have H := H1; clear H1; by_cases c4 : (l0_1.length : Int) > 12
  ·rw [if_pos c4] at H; have c4b0 : decide (12 < (l0_1.length : Int)) = true := decide_eq_true c4; have c4b1 : decide (12 < l0_1.length) = true := decide_eq_true (by omega)
   clear c4; obtain rfl := Option.some.inj H
   go_enter Try.func78, Try.ntmps78; go_wp2_with (first | ((with_reducible refine qaV (N := 1) rfl ?_); refine qaU ?hg (N := 1) ?hd (cs := #[.string a0_0, .slice A0_1 l0_1.length c0_1]) (t := 29) ?hr ?_; (case hd => rfl); (case hg => rfl); (case hr => first | (go_simp; done) | (go_simp; rfl)); intro gb105 hg w5 hbox hb; have n0_ := qac.mk (qaB (by repeat (first | (with_reducible first | exact HB.out | apply qae | apply qab | apply qad) | exact HB.out)) hb); have n1_ := qac.mk (hbox); have n2_ := qac.mk ((by rw [hg]; exact (qav (by repeat (first | (with_reducible first | exact HB.out | apply qae | apply qab | apply qad) | exact HB.out))) : w.heap.size ≤ gb105)); have n3_ := qac.mk ((by rw [hg]; exact (qav (by repeat (first | (with_reducible first | exact HB.out | apply qae | apply qab | apply qad) | exact HB.out))) : w.heap.size ≤ gb105)); clear HB; have HB := n0_; have BK105 := n1_; have GW105 := n2_; have GE105 := n3_; clear n0_ n1_ n2_ n3_; clear hb hbox hg; have hcz6_0 : w5.cell? ⟨gb105, 0, none⟩ = some (.string a0_0) := (qas BK105.out 0).trans rfl; have hcz6_1 : w5.cell? ⟨gb105, 1, none⟩ = some (.slice A0_1 l0_1.length c0_1) := (qas BK105.out 1).trans rfl; have hfz6_0 := qat BK105.out 0; have hfz6_1 := qat BK105.out 1) | (go_at_call 93; (with_reducible refine (qaJ.calls k a0_0 true _ A2.out).mono ?_); rintro e w' ⟨rfl, ⟨nd, rfl⟩⟩; (try first | exact ⟨rfl, _, World.drewN_drewN _ _ _⟩ | exact ⟨rfl, _, Eq.trans (World.drewN_drewN _ _ _) (congrArg (World.drewN _) (Nat.add_assoc _ _ _))⟩)))
   repeat (go_quiet (first | ((with_reducible refine qaV (N := 1) rfl ?_); refine qaU ?hg (N := 1) ?hd (cs := #[.string a0_0, .slice A0_1 l0_1.length c0_1]) (t := 29) ?hr ?_; (case hd => rfl); (case hg => rfl); (case hr => first | (go_simp; done) | (go_simp; rfl)); intro gb105 hg w5 hbox hb; have n0_ := qac.mk (qaB (by repeat (first | (with_reducible first | exact HB.out | apply qae | apply qab | apply qad) | exact HB.out)) hb); have n1_ := qac.mk (hbox); have n2_ := qac.mk ((by rw [hg]; exact (qav (by repeat (first | (with_reducible first | exact HB.out | apply qae | apply qab | apply qad) | exact HB.out))) : w.heap.size ≤ gb105)); have n3_ := qac.mk ((by rw [hg]; exact (qav (by repeat (first | (with_reducible first | exact HB.out | apply qae | apply qab | apply qad) | exact HB.out))) : w.heap.size ≤ gb105)); clear HB; have HB := n0_; have BK105 := n1_; have GW105 := n2_; have GE105 := n3_; clear n0_ n1_ n2_ n3_; clear hb hbox hg; have hcz6_0 : w5.cell? ⟨gb105, 0, none⟩ = some (.string a0_0) := (qas BK105.out 0).trans rfl; have hcz6_1 : w5.cell? ⟨gb105, 1, none⟩ = some (.slice A0_1 l0_1.length c0_1) := (qas BK105.out 1).trans rfl; have hfz6_0 := qat BK105.out 0; have hfz6_1 := qat BK105.out 1) | (go_at_call 93; (with_reducible refine (qaJ.calls k a0_0 true _ A2.out).mono ?_); rintro e w' ⟨rfl, ⟨nd, rfl⟩⟩; (try first | exact ⟨rfl, _, World.drewN_drewN _ _ _⟩ | exact ⟨rfl, _, Eq.trans (World.drewN_drewN _ _ _) (congrArg (World.drewN _) (Nat.add_assoc _ _ _))⟩))); try go_wp2_with (first | ((with_reducible refine qaV (N := 1) rfl ?_); refine qaU ?hg (N := 1) ?hd (cs := #[.string a0_0, .slice A0_1 l0_1.length c0_1]) (t := 29) ?hr ?_; (case hd => rfl); (case hg => rfl); (case hr => first | (go_simp; done) | (go_simp; rfl)); intro gb105 hg w5 hbox hb; have n0_ := qac.mk (qaB (by repeat (first | (with_reducible first | exact HB.out | apply qae | apply qab | apply qad) | exact HB.out)) hb); have n1_ := qac.mk (hbox); have n2_ := qac.mk ((by rw [hg]; exact (qav (by repeat (first | (with_reducible first | exact HB.out | apply qae | apply qab | apply qad) | exact HB.out))) : w.heap.size ≤ gb105)); have n3_ := qac.mk ((by rw [hg]; exact (qav (by repeat (first | (with_reducible first | exact HB.out | apply qae | apply qab | apply qad) | exact HB.out))) : w.heap.size ≤ gb105)); clear HB; have HB := n0_; have BK105 := n1_; have GW105 := n2_; have GE105 := n3_; clear n0_ n1_ n2_ n3_; clear hb hbox hg; have hcz6_0 : w5.cell? ⟨gb105, 0, none⟩ = some (.string a0_0) := (qas BK105.out 0).trans rfl; have hcz6_1 : w5.cell? ⟨gb105, 1, none⟩ = some (.slice A0_1 l0_1.length c0_1) := (qas BK105.out 1).trans rfl; have hfz6_0 := qat BK105.out 0; have hfz6_1 := qat BK105.out 1) | (go_at_call 93; (with_reducible refine (qaJ.calls k a0_0 true _ A2.out).mono ?_); rintro e w' ⟨rfl, ⟨nd, rfl⟩⟩; (try first | exact ⟨rfl, _, World.drewN_drewN _ _ _⟩ | exact ⟨rfl, _, Eq.trans (World.drewN_drewN _ _ _) (congrArg (World.drewN _) (Nat.add_assoc _ _ _))⟩))))
   go_ret
   exact ⟨by first | rfl | (simp [qaz, qay] <;> rfl) | (simp [*, qaz, qay] <;> rfl), by repeat (first | (with_reducible first | exact HB.out | apply qae | apply qab | apply qad | refine qah ?_ GE105.out) | exact HB.out)⟩
  ·rw [if_neg c4] at H; have c4b0 : decide (12 < (l0_1.length : Int)) = false := decide_eq_false c4; have c4b1 : decide (12 < l0_1.length) = false := decide_eq_false (by omega)
   clear c4; have H' := qac.mk H; clear H; go_enter Try.func78, Try.ntmps78; go_wp2_with (first | ((with_reducible refine qaV (N := 1) rfl ?_); refine qaU ?hg (N := 1) ?hd (cs := #[.string a0_0, .slice A0_1 l0_1.length c0_1]) (t := 29) ?hr ?_; (case hd => rfl); (case hg => rfl); (case hr => first | (go_simp; done) | (go_simp; rfl)); intro gb105 hg w7 hbox hb; have n0_ := qac.mk (qaB (by repeat (first | (with_reducible first | exact HB.out | apply qae | apply qab | apply qad) | exact HB.out)) hb); have n1_ := qac.mk (hbox); have n2_ := qac.mk ((by rw [hg]; exact (qav (by repeat (first | (with_reducible first | exact HB.out | apply qae | apply qab | apply qad) | exact HB.out))) : w.heap.size ≤ gb105)); have n3_ := qac.mk ((by rw [hg]; exact (qav (by repeat (first | (with_reducible first | exact HB.out | apply qae | apply qab | apply qad) | exact HB.out))) : w.heap.size ≤ gb105)); clear HB; have HB := n0_; have BK105 := n1_; have GW105 := n2_; have GE105 := n3_; clear n0_ n1_ n2_ n3_; clear hb hbox hg; have hcz8_0 : w7.cell? ⟨gb105, 0, none⟩ = some (.string a0_0) := (qas BK105.out 0).trans rfl; have hcz8_1 : w7.cell? ⟨gb105, 1, none⟩ = some (.slice A0_1 l0_1.length c0_1) := (qas BK105.out 1).trans rfl; have hfz8_0 := qat BK105.out 0; have hfz8_1 := qat BK105.out 1) | (go_at_call 93; (with_reducible refine (qaJ.calls k a0_0 true _ A2.out).mono ?_); rintro e w' ⟨rfl, ⟨nd, rfl⟩⟩; (try first | exact ⟨rfl, _, World.drewN_drewN _ _ _⟩ | exact ⟨rfl, _, Eq.trans (World.drewN_drewN _ _ _) (congrArg (World.drewN _) (Nat.add_assoc _ _ _))⟩)))
   repeat (go_quiet (first | ((with_reducible refine qaV (N := 1) rfl ?_); refine qaU ?hg (N := 1) ?hd (cs := #[.string a0_0, .slice A0_1 l0_1.length c0_1]) (t := 29) ?hr ?_; (case hd => rfl); (case hg => rfl); (case hr => first | (go_simp; done) | (go_simp; rfl)); intro gb105 hg w7 hbox hb; have n0_ := qac.mk (qaB (by repeat (first | (with_reducible first | exact HB.out | apply qae | apply qab | apply qad) | exact HB.out)) hb); have n1_ := qac.mk (hbox); have n2_ := qac.mk ((by rw [hg]; exact (qav (by repeat (first | (with_reducible first | exact HB.out | apply qae | apply qab | apply qad) | exact HB.out))) : w.heap.size ≤ gb105)); have n3_ := qac.mk ((by rw [hg]; exact (qav (by repeat (first | (with_reducible first | exact HB.out | apply qae | apply qab | apply qad) | exact HB.out))) : w.heap.size ≤ gb105)); clear HB; have HB := n0_; have BK105 := n1_; have GW105 := n2_; have GE105 := n3_; clear n0_ n1_ n2_ n3_; clear hb hbox hg; have hcz8_0 : w7.cell? ⟨gb105, 0, none⟩ = some (.string a0_0) := (qas BK105.out 0).trans rfl; have hcz8_1 : w7.cell? ⟨gb105, 1, none⟩ = some (.slice A0_1 l0_1.length c0_1) := (qas BK105.out 1).trans rfl; have hfz8_0 := qat BK105.out 0; have hfz8_1 := qat BK105.out 1) | (go_at_call 93; (with_reducible refine (qaJ.calls k a0_0 true _ A2.out).mono ?_); rintro e w' ⟨rfl, ⟨nd, rfl⟩⟩; (try first | exact ⟨rfl, _, World.drewN_drewN _ _ _⟩ | exact ⟨rfl, _, Eq.trans (World.drewN_drewN _ _ _) (congrArg (World.drewN _) (Nat.add_assoc _ _ _))⟩))); try go_wp2_with (first | ((with_reducible refine qaV (N := 1) rfl ?_); refine qaU ?hg (N := 1) ?hd (cs := #[.string a0_0, .slice A0_1 l0_1.length c0_1]) (t := 29) ?hr ?_; (case hd => rfl); (case hg => rfl); (case hr => first | (go_simp; done) | (go_simp; rfl)); intro gb105 hg w7 hbox hb; have n0_ := qac.mk (qaB (by repeat (first | (with_reducible first | exact HB.out | apply qae | apply qab | apply qad) | exact HB.out)) hb); have n1_ := qac.mk (hbox); have n2_ := qac.mk ((by rw [hg]; exact (qav (by repeat (first | (with_reducible first | exact HB.out | apply qae | apply qab | apply qad) | exact HB.out))) : w.heap.size ≤ gb105)); have n3_ := qac.mk ((by rw [hg]; exact (qav (by repeat (first | (with_reducible first | exact HB.out | apply qae | apply qab | apply qad) | exact HB.out))) : w.heap.size ≤ gb105)); clear HB; have HB := n0_; have BK105 := n1_; have GW105 := n2_; have GE105 := n3_; clear n0_ n1_ n2_ n3_; clear hb hbox hg; have hcz8_0 : w7.cell? ⟨gb105, 0, none⟩ = some (.string a0_0) := (qas BK105.out 0).trans rfl; have hcz8_1 : w7.cell? ⟨gb105, 1, none⟩ = some (.slice A0_1 l0_1.length c0_1) := (qas BK105.out 1).trans rfl; have hfz8_0 := qat BK105.out 0; have hfz8_1 := qat BK105.out 1) | (go_at_call 93; (with_reducible refine (qaJ.calls k a0_0 true _ A2.out).mono ?_); rintro e w' ⟨rfl, ⟨nd, rfl⟩⟩; (try first | exact ⟨rfl, _, World.drewN_drewN _ _ _⟩ | exact ⟨rfl, _, Eq.trans (World.drewN_drewN _ _ _) (congrArg (World.drewN _) (Nat.add_assoc _ _ _))⟩))))
   go_loopg [3, 17] k (fun kq v3 v17 w' => ∃ (x3_1 : Int) (x17_1 : Int), v3 = .int .i64 x3_1 ∧ v17 = .int .i64 x17_1 ∧ qac (qaE.l0 kq x3_1 l0_1 (l0_1.length : Int) x17_1 a0_0 l0_1 = some r) ∧ qac (kq ≤ k) ∧ qac (w'.heap[gb105]? = some (.cells #[.string a0_0, (.slice A0_1 l0_1.length c0_1)] 29 (0, 0))) ∧ qac (Below w.heap.size w w'))
   case atStart => exact ⟨(0), (0), (by first | rfl | (simp; done) | (simp [*]; done)), (by first | rfl | (simp; done) | (simp [*]; done)), H', ⟨Nat.le_refl _⟩, ⟨by (with_reducible repeat (first | refine qan ?_ _ | refine qap ?_ | refine qao ?_ _)); exact BK105.out⟩, ⟨by repeat (first | (with_reducible first | exact HB.out | apply qae | apply qab | apply qad | refine qah ?_ GE105.out) | exact HB.out)⟩⟩
   case round =>
    clear H'; (try clear p2); (try clear c3); (try clear c4); (try clear c4b0); (try clear c4b1); (try clear c7); (try clear hcz6_0); (try clear hcz6_1); (try clear hcz8_0); (try clear hcz8_1); (try clear hfz6_0); (try clear hfz6_1); (try clear hfz8_0); (try clear hfz8_1); obtain ⟨x3_1, x17_1, rfl, rfl, HA, HK1, BK105, HB⟩ := hrel
    cases gk with
    | zero => exact absurd HA.out (by simp [qaE.l0])
    | succ k1 =>
     have H := HA.out; clear HA; simp only [qaE.l0] at H
     by_cases c9 : x17_1 < (l0_1.length : Int)
     ·rw [if_pos c9] at H; have c9b0 : decide (x17_1 < (l0_1.length : Int)) = true := decide_eq_true c9; clear c9; by_cases c10 : 0 ≤ x17_1
      ·rw [if_pos c10] at H; have c10b0 : decide (0 ≤ x17_1) = true := decide_eq_true c10; clear c10; by_cases c11 : x17_1 < (l0_1.length : Int)
       ·rw [if_pos c11] at H; have c11b0 : decide (x17_1 < (l0_1.length : Int)) = true := decide_eq_true c11; clear c11; have HC12 := qac.mk H; clear H; have p107 : 0 ≤ (x17_1 : Int) := of_decide_eq_true (by first | (with_reducible assumption) | assumption)
        have q107 : x17_1 < (l0_1.length : Int) := of_decide_eq_true (by first | (with_reducible assumption) | assumption)
        obtain ⟨ad107, e107, hx107_0, hx107_1⟩ := at_T41 HR0_1.out x17_1 p107 q107
        cases e107
        replace hx107_0 := (HB.out.cell (World.block_lt_of_cell? w _ hx107_0)).trans hx107_0
        replace hx107_1 := (HB.out.cell (World.block_lt_of_cell? w _ hx107_1)).trans hx107_1
        replace p107 := eq_true p107; replace q107 := eq_true q107; go_upto_region 9 with (first | ((with_reducible refine qaV (N := 5) rfl ?_); refine qaU ?hg (N := 5) ?hd (cs := #[.int .i64 0, .int .i64 0]) (t := 41) ?hr ?_; (case hd => rfl); (case hg => rfl); (case hr => first | (go_simp; done) | (go_simp; rfl)); intro gb108 hg w13 hbox hb; have n0_ := qac.mk (qaS (g := gb105) (o := .cells #[.string a0_0, .slice (some ad107) l0_1.length c0_1] 29 (0, 0)) (by (with_reducible repeat (first | refine qan ?_ _ | refine qap ?_ | refine qao ?_ _)); exact BK105.out) hb); have n1_ := qac.mk (qaB (by repeat (first | (with_reducible first | exact HB.out | apply qae | apply qab | apply qad | refine qah ?_ GE105.out) | exact HB.out)) hb); have n2_ := qac.mk (hbox); have n3_ := qac.mk ((by rw [hg]; exact (qav (by repeat (first | (with_reducible first | exact HB.out | apply qae | apply qab | apply qad | refine qah ?_ GE105.out) | exact HB.out))) : w.heap.size ≤ gb108)); have n4_ := qac.mk ((by rw [hg]; exact (qav (by repeat (first | (with_reducible first | exact HB.out | apply qae | apply qab | apply qad | refine qah ?_ GE105.out) | exact HB.out))) : w.heap.size ≤ gb108)); have n5_ := qac.mk ((by rw [hg]; exact Nat.ne_of_lt (qbC (g := gb105) (o := .cells #[.string a0_0, .slice (some ad107) l0_1.length c0_1] 29 (0, 0)) (by (with_reducible repeat (first | refine qan ?_ _ | refine qap ?_ | refine qao ?_ _)); exact BK105.out)) : gb105 ≠ gb108)); have n6_ := qac.mk ((by rw [hg]; exact Nat.ne_of_gt (qbC (g := gb105) (o := .cells #[.string a0_0, .slice (some ad107) l0_1.length c0_1] 29 (0, 0)) (by (with_reducible repeat (first | refine qan ?_ _ | refine qap ?_ | refine qao ?_ _)); exact BK105.out)) : gb108 ≠ gb105)); clear BK105; clear HB; have BK105 := n0_; have HB := n1_; have BK108 := n2_; have GW108 := n3_; have GE108 := n4_; have NB105_108 := n5_; have NB108_105 := n6_; clear n0_ n1_ n2_ n3_ n4_ n5_ n6_; clear hb hbox hg; have hnb14 := NB108_105.out; have hnc14 := NB105_108.out; have hcz15_0 : w13.cell? ⟨gb108, 0, none⟩ = some (.int .i64 0) := (qas BK108.out 0).trans rfl; have hcz15_1 : w13.cell? ⟨gb108, 1, none⟩ = some (.int .i64 0) := (qas BK108.out 1).trans rfl; have hfz15_0 := qat BK108.out 0; have hfz15_1 := qat BK108.out 1))
        repeat (go_quiet (first | ((with_reducible refine qaV (N := 5) rfl ?_); refine qaU ?hg (N := 5) ?hd (cs := #[.int .i64 0, .int .i64 0]) (t := 41) ?hr ?_; (case hd => rfl); (case hg => rfl); (case hr => first | (go_simp; done) | (go_simp; rfl)); intro gb108 hg w13 hbox hb; have n0_ := qac.mk (qaS (g := gb105) (o := .cells #[.string a0_0, .slice (some ad107) l0_1.length c0_1] 29 (0, 0)) (by (with_reducible repeat (first | refine qan ?_ _ | refine qap ?_ | refine qao ?_ _)); exact BK105.out) hb); have n1_ := qac.mk (qaB (by repeat (first | (with_reducible first | exact HB.out | apply qae | apply qab | apply qad | refine qah ?_ GE105.out) | exact HB.out)) hb); have n2_ := qac.mk (hbox); have n3_ := qac.mk ((by rw [hg]; exact (qav (by repeat (first | (with_reducible first | exact HB.out | apply qae | apply qab | apply qad | refine qah ?_ GE105.out) | exact HB.out))) : w.heap.size ≤ gb108)); have n4_ := qac.mk ((by rw [hg]; exact (qav (by repeat (first | (with_reducible first | exact HB.out | apply qae | apply qab | apply qad | refine qah ?_ GE105.out) | exact HB.out))) : w.heap.size ≤ gb108)); have n5_ := qac.mk ((by rw [hg]; exact Nat.ne_of_lt (qbC (g := gb105) (o := .cells #[.string a0_0, .slice (some ad107) l0_1.length c0_1] 29 (0, 0)) (by (with_reducible repeat (first | refine qan ?_ _ | refine qap ?_ | refine qao ?_ _)); exact BK105.out)) : gb105 ≠ gb108)); have n6_ := qac.mk ((by rw [hg]; exact Nat.ne_of_gt (qbC (g := gb105) (o := .cells #[.string a0_0, .slice (some ad107) l0_1.length c0_1] 29 (0, 0)) (by (with_reducible repeat (first | refine qan ?_ _ | refine qap ?_ | refine qao ?_ _)); exact BK105.out)) : gb108 ≠ gb105)); clear BK105; clear HB; have BK105 := n0_; have HB := n1_; have BK108 := n2_; have GW108 := n3_; have GE108 := n4_; have NB105_108 := n5_; have NB108_105 := n6_; clear n0_ n1_ n2_ n3_ n4_ n5_ n6_; clear hb hbox hg; have hnb14 := NB108_105.out; have hnc14 := NB105_108.out; have hcz15_0 : w13.cell? ⟨gb108, 0, none⟩ = some (.int .i64 0) := (qas BK108.out 0).trans rfl; have hcz15_1 : w13.cell? ⟨gb108, 1, none⟩ = some (.int .i64 0) := (qas BK108.out 1).trans rfl; have hfz15_0 := qat BK108.out 0; have hfz15_1 := qat BK108.out 1)); go_upto_region 9 with (first | ((with_reducible refine qaV (N := 5) rfl ?_); refine qaU ?hg (N := 5) ?hd (cs := #[.int .i64 0, .int .i64 0]) (t := 41) ?hr ?_; (case hd => rfl); (case hg => rfl); (case hr => first | (go_simp; done) | (go_simp; rfl)); intro gb108 hg w13 hbox hb; have n0_ := qac.mk (qaS (g := gb105) (o := .cells #[.string a0_0, .slice (some ad107) l0_1.length c0_1] 29 (0, 0)) (by (with_reducible repeat (first | refine qan ?_ _ | refine qap ?_ | refine qao ?_ _)); exact BK105.out) hb); have n1_ := qac.mk (qaB (by repeat (first | (with_reducible first | exact HB.out | apply qae | apply qab | apply qad | refine qah ?_ GE105.out) | exact HB.out)) hb); have n2_ := qac.mk (hbox); have n3_ := qac.mk ((by rw [hg]; exact (qav (by repeat (first | (with_reducible first | exact HB.out | apply qae | apply qab | apply qad | refine qah ?_ GE105.out) | exact HB.out))) : w.heap.size ≤ gb108)); have n4_ := qac.mk ((by rw [hg]; exact (qav (by repeat (first | (with_reducible first | exact HB.out | apply qae | apply qab | apply qad | refine qah ?_ GE105.out) | exact HB.out))) : w.heap.size ≤ gb108)); have n5_ := qac.mk ((by rw [hg]; exact Nat.ne_of_lt (qbC (g := gb105) (o := .cells #[.string a0_0, .slice (some ad107) l0_1.length c0_1] 29 (0, 0)) (by (with_reducible repeat (first | refine qan ?_ _ | refine qap ?_ | refine qao ?_ _)); exact BK105.out)) : gb105 ≠ gb108)); have n6_ := qac.mk ((by rw [hg]; exact Nat.ne_of_gt (qbC (g := gb105) (o := .cells #[.string a0_0, .slice (some ad107) l0_1.length c0_1] 29 (0, 0)) (by (with_reducible repeat (first | refine qan ?_ _ | refine qap ?_ | refine qao ?_ _)); exact BK105.out)) : gb108 ≠ gb105)); clear BK105; clear HB; have BK105 := n0_; have HB := n1_; have BK108 := n2_; have GW108 := n3_; have GE108 := n4_; have NB105_108 := n5_; have NB108_105 := n6_; clear n0_ n1_ n2_ n3_ n4_ n5_ n6_; clear hb hbox hg; have hnb14 := NB108_105.out; have hnc14 := NB105_108.out; have hcz15_0 : w13.cell? ⟨gb108, 0, none⟩ = some (.int .i64 0) := (qas BK108.out 0).trans rfl; have hcz15_1 : w13.cell? ⟨gb108, 1, none⟩ = some (.int .i64 0) := (qas BK108.out 1).trans rfl; have hfz15_0 := qat BK108.out 0; have hfz15_1 := qat BK108.out 1)))
        (try simp only [Act.put, List.setIfInBounds_toArray, List.set_cons_zero, List.set_cons_succ])
        go_cut [22] (fun v22 wc => ∃ (kq : Nat) (x22_11 : Bool), v22 = .bool x22_11 ∧ qac (qaE.j1 kq x3_1 x17_1 l0_1 (l0_1.length : Int) x17_1 x22_11 a0_0 l0_1 ((qaI l0_1 x17_1).f0) ((qaI l0_1 x17_1).f1) = some r) ∧ qac (kq ≤ k1) ∧ qac (wc.heap[gb105]? = some (.cells #[.string a0_0, (.slice (some ad107) l0_1.length c0_1)] 29 (0, 0))) ∧ qac (wc.heap[gb108]? = some (.cells #[.int .i64 ((qaI l0_1 x17_1).f0), .int .i64 ((qaI l0_1 x17_1).f1)] 41 (0, 0))) ∧ qac (Below w.heap.size w wc))
        case first =>
         have H := HC12.out; clear HC12; by_cases c16 : ((qaI l0_1 x17_1).f0) < 1
         ·rw [if_pos c16] at H; have c16b0 : decide (((qaI l0_1 x17_1).f0) < 1) = true := decide_eq_true c16; clear c16; (first | rw [c16b0] | (simp only [i64_w, i32_w]; rw [c16b0]) | skip)
          have H' := qac.mk H; clear H; have hnb17 := NB108_105.out; have hnc17 := NB105_108.out; have hcz18_0 : w13.cell? ⟨gb108, 0, none⟩ = some (.int .i64 0) := (qas BK108.out 0).trans rfl
          have hcz18_1 : w13.cell? ⟨gb108, 1, none⟩ = some (.int .i64 0) := (qas BK108.out 1).trans rfl
          have hfz18_0 := qat BK108.out 0
          have hfz18_1 := qat BK108.out 1
          go_wp2; repeat (go_quiet (fail); try go_wp2)
          (refine Met.intro ?_; go_step; first | ((repeat apply Exists.intro); refine ⟨?rel, rfl⟩) | ((try simp only [c16b0] at H' ⊢); (try simp only [c11b0] at H' ⊢); (try simp only [c10b0] at H' ⊢); (try simp only [c9b0] at H' ⊢); (try simp only [c4b1] at H' ⊢); (try simp only [c4b0] at H' ⊢); (repeat apply Exists.intro); refine ⟨?rel, rfl⟩))
          case rel => exact ⟨_, (true), (by first | rfl | (simp; done) | (simp [*]; done)), H', ⟨by have := HK1.out; first | omega | exact Nat.le_refl _⟩, ⟨by (with_reducible repeat (first | refine qan ?_ _ | refine qap ?_ | refine qao ?_ _)); refine qbA ?_ NB105_108.out _; (with_reducible repeat (first | refine qan ?_ _ | refine qap ?_ | refine qao ?_ _)); refine qbA ?_ NB105_108.out _; (with_reducible repeat (first | refine qan ?_ _ | refine qap ?_ | refine qao ?_ _)); exact BK105.out⟩, ⟨by (with_reducible repeat (first | refine qan ?_ _ | refine qap ?_ | refine qao ?_ _)); refine qa1 (cs := #[.int .i64 ((qaI l0_1 x17_1).f0), .int .i64 0]) ?_ 1 _ rfl; (with_reducible repeat (first | refine qan ?_ _ | refine qap ?_ | refine qao ?_ _)); refine qa1 (cs := #[.int .i64 0, .int .i64 0]) ?_ 0 _ rfl; (with_reducible repeat (first | refine qan ?_ _ | refine qap ?_ | refine qao ?_ _)); exact BK108.out⟩, ⟨by repeat (first | (with_reducible first | exact HB.out | apply qae | apply qab | apply qad | refine qah ?_ GE105.out | refine qah ?_ GE108.out) | exact HB.out)⟩⟩
         ·rw [if_neg c16] at H; have c16b0 : decide (((qaI l0_1 x17_1).f0) < 1) = false := decide_eq_false c16; clear c16; (first | rw [c16b0] | (simp only [i64_w, i32_w]; rw [c16b0]) | skip)
          by_cases c19 : ((qaI l0_1 x17_1).f0) > 100000
          ·rw [if_pos c19] at H; have c19b0 : decide (100000 < ((qaI l0_1 x17_1).f0)) = true := decide_eq_true c19; clear c19; have H' := qac.mk H; clear H; have hnb20 := NB108_105.out; have hnc20 := NB105_108.out; have hcz21_0 : w13.cell? ⟨gb108, 0, none⟩ = some (.int .i64 0) := (qas BK108.out 0).trans rfl
           have hcz21_1 : w13.cell? ⟨gb108, 1, none⟩ = some (.int .i64 0) := (qas BK108.out 1).trans rfl
           have hfz21_0 := qat BK108.out 0
           have hfz21_1 := qat BK108.out 1
           go_wp2; repeat (go_quiet (fail); try go_wp2)
           (refine Met.intro ?_; go_step; first | ((repeat apply Exists.intro); refine ⟨?rel, rfl⟩) | ((try simp only [c19b0] at H' ⊢); (try simp only [c16b0] at H' ⊢); (try simp only [c11b0] at H' ⊢); (try simp only [c10b0] at H' ⊢); (try simp only [c9b0] at H' ⊢); (try simp only [c4b1] at H' ⊢); (try simp only [c4b0] at H' ⊢); (repeat apply Exists.intro); refine ⟨?rel, rfl⟩))
           case rel => exact ⟨_, (true), (by first | rfl | (simp; done) | (simp [*]; done)), H', ⟨by have := HK1.out; first | omega | exact Nat.le_refl _⟩, ⟨by (with_reducible repeat (first | refine qan ?_ _ | refine qap ?_ | refine qao ?_ _)); refine qbA ?_ NB105_108.out _; (with_reducible repeat (first | refine qan ?_ _ | refine qap ?_ | refine qao ?_ _)); refine qbA ?_ NB105_108.out _; (with_reducible repeat (first | refine qan ?_ _ | refine qap ?_ | refine qao ?_ _)); exact BK105.out⟩, ⟨by (with_reducible repeat (first | refine qan ?_ _ | refine qap ?_ | refine qao ?_ _)); refine qa1 (cs := #[.int .i64 ((qaI l0_1 x17_1).f0), .int .i64 0]) ?_ 1 _ rfl; (with_reducible repeat (first | refine qan ?_ _ | refine qap ?_ | refine qao ?_ _)); refine qa1 (cs := #[.int .i64 0, .int .i64 0]) ?_ 0 _ rfl; (with_reducible repeat (first | refine qan ?_ _ | refine qap ?_ | refine qao ?_ _)); exact BK108.out⟩, ⟨by repeat (first | (with_reducible first | exact HB.out | apply qae | apply qab | apply qad | refine qah ?_ GE105.out | refine qah ?_ GE108.out) | exact HB.out)⟩⟩
          ·rw [if_neg c19] at H; have c19b0 : decide (100000 < ((qaI l0_1 x17_1).f0)) = false := decide_eq_false c19; clear c19; by_cases c22 : ((qaI l0_1 x17_1).f1) < (-1000000)
           ·rw [if_pos c22] at H; have c22b0 : decide (((qaI l0_1 x17_1).f1) < (-1000000)) = true := decide_eq_true c22; clear c22; have H' := qac.mk H; clear H; have hnb23 := NB108_105.out; have hnc23 := NB105_108.out; have hcz24_0 : w13.cell? ⟨gb108, 0, none⟩ = some (.int .i64 0) := (qas BK108.out 0).trans rfl
            have hcz24_1 : w13.cell? ⟨gb108, 1, none⟩ = some (.int .i64 0) := (qas BK108.out 1).trans rfl
            have hfz24_0 := qat BK108.out 0
            have hfz24_1 := qat BK108.out 1
            go_wp2; repeat (go_quiet (fail); try go_wp2)
            (refine Met.intro ?_; go_step; first | ((repeat apply Exists.intro); refine ⟨?rel, rfl⟩) | ((try simp only [c22b0] at H' ⊢); (try simp only [c19b0] at H' ⊢); (try simp only [c16b0] at H' ⊢); (try simp only [c11b0] at H' ⊢); (try simp only [c10b0] at H' ⊢); (try simp only [c9b0] at H' ⊢); (try simp only [c4b1] at H' ⊢); (try simp only [c4b0] at H' ⊢); (repeat apply Exists.intro); refine ⟨?rel, rfl⟩))
            case rel => exact ⟨_, (true), (by first | rfl | (simp; done) | (simp [*]; done)), H', ⟨by have := HK1.out; first | omega | exact Nat.le_refl _⟩, ⟨by (with_reducible repeat (first | refine qan ?_ _ | refine qap ?_ | refine qao ?_ _)); refine qbA ?_ NB105_108.out _; (with_reducible repeat (first | refine qan ?_ _ | refine qap ?_ | refine qao ?_ _)); refine qbA ?_ NB105_108.out _; (with_reducible repeat (first | refine qan ?_ _ | refine qap ?_ | refine qao ?_ _)); exact BK105.out⟩, ⟨by (with_reducible repeat (first | refine qan ?_ _ | refine qap ?_ | refine qao ?_ _)); refine qa1 (cs := #[.int .i64 ((qaI l0_1 x17_1).f0), .int .i64 0]) ?_ 1 _ rfl; (with_reducible repeat (first | refine qan ?_ _ | refine qap ?_ | refine qao ?_ _)); refine qa1 (cs := #[.int .i64 0, .int .i64 0]) ?_ 0 _ rfl; (with_reducible repeat (first | refine qan ?_ _ | refine qap ?_ | refine qao ?_ _)); exact BK108.out⟩, ⟨by repeat (first | (with_reducible first | exact HB.out | apply qae | apply qab | apply qad | refine qah ?_ GE105.out | refine qah ?_ GE108.out) | exact HB.out)⟩⟩
           ·rw [if_neg c22] at H; have c22b0 : decide (((qaI l0_1 x17_1).f1) < (-1000000)) = false := decide_eq_false c22; clear c22; have H' := qac.mk H; clear H; have hnb25 := NB108_105.out; have hnc25 := NB105_108.out; have hcz26_0 : w13.cell? ⟨gb108, 0, none⟩ = some (.int .i64 0) := (qas BK108.out 0).trans rfl
            have hcz26_1 : w13.cell? ⟨gb108, 1, none⟩ = some (.int .i64 0) := (qas BK108.out 1).trans rfl
            have hfz26_0 := qat BK108.out 0
            have hfz26_1 := qat BK108.out 1
            go_wp2; repeat (go_quiet (fail); try go_wp2)
            (refine Met.intro ?_; go_step; first | ((repeat apply Exists.intro); refine ⟨?rel, rfl⟩) | ((try simp only [c22b0] at H' ⊢); (try simp only [c19b0] at H' ⊢); (try simp only [c16b0] at H' ⊢); (try simp only [c11b0] at H' ⊢); (try simp only [c10b0] at H' ⊢); (try simp only [c9b0] at H' ⊢); (try simp only [c4b1] at H' ⊢); (try simp only [c4b0] at H' ⊢); (repeat apply Exists.intro); refine ⟨?rel, rfl⟩))
            case rel => exact ⟨_, (decide (((qaI l0_1 x17_1).f1) > 1000000)), (by first | rfl | (simp; done) | (simp [*]; done)), H', ⟨by have := HK1.out; first | omega | exact Nat.le_refl _⟩, ⟨by (with_reducible repeat (first | refine qan ?_ _ | refine qap ?_ | refine qao ?_ _)); refine qbA ?_ NB105_108.out _; (with_reducible repeat (first | refine qan ?_ _ | refine qap ?_ | refine qao ?_ _)); refine qbA ?_ NB105_108.out _; (with_reducible repeat (first | refine qan ?_ _ | refine qap ?_ | refine qao ?_ _)); exact BK105.out⟩, ⟨by (with_reducible repeat (first | refine qan ?_ _ | refine qap ?_ | refine qao ?_ _)); refine qa1 (cs := #[.int .i64 ((qaI l0_1 x17_1).f0), .int .i64 0]) ?_ 1 _ rfl; (with_reducible repeat (first | refine qan ?_ _ | refine qap ?_ | refine qao ?_ _)); refine qa1 (cs := #[.int .i64 0, .int .i64 0]) ?_ 0 _ rfl; (with_reducible repeat (first | refine qan ?_ _ | refine qap ?_ | refine qao ?_ _)); exact BK108.out⟩, ⟨by repeat (first | (with_reducible first | exact HB.out | apply qae | apply qab | apply qad | refine qah ?_ GE105.out | refine qah ?_ GE108.out) | exact HB.out)⟩⟩
        case rest =>
         clear HC12; (try clear c1); (try clear p1); (try clear q1); (try clear hx1); (try clear c2); (try clear p2); (try clear c3); (try clear c4); (try clear c4b0); (try clear c4b1); (try clear c7); (try clear c9); (try clear c9b0); (try clear c10); (try clear c10b0); (try clear p10); (try clear q10); (try clear hx10); (try clear c11); (try clear c11b0); (try clear c14); (try clear c16); (try clear c16b0); (try clear c17); (try clear c19); (try clear c19b0); (try clear c20); (try clear c22); (try clear c22b0); (try clear c23); (try clear c25); (try clear hcz15_0); (try clear hcz15_1); (try clear hcz18_0); (try clear hcz18_1); (try clear hcz21_0); (try clear hcz21_1); (try clear hcz24_0); (try clear hcz24_1); (try clear hcz26_0); (try clear hcz26_1); (try clear hcz6_0); (try clear hcz6_1); (try clear hcz8_0); (try clear hcz8_1); (try clear hfz15_0); (try clear hfz15_1); (try clear hfz18_0); (try clear hfz18_1); (try clear hfz21_0); (try clear hfz21_1); (try clear hfz24_0); (try clear hfz24_1); (try clear hfz26_0); (try clear hfz26_1); (try clear hfz6_0); (try clear hfz6_1); (try clear hfz8_0); (try clear hfz8_1); (try clear hx107_0); (try clear hx107_1); (try clear p107); (try clear p2); (try clear q107); obtain ⟨kq, x22_11, rfl, HA, HJ11, BK105, BK108, HB⟩ := hcut
         cases kq with
         | zero => exact absurd HA.out (by simp [qaE.j1])
         | succ kj11 =>
          have H := HA.out; clear HA; simp only [qaE.j1] at H
          by_cases c27 : x22_11 = true
          ·subst c27; have H1 : (some 4) = some r := by rw [if_pos rfl] at H; exact H
           clear H; have H := H1; clear H1; obtain rfl := Option.some.inj H
           go_wp2; repeat (go_quiet (fail); try go_wp2)
           go_ret
           exact ⟨by first | rfl | (simp [qaz, qay] <;> rfl) | (simp [*, qaz, qay] <;> rfl), by repeat (first | (with_reducible first | exact HB.out | apply qae | apply qab | apply qad | refine qah ?_ GE105.out | refine qah ?_ GE108.out) | exact HB.out)⟩
          ·replace c27 := Bool.eq_false_iff.mpr c27
           subst c27; have H1 : (if x17_1 > 0 then (if 0 ≤ (wrap64 (x17_1 - 1)) then (if (wrap64 (x17_1 - 1)) < (l0_1.length : Int) then (qaE.j2 kj11 x3_1 l0_1 (l0_1.length : Int) x17_1 (decide (((qaI l0_1 x17_1).f1) < ((qaI l0_1 (wrap64 (x17_1 - 1))).f1))) a0_0 l0_1 ((qaI l0_1 x17_1).f0) ((qaI l0_1 x17_1).f1)) else (none)) else (none)) else (qaE.j2 kj11 x3_1 l0_1 (l0_1.length : Int) x17_1 false a0_0 l0_1 ((qaI l0_1 x17_1).f0) ((qaI l0_1 x17_1).f1))) = some r := by rw [if_neg (show ¬ (false = true) by decide)] at H; exact H
           clear H; have H := H1; clear H1; have HC28 := qac.mk H; clear H; go_upto_region 11 with (fail)
           repeat (go_quiet (fail); go_upto_region 11 with (fail))
           go_cut [41] (fun v41 wc => ∃ (kq : Nat) (x41_27 : Bool), v41 = .bool x41_27 ∧ qac (qaE.j2 kq x3_1 l0_1 (l0_1.length : Int) x17_1 x41_27 a0_0 l0_1 ((qaI l0_1 x17_1).f0) ((qaI l0_1 x17_1).f1) = some r) ∧ qac (kq ≤ kj11) ∧ qac (wc.heap[gb105]? = some (.cells #[.string a0_0, (.slice (some ad107) l0_1.length c0_1)] 29 (0, 0))) ∧ qac (wc.heap[gb108]? = some (.cells #[.int .i64 ((qaI l0_1 x17_1).f0), .int .i64 ((qaI l0_1 x17_1).f1)] 41 (0, 0))) ∧ qac (Below w.heap.size w wc))
           case first =>
            have H := HC28.out; clear HC28; by_cases c29 : x17_1 > 0
            ·rw [if_pos c29] at H; have c29b0 : decide (0 < x17_1) = true := decide_eq_true c29; clear c29; (first | rw [c29b0] | (simp only [i64_w, i32_w]; rw [c29b0]) | skip)
             obtain ⟨ji30, hji30⟩ : ∃ j_ : Int, (wrap64 (x17_1 - 1)) = j_ := ⟨_, rfl⟩
             first | rw [hji30] at H | simp only [hji30] at H
             have hji30w : (IntKind.i64.wrap (x17_1 - 1)) = ji30 := (i64_w _).trans hji30
             by_cases c31 : 0 ≤ (ji30)
             ·rw [if_pos c31] at H; have c31b0 : decide (0 ≤ (ji30)) = true := decide_eq_true c31; clear c31; by_cases c32 : (ji30) < (l0_1.length : Int)
              ·rw [if_pos c32] at H; have c32b0 : decide ((ji30) < (l0_1.length : Int)) = true := decide_eq_true c32; clear c32; have H' := qac.mk H; clear H; have hnb33 := NB108_105.out; have hnc33 := NB105_108.out; have hcz34_0 : wc.cell? ⟨gb108, 0, none⟩ = some (.int .i64 ((qaI l0_1 x17_1).f0)) := (qas BK108.out 0).trans rfl
               have hcz34_1 : wc.cell? ⟨gb108, 1, none⟩ = some (.int .i64 ((qaI l0_1 x17_1).f1)) := (qas BK108.out 1).trans rfl
               have hfz34_0 := qat BK108.out 0
               have hfz34_1 := qat BK108.out 1
               have hcz35_0 : wc.cell? ⟨gb105, 0, none⟩ = some (.string a0_0) := (qas BK105.out 0).trans rfl
               have hcz35_1 : wc.cell? ⟨gb105, 1, none⟩ = some (.slice (some ad107) l0_1.length c0_1) := (qas BK105.out 1).trans rfl
               have hfz35_0 := qat BK105.out 0
               have hfz35_1 := qat BK105.out 1
               have p109 : 0 ≤ ((ji30) : Int) := of_decide_eq_true (by first | (with_reducible assumption) | assumption)
               have q109 : (ji30) < (l0_1.length : Int) := of_decide_eq_true (by first | (with_reducible assumption) | assumption)
               obtain ⟨ad109, e109, hx109_0, hx109_1⟩ := at_T41 HR0_1.out (ji30) p109 q109
               obtain rfl : ad107 = ad109 := (by injection e109)
               replace hx109_0 := (HB.out.cell (World.block_lt_of_cell? w _ hx109_0)).trans hx109_0
               replace hx109_1 := (HB.out.cell (World.block_lt_of_cell? w _ hx109_1)).trans hx109_1
               replace p109 := eq_true p109; replace q109 := eq_true q109; go_wp2; repeat (go_quiet (fail); try go_wp2)
               (refine Met.intro ?_; go_step; first | ((repeat apply Exists.intro); refine ⟨?rel, rfl⟩) | ((try simp only [c32b0] at H' ⊢); (try simp only [c31b0] at H' ⊢); (try simp only [c29b0] at H' ⊢); (try simp only [c11b0] at H' ⊢); (try simp only [c10b0] at H' ⊢); (try simp only [c9b0] at H' ⊢); (try simp only [c4b1] at H' ⊢); (try simp only [c4b0] at H' ⊢); (repeat apply Exists.intro); refine ⟨?rel, rfl⟩))
               case rel => exact ⟨_, (decide (((qaI l0_1 x17_1).f1) < ((qaI l0_1 (ji30)).f1))), (by first | rfl | (simp; done) | (simp only [← hji30] <;> (first | rfl | simp)) | (simp [*]; done)), H', ⟨by have := HK1.out; have := HJ11.out; first | omega | exact Nat.le_refl _⟩, ⟨by (with_reducible repeat (first | refine qan ?_ _ | refine qap ?_ | refine qao ?_ _)); exact BK105.out⟩, ⟨by (with_reducible repeat (first | refine qan ?_ _ | refine qap ?_ | refine qao ?_ _)); exact BK108.out⟩, ⟨by repeat (first | (with_reducible first | exact HB.out | apply qae | apply qab | apply qad | refine qah ?_ GE105.out | refine qah ?_ GE108.out) | exact HB.out)⟩⟩
              ·rw [if_neg c32] at H; exact absurd H (by simp)
             ·rw [if_neg c31] at H; exact absurd H (by simp)
            ·rw [if_neg c29] at H; have c29b0 : decide (0 < x17_1) = false := decide_eq_false c29; clear c29; (first | rw [c29b0] | (simp only [i64_w, i32_w]; rw [c29b0]) | skip)
             have H' := qac.mk H; clear H; go_wp2; repeat (go_quiet (fail); try go_wp2)
             (refine Met.intro ?_; go_step; first | ((repeat apply Exists.intro); refine ⟨?rel, rfl⟩) | ((try simp only [c29b0] at H' ⊢); (try simp only [c11b0] at H' ⊢); (try simp only [c10b0] at H' ⊢); (try simp only [c9b0] at H' ⊢); (try simp only [c4b1] at H' ⊢); (try simp only [c4b0] at H' ⊢); (repeat apply Exists.intro); refine ⟨?rel, rfl⟩))
             case rel => exact ⟨_, (false), (by first | rfl | (simp; done) | (simp [*]; done)), H', ⟨by have := HK1.out; have := HJ11.out; first | omega | exact Nat.le_refl _⟩, ⟨by (with_reducible repeat (first | refine qan ?_ _ | refine qap ?_ | refine qao ?_ _)); exact BK105.out⟩, ⟨by (with_reducible repeat (first | refine qan ?_ _ | refine qap ?_ | refine qao ?_ _)); exact BK108.out⟩, ⟨by repeat (first | (with_reducible first | exact HB.out | apply qae | apply qab | apply qad | refine qah ?_ GE105.out | refine qah ?_ GE108.out) | exact HB.out)⟩⟩
           case rest =>
            clear HC28; (try clear c1); (try clear p1); (try clear q1); (try clear hx1); (try clear c2); (try clear p2); (try clear c3); (try clear c4); (try clear c4b0); (try clear c4b1); (try clear p6); (try clear c7); (try clear c9); (try clear c9b0); (try clear c10); (try clear c10b0); (try clear p10); (try clear q10); (try clear hx10); (try clear c11); (try clear c11b0); (try clear c14); (try clear c16); (try clear c16b0); (try clear c17); (try clear c19); (try clear c19b0); (try clear c20); (try clear c22); (try clear c22b0); (try clear c23); (try clear c25); (try clear c27); (try clear c29); (try clear c29b0); (try clear c31); (try clear c31b0); (try clear c32); (try clear c32b0); (try clear c33); (try clear hcz15_0); (try clear hcz15_1); (try clear hcz18_0); (try clear hcz18_1); (try clear hcz21_0); (try clear hcz21_1); (try clear hcz24_0); (try clear hcz24_1); (try clear hcz26_0); (try clear hcz26_1); (try clear hcz34_0); (try clear hcz34_1); (try clear hcz35_0); (try clear hcz35_1); (try clear hcz6_0); (try clear hcz6_1); (try clear hcz8_0); (try clear hcz8_1); (try clear hfz15_0); (try clear hfz15_1); (try clear hfz18_0); (try clear hfz18_1); (try clear hfz21_0); (try clear hfz21_1); (try clear hfz24_0); (try clear hfz24_1); (try clear hfz26_0); (try clear hfz26_1); (try clear hfz34_0); (try clear hfz34_1); (try clear hfz35_0); (try clear hfz35_1); (try clear hfz6_0); (try clear hfz6_1); (try clear hfz8_0); (try clear hfz8_1); (try clear hx107_0); (try clear hx107_1); (try clear hx109_0); (try clear hx109_1); (try clear p1); (try clear p10); (try clear p107); (try clear p109); (try clear p2); (try clear q1); (try clear q10); (try clear q107); (try clear q109); obtain ⟨kq, x41_27, rfl, HA, HJ27, BK105, BK108, HB⟩ := hcut
            cases kq with
            | zero => exact absurd HA.out (by simp [qaE.j2])
            | succ kj27 =>
             have H := HA.out; clear HA; simp only [qaE.j2] at H
             by_cases c36 : x41_27 = true
             ·subst c36; have H1 : (some 3) = some r := by rw [if_pos rfl] at H; exact H
              clear H; have H := H1; clear H1; obtain rfl := Option.some.inj H
              go_wp2; repeat (go_quiet (fail); try go_wp2)
              go_ret
              exact ⟨by first | rfl | (simp [qaz, qay] <;> rfl) | (simp [*, qaz, qay] <;> rfl), by repeat (first | (with_reducible first | exact HB.out | apply qae | apply qab | apply qad | refine qah ?_ GE105.out | refine qah ?_ GE108.out) | exact HB.out)⟩
             ·replace c36 := Bool.eq_false_iff.mpr c36
              subst c36; have H1 : (if (wrap64 (x3_1 + ((qaI l0_1 x17_1).f0))) > 100000 then (some 2) else (qaE.l0 kj27 (wrap64 (x3_1 + ((qaI l0_1 x17_1).f0))) l0_1 (l0_1.length : Int) (wrap64 (x17_1 + 1)) a0_0 l0_1)) = some r := by rw [if_neg (show ¬ (false = true) by decide)] at H; exact H
              clear H; have H := H1; clear H1; by_cases c37 : (wrap64 (x3_1 + ((qaI l0_1 x17_1).f0))) > 100000
              ·rw [if_pos c37] at H; have c37b0 : decide (100000 < (wrap64 (x3_1 + ((qaI l0_1 x17_1).f0)))) = true := decide_eq_true c37; clear c37; obtain rfl := Option.some.inj H
               have hnb38 := NB108_105.out; have hnc38 := NB105_108.out; have hcz39_0 : wc.cell? ⟨gb108, 0, none⟩ = some (.int .i64 ((qaI l0_1 x17_1).f0)) := (qas BK108.out 0).trans rfl
               have hcz39_1 : wc.cell? ⟨gb108, 1, none⟩ = some (.int .i64 ((qaI l0_1 x17_1).f1)) := (qas BK108.out 1).trans rfl
               have hfz39_0 := qat BK108.out 0
               have hfz39_1 := qat BK108.out 1
               go_wp2; repeat (go_quiet (fail); try go_wp2)
               go_ret
               exact ⟨by first | rfl | (simp [qaz, qay] <;> rfl) | (simp [*, qaz, qay] <;> rfl), by repeat (first | (with_reducible first | exact HB.out | apply qae | apply qab | apply qad | refine qah ?_ GE105.out | refine qah ?_ GE108.out) | exact HB.out)⟩
              ·rw [if_neg c37] at H; have c37b0 : decide (100000 < (wrap64 (x3_1 + ((qaI l0_1 x17_1).f0)))) = false := decide_eq_false c37; clear c37; have H' := qac.mk H; clear H; have hnb40 := NB108_105.out; have hnc40 := NB105_108.out; have hcz41_0 : wc.cell? ⟨gb108, 0, none⟩ = some (.int .i64 ((qaI l0_1 x17_1).f0)) := (qas BK108.out 0).trans rfl
               have hcz41_1 : wc.cell? ⟨gb108, 1, none⟩ = some (.int .i64 ((qaI l0_1 x17_1).f1)) := (qas BK108.out 1).trans rfl
               have hfz41_0 := qat BK108.out 0
               have hfz41_1 := qat BK108.out 1
               go_wp2; repeat (go_quiet (fail); try go_wp2)
               go_roundg kj27
               case measure => have := HK1.out; have := HJ11.out; have := HJ27.out; omega
               case rel => exact ⟨(wrap64 (x3_1 + ((qaI l0_1 x17_1).f0))), (wrap64 (x17_1 + 1)), (by first | rfl | (simp; done) | (simp [*]; done)), (by first | rfl | (simp; done) | (simp [*]; done)), H', ⟨by have := HK1.out; have := HJ11.out; have := HJ27.out; omega⟩, ⟨by (with_reducible repeat (first | refine qan ?_ _ | refine qap ?_ | refine qao ?_ _)); exact BK105.out⟩, ⟨by repeat (first | (with_reducible first | exact HB.out | apply qae | apply qab | apply qad | refine qah ?_ GE105.out | refine qah ?_ GE108.out) | exact HB.out)⟩⟩
       ·rw [if_neg c11] at H; exact absurd H (by simp)
      ·rw [if_neg c10] at H; exact absurd H (by simp)
     ·rw [if_neg c9] at H; have c9b0 : decide (x17_1 < (l0_1.length : Int)) = false := decide_eq_false c9; clear c9; obtain rfl := Option.some.inj H
      go_wp2; repeat (go_quiet (fail); try go_wp2)
      go_ret
      exact ⟨by first | rfl | (simp [qaz, qay] <;> rfl) | (simp [*, qaz, qay] <;> rfl), by repeat (first | (with_reducible first | exact HB.out | apply qae | apply qab | apply qad | refine qah ?_ GE105.out) | exact HB.out)⟩
 ·replace c3 := Bool.eq_false_iff.mpr c3
  subst c3; have H1 : (some 6) = some r := by rw [if_neg (show ¬ (false = true) by decide)] at H; exact H
  clear H; have H := H1; clear H1; obtain rfl := Option.some.inj H
  go_enter Try.func78, Try.ntmps78; go_wp2_with (first | ((with_reducible refine qaV (N := 1) rfl ?_); refine qaU ?hg (N := 1) ?hd (cs := #[.string a0_0, .slice A0_1 l0_1.length c0_1]) (t := 29) ?hr ?_; (case hd => rfl); (case hg => rfl); (case hr => first | (go_simp; done) | (go_simp; rfl)); intro gb105 hg w42 hbox hb; have n0_ := qac.mk (qaB (by repeat (first | (with_reducible first | exact HB.out | apply qae | apply qab | apply qad) | exact HB.out)) hb); have n1_ := qac.mk (hbox); have n2_ := qac.mk ((by rw [hg]; exact (qav (by repeat (first | (with_reducible first | exact HB.out | apply qae | apply qab | apply qad) | exact HB.out))) : w.heap.size ≤ gb105)); have n3_ := qac.mk ((by rw [hg]; exact (qav (by repeat (first | (with_reducible first | exact HB.out | apply qae | apply qab | apply qad) | exact HB.out))) : w.heap.size ≤ gb105)); clear HB; have HB := n0_; have BK105 := n1_; have GW105 := n2_; have GE105 := n3_; clear n0_ n1_ n2_ n3_; clear hb hbox hg; have hcz43_0 : w42.cell? ⟨gb105, 0, none⟩ = some (.string a0_0) := (qas BK105.out 0).trans rfl; have hcz43_1 : w42.cell? ⟨gb105, 1, none⟩ = some (.slice A0_1 l0_1.length c0_1) := (qas BK105.out 1).trans rfl; have hfz43_0 := qat BK105.out 0; have hfz43_1 := qat BK105.out 1) | (go_at_call 93; (with_reducible refine (qaJ.calls k a0_0 false _ A2.out).mono ?_); rintro e w' ⟨rfl, ⟨nd, rfl⟩⟩; (try first | exact ⟨rfl, _, World.drewN_drewN _ _ _⟩ | exact ⟨rfl, _, Eq.trans (World.drewN_drewN _ _ _) (congrArg (World.drewN _) (Nat.add_assoc _ _ _))⟩)))
  repeat (go_quiet (first | ((with_reducible refine qaV (N := 1) rfl ?_); refine qaU ?hg (N := 1) ?hd (cs := #[.string a0_0, .slice A0_1 l0_1.length c0_1]) (t := 29) ?hr ?_; (case hd => rfl); (case hg => rfl); (case hr => first | (go_simp; done) | (go_simp; rfl)); intro gb105 hg w42 hbox hb; have n0_ := qac.mk (qaB (by repeat (first | (with_reducible first | exact HB.out | apply qae | apply qab | apply qad) | exact HB.out)) hb); have n1_ := qac.mk (hbox); have n2_ := qac.mk ((by rw [hg]; exact (qav (by repeat (first | (with_reducible first | exact HB.out | apply qae | apply qab | apply qad) | exact HB.out))) : w.heap.size ≤ gb105)); have n3_ := qac.mk ((by rw [hg]; exact (qav (by repeat (first | (with_reducible first | exact HB.out | apply qae | apply qab | apply qad) | exact HB.out))) : w.heap.size ≤ gb105)); clear HB; have HB := n0_; have BK105 := n1_; have GW105 := n2_; have GE105 := n3_; clear n0_ n1_ n2_ n3_; clear hb hbox hg; have hcz43_0 : w42.cell? ⟨gb105, 0, none⟩ = some (.string a0_0) := (qas BK105.out 0).trans rfl; have hcz43_1 : w42.cell? ⟨gb105, 1, none⟩ = some (.slice A0_1 l0_1.length c0_1) := (qas BK105.out 1).trans rfl; have hfz43_0 := qat BK105.out 0; have hfz43_1 := qat BK105.out 1) | (go_at_call 93; (with_reducible refine (qaJ.calls k a0_0 false _ A2.out).mono ?_); rintro e w' ⟨rfl, ⟨nd, rfl⟩⟩; (try first | exact ⟨rfl, _, World.drewN_drewN _ _ _⟩ | exact ⟨rfl, _, Eq.trans (World.drewN_drewN _ _ _) (congrArg (World.drewN _) (Nat.add_assoc _ _ _))⟩))); try go_wp2_with (first | ((with_reducible refine qaV (N := 1) rfl ?_); refine qaU ?hg (N := 1) ?hd (cs := #[.string a0_0, .slice A0_1 l0_1.length c0_1]) (t := 29) ?hr ?_; (case hd => rfl); (case hg => rfl); (case hr => first | (go_simp; done) | (go_simp; rfl)); intro gb105 hg w42 hbox hb; have n0_ := qac.mk (qaB (by repeat (first | (with_reducible first | exact HB.out | apply qae | apply qab | apply qad) | exact HB.out)) hb); have n1_ := qac.mk (hbox); have n2_ := qac.mk ((by rw [hg]; exact (qav (by repeat (first | (with_reducible first | exact HB.out | apply qae | apply qab | apply qad) | exact HB.out))) : w.heap.size ≤ gb105)); have n3_ := qac.mk ((by rw [hg]; exact (qav (by repeat (first | (with_reducible first | exact HB.out | apply qae | apply qab | apply qad) | exact HB.out))) : w.heap.size ≤ gb105)); clear HB; have HB := n0_; have BK105 := n1_; have GW105 := n2_; have GE105 := n3_; clear n0_ n1_ n2_ n3_; clear hb hbox hg; have hcz43_0 : w42.cell? ⟨gb105, 0, none⟩ = some (.string a0_0) := (qas BK105.out 0).trans rfl; have hcz43_1 : w42.cell? ⟨gb105, 1, none⟩ = some (.slice A0_1 l0_1.length c0_1) := (qas BK105.out 1).trans rfl; have hfz43_0 := qat BK105.out 0; have hfz43_1 := qat BK105.out 1) | (go_at_call 93; (with_reducible refine (qaJ.calls k a0_0 false _ A2.out).mono ?_); rintro e w' ⟨rfl, ⟨nd, rfl⟩⟩; (try first | exact ⟨rfl, _, World.drewN_drewN _ _ _⟩ | exact ⟨rfl, _, Eq.trans (World.drewN_drewN _ _ _) (congrArg (World.drewN _) (Nat.add_assoc _ _ _))⟩))))
  go_ret
  exact ⟨by first | rfl | (simp [qaz, qay] <;> rfl) | (simp [*, qaz, qay] <;> rfl), by repeat (first | (with_reducible first | exact HB.out | apply qae | apply qab | apply qad | refine qah ?_ GE105.out) | exact HB.out)⟩
def qaP.l0 : Nat → Int → List (S41) → Int → Int → Option (Int)
 | 0, _, _, _, _ => none
 | k + 1, x3, x7, x8, x9 => if x9 < x8 then (if 0 ≤ x9 then (if x9 < (x7.length : Int) then (qaP.l0 k (wrap64 (x3 + ((qaI x7 x9).f0))) x7 x8 (wrap64 (x9 + 1))) else (none)) else (none)) else (some x3)
def qaP.f (k : Nat) (a0_0 : ByteArray) (l0_1 : List (S41)) : Option (Int) := qaP.l0 k 0 l0_1 (l0_1.length : Int) 0
theorem qaP.qbe : ∀ k, (∀ y0 y1 y2 y3, LeO (qaP.l0 k y0 y1 y2 y3) (qaP.l0 (k + 1) y0 y1 y2 y3))
 | 0 => fun _ _ _ _ r h => by simp [qaP.l0] at h
 | k + 1 => by
  have ih0 := qaP.qbe k
  ·intro y0 y1 y2 y3; unfold qaP.l0
   repeat' first
   | (with_reducible exact ih0 _ _ _ _)
   | (with_reducible exact LeO.refl _)
   | (with_reducible exact LeO.none _)
   | (with_reducible refine LeO.ite ?_ ?_)
   | (with_reducible refine LeO.bind ?_ (fun _ => ?_))
   | exact ih0 _ _ _ _
   | exact LeO.none _
   | refine LeO.ite ?_ ?_
   | refine LeO.bind ?_ (fun _ => ?_)
theorem qaP.mono : ∀ a0 a1 k, LeO (qaP.f k a0 a1) (qaP.f (k + 1) a0 a1) := by
 intro a0 a1 k; have ih0 := qaP.qbe k
 unfold qaP.f
 repeat' first
   | (with_reducible exact ih0 _ _ _ _)
   | (with_reducible exact LeO.refl _)
   | (with_reducible exact LeO.none _)
   | (with_reducible refine LeO.ite ?_ ?_)
   | (with_reducible refine LeO.bind ?_ (fun _ => ?_))
   | exact ih0 _ _ _ _
   | exact LeO.none _
   | refine LeO.ite ?_ ?_
   | refine LeO.bind ?_ (fun _ => ?_)
set_option maxHeartbeats 8000000 in
set_option maxRecDepth 100000 in
theorem qaP.calls (k : Nat) (a0_0 : ByteArray) (A0_1 : Option Addr) (c0_1 : Nat) (l0_1 : List (S41)) (r : Int) (w : World) (hr0_1 : Kd.C k41 w A0_1 l0_1.length l0_1) (hc0_1 : l0_1.length ≤ c0_1) (h : qaP.f k a0_0 l0_1 = some r) :
  Calls Try.prog 54 #[.agg #[.string a0_0, .slice A0_1 l0_1.length c0_1]] w fun e w' => e = .returned (.int .i64 r) ∧ Below w.heap.size w w' := by
 have hu29 := Try.underlying29; have hu41 := Try.underlying41; have HR0_1 := qac.mk hr0_1
 have HC0_1 := qac.mk hc0_1
 clear hr0_1 hc0_1; have HB := qac.mk (Below.refl w.heap.size w)
 have H : (qaP.l0 k 0 l0_1 (l0_1.length : Int) 0) = some r := h
 clear h; have H' := qac.mk H; clear H; go_enter Try.func54, Try.ntmps54; go_wp2_with (first | ((with_reducible refine qaV (N := 1) rfl ?_); refine qaU ?hg (N := 1) ?hd (cs := #[.string a0_0, .slice A0_1 l0_1.length c0_1]) (t := 29) ?hr ?_; (case hd => rfl); (case hg => rfl); (case hr => first | (go_simp; done) | (go_simp; rfl)); intro gb119 hg w2 hbox hb; have n0_ := qac.mk (qaB (by repeat (first | (with_reducible first | exact HB.out | apply qae | apply qab | apply qad) | exact HB.out)) hb); have n1_ := qac.mk (hbox); have n2_ := qac.mk ((by rw [hg]; exact (qav (by repeat (first | (with_reducible first | exact HB.out | apply qae | apply qab | apply qad) | exact HB.out))) : w.heap.size ≤ gb119)); have n3_ := qac.mk ((by rw [hg]; exact (qav (by repeat (first | (with_reducible first | exact HB.out | apply qae | apply qab | apply qad) | exact HB.out))) : w.heap.size ≤ gb119)); clear HB; have HB := n0_; have BK119 := n1_; have GW119 := n2_; have GE119 := n3_; clear n0_ n1_ n2_ n3_; clear hb hbox hg; have hcz3_0 : w2.cell? ⟨gb119, 0, none⟩ = some (.string a0_0) := (qas BK119.out 0).trans rfl; have hcz3_1 : w2.cell? ⟨gb119, 1, none⟩ = some (.slice A0_1 l0_1.length c0_1) := (qas BK119.out 1).trans rfl; have hfz3_0 := qat BK119.out 0; have hfz3_1 := qat BK119.out 1))
 (try simp only [Act.put, List.setIfInBounds_toArray, List.set_cons_zero, List.set_cons_succ])
 go_loopg [3, 9] k (fun kq v3 v9 w' => ∃ (x3_1 : Int) (x9_1 : Int), v3 = .int .i64 x3_1 ∧ v9 = .int .i64 x9_1 ∧ qac (qaP.l0 kq x3_1 l0_1 (l0_1.length : Int) x9_1 = some r) ∧ qac (kq ≤ k) ∧ qac (w'.heap[gb119]? = some (.cells #[.string a0_0, (.slice A0_1 l0_1.length c0_1)] 29 (0, 0))) ∧ qac (Below w.heap.size w w'))
 case atStart => exact ⟨(0), (0), (by first | rfl | (simp; done) | (simp [*]; done)), (by first | rfl | (simp; done) | (simp [*]; done)), H', ⟨Nat.le_refl _⟩, ⟨by (with_reducible repeat (first | refine qan ?_ _ | refine qap ?_ | refine qao ?_ _)); exact BK119.out⟩, ⟨by repeat (first | (with_reducible first | exact HB.out | apply qae | apply qab | apply qad | refine qah ?_ GE119.out) | exact HB.out)⟩⟩
 case round =>
  clear H'; (try clear p2); (try clear hcz3_0); (try clear hcz3_1); (try clear hfz3_0); (try clear hfz3_1); obtain ⟨x3_1, x9_1, rfl, rfl, HA, HK1, BK119, HB⟩ := hrel
  cases gk with
  | zero => exact absurd HA.out (by simp [qaP.l0])
  | succ k1 =>
   have H := HA.out; clear HA; simp only [qaP.l0] at H
   by_cases c4 : x9_1 < (l0_1.length : Int)
   ·rw [if_pos c4] at H; have c4b0 : decide (x9_1 < (l0_1.length : Int)) = true := decide_eq_true c4; clear c4; by_cases c5 : 0 ≤ x9_1
    ·rw [if_pos c5] at H; have c5b0 : decide (0 ≤ x9_1) = true := decide_eq_true c5; clear c5; by_cases c6 : x9_1 < (l0_1.length : Int)
     ·rw [if_pos c6] at H; have c6b0 : decide (x9_1 < (l0_1.length : Int)) = true := decide_eq_true c6; clear c6; have H' := qac.mk H; clear H; have p120 : 0 ≤ (x9_1 : Int) := of_decide_eq_true (by first | (with_reducible assumption) | assumption)
      have q120 : x9_1 < (l0_1.length : Int) := of_decide_eq_true (by first | (with_reducible assumption) | assumption)
      obtain ⟨ad120, e120, hx120_0, hx120_1⟩ := at_T41 HR0_1.out x9_1 p120 q120
      cases e120
      replace hx120_0 := (HB.out.cell (World.block_lt_of_cell? w _ hx120_0)).trans hx120_0
      replace hx120_1 := (HB.out.cell (World.block_lt_of_cell? w _ hx120_1)).trans hx120_1
      replace p120 := eq_true p120; replace q120 := eq_true q120; go_wp2_with (first | ((with_reducible refine qaV (N := 5) rfl ?_); refine qaU ?hg (N := 5) ?hd (cs := #[.int .i64 0, .int .i64 0]) (t := 41) ?hr ?_; (case hd => rfl); (case hg => rfl); (case hr => first | (go_simp; done) | (go_simp; rfl)); intro gb121 hg w7 hbox hb; have n0_ := qac.mk (qaS (g := gb119) (o := .cells #[.string a0_0, .slice (some ad120) l0_1.length c0_1] 29 (0, 0)) (by (with_reducible repeat (first | refine qan ?_ _ | refine qap ?_ | refine qao ?_ _)); exact BK119.out) hb); have n1_ := qac.mk (qaB (by repeat (first | (with_reducible first | exact HB.out | apply qae | apply qab | apply qad | refine qah ?_ GE119.out) | exact HB.out)) hb); have n2_ := qac.mk (hbox); have n3_ := qac.mk ((by rw [hg]; exact (qav (by repeat (first | (with_reducible first | exact HB.out | apply qae | apply qab | apply qad | refine qah ?_ GE119.out) | exact HB.out))) : w.heap.size ≤ gb121)); have n4_ := qac.mk ((by rw [hg]; exact (qav (by repeat (first | (with_reducible first | exact HB.out | apply qae | apply qab | apply qad | refine qah ?_ GE119.out) | exact HB.out))) : w.heap.size ≤ gb121)); have n5_ := qac.mk ((by rw [hg]; exact Nat.ne_of_lt (qbC (g := gb119) (o := .cells #[.string a0_0, .slice (some ad120) l0_1.length c0_1] 29 (0, 0)) (by (with_reducible repeat (first | refine qan ?_ _ | refine qap ?_ | refine qao ?_ _)); exact BK119.out)) : gb119 ≠ gb121)); have n6_ := qac.mk ((by rw [hg]; exact Nat.ne_of_gt (qbC (g := gb119) (o := .cells #[.string a0_0, .slice (some ad120) l0_1.length c0_1] 29 (0, 0)) (by (with_reducible repeat (first | refine qan ?_ _ | refine qap ?_ | refine qao ?_ _)); exact BK119.out)) : gb121 ≠ gb119)); clear BK119; clear HB; have BK119 := n0_; have HB := n1_; have BK121 := n2_; have GW121 := n3_; have GE121 := n4_; have NB119_121 := n5_; have NB121_119 := n6_; clear n0_ n1_ n2_ n3_ n4_ n5_ n6_; clear hb hbox hg; have hnb8 := NB121_119.out; have hnc8 := NB119_121.out; have hcz9_0 : w7.cell? ⟨gb121, 0, none⟩ = some (.int .i64 0) := (qas BK121.out 0).trans rfl; have hcz9_1 : w7.cell? ⟨gb121, 1, none⟩ = some (.int .i64 0) := (qas BK121.out 1).trans rfl; have hfz9_0 := qat BK121.out 0; have hfz9_1 := qat BK121.out 1))
      go_roundg k1
      case measure => have := HK1.out; omega
      case rel => exact ⟨(wrap64 (x3_1 + ((qaI l0_1 x9_1).f0))), (wrap64 (x9_1 + 1)), (by first | rfl | (simp; done) | (simp [*]; done)), (by first | rfl | (simp; done) | (simp [*]; done)), H', ⟨by have := HK1.out; omega⟩, ⟨by (with_reducible repeat (first | refine qan ?_ _ | refine qap ?_ | refine qao ?_ _)); refine qbA ?_ NB119_121.out _; (with_reducible repeat (first | refine qan ?_ _ | refine qap ?_ | refine qao ?_ _)); refine qbA ?_ NB119_121.out _; (with_reducible repeat (first | refine qan ?_ _ | refine qap ?_ | refine qao ?_ _)); exact BK119.out⟩, ⟨by repeat (first | (with_reducible first | exact HB.out | apply qae | apply qab | apply qad | refine qah ?_ GE119.out | refine qah ?_ GE121.out) | exact HB.out)⟩⟩
     ·rw [if_neg c6] at H; exact absurd H (by simp)
    ·rw [if_neg c5] at H; exact absurd H (by simp)
   ·rw [if_neg c4] at H; have c4b0 : decide (x9_1 < (l0_1.length : Int)) = false := decide_eq_false c4; clear c4; obtain rfl := Option.some.inj H
    go_wp2; go_ret
    exact ⟨by first | rfl | (simp [qaz, qay] <;> rfl) | (simp [*, qaz, qay] <;> rfl), by repeat (first | (with_reducible first | exact HB.out | apply qae | apply qab | apply qad | refine qah ?_ GE119.out) | exact HB.out)⟩
end Go.Proofs.Ytfcifmbddikflaa.P
