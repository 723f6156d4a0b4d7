-- Written by xprint.py of this session out of the kit's printer.
import Derived.Test.YtllggbembbfabaaPx0
import Derived.Test.YtllggbembbfabaaPx23
import Derived.Test.YtllggbembbfabaaPx38
import Derived.Test.YtllggbembbfabaaPx40
import Derived.Test.YtllggbembbfabaaPx50
import Derived.Test.YtllggbembbfabaaPx52
import Derived.Test.YtllggbembbfabaaPx55
import Derived.Test.YtllggbembbfabaaWEqStruct
import Derived.Test.YtllggbembbfabaaWRepsOne
namespace Go.Proofs.Ytllggbembbfabaa.P
open Go.RowKit Go.Proofs.YtllggbembbfabaaW.PrintWords Go.Proofs.YtllggbembbfabaaW.PrintLast Go.Proofs.YtllggbembbfabaaW.PrintMore
attribute [local go_sem] max2_int min2_int max_two min_two max_three min_three max_four min_four   -- for this text's walks alone
set_option linter.unusedVariables false
set_option linter.unusedSimpArgs false

/-! ### gridhallkeep3_DispatchPrices: function 13 -/
def gridhallkeep3_DispatchPrices.l0 : Nat → List Int → Int → Int → Int → List (S60) → Int → Int → Option (Bool)
  | 0, _, _, _, _, _, _, _ => none
  | k + 1, x7, x10, x11, x13, x47, x48, x49 => if x49 < x48 then (if 0 ≤ x49 then (if x49 < (x47.length : Int) then ((offer_Supply.f k ((rd_T60 x47 x49).f0) ((rd_T60 x47 x49).f1) x13).bind fun bt517 => (if bt517.2.2 = 0 then (if x49 < (x7.length : Int) then (if (rd x7 x49) < bt517.1 then (some false) else (if (rd x7 x49) > bt517.2.1 then (some false) else (gridhallkeep3_DispatchPrices.l0 k x7 x10 x11 x13 x47 x48 (wrap64 (x49 + 1))))) else (none)) else (some false))) else (none)) else (none)) else (some (decide (x10 ≤ x11)))
def gridhallkeep3_DispatchPrices.f (k : Nat) (l0 : List (S60)) (a1 : Int) (a2 : Int) : Option (Bool) := (gridhallkeep3_served.f k).bind fun t501 => (if t501 = true then ((dispatch_Best.f k l0 a1).bind fun bt502 => ((dispatch_Price.f k l0 a1).bind fun bt507 => ((gridhallkeep3_fine.f k (([bt502.2.2, bt507.2.2] : List Int))).bind fun t513 => (if t513 = true then ((gridhallkeep3_within.f a2 bt507.1 bt507.2.1).bind fun t514 => (gridhallkeep3_DispatchPrices.l0 k bt502.1 bt507.1 bt507.2.1 t514 l0 (l0.length : Int) 0)) else (some (bt502.2.2 == bt507.2.2)))))) else (some false))
theorem gridhallkeep3_DispatchPrices.mono_l : ∀ k, (∀ y0 y1 y2 y3 y4 y5 y6, LeO (gridhallkeep3_DispatchPrices.l0 k y0 y1 y2 y3 y4 y5 y6) (gridhallkeep3_DispatchPrices.l0 (k + 1) y0 y1 y2 y3 y4 y5 y6))
  | 0 => fun _ _ _ _ _ _ _ r h => by simp [gridhallkeep3_DispatchPrices.l0] at h
  | k + 1 => by
    have ih0 := gridhallkeep3_DispatchPrices.mono_l k
    · intro y0 y1 y2 y3 y4 y5 y6
      unfold gridhallkeep3_DispatchPrices.l0
      repeat' first
      | (with_reducible exact ih0 _ _ _ _ _ _ _)
      | (with_reducible exact dispatch_Best.mono _ _ _)
      | (with_reducible exact dispatch_Price.mono _ _ _)
      | (with_reducible exact gridhallkeep3_fine.mono _ _)
      | (with_reducible exact gridhallkeep3_served.mono _)
      | (with_reducible exact offer_Supply.mono _ _ _ _)
      | (with_reducible exact LeO.refl _)
      | (with_reducible exact LeO.none _)
      | (with_reducible refine LeO.ite ?_ ?_)
      | (with_reducible refine LeO.bind ?_ (fun _ => ?_))
      | exact ih0 _ _ _ _ _ _ _
      | exact dispatch_Best.mono _ _ _
      | exact dispatch_Price.mono _ _ _
      | exact gridhallkeep3_fine.mono _ _
      | exact gridhallkeep3_served.mono _
      | exact offer_Supply.mono _ _ _ _
      | exact LeO.none _
      | refine LeO.ite ?_ ?_
      | refine LeO.bind ?_ (fun _ => ?_)
theorem gridhallkeep3_DispatchPrices.mono : ∀ a0 a1 a2 k, LeO (gridhallkeep3_DispatchPrices.f k a0 a1 a2) (gridhallkeep3_DispatchPrices.f (k + 1) a0 a1 a2) := by
  intro a0 a1 a2 k
  have ih0 := gridhallkeep3_DispatchPrices.mono_l k
  unfold gridhallkeep3_DispatchPrices.f
  repeat' first
      | (with_reducible exact ih0 _ _ _ _ _ _ _)
      | (with_reducible exact dispatch_Best.mono _ _ _)
      | (with_reducible exact dispatch_Price.mono _ _ _)
      | (with_reducible exact gridhallkeep3_fine.mono _ _)
      | (with_reducible exact gridhallkeep3_served.mono _)
      | (with_reducible exact offer_Supply.mono _ _ _ _)
      | (with_reducible exact LeO.refl _)
      | (with_reducible exact LeO.none _)
      | (with_reducible refine LeO.ite ?_ ?_)
      | (with_reducible refine LeO.bind ?_ (fun _ => ?_))
      | exact ih0 _ _ _ _ _ _ _
      | exact dispatch_Best.mono _ _ _
      | exact dispatch_Price.mono _ _ _
      | exact gridhallkeep3_fine.mono _ _
      | exact gridhallkeep3_served.mono _
      | exact offer_Supply.mono _ _ _ _
      | exact LeO.none _
      | refine LeO.ite ?_ ?_
      | refine LeO.bind ?_ (fun _ => ?_)
set_option maxHeartbeats 8000000 in
set_option maxRecDepth 100000 in
theorem gridhallkeep3_DispatchPrices.calls (k : Nat) (A0 : Option Addr) (c0 : Nat) (l0 : List (S60)) (a1 : Int) (a2 : Int) (r : Bool) (w : World) (hr0 : Kd.C k60 w A0 l0.length l0) (hc0 : l0.length ≤ c0) (h : gridhallkeep3_DispatchPrices.f k l0 a1 a2 = some r) :
    Calls Try.prog 13 #[.slice A0 l0.length c0, .int .i64 a1, .int .i64 a2] w fun e w' => e = .returned (.bool r) ∧ Below w.heap.size w w' := by
  have hu60 := Try.underlying60
  have HR0 := Aside0.mk hr0
  have HC0 := Aside0.mk hc0
  clear hr0 hc0
  have HB := Aside0.mk (Below.refl w.heap.size w)
  have H : ((gridhallkeep3_served.f k).bind fun t501 => (if t501 = true then ((dispatch_Best.f k l0 a1).bind fun bt502 => ((dispatch_Price.f k l0 a1).bind fun bt507 => ((gridhallkeep3_fine.f k (([bt502.2.2, bt507.2.2] : List Int))).bind fun t513 => (if t513 = true then ((gridhallkeep3_within.f a2 bt507.1 bt507.2.1).bind fun t514 => (gridhallkeep3_DispatchPrices.l0 k bt502.1 bt507.1 bt507.2.1 t514 l0 (l0.length : Int) 0)) else (some (bt502.2.2 == bt507.2.2)))))) else (some false))) = some r := h
  clear h
  replace H := Option.bind_eq_some_iff.mp H
  obtain ⟨t501, A40, H⟩ := H
  replace H : (if t501 = true then ((dispatch_Best.f k l0 a1).bind fun bt502 => ((dispatch_Price.f k l0 a1).bind fun bt507 => ((gridhallkeep3_fine.f k (([bt502.2.2, bt507.2.2] : List Int))).bind fun t513 => (if t513 = true then ((gridhallkeep3_within.f a2 bt507.1 bt507.2.1).bind fun t514 => (gridhallkeep3_DispatchPrices.l0 k bt502.1 bt507.1 bt507.2.1 t514 l0 (l0.length : Int) 0)) else (some (bt502.2.2 == bt507.2.2)))))) else (some false)) = some r := H
  have A4 := Aside0.mk A40
  clear A40
  by_cases c5 : t501 = true
  · subst c5
    have H1 : ((dispatch_Best.f k l0 a1).bind fun bt502 => ((dispatch_Price.f k l0 a1).bind fun bt507 => ((gridhallkeep3_fine.f k (([bt502.2.2, bt507.2.2] : List Int))).bind fun t513 => (if t513 = true then ((gridhallkeep3_within.f a2 bt507.1 bt507.2.1).bind fun t514 => (gridhallkeep3_DispatchPrices.l0 k bt502.1 bt507.1 bt507.2.1 t514 l0 (l0.length : Int) 0)) else (some (bt502.2.2 == bt507.2.2)))))) = some r := by rw [if_pos rfl] at H; exact H
    clear H
    have H := H1
    clear H1
    replace H := Option.bind_eq_some_iff.mp H
    obtain ⟨⟨t502, t505, t506⟩, A60, H⟩ := H
    replace H : ((dispatch_Price.f k l0 a1).bind fun bt507 => ((gridhallkeep3_fine.f k (([t506, bt507.2.2] : List Int))).bind fun t513 => (if t513 = true then ((gridhallkeep3_within.f a2 bt507.1 bt507.2.1).bind fun t514 => (gridhallkeep3_DispatchPrices.l0 k t502 bt507.1 bt507.2.1 t514 l0 (l0.length : Int) 0)) else (some (t506 == bt507.2.2))))) = some r := H
    have A6 := Aside0.mk A60
    clear A60
    replace H := Option.bind_eq_some_iff.mp H
    obtain ⟨⟨t507, t508, t509⟩, A70, H⟩ := H
    replace H : ((gridhallkeep3_fine.f k (([t506, t509] : List Int))).bind fun t513 => (if t513 = true then ((gridhallkeep3_within.f a2 t507 t508).bind fun t514 => (gridhallkeep3_DispatchPrices.l0 k t502 t507 t508 t514 l0 (l0.length : Int) 0)) else (some (t506 == t509)))) = some r := H
    have A7 := Aside0.mk A70
    clear A70
    obtain ⟨y510, hy510⟩ : ∃ y_ : List Int, y_ = (([t506, t509] : List Int)) := ⟨_, rfl⟩
    replace H : ((gridhallkeep3_fine.f k y510).bind fun t513 => (if t513 = true then ((gridhallkeep3_within.f a2 t507 t508).bind fun t514 => (gridhallkeep3_DispatchPrices.l0 k t502 t507 t508 t514 l0 (l0.length : Int) 0)) else (some (t506 == t509)))) = some r := by first | (rw [hy510]; with_reducible exact H) | (have H2_ := (Option.bind_some _ _).symm.trans H; rw [hy510]; with_reducible exact H2_) | (have H2_ := (Option.bind_some _ _).symm.trans H; with_reducible exact H2_) | with_reducible exact H | (rw [hy510]; exact H) | exact H
    have Ny510 := Aside0.mk hy510
    clear hy510
    replace H := Option.bind_eq_some_iff.mp H
    obtain ⟨t513, A80, H⟩ := H
    replace H : (if t513 = true then ((gridhallkeep3_within.f a2 t507 t508).bind fun t514 => (gridhallkeep3_DispatchPrices.l0 k t502 t507 t508 t514 l0 (l0.length : Int) 0)) else (some (t506 == t509))) = some r := H
    have A8 := Aside0.mk A80
    clear A80
    by_cases c9 : t513 = true
    · subst c9
      have H1 : ((gridhallkeep3_within.f a2 t507 t508).bind fun t514 => (gridhallkeep3_DispatchPrices.l0 k t502 t507 t508 t514 l0 (l0.length : Int) 0)) = some r := by rw [if_pos rfl] at H; exact H
      clear H
      have H := H1
      clear H1
      replace H := Option.bind_eq_some_iff.mp H
      obtain ⟨t514, A100, H⟩ := H
      replace H : (gridhallkeep3_DispatchPrices.l0 k t502 t507 t508 t514 l0 (l0.length : Int) 0) = some r := H
      have A10 := Aside0.mk A100
      clear A100
      have H' := Aside0.mk H
      clear H
      go_enter Try.func13, Try.ntmps13
      go_wp2_with (first | ((with_reducible refine gate_callee (f := 34) rfl ?_); refine goesL_ (some 19) rfl rfl Try.func34 (by kernel_rfl) rfl #[] rfl (by (try simp only [List.map_toArray, List.map_cons, List.map_nil]); first | done | rfl | (simp only [List.length_drop, List.length_take]; rfl)) ?_; (with_reducible refine (gridhallkeep3_served.calls k  true _ A4.out).mono ?_); rintro e w11 ⟨rfl, hb⟩; refine ⟨_, rfl, ?_⟩; have n0_ := Aside0.mk (below_step (by repeat (first | (with_reducible first | exact HB.out | apply below_alloc | apply pw_below_drewN | apply below_drew1) | exact HB.out)) hb); clear HB; have HB := n0_; clear n0_; (try clear hb); (try clear hb2); (try clear hk); (try clear hi)) | ((with_reducible refine gate_callee (f := 35) rfl ?_); refine goesL_ (some 24) rfl rfl Try.func35 (by kernel_rfl) rfl #[.slice A0 l0.length c0, .int .i64 a1] rfl (by (try simp only [List.map_toArray, List.map_cons, List.map_nil]); first | done | rfl | (simp only [List.length_drop, List.length_take]; rfl)) ?_; (with_reducible refine (dispatch_Best.calls k _ _ l0 a1 t502 t505 t506 _ ?side1 ?side2 A6.out).mono ?_); (case side1 => repeat (first | exact (Kd.C_below HR0.out HB.out) | (with_reducible refine Kd.C_alloc ?_ _) | (with_reducible refine Kd.C_drewN ?_ _) | (with_reducible refine Kd.C_drew ?_))); (case side2 => exact HC0.out); rintro e w12 ⟨v503, rfl, ho0, hb⟩; refine ⟨_, rfl, ?_⟩; have n0_ := Aside0.mk (Kd.V_lower (Kd.V_mono (ok' := fun k_ => True) ho0 (fun k_ hk_ => trivial)) (below_size (by repeat (first | (with_reducible first | exact HB.out | apply below_alloc | apply pw_below_drewN | apply below_drew1) | exact HB.out)))); have n1_ := Aside0.mk (below_step (by repeat (first | (with_reducible first | exact HB.out | apply below_alloc | apply pw_below_drewN | apply below_drew1) | exact HB.out)) hb); clear HB; have HO504 := n0_; have HB := n1_; clear n0_ n1_; (try clear hb); (try clear hb2); (try clear hk); (try clear hi); (try clear ho0)) | ((with_reducible refine gate_callee (f := 37) rfl ?_); refine goesL_ (some 31) rfl rfl Try.func37 (by kernel_rfl) rfl #[.slice A0 l0.length c0, .int .i64 a1] rfl (by (try simp only [List.map_toArray, List.map_cons, List.map_nil]); first | done | rfl | (simp only [List.length_drop, List.length_take]; rfl)) ?_; (with_reducible refine (dispatch_Price.calls k _ _ l0 a1 t507 t508 t509 _ ?side1 ?side2 A7.out).mono ?_); (case side1 => repeat (first | exact (Kd.C_below HR0.out HB.out) | (with_reducible refine Kd.C_alloc ?_ _) | (with_reducible refine Kd.C_drewN ?_ _) | (with_reducible refine Kd.C_drew ?_))); (case side2 => exact HC0.out); rintro e w13 ⟨rfl, hb⟩; refine ⟨_, rfl, ?_⟩; have n0_ := Aside0.mk (Kd.V_below (by (with_reducible repeat (first | apply Kd.V_alloc | apply Kd.V_drewN | apply Kd.V_drew)); exact HO504.out) hb); have n1_ := Aside0.mk (below_step (by repeat (first | (with_reducible first | exact HB.out | apply below_alloc | apply pw_below_drewN | apply below_drew1) | exact HB.out)) hb); clear HO504; clear HB; have HO504 := n0_; have HB := n1_; clear n0_ n1_; (try clear hb); (try clear hb2); (try clear hk); (try clear hi)) | ((with_reducible refine gate_dst (N := 37) rfl ?_); refine Kd.R_lit (Kd.int .i64) _ 23 ?hg (N := 37) ?hd (xs := ([t506, t509] : List Int)) (inner := [.int .i64 t506, .int .i64 t509]) (ok := fun _ => True) (okp := fun _ => True) ?hr ?hp (fun _ hk => hk) trivial (Below.refl _ _) (Nat.le_refl _) (by simp) ?_; (case hd => rfl); (case hg => rfl); (case hr => first | (go_simp; done) | (go_simp; rfl)); (case hp => exact (Reps.one (show Kd.M (Kd.int .i64) _ _ _ t506 [.int .i64 t506] from rfl) (Reps.one (show Kd.M (Kd.int .i64) _ _ _ t509 [.int .i64 t509] from rfl) (Reps.none _ _)))); intro v511 w14 ho15 hb hg_ hnew_; clear hg_ hnew_; (first | rw [← Ny510.out] at ho15 | (simp only [Int.reduceToNat] at ho15; rw [← Ny510.out] at ho15)); have n0_ := Aside0.mk (Kd.V_elder' (by (with_reducible repeat (first | apply Kd.V_alloc | apply Kd.V_drewN | apply Kd.V_drew)); exact HO504.out) (Kd.R_base ho15) hb); have n1_ := Aside0.mk (Kd.R_lower ho15 (below_size (by repeat (first | (with_reducible first | exact HB.out | apply below_alloc | apply pw_below_drewN | apply below_drew1) | exact HB.out)))); have n2_ := Aside0.mk (below_step (by repeat (first | (with_reducible first | exact HB.out | apply below_alloc | apply pw_below_drewN | apply below_drew1) | exact HB.out)) hb); clear HO504; clear HB; have HO504 := n0_; have HO512 := n1_; have HB := n2_; clear n0_ n1_ n2_; clear hb ho15; obtain ⟨Ao16, co16, eo16⟩ := Kd.R_slice HO512.out; subst eo16) | ((with_reducible refine gate_callee (f := 30) rfl ?_); refine goesL_ (some 38) rfl rfl Try.func30 (by kernel_rfl) rfl #[.slice Ao16 y510.length co16] rfl (by (try simp only [List.map_toArray, List.map_cons, List.map_nil]); first | done | rfl | (simp only [List.length_drop, List.length_take]; rfl)) ?_; (with_reducible refine (gridhallkeep3_fine.calls k _ _ y510 true _ ?side1 ?side2 A8.out).mono ?_); (case side1 => repeat (first | exact (Kd.R_reads' HO512.out).2.2 | (with_reducible refine Kd.C_alloc ?_ _) | (with_reducible refine Kd.C_drewN ?_ _) | (with_reducible refine Kd.C_drew ?_))); (case side2 => exact (Kd.R_reads' HO512.out).2.1); rintro e w' ⟨rfl, ⟨nd, rfl⟩⟩; refine ⟨_, rfl, ?_⟩) | ((with_reducible refine gate_callee (f := 22) rfl ?_); refine goesL_ (some 46) rfl rfl Try.func22 (by kernel_rfl) rfl #[.int .i64 a2, .int .i64 t507, .int .i64 t508] rfl (by (try simp only [List.map_toArray, List.map_cons, List.map_nil]); first | done | rfl | (simp only [List.length_drop, List.length_take]; rfl)) ?_; (with_reducible refine (gridhallkeep3_within.calls a2 t507 t508 t514 _ A10.out).mono ?_); rintro e w' ⟨rfl, ⟨nd, rfl⟩⟩; refine ⟨_, rfl, ?_⟩))
      go_loopg [49] k (fun kq v49 w' => ∃ (x49_1 : Int), v49 = .int .i64 x49_1 ∧ Aside0 (gridhallkeep3_DispatchPrices.l0 kq t502 t507 t508 t514 l0 (l0.length : Int) x49_1 = some r) ∧ Aside0 (kq ≤ k) ∧ Aside0 (Kd.V (Kd.int .i64) 3 w' w.heap.size (fun _ => True) v503 t502) ∧ Aside0 (Below w.heap.size w w'))
      case atStart => exact ⟨(0), (by first | rfl | (simp; done) | (simp [*]; done)), H', ⟨Nat.le_refl _⟩, ⟨by (with_reducible repeat (first | apply Kd.V_alloc | apply Kd.V_drewN | apply Kd.V_drew)); exact Kd.V_mono HO504.out (fun _ hk => trivial)⟩, ⟨by repeat (first | (with_reducible first | exact HB.out | apply below_alloc | apply pw_below_drewN | apply below_drew1) | exact HB.out)⟩⟩
      case round =>
        clear H'
        try clear c1
        try clear c2
        try clear p2
        try clear c3
        try clear p3
        try clear c5
        try clear c9
        try clear c13
        obtain ⟨x49_1, rfl, HA, HK1, HO_7, HB⟩ := hrel
        cases gk with
        | zero => exact absurd HA.out (by simp [gridhallkeep3_DispatchPrices.l0])
        | succ k1 =>
          have H := HA.out
          clear HA
          simp only [gridhallkeep3_DispatchPrices.l0] at H
          by_cases c17 : x49_1 < (l0.length : Int)
          · rw [if_pos c17] at H
            have c17b0 : decide (x49_1 < (l0.length : Int)) = true := decide_eq_true c17
            clear c17
            by_cases c18 : 0 ≤ x49_1
            · rw [if_pos c18] at H
              have c18b0 : decide (0 ≤ x49_1) = true := decide_eq_true c18
              clear c18
              by_cases c19 : x49_1 < (l0.length : Int)
              · rw [if_pos c19] at H
                have c19b0 : decide (x49_1 < (l0.length : Int)) = true := decide_eq_true c19
                clear c19
                replace H := Option.bind_eq_some_iff.mp H
                obtain ⟨⟨t517, t518, t519⟩, A200, H⟩ := H
                replace H : (if t519 = 0 then (if x49_1 < (t502.length : Int) then (if (rd t502 x49_1) < t517 then (some false) else (if (rd t502 x49_1) > t518 then (some false) else (gridhallkeep3_DispatchPrices.l0 k1 t502 t507 t508 t514 l0 (l0.length : Int) (wrap64 (x49_1 + 1))))) else (none)) else (some false)) = some r := H
                have A20 := Aside0.mk A200
                clear A200
                by_cases c21 : t519 = 0
                · rw [if_pos c21] at H
                  have c21b0 : (t519 == 0) = true := beq_iff_eq.mpr c21
                  have c21b1 : (t519 != 0) = false := bne_eq_false_iff_eq.mpr c21
                  clear c21
                  by_cases c22 : x49_1 < (t502.length : Int)
                  · rw [if_pos c22] at H
                    have c22b0 : decide (x49_1 < (t502.length : Int)) = true := decide_eq_true c22
                    clear c22
                    by_cases c23 : (rd t502 x49_1) < t517
                    · rw [if_pos c23] at H
                      have c23b0 : decide ((rd t502 x49_1) < t517) = true := decide_eq_true c23
                      clear c23
                      obtain rfl := Option.some.inj H
                      have p515 : 0 ≤ (x49_1 : Int) := of_decide_eq_true (by first | (with_reducible assumption) | assumption)
                      have q515 : x49_1 < (l0.length : Int) := of_decide_eq_true (by first | (with_reducible assumption) | assumption)
                      obtain ⟨ad515, A515_1, c515_1, e515, hx515_0, hx515_1, hl515_1, hi515_1⟩ := at_T60 HR0.out x49_1 p515 q515
                      cases e515
                      replace hx515_0 := (HB.out.cell (World.block_lt_of_cell? w _ hx515_0)).trans hx515_0
                      replace hx515_1 := (HB.out.cell (World.block_lt_of_cell? w _ hx515_1)).trans hx515_1
                      have HR515_1 := Aside0.mk hi515_1
                      have HC515_1 := Aside0.mk hl515_1
                      clear hi515_1 hl515_1
                      replace p515 := eq_true p515
                      replace q515 := eq_true q515
                      go_wp2_with (first | ((with_reducible refine gate_dst (N := 15) rfl ?_); refine box_event ?hg (N := 15) ?hd (cs := #[.string (⟨#[]⟩ : ByteArray), .slice none 0 0]) (t := 60) ?hr ?_; (case hd => rfl); (case hg => rfl); (case hr => first | (go_simp; done) | (go_simp; rfl)); intro gb516 hg w24 hbox hb; have n0_ := Aside0.mk (Kd.V_below (Kd.V_elderB (by (with_reducible repeat (first | apply Kd.V_alloc | apply Kd.V_drewN | apply Kd.V_drew)); exact HO_7.out) gb516 (Nat.le_of_eq hg.symm)) hb); have n1_ := Aside0.mk (below_step (by repeat (first | (with_reducible first | exact HB.out | apply below_alloc | apply pw_below_drewN | apply below_drew1) | exact HB.out)) hb); have n2_ := Aside0.mk (hbox); have n3_ := Aside0.mk ((by rw [hg]; exact (below_size (by repeat (first | (with_reducible first | exact HB.out | apply below_alloc | apply pw_below_drewN | apply below_drew1) | exact HB.out))) : w.heap.size ≤ gb516)); have n4_ := Aside0.mk ((by rw [hg]; exact (below_size (by repeat (first | (with_reducible first | exact HB.out | apply below_alloc | apply pw_below_drewN | apply below_drew1) | exact HB.out))) : w.heap.size ≤ gb516)); clear HO_7; clear HB; have HO_7 := n0_; have HB := n1_; have BK516 := n2_; have GW516 := n3_; have GE516 := n4_; clear n0_ n1_ n2_ n3_ n4_; clear hb hbox hg; have hcz25_0 : w24.cell? ⟨gb516, 0, none⟩ = some (.string (⟨#[]⟩ : ByteArray)) := (blk_cell BK516.out 0).trans rfl; have hcz25_1 : w24.cell? ⟨gb516, 1, none⟩ = some (.slice none 0 0) := (blk_cell BK516.out 1).trans rfl; have hfz25_0 := blk_frozen BK516.out 0; have hfz25_1 := blk_frozen BK516.out 1) | ((with_reducible refine gate_callee (f := 33) rfl ?_); refine goesL_ (some 57) rfl rfl Try.func33 (by kernel_rfl) rfl #[.agg #[.string ((rd_T60 l0 x49_1).f0), .slice A515_1 ((rd_T60 l0 x49_1).f1).length c515_1], .int .i64 t514] rfl (by (try simp only [List.map_toArray, List.map_cons, List.map_nil]); first | done | rfl | (simp only [List.length_drop, List.length_take]; rfl)) ?_; (with_reducible refine (offer_Supply.calls k1 ((rd_T60 l0 x49_1).f0) _ _ ((rd_T60 l0 x49_1).f1) t514 t517 t518 t519 _ ?side1 ?side2 A20.out).mono ?_); (case side1 => exact Kd.C_below HR515_1.out (by repeat (first | (with_reducible first | exact HB.out | apply below_alloc | apply pw_below_drewN | apply below_drew1 | refine below_set ?_ GE516.out) | exact HB.out))); (case side2 => exact HC515_1.out); rintro e w26 ⟨rfl, hb⟩; refine ⟨_, rfl, ?_⟩; have n0_ := Aside0.mk (Kd.V_below (by (with_reducible repeat (first | apply Kd.V_alloc | apply Kd.V_drewN | apply Kd.V_drew)); exact (Kd.V_mono (Kd.V_far (p := ⟨gb516, 1, none⟩) (Kd.V_far (p := ⟨gb516, 0, none⟩) (Kd.V_mono HO_7.out (fun k_ hk => (⟨hk, hk.2⟩ : _ ∧ k_ ≠ gb516))) (fun _ hk => hk.2) (.string ((rd_T60 l0 x49_1).f0))) (fun _ hk => hk.2) (.slice A515_1 ((rd_T60 l0 x49_1).f1).length c515_1)) (fun _ h_ => h_.1))) hb); have n1_ := Aside0.mk (blk_below (g := gb516) (o := .cells #[.string ((rd_T60 l0 x49_1).f0), .slice A515_1 ((rd_T60 l0 x49_1).f1).length c515_1] 60 (0, 0)) (by (with_reducible repeat (first | refine blk_drewN ?_ _ | refine blk_drew ?_ | refine blk_alloc ?_ _)); refine blk_put (cs := #[.string ((rd_T60 l0 x49_1).f0), .slice none 0 0]) ?_ 1 _ rfl; (with_reducible repeat (first | refine blk_drewN ?_ _ | refine blk_drew ?_ | refine blk_alloc ?_ _)); refine blk_put (cs := #[.string (⟨#[]⟩ : ByteArray), .slice none 0 0]) ?_ 0 _ rfl; (with_reducible repeat (first | refine blk_drewN ?_ _ | refine blk_drew ?_ | refine blk_alloc ?_ _)); exact BK516.out) hb); have n2_ := Aside0.mk (below_step (by repeat (first | (with_reducible first | exact HB.out | apply below_alloc | apply pw_below_drewN | apply below_drew1 | refine below_set ?_ GE516.out) | exact HB.out)) hb); clear HO_7; clear BK516; clear HB; have HO_7 := n0_; have BK516 := n1_; have HB := n2_; clear n0_ n1_ n2_; (try clear hb); (try clear hb2); (try clear hk); (try clear hi); obtain ⟨Ao27, co27, eo27⟩ := Kd.V_slice HO_7.out; subst eo27; have p520 : 0 ≤ (x49_1 : Int) := of_decide_eq_true (by first | (with_reducible assumption) | assumption); have q520 : x49_1 < (t502.length : Int) := of_decide_eq_true (by first | (with_reducible assumption) | assumption); obtain ⟨ad520, e520, hx520_0⟩ := Kd.at_int (Kd.V_reads' HO_7.out).2.2 x49_1 p520 q520; cases e520; replace p520 := eq_true p520; replace q520 := eq_true q520))
                      go_ret
                      exact ⟨by first | rfl | (simp [errW_none, errW_some] <;> rfl) | (simp [*, errW_none, errW_some] <;> rfl), by repeat (first | (with_reducible first | exact HB.out | apply below_alloc | apply pw_below_drewN | apply below_drew1 | refine below_set ?_ GE516.out) | exact HB.out)⟩
                    · rw [if_neg c23] at H
                      have c23b0 : decide ((rd t502 x49_1) < t517) = false := decide_eq_false c23
                      clear c23
                      by_cases c28 : (rd t502 x49_1) > t518
                      · rw [if_pos c28] at H
                        have c28b0 : decide (t518 < (rd t502 x49_1)) = true := decide_eq_true c28
                        clear c28
                        obtain rfl := Option.some.inj H
                        have p515 : 0 ≤ (x49_1 : Int) := of_decide_eq_true (by first | (with_reducible assumption) | assumption)
                        have q515 : x49_1 < (l0.length : Int) := of_decide_eq_true (by first | (with_reducible assumption) | assumption)
                        obtain ⟨ad515, A515_1, c515_1, e515, hx515_0, hx515_1, hl515_1, hi515_1⟩ := at_T60 HR0.out x49_1 p515 q515
                        cases e515
                        replace hx515_0 := (HB.out.cell (World.block_lt_of_cell? w _ hx515_0)).trans hx515_0
                        replace hx515_1 := (HB.out.cell (World.block_lt_of_cell? w _ hx515_1)).trans hx515_1
                        have HR515_1 := Aside0.mk hi515_1
                        have HC515_1 := Aside0.mk hl515_1
                        clear hi515_1 hl515_1
                        replace p515 := eq_true p515
                        replace q515 := eq_true q515
                        go_wp2_with (first | ((with_reducible refine gate_dst (N := 15) rfl ?_); refine box_event ?hg (N := 15) ?hd (cs := #[.string (⟨#[]⟩ : ByteArray), .slice none 0 0]) (t := 60) ?hr ?_; (case hd => rfl); (case hg => rfl); (case hr => first | (go_simp; done) | (go_simp; rfl)); intro gb516 hg w29 hbox hb; have n0_ := Aside0.mk (Kd.V_below (Kd.V_elderB (by (with_reducible repeat (first | apply Kd.V_alloc | apply Kd.V_drewN | apply Kd.V_drew)); exact HO_7.out) gb516 (Nat.le_of_eq hg.symm)) hb); have n1_ := Aside0.mk (below_step (by repeat (first | (with_reducible first | exact HB.out | apply below_alloc | apply pw_below_drewN | apply below_drew1) | exact HB.out)) hb); have n2_ := Aside0.mk (hbox); have n3_ := Aside0.mk ((by rw [hg]; exact (below_size (by repeat (first | (with_reducible first | exact HB.out | apply below_alloc | apply pw_below_drewN | apply below_drew1) | exact HB.out))) : w.heap.size ≤ gb516)); have n4_ := Aside0.mk ((by rw [hg]; exact (below_size (by repeat (first | (with_reducible first | exact HB.out | apply below_alloc | apply pw_below_drewN | apply below_drew1) | exact HB.out))) : w.heap.size ≤ gb516)); clear HO_7; clear HB; have HO_7 := n0_; have HB := n1_; have BK516 := n2_; have GW516 := n3_; have GE516 := n4_; clear n0_ n1_ n2_ n3_ n4_; clear hb hbox hg; have hcz30_0 : w29.cell? ⟨gb516, 0, none⟩ = some (.string (⟨#[]⟩ : ByteArray)) := (blk_cell BK516.out 0).trans rfl; have hcz30_1 : w29.cell? ⟨gb516, 1, none⟩ = some (.slice none 0 0) := (blk_cell BK516.out 1).trans rfl; have hfz30_0 := blk_frozen BK516.out 0; have hfz30_1 := blk_frozen BK516.out 1) | ((with_reducible refine gate_callee (f := 33) rfl ?_); refine goesL_ (some 57) rfl rfl Try.func33 (by kernel_rfl) rfl #[.agg #[.string ((rd_T60 l0 x49_1).f0), .slice A515_1 ((rd_T60 l0 x49_1).f1).length c515_1], .int .i64 t514] rfl (by (try simp only [List.map_toArray, List.map_cons, List.map_nil]); first | done | rfl | (simp only [List.length_drop, List.length_take]; rfl)) ?_; (with_reducible refine (offer_Supply.calls k1 ((rd_T60 l0 x49_1).f0) _ _ ((rd_T60 l0 x49_1).f1) t514 t517 t518 t519 _ ?side1 ?side2 A20.out).mono ?_); (case side1 => exact Kd.C_below HR515_1.out (by repeat (first | (with_reducible first | exact HB.out | apply below_alloc | apply pw_below_drewN | apply below_drew1 | refine below_set ?_ GE516.out) | exact HB.out))); (case side2 => exact HC515_1.out); rintro e w31 ⟨rfl, hb⟩; refine ⟨_, rfl, ?_⟩; have n0_ := Aside0.mk (Kd.V_below (by (with_reducible repeat (first | apply Kd.V_alloc | apply Kd.V_drewN | apply Kd.V_drew)); exact (Kd.V_mono (Kd.V_far (p := ⟨gb516, 1, none⟩) (Kd.V_far (p := ⟨gb516, 0, none⟩) (Kd.V_mono HO_7.out (fun k_ hk => (⟨hk, hk.2⟩ : _ ∧ k_ ≠ gb516))) (fun _ hk => hk.2) (.string ((rd_T60 l0 x49_1).f0))) (fun _ hk => hk.2) (.slice A515_1 ((rd_T60 l0 x49_1).f1).length c515_1)) (fun _ h_ => h_.1))) hb); have n1_ := Aside0.mk (blk_below (g := gb516) (o := .cells #[.string ((rd_T60 l0 x49_1).f0), .slice A515_1 ((rd_T60 l0 x49_1).f1).length c515_1] 60 (0, 0)) (by (with_reducible repeat (first | refine blk_drewN ?_ _ | refine blk_drew ?_ | refine blk_alloc ?_ _)); refine blk_put (cs := #[.string ((rd_T60 l0 x49_1).f0), .slice none 0 0]) ?_ 1 _ rfl; (with_reducible repeat (first | refine blk_drewN ?_ _ | refine blk_drew ?_ | refine blk_alloc ?_ _)); refine blk_put (cs := #[.string (⟨#[]⟩ : ByteArray), .slice none 0 0]) ?_ 0 _ rfl; (with_reducible repeat (first | refine blk_drewN ?_ _ | refine blk_drew ?_ | refine blk_alloc ?_ _)); exact BK516.out) hb); have n2_ := Aside0.mk (below_step (by repeat (first | (with_reducible first | exact HB.out | apply below_alloc | apply pw_below_drewN | apply below_drew1 | refine below_set ?_ GE516.out) | exact HB.out)) hb); clear HO_7; clear BK516; clear HB; have HO_7 := n0_; have BK516 := n1_; have HB := n2_; clear n0_ n1_ n2_; (try clear hb); (try clear hb2); (try clear hk); (try clear hi); obtain ⟨Ao32, co32, eo32⟩ := Kd.V_slice HO_7.out; subst eo32; have p520 : 0 ≤ (x49_1 : Int) := of_decide_eq_true (by first | (with_reducible assumption) | assumption); have q520 : x49_1 < (t502.length : Int) := of_decide_eq_true (by first | (with_reducible assumption) | assumption); obtain ⟨ad520, e520, hx520_0⟩ := Kd.at_int (Kd.V_reads' HO_7.out).2.2 x49_1 p520 q520; cases e520; replace p520 := eq_true p520; replace q520 := eq_true q520; have p521 : 0 ≤ (x49_1 : Int) := of_decide_eq_true (by first | (with_reducible assumption) | assumption); have q521 : x49_1 < (t502.length : Int) := of_decide_eq_true (by first | (with_reducible assumption) | assumption); obtain ⟨ad521, e521, hx521_0⟩ := Kd.at_int (Kd.V_reads' HO_7.out).2.2 x49_1 p521 q521; obtain rfl : ad520 = ad521 := (by injection e521); replace p521 := eq_true p521; replace q521 := eq_true q521))
                        go_ret
                        exact ⟨by first | rfl | (simp [errW_none, errW_some] <;> rfl) | (simp [*, errW_none, errW_some] <;> rfl), by repeat (first | (with_reducible first | exact HB.out | apply below_alloc | apply pw_below_drewN | apply below_drew1 | refine below_set ?_ GE516.out) | exact HB.out)⟩
                      · rw [if_neg c28] at H
                        have c28b0 : decide (t518 < (rd t502 x49_1)) = false := decide_eq_false c28
                        clear c28
                        have H' := Aside0.mk H
                        clear H
                        have p515 : 0 ≤ (x49_1 : Int) := of_decide_eq_true (by first | (with_reducible assumption) | assumption)
                        have q515 : x49_1 < (l0.length : Int) := of_decide_eq_true (by first | (with_reducible assumption) | assumption)
                        obtain ⟨ad515, A515_1, c515_1, e515, hx515_0, hx515_1, hl515_1, hi515_1⟩ := at_T60 HR0.out x49_1 p515 q515
                        cases e515
                        replace hx515_0 := (HB.out.cell (World.block_lt_of_cell? w _ hx515_0)).trans hx515_0
                        replace hx515_1 := (HB.out.cell (World.block_lt_of_cell? w _ hx515_1)).trans hx515_1
                        have HR515_1 := Aside0.mk hi515_1
                        have HC515_1 := Aside0.mk hl515_1
                        clear hi515_1 hl515_1
                        replace p515 := eq_true p515
                        replace q515 := eq_true q515
                        go_wp2_with (first | ((with_reducible refine gate_dst (N := 15) rfl ?_); refine box_event ?hg (N := 15) ?hd (cs := #[.string (⟨#[]⟩ : ByteArray), .slice none 0 0]) (t := 60) ?hr ?_; (case hd => rfl); (case hg => rfl); (case hr => first | (go_simp; done) | (go_simp; rfl)); intro gb516 hg w33 hbox hb; have n0_ := Aside0.mk (Kd.V_below (Kd.V_elderB (by (with_reducible repeat (first | apply Kd.V_alloc | apply Kd.V_drewN | apply Kd.V_drew)); exact HO_7.out) gb516 (Nat.le_of_eq hg.symm)) hb); have n1_ := Aside0.mk (below_step (by repeat (first | (with_reducible first | exact HB.out | apply below_alloc | apply pw_below_drewN | apply below_drew1) | exact HB.out)) hb); have n2_ := Aside0.mk (hbox); have n3_ := Aside0.mk ((by rw [hg]; exact (below_size (by repeat (first | (with_reducible first | exact HB.out | apply below_alloc | apply pw_below_drewN | apply below_drew1) | exact HB.out))) : w.heap.size ≤ gb516)); have n4_ := Aside0.mk ((by rw [hg]; exact (below_size (by repeat (first | (with_reducible first | exact HB.out | apply below_alloc | apply pw_below_drewN | apply below_drew1) | exact HB.out))) : w.heap.size ≤ gb516)); clear HO_7; clear HB; have HO_7 := n0_; have HB := n1_; have BK516 := n2_; have GW516 := n3_; have GE516 := n4_; clear n0_ n1_ n2_ n3_ n4_; clear hb hbox hg; have hcz34_0 : w33.cell? ⟨gb516, 0, none⟩ = some (.string (⟨#[]⟩ : ByteArray)) := (blk_cell BK516.out 0).trans rfl; have hcz34_1 : w33.cell? ⟨gb516, 1, none⟩ = some (.slice none 0 0) := (blk_cell BK516.out 1).trans rfl; have hfz34_0 := blk_frozen BK516.out 0; have hfz34_1 := blk_frozen BK516.out 1) | ((with_reducible refine gate_callee (f := 33) rfl ?_); refine goesL_ (some 57) rfl rfl Try.func33 (by kernel_rfl) rfl #[.agg #[.string ((rd_T60 l0 x49_1).f0), .slice A515_1 ((rd_T60 l0 x49_1).f1).length c515_1], .int .i64 t514] rfl (by (try simp only [List.map_toArray, List.map_cons, List.map_nil]); first | done | rfl | (simp only [List.length_drop, List.length_take]; rfl)) ?_; (with_reducible refine (offer_Supply.calls k1 ((rd_T60 l0 x49_1).f0) _ _ ((rd_T60 l0 x49_1).f1) t514 t517 t518 t519 _ ?side1 ?side2 A20.out).mono ?_); (case side1 => exact Kd.C_below HR515_1.out (by repeat (first | (with_reducible first | exact HB.out | apply below_alloc | apply pw_below_drewN | apply below_drew1 | refine below_set ?_ GE516.out) | exact HB.out))); (case side2 => exact HC515_1.out); rintro e w35 ⟨rfl, hb⟩; refine ⟨_, rfl, ?_⟩; have n0_ := Aside0.mk (Kd.V_below (by (with_reducible repeat (first | apply Kd.V_alloc | apply Kd.V_drewN | apply Kd.V_drew)); exact (Kd.V_mono (Kd.V_far (p := ⟨gb516, 1, none⟩) (Kd.V_far (p := ⟨gb516, 0, none⟩) (Kd.V_mono HO_7.out (fun k_ hk => (⟨hk, hk.2⟩ : _ ∧ k_ ≠ gb516))) (fun _ hk => hk.2) (.string ((rd_T60 l0 x49_1).f0))) (fun _ hk => hk.2) (.slice A515_1 ((rd_T60 l0 x49_1).f1).length c515_1)) (fun _ h_ => h_.1))) hb); have n1_ := Aside0.mk (blk_below (g := gb516) (o := .cells #[.string ((rd_T60 l0 x49_1).f0), .slice A515_1 ((rd_T60 l0 x49_1).f1).length c515_1] 60 (0, 0)) (by (with_reducible repeat (first | refine blk_drewN ?_ _ | refine blk_drew ?_ | refine blk_alloc ?_ _)); refine blk_put (cs := #[.string ((rd_T60 l0 x49_1).f0), .slice none 0 0]) ?_ 1 _ rfl; (with_reducible repeat (first | refine blk_drewN ?_ _ | refine blk_drew ?_ | refine blk_alloc ?_ _)); refine blk_put (cs := #[.string (⟨#[]⟩ : ByteArray), .slice none 0 0]) ?_ 0 _ rfl; (with_reducible repeat (first | refine blk_drewN ?_ _ | refine blk_drew ?_ | refine blk_alloc ?_ _)); exact BK516.out) hb); have n2_ := Aside0.mk (below_step (by repeat (first | (with_reducible first | exact HB.out | apply below_alloc | apply pw_below_drewN | apply below_drew1 | refine below_set ?_ GE516.out) | exact HB.out)) hb); clear HO_7; clear BK516; clear HB; have HO_7 := n0_; have BK516 := n1_; have HB := n2_; clear n0_ n1_ n2_; (try clear hb); (try clear hb2); (try clear hk); (try clear hi); obtain ⟨Ao36, co36, eo36⟩ := Kd.V_slice HO_7.out; subst eo36; have p520 : 0 ≤ (x49_1 : Int) := of_decide_eq_true (by first | (with_reducible assumption) | assumption); have q520 : x49_1 < (t502.length : Int) := of_decide_eq_true (by first | (with_reducible assumption) | assumption); obtain ⟨ad520, e520, hx520_0⟩ := Kd.at_int (Kd.V_reads' HO_7.out).2.2 x49_1 p520 q520; cases e520; replace p520 := eq_true p520; replace q520 := eq_true q520; have p521 : 0 ≤ (x49_1 : Int) := of_decide_eq_true (by first | (with_reducible assumption) | assumption); have q521 : x49_1 < (t502.length : Int) := of_decide_eq_true (by first | (with_reducible assumption) | assumption); obtain ⟨ad521, e521, hx521_0⟩ := Kd.at_int (Kd.V_reads' HO_7.out).2.2 x49_1 p521 q521; obtain rfl : ad520 = ad521 := (by injection e521); replace p521 := eq_true p521; replace q521 := eq_true q521))
                        go_roundg k1
                        case measure => have := HK1.out; omega
                        case rel => exact ⟨(wrap64 (x49_1 + 1)), (by first | rfl | (simp; done) | (simp [*]; done)), H', ⟨by have := HK1.out; omega⟩, ⟨by (with_reducible repeat (first | apply Kd.V_alloc | apply Kd.V_drewN | apply Kd.V_drew)); exact Kd.V_mono HO_7.out (fun _ hk => trivial)⟩, ⟨by repeat (first | (with_reducible first | exact HB.out | apply below_alloc | apply pw_below_drewN | apply below_drew1 | refine below_set ?_ GE516.out) | exact HB.out)⟩⟩
                  · rw [if_neg c22] at H
                    exact absurd H (by simp)
                · rw [if_neg c21] at H
                  have c21b0 : (t519 == 0) = false := beq_eq_false_iff_ne.mpr c21
                  have c21b1 : (t519 != 0) = true := bne_iff_ne.mpr c21
                  obtain rfl := Option.some.inj H
                  have p515 : 0 ≤ (x49_1 : Int) := of_decide_eq_true (by first | (with_reducible assumption) | assumption)
                  have q515 : x49_1 < (l0.length : Int) := of_decide_eq_true (by first | (with_reducible assumption) | assumption)
                  obtain ⟨ad515, A515_1, c515_1, e515, hx515_0, hx515_1, hl515_1, hi515_1⟩ := at_T60 HR0.out x49_1 p515 q515
                  cases e515
                  replace hx515_0 := (HB.out.cell (World.block_lt_of_cell? w _ hx515_0)).trans hx515_0
                  replace hx515_1 := (HB.out.cell (World.block_lt_of_cell? w _ hx515_1)).trans hx515_1
                  have HR515_1 := Aside0.mk hi515_1
                  have HC515_1 := Aside0.mk hl515_1
                  clear hi515_1 hl515_1
                  replace p515 := eq_true p515
                  replace q515 := eq_true q515
                  go_wp2_with (first | ((with_reducible refine gate_dst (N := 15) rfl ?_); refine box_event ?hg (N := 15) ?hd (cs := #[.string (⟨#[]⟩ : ByteArray), .slice none 0 0]) (t := 60) ?hr ?_; (case hd => rfl); (case hg => rfl); (case hr => first | (go_simp; done) | (go_simp; rfl)); intro gb516 hg w37 hbox hb; have n0_ := Aside0.mk (Kd.V_below (Kd.V_elderB (by (with_reducible repeat (first | apply Kd.V_alloc | apply Kd.V_drewN | apply Kd.V_drew)); exact HO_7.out) gb516 (Nat.le_of_eq hg.symm)) hb); have n1_ := Aside0.mk (below_step (by repeat (first | (with_reducible first | exact HB.out | apply below_alloc | apply pw_below_drewN | apply below_drew1) | exact HB.out)) hb); have n2_ := Aside0.mk (hbox); have n3_ := Aside0.mk ((by rw [hg]; exact (below_size (by repeat (first | (with_reducible first | exact HB.out | apply below_alloc | apply pw_below_drewN | apply below_drew1) | exact HB.out))) : w.heap.size ≤ gb516)); have n4_ := Aside0.mk ((by rw [hg]; exact (below_size (by repeat (first | (with_reducible first | exact HB.out | apply below_alloc | apply pw_below_drewN | apply below_drew1) | exact HB.out))) : w.heap.size ≤ gb516)); clear HO_7; clear HB; have HO_7 := n0_; have HB := n1_; have BK516 := n2_; have GW516 := n3_; have GE516 := n4_; clear n0_ n1_ n2_ n3_ n4_; clear hb hbox hg; have hcz38_0 : w37.cell? ⟨gb516, 0, none⟩ = some (.string (⟨#[]⟩ : ByteArray)) := (blk_cell BK516.out 0).trans rfl; have hcz38_1 : w37.cell? ⟨gb516, 1, none⟩ = some (.slice none 0 0) := (blk_cell BK516.out 1).trans rfl; have hfz38_0 := blk_frozen BK516.out 0; have hfz38_1 := blk_frozen BK516.out 1) | ((with_reducible refine gate_callee (f := 33) rfl ?_); refine goesL_ (some 57) rfl rfl Try.func33 (by kernel_rfl) rfl #[.agg #[.string ((rd_T60 l0 x49_1).f0), .slice A515_1 ((rd_T60 l0 x49_1).f1).length c515_1], .int .i64 t514] rfl (by (try simp only [List.map_toArray, List.map_cons, List.map_nil]); first | done | rfl | (simp only [List.length_drop, List.length_take]; rfl)) ?_; (with_reducible refine (offer_Supply.calls k1 ((rd_T60 l0 x49_1).f0) _ _ ((rd_T60 l0 x49_1).f1) t514 t517 t518 t519 _ ?side1 ?side2 A20.out).mono ?_); (case side1 => exact Kd.C_below HR515_1.out (by repeat (first | (with_reducible first | exact HB.out | apply below_alloc | apply pw_below_drewN | apply below_drew1 | refine below_set ?_ GE516.out) | exact HB.out))); (case side2 => exact HC515_1.out); rintro e w39 ⟨rfl, hb⟩; refine ⟨_, rfl, ?_⟩; have n0_ := Aside0.mk (Kd.V_below (by (with_reducible repeat (first | apply Kd.V_alloc | apply Kd.V_drewN | apply Kd.V_drew)); exact (Kd.V_mono (Kd.V_far (p := ⟨gb516, 1, none⟩) (Kd.V_far (p := ⟨gb516, 0, none⟩) (Kd.V_mono HO_7.out (fun k_ hk => (⟨hk, hk.2⟩ : _ ∧ k_ ≠ gb516))) (fun _ hk => hk.2) (.string ((rd_T60 l0 x49_1).f0))) (fun _ hk => hk.2) (.slice A515_1 ((rd_T60 l0 x49_1).f1).length c515_1)) (fun _ h_ => h_.1))) hb); have n1_ := Aside0.mk (blk_below (g := gb516) (o := .cells #[.string ((rd_T60 l0 x49_1).f0), .slice A515_1 ((rd_T60 l0 x49_1).f1).length c515_1] 60 (0, 0)) (by (with_reducible repeat (first | refine blk_drewN ?_ _ | refine blk_drew ?_ | refine blk_alloc ?_ _)); refine blk_put (cs := #[.string ((rd_T60 l0 x49_1).f0), .slice none 0 0]) ?_ 1 _ rfl; (with_reducible repeat (first | refine blk_drewN ?_ _ | refine blk_drew ?_ | refine blk_alloc ?_ _)); refine blk_put (cs := #[.string (⟨#[]⟩ : ByteArray), .slice none 0 0]) ?_ 0 _ rfl; (with_reducible repeat (first | refine blk_drewN ?_ _ | refine blk_drew ?_ | refine blk_alloc ?_ _)); exact BK516.out) hb); have n2_ := Aside0.mk (below_step (by repeat (first | (with_reducible first | exact HB.out | apply below_alloc | apply pw_below_drewN | apply below_drew1 | refine below_set ?_ GE516.out) | exact HB.out)) hb); clear HO_7; clear BK516; clear HB; have HO_7 := n0_; have BK516 := n1_; have HB := n2_; clear n0_ n1_ n2_; (try clear hb); (try clear hb2); (try clear hk); (try clear hi)))
                  go_ret
                  exact ⟨by first | rfl | (simp [errW_none, errW_some] <;> rfl) | (simp [*, errW_none, errW_some] <;> rfl), by repeat (first | (with_reducible first | exact HB.out | apply below_alloc | apply pw_below_drewN | apply below_drew1 | refine below_set ?_ GE516.out) | exact HB.out)⟩
              · rw [if_neg c19] at H
                exact absurd H (by simp)
            · rw [if_neg c18] at H
              exact absurd H (by simp)
          · rw [if_neg c17] at H
            have c17b0 : decide (x49_1 < (l0.length : Int)) = false := decide_eq_false c17
            clear c17
            obtain rfl := Option.some.inj H
            go_wp2
            go_ret
            exact ⟨by first | rfl | (simp [errW_none, errW_some] <;> rfl) | (simp [*, errW_none, errW_some] <;> rfl), by repeat (first | (with_reducible first | exact HB.out | apply below_alloc | apply pw_below_drewN | apply below_drew1) | exact HB.out)⟩
    · replace c9 := Bool.eq_false_iff.mpr c9
      subst c9
      have H1 : (some (t506 == t509)) = some r := by rw [if_neg (show ¬ (false = true) by decide)] at H; exact H
      clear H
      have H := H1
      clear H1
      obtain rfl := Option.some.inj H
      go_enter Try.func13, Try.ntmps13
      go_wp2_with (first | ((with_reducible refine gate_callee (f := 34) rfl ?_); refine goesL_ (some 19) rfl rfl Try.func34 (by kernel_rfl) rfl #[] rfl (by (try simp only [List.map_toArray, List.map_cons, List.map_nil]); first | done | rfl | (simp only [List.length_drop, List.length_take]; rfl)) ?_; (with_reducible refine (gridhallkeep3_served.calls k  true _ A4.out).mono ?_); rintro e w40 ⟨rfl, hb⟩; refine ⟨_, rfl, ?_⟩; have n0_ := Aside0.mk (below_step (by repeat (first | (with_reducible first | exact HB.out | apply below_alloc | apply pw_below_drewN | apply below_drew1) | exact HB.out)) hb); clear HB; have HB := n0_; clear n0_; (try clear hb); (try clear hb2); (try clear hk); (try clear hi)) | ((with_reducible refine gate_callee (f := 35) rfl ?_); refine goesL_ (some 24) rfl rfl Try.func35 (by kernel_rfl) rfl #[.slice A0 l0.length c0, .int .i64 a1] rfl (by (try simp only [List.map_toArray, List.map_cons, List.map_nil]); first | done | rfl | (simp only [List.length_drop, List.length_take]; rfl)) ?_; (with_reducible refine (dispatch_Best.calls k _ _ l0 a1 t502 t505 t506 _ ?side1 ?side2 A6.out).mono ?_); (case side1 => repeat (first | exact (Kd.C_below HR0.out HB.out) | (with_reducible refine Kd.C_alloc ?_ _) | (with_reducible refine Kd.C_drewN ?_ _) | (with_reducible refine Kd.C_drew ?_))); (case side2 => exact HC0.out); rintro e w41 ⟨v503, rfl, ho0, hb⟩; refine ⟨_, rfl, ?_⟩; have n0_ := Aside0.mk (Kd.V_lower (Kd.V_mono (ok' := fun k_ => True) ho0 (fun k_ hk_ => trivial)) (below_size (by repeat (first | (with_reducible first | exact HB.out | apply below_alloc | apply pw_below_drewN | apply below_drew1) | exact HB.out)))); have n1_ := Aside0.mk (below_step (by repeat (first | (with_reducible first | exact HB.out | apply below_alloc | apply pw_below_drewN | apply below_drew1) | exact HB.out)) hb); clear HB; have HO504 := n0_; have HB := n1_; clear n0_ n1_; (try clear hb); (try clear hb2); (try clear hk); (try clear hi); (try clear ho0)) | ((with_reducible refine gate_callee (f := 37) rfl ?_); refine goesL_ (some 31) rfl rfl Try.func37 (by kernel_rfl) rfl #[.slice A0 l0.length c0, .int .i64 a1] rfl (by (try simp only [List.map_toArray, List.map_cons, List.map_nil]); first | done | rfl | (simp only [List.length_drop, List.length_take]; rfl)) ?_; (with_reducible refine (dispatch_Price.calls k _ _ l0 a1 t507 t508 t509 _ ?side1 ?side2 A7.out).mono ?_); (case side1 => repeat (first | exact (Kd.C_below HR0.out HB.out) | (with_reducible refine Kd.C_alloc ?_ _) | (with_reducible refine Kd.C_drewN ?_ _) | (with_reducible refine Kd.C_drew ?_))); (case side2 => exact HC0.out); rintro e w42 ⟨rfl, hb⟩; refine ⟨_, rfl, ?_⟩; have n0_ := Aside0.mk (Kd.V_below (by (with_reducible repeat (first | apply Kd.V_alloc | apply Kd.V_drewN | apply Kd.V_drew)); exact HO504.out) hb); have n1_ := Aside0.mk (below_step (by repeat (first | (with_reducible first | exact HB.out | apply below_alloc | apply pw_below_drewN | apply below_drew1) | exact HB.out)) hb); clear HO504; clear HB; have HO504 := n0_; have HB := n1_; clear n0_ n1_; (try clear hb); (try clear hb2); (try clear hk); (try clear hi)) | ((with_reducible refine gate_dst (N := 37) rfl ?_); refine Kd.R_lit (Kd.int .i64) _ 23 ?hg (N := 37) ?hd (xs := ([t506, t509] : List Int)) (inner := [.int .i64 t506, .int .i64 t509]) (ok := fun _ => True) (okp := fun _ => True) ?hr ?hp (fun _ hk => hk) trivial (Below.refl _ _) (Nat.le_refl _) (by simp) ?_; (case hd => rfl); (case hg => rfl); (case hr => first | (go_simp; done) | (go_simp; rfl)); (case hp => exact (Reps.one (show Kd.M (Kd.int .i64) _ _ _ t506 [.int .i64 t506] from rfl) (Reps.one (show Kd.M (Kd.int .i64) _ _ _ t509 [.int .i64 t509] from rfl) (Reps.none _ _)))); intro v511 w43 ho44 hb hg_ hnew_; clear hg_ hnew_; (first | rw [← Ny510.out] at ho44 | (simp only [Int.reduceToNat] at ho44; rw [← Ny510.out] at ho44)); have n0_ := Aside0.mk (Kd.V_elder' (by (with_reducible repeat (first | apply Kd.V_alloc | apply Kd.V_drewN | apply Kd.V_drew)); exact HO504.out) (Kd.R_base ho44) hb); have n1_ := Aside0.mk (Kd.R_lower ho44 (below_size (by repeat (first | (with_reducible first | exact HB.out | apply below_alloc | apply pw_below_drewN | apply below_drew1) | exact HB.out)))); have n2_ := Aside0.mk (below_step (by repeat (first | (with_reducible first | exact HB.out | apply below_alloc | apply pw_below_drewN | apply below_drew1) | exact HB.out)) hb); clear HO504; clear HB; have HO504 := n0_; have HO512 := n1_; have HB := n2_; clear n0_ n1_ n2_; clear hb ho44; obtain ⟨Ao45, co45, eo45⟩ := Kd.R_slice HO512.out; subst eo45) | ((with_reducible refine gate_callee (f := 30) rfl ?_); refine goesL_ (some 38) rfl rfl Try.func30 (by kernel_rfl) rfl #[.slice Ao45 y510.length co45] rfl (by (try simp only [List.map_toArray, List.map_cons, List.map_nil]); first | done | rfl | (simp only [List.length_drop, List.length_take]; rfl)) ?_; (with_reducible refine (gridhallkeep3_fine.calls k _ _ y510 false _ ?side1 ?side2 A8.out).mono ?_); (case side1 => repeat (first | exact (Kd.R_reads' HO512.out).2.2 | (with_reducible refine Kd.C_alloc ?_ _) | (with_reducible refine Kd.C_drewN ?_ _) | (with_reducible refine Kd.C_drew ?_))); (case side2 => exact (Kd.R_reads' HO512.out).2.1); rintro e w' ⟨rfl, ⟨nd, rfl⟩⟩; refine ⟨_, rfl, ?_⟩))
      go_ret
      exact ⟨by first | rfl | (simp [errW_none, errW_some] <;> rfl) | (simp [*, errW_none, errW_some] <;> rfl), by repeat (first | (with_reducible first | exact HB.out | apply below_alloc | apply pw_below_drewN | apply below_drew1) | exact HB.out)⟩
  · replace c5 := Bool.eq_false_iff.mpr c5
    subst c5
    have H1 : (some false) = some r := by rw [if_neg (show ¬ (false = true) by decide)] at H; exact H
    clear H
    have H := H1
    clear H1
    obtain rfl := Option.some.inj H
    go_enter Try.func13, Try.ntmps13
    go_wp2_with (first | ((with_reducible refine gate_callee (f := 34) rfl ?_); refine goesL_ (some 19) rfl rfl Try.func34 (by kernel_rfl) rfl #[] rfl (by (try simp only [List.map_toArray, List.map_cons, List.map_nil]); first | done | rfl | (simp only [List.length_drop, List.length_take]; rfl)) ?_; (with_reducible refine (gridhallkeep3_served.calls k  false _ A4.out).mono ?_); rintro e w46 ⟨rfl, hb⟩; refine ⟨_, rfl, ?_⟩; have n0_ := Aside0.mk (below_step (by repeat (first | (with_reducible first | exact HB.out | apply below_alloc | apply pw_below_drewN | apply below_drew1) | exact HB.out)) hb); clear HB; have HB := n0_; clear n0_; (try clear hb); (try clear hb2); (try clear hk); (try clear hi)))
    go_ret
    exact ⟨by first | rfl | (simp [errW_none, errW_some] <;> rfl) | (simp [*, errW_none, errW_some] <;> rfl), by repeat (first | (with_reducible first | exact HB.out | apply below_alloc | apply pw_below_drewN | apply below_drew1) | exact HB.out)⟩

end Go.Proofs.Ytllggbembbfabaa.P
