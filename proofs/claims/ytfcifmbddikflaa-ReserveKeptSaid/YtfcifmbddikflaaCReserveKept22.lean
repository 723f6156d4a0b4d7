/- Texts of the claim, put together: Px21, Px22. -/
import Derived.Test.YtfcifmbddikflaaCReserveKept14
import Derived.Test.YtfcifmbddikflaaCReserveKept20
import Derived.Test.YtfcifmbddikflaaCReserveKept21
import Derived.Test.YtfcifmbddikflaaCReserveKept16
import Derived.Test.YtfcifmbddikflaaCReserveKept17
namespace Go.Proofs.Ytfcifmbddikflaa.P
open Go.RowKit Go.Proofs.YtfcifmbddikflaaW.PrintWords Go.Proofs.YtfcifmbddikflaaW.PrintLast Go.Proofs.YtfcifmbddikflaaW.PrintMore
attribute [local go_sem] qbi qbg qbp qbo qa5 qa4 qbh qbf
set_option linter.unusedVariables false
set_option linter.unusedSimpArgs false
def qaC.f (k : Nat) (a0_0 : Int) (a0_1 : Int) (a0_2 : Int) (a1_0 : Int) (a1_1 : Int) (a1_2 : Int) : Option (Int) := (cmp_Compare_int.f a0_2 a1_2).bind fun t208 => ((cmp_Compare_int.f a0_0 a1_0).bind fun t209 => ((qaZ.f k (([t208, t209] : List Int))).bind fun t213 => (some t213)))
theorem qaC.mono : ∀ a0 a1 a2 a3 a4 a5 k, LeO (qaC.f k a0 a1 a2 a3 a4 a5) (qaC.f (k + 1) a0 a1 a2 a3 a4 a5) := by
 intro a0 a1 a2 a3 a4 a5 k; unfold qaC.f
 repeat' first
   | (with_reducible exact qaZ.mono _ _)
   | (with_reducible exact LeO.refl _)
   | (with_reducible exact LeO.none _)
   | (with_reducible refine LeO.ite ?_ ?_)
   | (with_reducible refine LeO.bind ?_ (fun _ => ?_))
   | exact qaZ.mono _ _
   | exact LeO.none _
   | refine LeO.ite ?_ ?_
   | refine LeO.bind ?_ (fun _ => ?_)
def qaC.T1 : Bool × List (List Nat × List Nat) := (true, [([], []), ([0], [0]), ([], []), ([2], [2]), ([1, 3], [1, 3]), ([], []), ([5], [5]), ([], []), ([7], [7]), ([6, 8, 4], [6, 8]), ([4, 9], [4, 9]), ([10, 9], [10]), ([11, 11, 0, 1, 2, 3, 4, 5, 6, 7, 8, 9, 10, 11], [11])])
def qaC.B1 : List Nat := [0, 1, 0, 4, 15, 0, 32, 0, 128, 511, 1023, 2047, 4095]
theorem qaC.tab1 : rtab .any (opsOf Try.f75 1) = qaC.T1 := by kernel_rfl
theorem qaC.bits1 : waitsOk qaC.T1.2 qaC.B1 = true := by kernel_rfl
set_option maxHeartbeats 8000000 in
set_option maxRecDepth 100000 in
theorem qaC.calls (k : Nat) (a0_0 : Int) (a0_1 : Int) (a0_2 : Int) (a1_0 : Int) (a1_1 : Int) (a1_2 : Int) (r : Int) (w : World) (h : qaC.f k a0_0 a0_1 a0_2 a1_0 a1_1 a1_2 = some r) :
  Calls Try.prog 75 #[.agg #[.int .i64 a0_0, .int .i64 a0_1, .int .i64 a0_2], .agg #[.int .i64 a1_0, .int .i64 a1_1, .int .i64 a1_2]] w fun e w' => e = .returned (.int .i64 r) ∧ Below w.heap.size w w' := by
 have hu102 := Try.underlying102; have HB := qac.mk (Below.refl w.heap.size w)
 have H : ((cmp_Compare_int.f a0_2 a1_2).bind fun t208 => ((cmp_Compare_int.f a0_0 a1_0).bind fun t209 => ((qaZ.f k (([t208, t209] : List Int))).bind fun t213 => (some t213)))) = some r := h
 clear h; replace H := Option.bind_eq_some_iff.mp H; obtain ⟨t208, A30, H⟩ := H; replace H : ((cmp_Compare_int.f a0_0 a1_0).bind fun t209 => ((qaZ.f k (([t208, t209] : List Int))).bind fun t213 => (some t213))) = some r := H
 have A3 := qac.mk A30
 clear A30; replace H := Option.bind_eq_some_iff.mp H; obtain ⟨t209, A40, H⟩ := H; replace H : ((qaZ.f k (([t208, t209] : List Int))).bind fun t213 => (some t213)) = some r := H
 have A4 := qac.mk A40
 clear A40; obtain ⟨y210, hy210⟩ : ∃ y_ : List Int, y_ = (([t208, t209] : List Int)) := ⟨_, rfl⟩
 replace H : ((qaZ.f k y210).bind fun t213 => (some t213)) = some r := by first | (rw [hy210]; with_reducible exact H) | (have H2_ := (Option.bind_some _ _).symm.trans H; rw [hy210]; with_reducible exact H2_) | (have H2_ := (Option.bind_some _ _).symm.trans H; with_reducible exact H2_) | with_reducible exact H | (rw [hy210]; exact H) | exact H
 have Ny210 := qac.mk hy210
 clear hy210; replace H := Option.bind_eq_some_iff.mp H; obtain ⟨t213, A50, H⟩ := H; replace H : (some t213) = some r := H
 have A5 := qac.mk A50
 clear A50; obtain rfl := Option.some.inj H
 go_enter Try.func75, Try.ntmps75; try go_wp2_with (first | ((with_reducible refine qaV (N := 2) rfl ?_); refine qaU ?hg (N := 2) ?hd (cs := #[.int .i64 a0_0, .int .i64 a0_1, .int .i64 a0_2]) (t := 102) ?hr ?_; (case hd => rfl); (case hg => rfl); (case hr => first | (go_simp; done) | (go_simp; rfl)); intro gb206 hg w6 hbox hb; have n0_ := qac.mk (qaB (by repeat (first | (with_reducible first | exact HB.out | apply qae | apply qab | apply qad) | exact HB.out)) hb); have n1_ := qac.mk (hbox); have n2_ := qac.mk ((by rw [hg]; exact (qav (by repeat (first | (with_reducible first | exact HB.out | apply qae | apply qab | apply qad) | exact HB.out))) : w.heap.size ≤ gb206)); have n3_ := qac.mk ((by rw [hg]; exact (qav (by repeat (first | (with_reducible first | exact HB.out | apply qae | apply qab | apply qad) | exact HB.out))) : w.heap.size ≤ gb206)); clear HB; have HB := n0_; have BK206 := n1_; have GW206 := n2_; have GE206 := n3_; clear n0_ n1_ n2_ n3_; clear hb hbox hg) | ((with_reducible refine qaV (N := 3) rfl ?_); refine qaU ?hg (N := 3) ?hd (cs := #[.int .i64 a1_0, .int .i64 a1_1, .int .i64 a1_2]) (t := 102) ?hr ?_; (case hd => rfl); (case hg => rfl); (case hr => first | (go_simp; done) | (go_simp; rfl)); intro gb207 hg w7 hbox hb; have n0_ := qac.mk (qaS (g := gb206) (o := .cells #[.int .i64 a0_0, .int .i64 a0_1, .int .i64 a0_2] 102 (0, 0)) (by (with_reducible repeat (first | refine qan ?_ _ | refine qap ?_ | refine qao ?_ _)); exact BK206.out) hb); have n1_ := qac.mk (qaB (by repeat (first | (with_reducible first | exact HB.out | apply qae | apply qab | apply qad | refine qah ?_ GE206.out) | exact HB.out)) hb); have n2_ := qac.mk (hbox); have n3_ := qac.mk ((by rw [hg]; exact (qav (by repeat (first | (with_reducible first | exact HB.out | apply qae | apply qab | apply qad | refine qah ?_ GE206.out) | exact HB.out))) : w.heap.size ≤ gb207)); have n4_ := qac.mk ((by rw [hg]; exact (qav (by repeat (first | (with_reducible first | exact HB.out | apply qae | apply qab | apply qad | refine qah ?_ GE206.out) | exact HB.out))) : w.heap.size ≤ gb207)); have n5_ := qac.mk ((by rw [hg]; exact Nat.ne_of_lt (qbC (g := gb206) (o := .cells #[.int .i64 a0_0, .int .i64 a0_1, .int .i64 a0_2] 102 (0, 0)) (by (with_reducible repeat (first | refine qan ?_ _ | refine qap ?_ | refine qao ?_ _)); exact BK206.out)) : gb206 ≠ gb207)); have n6_ := qac.mk ((by rw [hg]; exact Nat.ne_of_gt (qbC (g := gb206) (o := .cells #[.int .i64 a0_0, .int .i64 a0_1, .int .i64 a0_2] 102 (0, 0)) (by (with_reducible repeat (first | refine qan ?_ _ | refine qap ?_ | refine qao ?_ _)); exact BK206.out)) : gb207 ≠ gb206)); clear BK206; clear HB; have BK206 := n0_; have HB := n1_; have BK207 := n2_; have GW207 := n3_; have GE207 := n4_; have NB206_207 := n5_; have NB207_206 := n6_; clear n0_ n1_ n2_ n3_ n4_ n5_ n6_; clear hb hbox hg))
 have n0_ := qac.mk (qap BK206.out)
 have n1_ := qac.mk (qap BK207.out)
 have n2_ := qac.mk (qad HB.out)
 clear BK206; clear BK207; clear HB; have BK206 := n0_; have BK207 := n1_; have HB := n2_; clear n0_ n1_ n2_; refine qbD (n := 13) (S := fun w' => w'.cell? ⟨gb206, 0, none⟩ = some (.int .i64 a0_0) ∧ w'.cell? ⟨gb206, 1, none⟩ = some (.int .i64 a0_1) ∧ w'.cell? ⟨gb206, 2, none⟩ = some (.int .i64 a0_2) ∧ w'.cell? ⟨gb207, 0, none⟩ = some (.int .i64 a1_0) ∧ w'.cell? ⟨gb207, 1, none⟩ = some (.int .i64 a1_1) ∧ w'.cell? ⟨gb207, 2, none⟩ = some (.int .i64 a1_2)) (ds := []) #[qF,qF,qF,qF,qF,qF,qF,qF,qF,qF,qF,qF,qF] (by kernel_rfl) rfl rfl ⟨(qas BK206.out 0).trans rfl, (qas BK206.out 1).trans rfl, (qas BK206.out 2).trans rfl, (qas BK207.out 0).trans rfl, (qas BK207.out 1).trans rfl, (qas BK207.out 2).trans rfl⟩ (fun hHeld => ?_); refine qbj qaC.tab1 qaC.bits1 (fun HT_ HW_ => ?_)
 generalize w7.drew = w8 at BK206 BK207 HB hHeld ⊢
 refine qP 0 (some 5) ?_ #[qT,qF,qF,qF,qF,qF,qF,qF,qF,qF,qF,qF,qF] HT_.out rfl rfl (by kernel_rfl) (fun _ _ _ h => h) (Or.inl ⟨by rfl, ?_⟩) ?_ ?_ ?_; rotate_left; ·intro w'; go_simp; with_reducible rfl
 rotate_left; ·simp only [Act.put, qy1, qy2, qy3, i64_w, i32_w]; rfl
 refine qP 2 (some 7) ?_ #[qT,qF,qT,qF,qF,qF,qF,qF,qF,qF,qF,qF,qF] HT_.out rfl rfl (by kernel_rfl) (fun _ _ _ h => h) (Or.inl ⟨by rfl, ?_⟩) ?_ ?_ ?_; rotate_left; ·intro w'; go_simp; with_reducible rfl
 rotate_left; ·simp only [Act.put, qy1, qy2, qy3, i64_w, i32_w]; rfl
 refine qP 5 (some 10) ?_ #[qT,qF,qT,qF,qF,qT,qF,qF,qF,qF,qF,qF,qF] HT_.out rfl rfl (by kernel_rfl) (fun _ _ _ h => h) (Or.inl ⟨by rfl, ?_⟩) ?_ ?_ ?_; rotate_left; ·intro w'; go_simp; with_reducible rfl
 rotate_left; ·simp only [Act.put, qy1, qy2, qy3, i64_w, i32_w]; rfl
 refine qP 7 (some 12) ?_ #[qT,qF,qT,qF,qF,qT,qF,qT,qF,qF,qF,qF,qF] HT_.out rfl rfl (by kernel_rfl) (fun _ _ _ h => h) (Or.inl ⟨by rfl, ?_⟩) ?_ ?_ ?_; rotate_left; ·intro w'; go_simp; with_reducible rfl
 rotate_left; ·simp only [Act.put, qy1, qy2, qy3, i64_w, i32_w]; rfl
 refine take_ (i := 1) (N := some 6) (v := ?_) (a' := ?_) #[qT,qT,qT,qF,qF,qT,qF,qT,qF,qF,qF,qF,qF] rfl rfl (qaT HT_.out HW_.out (by kernel_rfl)) (fun _ _ _ h => h) (Or.inl ⟨by rfl, ?_⟩) hHeld ?_ ?_; rotate_left; ·rintro w' ⟨s0, s1, s2, s3, s4, s5⟩; go_simp; with_reducible rfl
 rotate_left; ·simp only [Act.put, qy1, qy2, qy3, i64_w, i32_w]; rfl
 refine take_ (i := 3) (N := some 8) (v := ?_) (a' := ?_) #[qT,qT,qT,qT,qF,qT,qF,qT,qF,qF,qF,qF,qF] rfl rfl (qaT HT_.out HW_.out (by kernel_rfl)) (fun _ _ _ h => h) (Or.inl ⟨by rfl, ?_⟩) hHeld ?_ ?_; rotate_left; ·rintro w' ⟨s0, s1, s2, s3, s4, s5⟩; go_simp; with_reducible rfl
 rotate_left; ·simp only [Act.put, qy1, qy2, qy3, i64_w, i32_w]; rfl
 refine take_ (i := 6) (N := some 11) (v := ?_) (a' := ?_) #[qT,qT,qT,qT,qF,qT,qT,qT,qF,qF,qF,qF,qF] rfl rfl (qaT HT_.out HW_.out (by kernel_rfl)) (fun _ _ _ h => h) (Or.inl ⟨by rfl, ?_⟩) hHeld ?_ ?_; rotate_left; ·rintro w' ⟨s0, s1, s2, s3, s4, s5⟩; go_simp; with_reducible rfl
 rotate_left; ·simp only [Act.put, qy1, qy2, qy3, i64_w, i32_w]; rfl
 refine take_ (i := 8) (N := some 13) (v := ?_) (a' := ?_) #[qT,qT,qT,qT,qF,qT,qT,qT,qT,qF,qF,qF,qF] rfl rfl (qaT HT_.out HW_.out (by kernel_rfl)) (fun _ _ _ h => h) (Or.inl ⟨by rfl, ?_⟩) hHeld ?_ ?_; rotate_left; ·rintro w' ⟨s0, s1, s2, s3, s4, s5⟩; go_simp; with_reducible rfl
 rotate_left; ·simp only [Act.put, qy1, qy2, qy3, i64_w, i32_w]; rfl
 refine one_ (i := 4) (N := some 9) #[qT,qT,qT,qT,qT,qT,qT,qT,qT,qF,qF,qF,qF] rfl rfl (qbH HT_.out (by kernel_rfl)) (by decide) (fun K hK => ?_)
 refine goes_ Try.func57 (by kernel_rfl) rfl #[.int .i64 a0_2, .int .i64 a1_2] (by rfl) rfl rfl (by (try simp only [qy6, qy7, qy8]); first | done | rfl | (simp only [List.length_drop, List.length_take]; rfl)) ?_
 with_reducible refine (cmp_Compare_int.calls a0_2 a1_2 t208 _ A3.out).mono ?_
 rintro e w' ⟨rfl, ⟨nd, rfl⟩⟩
 refine ⟨_, rfl, ?_⟩
 refine hK.out _ _ ⟨(qas BK206.out 0).trans rfl, (qas BK206.out 1).trans rfl, (qas BK206.out 2).trans rfl, (qas BK207.out 0).trans rfl, (qas BK207.out 1).trans rfl, (qas BK207.out 2).trans rfl⟩ (fun hHeld => ?_)
 clear hK K; refine norm_ (a' := ?_) ?_ ?_; rotate_left
 ·show Act.put _ (some 9) _ = _
  simp only [Act.put, qy1, qy2, qy3, i64_w, i32_w]
  rfl
 refine one_ (i := 9) (N := some 14) #[qT,qT,qT,qT,qT,qT,qT,qT,qT,qT,qF,qF,qF] rfl rfl (qbH HT_.out (by kernel_rfl)) (by decide) (fun K hK => ?_)
 refine goes_ Try.func57 (by kernel_rfl) rfl #[.int .i64 a0_0, .int .i64 a1_0] (by rfl) rfl rfl (by (try simp only [qy6, qy7, qy8]); first | done | rfl | (simp only [List.length_drop, List.length_take]; rfl)) ?_
 with_reducible refine (cmp_Compare_int.calls a0_0 a1_0 t209 _ A4.out).mono ?_
 rintro e w' ⟨rfl, ⟨nd, rfl⟩⟩
 refine ⟨_, rfl, ?_⟩
 refine hK.out _ _ ⟨(qas BK206.out 0).trans rfl, (qas BK206.out 1).trans rfl, (qas BK206.out 2).trans rfl, (qas BK207.out 0).trans rfl, (qas BK207.out 1).trans rfl, (qas BK207.out 2).trans rfl⟩ (fun hHeld => ?_)
 clear hK K; refine norm_ (a' := ?_) ?_ ?_; rotate_left
 ·show Act.put _ (some 14) _ = _
  simp only [Act.put, qy1, qy2, qy3, i64_w, i32_w]
  rfl
 refine one_ (i := 10) (N := some 15) #[qT,qT,qT,qT,qT,qT,qT,qT,qT,qT,qT,qF,qF] rfl rfl (qbH HT_.out (by kernel_rfl)) (by decide) (fun K hK => ?_)
 refine Kd.R_lit_step (Kd.int .i64) _ 3 ?hg (N := 15) ?hd (xs := ([t208, t209] : List Int)) (inner := [.int .i64 t208, .int .i64 t209]) (ok := fun _ => True) (okp := fun _ => True) ?hr ?hp (fun _ hk => hk) trivial (Below.refl _ _) (Nat.le_refl _) (by simp) ?_; (case hd => rfl); (case hg => rfl); (case hr => first | (go_simp; done) | (go_simp; rfl)); (case hp => exact (Reps.one (show Kd.M (Kd.int .i64) _ _ _ t208 [.int .i64 t208] from rfl) (Reps.one (show Kd.M (Kd.int .i64) _ _ _ t209 [.int .i64 t209] from rfl) (Reps.none _ _))))
 intro v211 w9 ho10 hb hg_ hnew_; clear hg_ hnew_; (first | rw [← Ny210.out] at ho10 | (simp only [Int.reduceToNat] at ho10; rw [← Ny210.out] at ho10))
 have n0_ := qac.mk (Kd.qbG ho10 (qav (by repeat (first | (with_reducible first | exact HB.out | apply qae | apply qab | apply qad | refine qah ?_ GE206.out | refine qah ?_ GE207.out) | exact HB.out))))
 have n1_ := qac.mk (qaS (g := gb206) (o := .cells #[.int .i64 a0_0, .int .i64 a0_1, .int .i64 a0_2] 102 (0, 0)) (by (with_reducible repeat (first | refine qan ?_ _ | refine qap ?_ | refine qao ?_ _)); exact BK206.out) hb)
 have n2_ := qac.mk (qaS (g := gb207) (o := .cells #[.int .i64 a1_0, .int .i64 a1_1, .int .i64 a1_2] 102 (0, 0)) (by (with_reducible repeat (first | refine qan ?_ _ | refine qap ?_ | refine qao ?_ _)); exact BK207.out) hb)
 have n3_ := qac.mk (qaB (by repeat (first | (with_reducible first | exact HB.out | apply qae | apply qab | apply qad | refine qah ?_ GE206.out | refine qah ?_ GE207.out) | exact HB.out)) hb)
 clear BK206; clear BK207; clear HB; have HO212 := n0_; have BK206 := n1_; have BK207 := n2_; have HB := n3_; clear n0_ n1_ n2_ n3_; clear hb ho10; obtain ⟨Ao11, co11, eo11⟩ := Kd.qbc HO212.out
 (first | subst eo11 | (injection eo11 with f1_ f2_ f3_; have f4_ := f1_.symm; have f5_ := f3_.symm; clear f1_ f2_ f3_; subst f4_; subst f5_))
 refine hK.out _ _ ⟨(qas BK206.out 0).trans rfl, (qas BK206.out 1).trans rfl, (qas BK206.out 2).trans rfl, (qas BK207.out 0).trans rfl, (qas BK207.out 1).trans rfl, (qas BK207.out 2).trans rfl⟩ (fun hHeld => ?_)
 clear hK K; refine norm_ (a' := ?_) ?_ ?_; rotate_left
 ·show Act.put _ (some 15) _ = _
  simp only [Act.put, qy1, qy2, qy3, i64_w, i32_w]
  rfl
 refine one_ (i := 11) (N := some 16) #[qT,qT,qT,qT,qT,qT,qT,qT,qT,qT,qT,qT,qF] rfl rfl (qbH HT_.out (by kernel_rfl)) (by decide) (fun K hK => ?_)
 refine goes_ Try.func76 (by kernel_rfl) rfl #[.slice Ao11 y210.length co11] (by rfl) rfl rfl (by (try simp only [qy6, qy7, qy8]); first | done | rfl | (simp only [List.length_drop, List.length_take]; rfl)) ?_
 with_reducible refine (qaZ.calls k _ _ y210 t213 _ ?side1 ?side2 A5.out).mono ?_
 (case side1 => repeat (first | exact (Kd.qaN HO212.out).2.2 | (with_reducible refine Kd.qbl ?_ _) | (with_reducible refine Kd.qbk ?_ _) | (with_reducible refine Kd.qbw ?_)))
 (case side2 => exact (Kd.qaN HO212.out).2.1)
 rintro e w' ⟨rfl, ⟨nd, rfl⟩⟩
 refine ⟨_, rfl, ?_⟩
 refine hK.out _ _ ⟨(qas BK206.out 0).trans rfl, (qas BK206.out 1).trans rfl, (qas BK206.out 2).trans rfl, (qas BK207.out 0).trans rfl, (qas BK207.out 1).trans rfl, (qas BK207.out 2).trans rfl⟩ (fun hHeld => ?_)
 clear hK K; refine norm_ (a' := ?_) ?_ ?_; rotate_left
 ·show Act.put _ (some 16) _ = _
  simp only [Act.put, qy1, qy2, qy3, i64_w, i32_w]
  rfl
 refine qP 12 (some 4) ?_ #[qT,qT,qT,qT,qT,qT,qT,qT,qT,qT,qT,qT,qT] HT_.out rfl rfl (by kernel_rfl) (fun _ _ _ h => h) (Or.inl ⟨by rfl, ?_⟩) ?_ ?_ ?_; rotate_left; ·intro w'; go_simp; with_reducible rfl
 rotate_left; ·simp only [Act.put, qy1, qy2, qy3, i64_w, i32_w]; rfl
 refine done_ (qby HT_.out (by kernel_rfl)) ?_
 try go_wp2
 go_ret
 exact ⟨by first | rfl | (simp [qaz, qay] <;> rfl) | (simp [*, qaz, qay] <;> rfl), by repeat (first | (with_reducible first | exact HB.out | apply qae | apply qab | apply qad | refine qah ?_ GE206.out | refine qah ?_ GE207.out) | exact HB.out)⟩
mutual
def qaf.l0 : Nat → List (S102) → Int → Int → Int → Option ((List (S102)))
 | 0, _, _, _, _ => none
 | k + 1, x0, x1, x2, x8 => if x8 < x2 then (qaf.l1 k x0 x1 x2 x8 x8) else (some x0)
def qaf.l1 : Nat → List (S102) → Int → Int → Int → Int → Option ((List (S102)))
 | 0, _, _, _, _, _ => none
 | k + 1, x0, x1, x2, x8, x9 => if x9 > x1 then (if 0 ≤ x9 then (if x9 < (x0.length : Int) then (if 0 ≤ (wrap64 (x9 - 1)) then (if (wrap64 (x9 - 1)) < (x0.length : Int) then ((qaC.f k ((qag x0 x9).f0) ((qag x0 x9).f1) ((qag x0 x9).f2) ((qag x0 (wrap64 (x9 - 1))).f0) ((qag x0 (wrap64 (x9 - 1))).f1) ((qag x0 (wrap64 (x9 - 1))).f2)).bind fun t216 => (if t216 < 0 then (qaf.l1 k ((x0.set (x9 : Int).toNat (⟨(qag x0 (wrap64 (x9 - 1))).f0, (qag x0 (wrap64 (x9 - 1))).f1, (qag x0 (wrap64 (x9 - 1))).f2⟩ : S102)).set ((wrap64 (x9 - 1)) : Int).toNat (⟨(qag x0 x9).f0, (qag x0 x9).f1, (qag x0 x9).f2⟩ : S102)) x1 x2 x8 (wrap64 (x9 - 1))) else (qaf.l0 k x0 x1 x2 (wrap64 (x8 + 1))))) else (none)) else (none)) else (none)) else (none)) else (qaf.l0 k x0 x1 x2 (wrap64 (x8 + 1)))
end
def qaf.f (k : Nat) (l0 : List (S102)) (a1 : Int) (a2 : Int)  : Option ((List (S102))) := qaf.l0 k l0 a1 a2 (wrap64 (a1 + 1))
theorem qaf.qbe : ∀ k, (∀ y0 y1 y2 y3, LeO (qaf.l0 k y0 y1 y2 y3) (qaf.l0 (k + 1) y0 y1 y2 y3)) ∧ (∀ y0 y1 y2 y3 y4, LeO (qaf.l1 k y0 y1 y2 y3 y4) (qaf.l1 (k + 1) y0 y1 y2 y3 y4))
 | 0 => ⟨fun _ _ _ _ r h => by simp [qaf.l0] at h, fun _ _ _ _ _ r h => by simp [qaf.l1] at h⟩
 | k + 1 => by
  obtain ⟨ih0, ih1⟩ := qaf.qbe k
  refine ⟨?_, ?_⟩
  ·intro y0 y1 y2 y3; unfold qaf.l0
   repeat' first
   | (with_reducible exact ih0 _ _ _ _)
   | (with_reducible exact ih1 _ _ _ _ _)
   | (with_reducible exact qaC.mono _ _ _ _ _ _ _)
   | (with_reducible exact LeO.refl _)
   | (with_reducible exact LeO.none _)
   | (with_reducible refine LeO.ite ?_ ?_)
   | (with_reducible refine LeO.bind ?_ (fun _ => ?_))
   | exact ih0 _ _ _ _
   | exact ih1 _ _ _ _ _
   | exact qaC.mono _ _ _ _ _ _ _
   | exact LeO.none _
   | refine LeO.ite ?_ ?_
   | refine LeO.bind ?_ (fun _ => ?_)
  ·intro y0 y1 y2 y3 y4; unfold qaf.l1
   repeat' first
   | (with_reducible exact ih0 _ _ _ _)
   | (with_reducible exact ih1 _ _ _ _ _)
   | (with_reducible exact qaC.mono _ _ _ _ _ _ _)
   | (with_reducible exact LeO.refl _)
   | (with_reducible exact LeO.none _)
   | (with_reducible refine LeO.ite ?_ ?_)
   | (with_reducible refine LeO.bind ?_ (fun _ => ?_))
   | exact ih0 _ _ _ _
   | exact ih1 _ _ _ _ _
   | exact qaC.mono _ _ _ _ _ _ _
   | exact LeO.none _
   | refine LeO.ite ?_ ?_
   | refine LeO.bind ?_ (fun _ => ?_)
theorem qaf.mono : ∀ a0 a1 a2 k, LeO (qaf.f k a0 a1 a2) (qaf.f (k + 1) a0 a1 a2) := by
 intro a0 a1 a2 k; obtain ⟨ih0, ih1⟩ := qaf.qbe k
 unfold qaf.f
 repeat' first
   | (with_reducible exact ih0 _ _ _ _)
   | (with_reducible exact ih1 _ _ _ _ _)
   | (with_reducible exact qaC.mono _ _ _ _ _ _ _)
   | (with_reducible exact LeO.refl _)
   | (with_reducible exact LeO.none _)
   | (with_reducible refine LeO.ite ?_ ?_)
   | (with_reducible refine LeO.bind ?_ (fun _ => ?_))
   | exact ih0 _ _ _ _
   | exact ih1 _ _ _ _ _
   | exact qaC.mono _ _ _ _ _ _ _
   | exact LeO.none _
   | refine LeO.ite ?_ ?_
   | refine LeO.bind ?_ (fun _ => ?_)
def qaf.T4 : Bool × List (List Nat × List Nat) := (true, [([], []), ([], []), ([0, 1], [0, 1]), ([2], [2]), ([3], [3]), ([3], [3]), ([3], [3]), ([5, 6, 3], [3, 5, 6]), ([7, 3], [3, 7]), ([3], [3]), ([3], [3]), ([10, 3], [3, 10]), ([9, 11, 3], [3, 9, 11]), ([12, 3], [3, 12]), ([4, 8, 13, 3, 3], [3, 4, 8, 13]), ([14, 3], [3, 14]), ([3, 15], [3, 15])])
def qaf.B4 : List Nat := [0, 0, 3, 7, 15, 15, 15, 111, 239, 15, 15, 1039, 3599, 7695, 16383, 32767, 65535]
theorem qaf.tab4 : rtab .any (opsOf Try.f100 4) = qaf.T4 := by kernel_rfl
theorem qaf.bits4 : waitsOk qaf.T4.2 qaf.B4 = true := by kernel_rfl
def qaf.T6 : Bool × List (List Nat × List Nat) := (true, [([], []), ([], []), ([], []), ([], []), ([3], [3]), ([], []), ([], []), ([6], [6]), ([5, 7], [5, 7]), ([8], [8]), ([], []), ([], []), ([10, 11], [10, 11]), ([12], [12]), ([0, 1, 0, 1, 5, 6, 7, 8, 9, 13], [0, 1]), ([14, 9, 0, 1, 5, 6, 7, 8, 9, 13], [9, 14]), ([2, 4, 0, 1, 2, 3, 4, 5, 6, 7, 8, 9, 10, 11, 12, 13, 14, 15], [2, 4]), ([16, 13, 15, 0, 1, 2, 3, 4, 5, 6, 7, 8, 9, 10, 11, 12, 13, 14, 15], [13, 16])])
def qaf.B6 : List Nat := [0, 0, 0, 0, 8, 0, 0, 64, 224, 480, 0, 0, 3072, 7168, 16355, 32739, 65535, 131071]
theorem qaf.tab6 : rtab .any (opsOf Try.f100 6) = qaf.T6 := by kernel_rfl
theorem qaf.bits6 : waitsOk qaf.T6.2 qaf.B6 = true := by kernel_rfl
set_option maxHeartbeats 8000000 in
set_option maxRecDepth 100000 in
theorem qaf.calls (k : Nat) (P0_ : Nat → Prop) (u9000_ : Value) (l0 : List (S102)) (a1 : Int) (a2 : Int)  (r : List (S102)) (w0 w : World) (hB : Below w0.heap.size w0 w) (ho0 : Kd.R k102 102 w w0.heap.size P0_ u9000_ l0) (h : qaf.f k l0 a1 a2 = some r) :
  Calls Try.prog 100 #[u9000_, .int .i64 a1, .int .i64 a2, .func (.func 75) #[] #[]] w fun e w' => e = .returned (.tuple #[]) ∧ Kd.R k102 102 w' w0.heap.size (fun k_ => (P0_ k_ ∨ w.heap.size ≤ k_)) u9000_ r ∧ Below w0.heap.size w0 w' ∧ Kept w w' (fun k_ => P0_ k_) := by
 have hu102 := Try.underlying102; have HO0 := qac.mk (show Kd.R k102 102 w w0.heap.size (fun k_ => (P0_ k_ ∨ w.heap.size ≤ k_)) u9000_ l0 from Kd.qaY ho0 (fun k_ hk => (.inl hk)))
 have HK := qac.mk (Kept.refl w (fun k_ => P0_ k_))
 have HW0 := qac.mk hB.size
 have HB := qac.mk hB
 clear hB; have H : (qaf.l0 k l0 a1 a2 (wrap64 (a1 + 1))) = some r := h
 clear h; have H' := qac.mk H; clear H; go_enter Try.func100, Try.ntmps100; go_wp2; go_loopg [8] k (fun kq v8 w' => ∃ (x0_1 : List (S102)) (x8_1 : Int), v8 = .int .i64 x8_1 ∧ qac (qaf.l0 kq x0_1 a1 a2 x8_1 = some r) ∧ qac (kq ≤ k) ∧ qac (Kd.R k102 102 w' w0.heap.size (fun k_ => (P0_ k_ ∨ w.heap.size ≤ k_)) u9000_ x0_1) ∧ qac (Kept w w' (fun k_ => P0_ k_)) ∧ qac (Below w0.heap.size w0 w'))
 case atStart => exact ⟨(l0), (wrap64 (a1 + 1)), (by first | rfl | (simp; done) | (simp [*]; done)), H', ⟨Nat.le_refl _⟩, ⟨by (with_reducible repeat (first | apply Kd.qax | apply Kd.qaw | apply Kd.qaA)); exact HO0.out⟩, ⟨by repeat (first | (with_reducible first | exact HK.out | apply Kept.alloc | apply Kept.drewN | apply Kept.drew) | exact HK.out)⟩, ⟨by repeat (first | (with_reducible first | exact HB.out | apply qae | apply qab | apply qad) | exact HB.out)⟩⟩
 case round =>
  clear H'; (try clear c1); (try clear p2); obtain ⟨x0_1, x8_1, rfl, HA, HK1, HO_0, HK, HB⟩ := hrel
  cases gk with
  | zero => exact absurd HA.out (by simp [qaf.l0])
  | succ k1 =>
   have H := HA.out; clear HA; simp only [qaf.l0] at H
   by_cases c5 : x8_1 < a2
   ·rw [if_pos c5] at H; have c5b0 : decide (x8_1 < a2) = true := decide_eq_true c5; clear c5; have H' := qac.mk H; clear H; go_wp2; go_loopg [9] k1 (fun kq v9 w' => ∃ (x0_2 : List (S102)) (x9_2 : Int), v9 = .int .i64 x9_2 ∧ qac (qaf.l1 kq x0_2 a1 a2 x8_1 x9_2 = some r) ∧ qac (kq ≤ k1) ∧ qac (Kd.R k102 102 w' w0.heap.size (fun k_ => (P0_ k_ ∨ w.heap.size ≤ k_)) u9000_ x0_2) ∧ qac (Kept w w' (fun k_ => P0_ k_)) ∧ qac (Below w0.heap.size w0 w'))
    case atStart => exact ⟨(x0_1), (x8_1), (by first | rfl | (simp; done) | (simp [*]; done)), H', ⟨Nat.le_refl _⟩, ⟨by (with_reducible repeat (first | apply Kd.qax | apply Kd.qaw | apply Kd.qaA)); exact HO_0.out⟩, ⟨by repeat (first | (with_reducible first | exact HK.out | apply Kept.alloc | apply Kept.drewN | apply Kept.drew) | exact HK.out)⟩, ⟨by repeat (first | (with_reducible first | exact HB.out | apply qae | apply qab | apply qad) | exact HB.out)⟩⟩
    case round =>
     clear H'; (try clear c1); (try clear p2); (try clear c5); (try clear c5b0); (try clear p2); obtain ⟨x0_2, x9_2, rfl, HA, HK2, HO_0, HK, HB⟩ := hrel
     cases gk with
     | zero => exact absurd HA.out (by simp [qaf.l1])
     | succ k2 =>
      have H := HA.out; clear HA; simp only [qaf.l1] at H
      by_cases c6 : x9_2 > a1
      ·rw [if_pos c6] at H; have c6b0 : decide (a1 < x9_2) = true := decide_eq_true c6; clear c6; by_cases c7 : 0 ≤ x9_2
       ·rw [if_pos c7] at H; have c7b0 : decide (0 ≤ x9_2) = true := decide_eq_true c7; clear c7; by_cases c8 : x9_2 < (x0_2.length : Int)
        ·rw [if_pos c8] at H; have c8b0 : decide (x9_2 < (x0_2.length : Int)) = true := decide_eq_true c8; clear c8; obtain ⟨ji9, hji9⟩ : ∃ j_ : Int, (wrap64 (x9_2 - 1)) = j_ := ⟨_, rfl⟩
         first | rw [hji9] at H | simp only [hji9] at H
         have hji9w : (IntKind.i64.wrap (x9_2 - 1)) = ji9 := (i64_w _).trans hji9
         by_cases c10 : 0 ≤ (ji9)
         ·rw [if_pos c10] at H; have c10b0 : decide (0 ≤ (ji9)) = true := decide_eq_true c10; clear c10; by_cases c11 : (ji9) < (x0_2.length : Int)
          ·rw [if_pos c11] at H; have c11b0 : decide ((ji9) < (x0_2.length : Int)) = true := decide_eq_true c11; clear c11; replace H := Option.bind_eq_some_iff.mp H; obtain ⟨t216, A120, H⟩ := H; replace H : (if t216 < 0 then (qaf.l1 k2 ((x0_2.set (x9_2 : Int).toNat (⟨(qag x0_2 (ji9)).f0, (qag x0_2 (ji9)).f1, (qag x0_2 (ji9)).f2⟩ : S102)).set ((ji9) : Int).toNat (⟨(qag x0_2 x9_2).f0, (qag x0_2 x9_2).f1, (qag x0_2 x9_2).f2⟩ : S102)) a1 a2 x8_1 ji9) else (qaf.l0 k2 x0_2 a1 a2 (wrap64 (x8_1 + 1)))) = some r := H
           have A12 := qac.mk A120
           clear A120; by_cases c13 : t216 < 0
           ·rw [if_pos c13] at H; have c13b0 : decide (t216 < 0) = true := decide_eq_true c13; clear c13; obtain ⟨y219, hy219⟩ : ∃ y_ : List (S102), y_ = (x0_2.set (x9_2 : Int).toNat (⟨(qag x0_2 (ji9)).f0, (qag x0_2 (ji9)).f1, (qag x0_2 (ji9)).f2⟩ : S102)) := ⟨_, rfl⟩
            replace H : (qaf.l1 k2 (y219.set ((ji9) : Int).toNat (⟨(qag x0_2 x9_2).f0, (qag x0_2 x9_2).f1, (qag x0_2 x9_2).f2⟩ : S102)) a1 a2 x8_1 ji9) = some r := by first | (rw [hy219]; with_reducible exact H) | (have H2_ := (Option.bind_some _ _).symm.trans H; rw [hy219]; with_reducible exact H2_) | (have H2_ := (Option.bind_some _ _).symm.trans H; with_reducible exact H2_) | with_reducible exact H | (rw [hy219]; exact H) | exact H
            have Ny219 := qac.mk hy219
            clear hy219; obtain ⟨y220, hy220⟩ : ∃ y_ : List (S102), y_ = (y219.set ((ji9) : Int).toNat (⟨(qag x0_2 x9_2).f0, (qag x0_2 x9_2).f1, (qag x0_2 x9_2).f2⟩ : S102)) := ⟨_, rfl⟩
            replace H : (qaf.l1 k2 y220 a1 a2 x8_1 ji9) = some r := by first | (rw [hy220]; with_reducible exact H) | (have H2_ := (Option.bind_some _ _).symm.trans H; rw [hy220]; with_reducible exact H2_) | (have H2_ := (Option.bind_some _ _).symm.trans H; with_reducible exact H2_) | with_reducible exact H | (rw [hy220]; exact H) | exact H
            have Ny220 := qac.mk hy220
            clear hy220; have H' := qac.mk H; clear H; try go_wp2
            have n0_ := qac.mk (Kd.qaA HO_0.out)
            have n1_ := qac.mk (Kept.drew HK.out)
            have n2_ := qac.mk (qad HB.out)
            clear HO_0; clear HK; clear HB; have HO_0 := n0_; have HK := n1_; have HB := n2_; clear n0_ n1_ n2_; obtain ⟨Ao17, co17, eo17⟩ := Kd.qbc HO_0.out
            (first | subst eo17 | (injection eo17 with f1_ f2_ f3_; have f4_ := f1_.symm; have f5_ := f3_.symm; clear f1_ f2_ f3_; subst f4_; subst f5_))
            have p214 : 0 ≤ (x9_2 : Int) := of_decide_eq_true (by first | (with_reducible assumption) | assumption)
            have q214 : x9_2 < (x0_2.length : Int) := of_decide_eq_true (by first | (with_reducible assumption) | assumption)
            obtain ⟨ad214, e214, hx214_0, hx214_1, hx214_2⟩ := qbm (Kd.qaN HO_0.out).2.2 x9_2 p214 q214
            cases e214
            replace p214 := eq_true p214; replace q214 := eq_true q214; have p215 : 0 ≤ ((ji9) : Int) := of_decide_eq_true (by first | (with_reducible assumption) | assumption)
            have q215 : (ji9) < (x0_2.length : Int) := of_decide_eq_true (by first | (with_reducible assumption) | assumption)
            obtain ⟨ad215, e215, hx215_0, hx215_1, hx215_2⟩ := qbm (Kd.qaN HO_0.out).2.2 (ji9) p215 q215
            obtain rfl : ad214 = ad215 := (by injection e215)
            replace p215 := eq_true p215; replace q215 := eq_true q215; refine qbD (n := 17) (S := fun w' => w'.cell? (ad214.add ((x9_2).toNat * 3)) = some (.int .i64 ((qag x0_2 x9_2).f0)) ∧ w'.cell? ⟨(ad214.add ((x9_2).toNat * 3)).block, (ad214.add ((x9_2).toNat * 3)).off + 1, none⟩ = some (.int .i64 ((qag x0_2 x9_2).f1)) ∧ w'.cell? ⟨(ad214.add ((x9_2).toNat * 3)).block, (ad214.add ((x9_2).toNat * 3)).off + 2, none⟩ = some (.int .i64 ((qag x0_2 x9_2).f2)) ∧ w'.cell? (ad214.add (((ji9)).toNat * 3)) = some (.int .i64 ((qag x0_2 (ji9)).f0)) ∧ w'.cell? ⟨(ad214.add (((ji9)).toNat * 3)).block, (ad214.add (((ji9)).toNat * 3)).off + 1, none⟩ = some (.int .i64 ((qag x0_2 (ji9)).f1)) ∧ w'.cell? ⟨(ad214.add (((ji9)).toNat * 3)).block, (ad214.add (((ji9)).toNat * 3)).off + 2, none⟩ = some (.int .i64 ((qag x0_2 (ji9)).f2))) (ds := []) #[qF,qF,qF,qF,qF,qF,qF,qF,qF,qF,qF,qF,qF,qF,qF,qF,qF] (by kernel_rfl) rfl rfl ⟨hx214_0, hx214_1, hx214_2, hx215_0, hx215_1, hx215_2⟩ (fun hHeld => ?_); refine qbj qaf.tab4 qaf.bits4 (fun HT_ HW_ => ?_)
            generalize wr.drew = w16 at HO_0 HK HB hx214_0 hx214_1 hx214_2 hx215_0 hx215_1 hx215_2 hHeld ⊢
            refine qP 0 (some 18) ?_ #[qT,qF,qF,qF,qF,qF,qF,qF,qF,qF,qF,qF,qF,qF,qF,qF,qF] HT_.out rfl rfl (by kernel_rfl) (fun _ _ _ h => h) (Or.inl ⟨by rfl, ?_⟩) ?_ ?_ ?_; rotate_left; ·intro w'; go_simp; with_reducible rfl
            rotate_left; ·simp only [Act.put, qy1, qy2, qy3, i64_w, i32_w]; rfl
            refine qP 1 (some 19) ?_ #[qT,qT,qF,qF,qF,qF,qF,qF,qF,qF,qF,qF,qF,qF,qF,qF,qF] HT_.out rfl rfl (by kernel_rfl) (fun _ _ _ h => h) (Or.inl ⟨by rfl, ?_⟩) ?_ ?_ ?_; rotate_left; ·intro w'; go_simp; with_reducible rfl
            rotate_left; ·simp only [Act.put, qy1, qy2, qy3, i64_w, i32_w]; rfl
            refine qP 2 (some 20) ?_ #[qT,qT,qT,qF,qF,qF,qF,qF,qF,qF,qF,qF,qF,qF,qF,qF,qF] HT_.out rfl rfl (by kernel_rfl) (fun _ _ _ h => h) (Or.inl ⟨by rfl, ?_⟩) ?_ ?_ ?_; rotate_left; ·intro w'; go_simp; with_reducible rfl
            rotate_left; ·simp only [Act.put, qy1, qy2, qy3, i64_w, i32_w]; rfl
            refine qP 3 (some 21) ?_ #[qT,qT,qT,qT,qF,qF,qF,qF,qF,qF,qF,qF,qF,qF,qF,qF,qF] HT_.out rfl rfl (by kernel_rfl) (fun _ _ _ h => h) (Or.inl ⟨by rfl, ?_⟩) ?_ ?_ ?_; rotate_left; ·intro w'; go_simp; with_reducible rfl
            rotate_left; ·simp only [Act.put, qy1, qy2, qy3, i64_w, i32_w]; rfl
            refine qP 4 (some 22) ?_ #[qT,qT,qT,qT,qT,qF,qF,qF,qF,qF,qF,qF,qF,qF,qF,qF,qF] HT_.out rfl rfl (by kernel_rfl) (fun _ _ _ h => h) (Or.inl ⟨by rfl, ?_⟩) ?_ ?_ ?_; rotate_left; ·intro w'; go_simp; with_reducible rfl
            rotate_left; ·simp only [Act.put, qy1, qy2, qy3, i64_w, i32_w]; rfl
            refine qP 5 (some 23) ?_ #[qT,qT,qT,qT,qT,qT,qF,qF,qF,qF,qF,qF,qF,qF,qF,qF,qF] HT_.out rfl rfl (by kernel_rfl) (fun _ _ _ h => h) (Or.inl ⟨by rfl, ?_⟩) ?_ ?_ ?_; rotate_left; ·intro w'; go_simp; with_reducible rfl
            rotate_left; ·simp only [Act.put, qy1, qy2, qy3, i64_w, i32_w]; rfl
            refine qP 6 (some 24) ?_ #[qT,qT,qT,qT,qT,qT,qT,qF,qF,qF,qF,qF,qF,qF,qF,qF,qF] HT_.out rfl rfl (by kernel_rfl) (fun _ _ _ h => h) (Or.inl ⟨by rfl, ?_⟩) ?_ ?_ ?_; rotate_left; ·intro w'; go_simp; with_reducible rfl
            rotate_left; ·simp only [Act.put, qy1, qy2, qy3, i64_w, i32_w]; rfl
            refine qP 7 (some 25) ?_ #[qT,qT,qT,qT,qT,qT,qT,qT,qF,qF,qF,qF,qF,qF,qF,qF,qF] HT_.out rfl rfl (by kernel_rfl) (fun _ _ _ h => h) (Or.inl ⟨by rfl, ?_⟩) ?_ ?_ ?_; rotate_left; ·intro w'; go_simp; with_reducible rfl
            rotate_left; ·simp only [Act.put, qy1, qy2, qy3, i64_w, i32_w]; rfl
            refine qP 9 (some 27) ?_ #[qT,qT,qT,qT,qT,qT,qT,qT,qF,qT,qF,qF,qF,qF,qF,qF,qF] HT_.out rfl rfl (by kernel_rfl) (fun _ _ _ h => h) (Or.inl ⟨by rfl, ?_⟩) ?_ ?_ ?_; rotate_left; ·intro w'; go_simp; with_reducible rfl
            rotate_left; ·simp only [Act.put, qy1, qy2, qy3, i64_w, i32_w]; rfl
            refine qP 10 (some 28) ?_ #[qT,qT,qT,qT,qT,qT,qT,qT,qF,qT,qT,qF,qF,qF,qF,qF,qF] HT_.out rfl rfl (by kernel_rfl) (fun _ _ _ h => h) (Or.inl ⟨by rfl, ?_⟩) ?_ ?_ ?_; rotate_left; ·intro w'; go_simp; with_reducible rfl
            rotate_left; ·simp only [Act.put, qy1, qy2, qy3, i64_w, i32_w]; rfl
            refine qP 11 (some 29) ?_ #[qT,qT,qT,qT,qT,qT,qT,qT,qF,qT,qT,qT,qF,qF,qF,qF,qF] HT_.out rfl rfl (by kernel_rfl) (fun _ _ _ h => h) (Or.inl ⟨by rfl, ?_⟩) ?_ ?_ ?_; rotate_left; ·intro w'; go_simp; with_reducible rfl
            rotate_left; ·simp only [Act.put, qy1, qy2, qy3, i64_w, i32_w]; rfl
            refine qP 12 (some 30) ?_ #[qT,qT,qT,qT,qT,qT,qT,qT,qF,qT,qT,qT,qT,qF,qF,qF,qF] HT_.out rfl rfl (by kernel_rfl) (fun _ _ _ h => h) (Or.inl ⟨by rfl, ?_⟩) ?_ ?_ ?_; rotate_left; ·intro w'; go_simp; with_reducible rfl
            rotate_left; ·simp only [Act.put, qy1, qy2, qy3, i64_w, i32_w]; rfl
            refine take_ (i := 8) (N := some 26) (v := ?_) (a' := ?_) #[qT,qT,qT,qT,qT,qT,qT,qT,qT,qT,qT,qT,qT,qF,qF,qF,qF] rfl rfl (qaT HT_.out HW_.out (by kernel_rfl)) (fun _ _ _ h => h) (Or.inl ⟨by rfl, ?_⟩) hHeld ?_ ?_; rotate_left; ·rintro w' ⟨s0, s1, s2, s3, s4, s5⟩; go_simp; with_reducible rfl
            rotate_left; ·simp only [Act.put, qy1, qy2, qy3, i64_w, i32_w]; rfl
            refine take_ (i := 13) (N := some 31) (v := ?_) (a' := ?_) #[qT,qT,qT,qT,qT,qT,qT,qT,qT,qT,qT,qT,qT,qT,qF,qF,qF] rfl rfl (qaT HT_.out HW_.out (by kernel_rfl)) (fun _ _ _ h => h) (Or.inl ⟨by rfl, ?_⟩) hHeld ?_ ?_; rotate_left; ·rintro w' ⟨s0, s1, s2, s3, s4, s5⟩; go_simp; with_reducible rfl
            rotate_left; ·simp only [Act.put, qy1, qy2, qy3, i64_w, i32_w]; rfl
            refine one_ (i := 14) (N := some 32) #[qT,qT,qT,qT,qT,qT,qT,qT,qT,qT,qT,qT,qT,qT,qT,qF,qF] rfl rfl (qbH HT_.out (by kernel_rfl)) (by decide) (fun K hK => ?_)
            refine goesV_ Try.func75 (by kernel_rfl) rfl #[.agg #[.int .i64 ((qag x0_2 x9_2).f0), .int .i64 ((qag x0_2 x9_2).f1), .int .i64 ((qag x0_2 x9_2).f2)], .agg #[.int .i64 ((qag x0_2 (ji9)).f0), .int .i64 ((qag x0_2 (ji9)).f1), .int .i64 ((qag x0_2 (ji9)).f2)]] (by rfl) rfl rfl rfl (by (try simp only [qy6, qy7, qy8]); first | done | (simp only [hji9]; rfl) | rfl | (simp only [List.length_drop, List.length_take]; rfl)) ?_
            with_reducible refine (qaC.calls k2 ((qag x0_2 x9_2).f0) ((qag x0_2 x9_2).f1) ((qag x0_2 x9_2).f2) ((qag x0_2 (ji9)).f0) ((qag x0_2 (ji9)).f1) ((qag x0_2 (ji9)).f2) t216 _ A12.out).mono ?_
            rintro e w18 ⟨rfl, hb⟩
            have HS0_ := (hb.cell (World.block_lt_of_cell? _ _ (hHeld.1))).trans (hHeld.1)
            have HS1_ := (hb.cell (World.block_lt_of_cell? _ _ (hHeld.2.1))).trans (hHeld.2.1)
            have HS2_ := (hb.cell (World.block_lt_of_cell? _ _ (hHeld.2.2.1))).trans (hHeld.2.2.1)
            have HS3_ := (hb.cell (World.block_lt_of_cell? _ _ (hHeld.2.2.2.1))).trans (hHeld.2.2.2.1)
            have HS4_ := (hb.cell (World.block_lt_of_cell? _ _ (hHeld.2.2.2.2.1))).trans (hHeld.2.2.2.2.1)
            have HS5_ := (hb.cell (World.block_lt_of_cell? _ _ (hHeld.2.2.2.2.2))).trans (hHeld.2.2.2.2.2)
            refine ⟨_, rfl, ?_⟩
            have n0_ := qac.mk (Kd.qa8 (by (with_reducible repeat (first | apply Kd.qax | apply Kd.qaw | apply Kd.qaA)); exact HO_0.out) hb)
            have n1_ := qac.mk (Kept.below (S := (fun k_ => P0_ k_)) (by repeat (first | (with_reducible first | exact HK.out | apply Kept.alloc | apply Kept.drewN | apply Kept.drew) | exact HK.out)) hb)
            have n2_ := qac.mk (qaB (by repeat (first | (with_reducible first | exact HB.out | apply qae | apply qab | apply qad) | exact HB.out)) hb)
            clear HO_0; clear HK; clear HB; have HO_0 := n0_; have HK := n1_; have HB := n2_; clear n0_ n1_ n2_; (try clear hb); (try clear hb2); (try clear hk); (try clear hi); refine hK.out _ _ ⟨HS0_, HS1_, HS2_, HS3_, HS4_, HS5_⟩ (fun hHeld => ?_)
            clear hK K; refine norm_ (a' := ?_) ?_ ?_; rotate_left
            ·show Act.put _ (some 32) _ = _
             simp only [Act.put, qy1, qy2, qy3, i64_w, i32_w]
             rfl
            refine qP 15 (some 33) ?_ #[qT,qT,qT,qT,qT,qT,qT,qT,qT,qT,qT,qT,qT,qT,qT,qT,qF] HT_.out rfl rfl (by kernel_rfl) (fun _ _ _ h => h) (Or.inl ⟨by rfl, ?_⟩) ?_ ?_ ?_; rotate_left; ·intro w'; go_simp; with_reducible rfl
            rotate_left; ·simp only [Act.put, qy1, qy2, qy3, i64_w, i32_w]; rfl
            refine qP 16 (some 34) ?_ #[qT,qT,qT,qT,qT,qT,qT,qT,qT,qT,qT,qT,qT,qT,qT,qT,qT] HT_.out rfl rfl (by kernel_rfl) (fun _ _ _ h => h) (Or.inl ⟨by rfl, ?_⟩) ?_ ?_ ?_; rotate_left; ·intro w'; go_simp; with_reducible rfl
            rotate_left; ·simp only [Act.put, qy1, qy2, qy3, i64_w, i32_w]; rfl
            refine done_ (qby HT_.out (by kernel_rfl)) ?_
            try go_wp2
            have n0_ := qac.mk (Kd.qaA HO_0.out)
            have n1_ := qac.mk (Kept.drew HK.out)
            have n2_ := qac.mk (qad HB.out)
            clear HO_0; clear HK; clear HB; have HO_0 := n0_; have HK := n1_; have HB := n2_; clear n0_ n1_ n2_; have p217 : 0 ≤ ((ji9) : Int) := of_decide_eq_true (by first | (with_reducible assumption) | assumption)
            have q217 : (ji9) < (x0_2.length : Int) := of_decide_eq_true (by first | (with_reducible assumption) | assumption)
            obtain ⟨ad217, e217, hx217_0, hx217_1, hx217_2⟩ := qbm (Kd.qaN HO_0.out).2.2 (ji9) p217 q217
            obtain rfl : ad214 = ad217 := (by injection e217)
            replace p217 := eq_true p217; replace q217 := eq_true q217; have p218 : 0 ≤ (x9_2 : Int) := of_decide_eq_true (by first | (with_reducible assumption) | assumption)
            have q218 : x9_2 < (x0_2.length : Int) := of_decide_eq_true (by first | (with_reducible assumption) | assumption)
            obtain ⟨ad218, e218, hx218_0, hx218_1, hx218_2⟩ := qbm (Kd.qaN HO_0.out).2.2 x9_2 p218 q218
            obtain rfl : ad214 = ad218 := (by injection e218)
            replace p218 := eq_true p218; replace q218 := eq_true q218; have p14 : 0 ≤ (x9_2 : Int) := of_decide_eq_true (by first | (with_reducible assumption) | assumption)
            have q14 : (x9_2 : Int) < ((x0_2.length : Int) : Int) := of_decide_eq_true (by first | (with_reducible assumption) | assumption)
            obtain ⟨go14, co14, eo14, gb14, gl14, cl14, HG14⟩ := Kd.R_form HO_0.out (by omega)
            (first | cases eo14 | (injection eo14 with ea_ en_ ec_; (first | subst ea_ | (injection ea_ with ea_; subst ea_)); subst ec_; clear en_))
            have GB14 := qac.mk gb14
            have GG14 := qac.mk HG14
            clear gb14 gl14 HG14; have HMgo14 := qac.mk (show (P0_ go14 ∨ w.heap.size ≤ go14) from (HO_0.out.1 _ rfl))
            (first | simp only [add_plain] at hx214_0 | skip)
            (first | simp only [add_plain] at hx214_1 | skip)
            (first | simp only [add_plain] at hx214_2 | skip)
            (first | simp only [add_plain] at hx215_0 | skip)
            (first | simp only [add_plain] at hx215_1 | skip)
            (first | simp only [add_plain] at hx215_2 | skip)
            (first | simp only [add_plain] at hx217_0 | skip)
            (first | simp only [add_plain] at hx217_1 | skip)
            (first | simp only [add_plain] at hx217_2 | skip)
            (first | simp only [add_plain] at hx218_0 | skip)
            (first | simp only [add_plain] at hx218_1 | skip)
            (first | simp only [add_plain] at hx218_2 | skip)
            obtain ⟨ce14, hcl14, hM14, hcc14, hfr14⟩ := Kd.R_elem HO_0.out z102 (x9_2 : Int) p14 q14
            obtain rfl := qbx hM14
            have hx14_0 : World.cell? _ ⟨go14, (x9_2 : Int).toNat * 3, none⟩ = some (.int .i64 ((qag x0_2 x9_2).f0)) := hcc14 0 _ rfl
            have hx14_1 : World.cell? _ ⟨go14, (x9_2 : Int).toNat * 3 + 1, none⟩ = some (.int .i64 ((qag x0_2 x9_2).f1)) := hcc14 1 _ rfl
            have hx14_2 : World.cell? _ ⟨go14, (x9_2 : Int).toNat * 3 + 2, none⟩ = some (.int .i64 ((qag x0_2 x9_2).f2)) := hcc14 2 _ rfl
            have hf14_0 : World.frozen? _ ⟨go14, (x9_2 : Int).toNat * 3, none⟩ = false := hfr14 0
            have hf14_1 : World.frozen? _ ⟨go14, (x9_2 : Int).toNat * 3 + 1, none⟩ = false := hfr14 1
            have hf14_2 : World.frozen? _ ⟨go14, (x9_2 : Int).toNat * 3 + 2, none⟩ = false := hfr14 2
            clear hcl14 hcc14 hfr14 hM14; replace p14 := eq_true p14; replace q14 := eq_true q14; obtain ⟨ce20, hcl20, hM20, hcc20, hfr20⟩ := Kd.R_elem HO_0.out z102 (x9_2 : Int) (of_decide_eq_true (by first | (with_reducible assumption) | assumption)) (by have h_ : (x9_2 : Int) < ((x0_2.length : Int) : Int) := of_decide_eq_true (by first | (with_reducible assumption) | assumption); first | exact h_ | (have e_ := (Kd.qaN HO_0.out).1; omega) | simpa using h_)
            obtain rfl := qbx hM20
            have HP20 := (Kd.R_seg HO_0.out (x9_2 : Int) (of_decide_eq_true (by first | (with_reducible assumption) | assumption)) (by have h_ : (x9_2 : Int) < ((x0_2.length : Int) : Int) := of_decide_eq_true (by first | (with_reducible assumption) | assumption); first | exact h_ | (have e_ := (Kd.qaN HO_0.out).1; omega) | simpa using h_) (seg := [.int .i64 ((qag x0_2 (ji9)).f0), .int .i64 ((qag x0_2 (ji9)).f1), .int .i64 ((qag x0_2 (ji9)).f2)]) (j := 0) hcl20 hcc20 (show 3 ≤ 3 from by decide) (x' := (⟨(qag x0_2 (ji9)).f0, (qag x0_2 (ji9)).f1, (qag x0_2 (ji9)).f2⟩ : S102)) (qbQ _ _ _ (⟨(qag x0_2 (ji9)).f0, (qag x0_2 (ji9)).f1, (qag x0_2 (ji9)).f2⟩ : S102) ) (fun _ hk => hk)).1
            rw [← Ny219.out] at HP20; have HQ20 := qac.mk HP20
            clear hcl20 hcc20 hfr20 hM20 HP20; have p15 : 0 ≤ ((ji9) : Int) := of_decide_eq_true (by first | (with_reducible assumption) | assumption)
            have q15 : ((ji9) : Int) < ((x0_2.length : Int) : Int) := of_decide_eq_true (by first | (with_reducible assumption) | assumption)
            obtain ⟨ce15, hcl15, hM15, hcc15, hfr15⟩ := Kd.R_elem HQ20.out z102 ((ji9) : Int) p15 q15
            obtain rfl := qbx hM15
            have hx15_0 : World.cell? _ ⟨go14, ((ji9) : Int).toNat * 3, none⟩ = some (.int .i64 ((qag y219 (ji9)).f0)) := hcc15 0 _ rfl
            have hx15_1 : World.cell? _ ⟨go14, ((ji9) : Int).toNat * 3 + 1, none⟩ = some (.int .i64 ((qag y219 (ji9)).f1)) := hcc15 1 _ rfl
            have hx15_2 : World.cell? _ ⟨go14, ((ji9) : Int).toNat * 3 + 2, none⟩ = some (.int .i64 ((qag y219 (ji9)).f2)) := hcc15 2 _ rfl
            have hf15_0 : World.frozen? _ ⟨go14, ((ji9) : Int).toNat * 3, none⟩ = false := hfr15 0
            have hf15_1 : World.frozen? _ ⟨go14, ((ji9) : Int).toNat * 3 + 1, none⟩ = false := hfr15 1
            have hf15_2 : World.frozen? _ ⟨go14, ((ji9) : Int).toNat * 3 + 2, none⟩ = false := hfr15 2
            clear hcl15 hcc15 hfr15 hM15; replace p15 := eq_true p15; replace q15 := eq_true q15; obtain ⟨ce21, hcl21, hM21, hcc21, hfr21⟩ := Kd.R_elem HQ20.out z102 ((ji9) : Int) (of_decide_eq_true (by first | (with_reducible assumption) | assumption)) (by have h_ : ((ji9) : Int) < ((x0_2.length : Int) : Int) := of_decide_eq_true (by first | (with_reducible assumption) | assumption); first | exact h_ | (have e_ := (Kd.qaN HO_0.out).1; omega) | simpa using h_)
            obtain rfl := qbx hM21
            have HP21 := (Kd.R_seg HQ20.out ((ji9) : Int) (of_decide_eq_true (by first | (with_reducible assumption) | assumption)) (by have h_ : ((ji9) : Int) < ((x0_2.length : Int) : Int) := of_decide_eq_true (by first | (with_reducible assumption) | assumption); first | exact h_ | (have e_ := (Kd.qaN HO_0.out).1; omega) | simpa using h_) (seg := [.int .i64 ((qag x0_2 x9_2).f0), .int .i64 ((qag x0_2 x9_2).f1), .int .i64 ((qag x0_2 x9_2).f2)]) (j := 0) hcl21 hcc21 (show 3 ≤ 3 from by decide) (x' := (⟨(qag x0_2 x9_2).f0, (qag x0_2 x9_2).f1, (qag x0_2 x9_2).f2⟩ : S102)) (qbQ _ _ _ (⟨(qag x0_2 x9_2).f0, (qag x0_2 x9_2).f1, (qag x0_2 x9_2).f2⟩ : S102) ) (fun _ hk => hk)).1
            rw [← Ny220.out] at HP21; have HQ21 := qac.mk HP21
            clear hcl21 hcc21 hfr21 hM21 HP21; refine qbD (n := 18) (S := fun w' => w'.cell? ⟨go14, (((ji9)).toNat * 3), none⟩ = some (.int .i64 ((qag x0_2 (ji9)).f0)) ∧ w'.cell? ⟨go14, (((ji9)).toNat * 3) + 1, none⟩ = some (.int .i64 ((qag x0_2 (ji9)).f1)) ∧ w'.cell? ⟨go14, (((ji9)).toNat * 3) + 2, none⟩ = some (.int .i64 ((qag x0_2 (ji9)).f2)) ∧ w'.cell? ⟨go14, ((x9_2).toNat * 3), none⟩ = some (.int .i64 ((qag x0_2 x9_2).f0)) ∧ w'.cell? ⟨go14, ((x9_2).toNat * 3) + 1, none⟩ = some (.int .i64 ((qag x0_2 x9_2).f1)) ∧ w'.cell? ⟨go14, ((x9_2).toNat * 3) + 2, none⟩ = some (.int .i64 ((qag x0_2 x9_2).f2))) (ds := [15, 17]) #[qF,qF,qF,qF,qF,qF,qF,qF,qF,qF,qF,qF,qF,qF,qF,qF,qF,qF] (by kernel_rfl) rfl rfl ⟨hx217_0, hx217_1, hx217_2, hx218_0, hx218_1, hx218_2⟩ (fun hHeld => ?_); refine qbj qaf.tab6 qaf.bits6 (fun HT_ HW_ => ?_)
            generalize w18.drew = w19 at HO_0 HK HB GG14 HQ20 HQ21 hf14_0 hf14_1 hf14_2 hf15_0 hf15_1 hf15_2 hx14_0 hx14_1 hx14_2 hx15_0 hx15_1 hx15_2 hx214_0 hx214_1 hx214_2 hx215_0 hx215_1 hx215_2 hx217_0 hx217_1 hx217_2 hx218_0 hx218_1 hx218_2 hHeld ⊢
            refine qP 0 (some 37) ?_ #[qT,qF,qF,qF,qF,qF,qF,qF,qF,qF,qF,qF,qF,qF,qF,qF,qF,qF] HT_.out rfl rfl (by kernel_rfl) (fun _ _ _ h => h) (Or.inl ⟨by rfl, ?_⟩) ?_ ?_ ?_; rotate_left; ·intro w'; go_simp; with_reducible rfl
            rotate_left; ·simp only [Act.put, qy1, qy2, qy3, i64_w, i32_w]; rfl
            refine qP 1 (some 38) ?_ #[qT,qT,qF,qF,qF,qF,qF,qF,qF,qF,qF,qF,qF,qF,qF,qF,qF,qF] HT_.out rfl rfl (by kernel_rfl) (fun _ _ _ h => h) (Or.inl ⟨by rfl, ?_⟩) ?_ ?_ ?_; rotate_left; ·intro w'; go_simp; with_reducible rfl
            rotate_left; ·simp only [Act.put, qy1, qy2, qy3, i64_w, i32_w]; rfl
            refine qP 2 (some 39) ?_ #[qT,qT,qT,qF,qF,qF,qF,qF,qF,qF,qF,qF,qF,qF,qF,qF,qF,qF] HT_.out rfl rfl (by kernel_rfl) (fun _ _ _ h => h) (Or.inl ⟨by rfl, ?_⟩) ?_ ?_ ?_; rotate_left; ·intro w'; go_simp; with_reducible rfl
            rotate_left; ·simp only [Act.put, qy1, qy2, qy3, i64_w, i32_w]; rfl
            refine qP 3 (some 40) ?_ #[qT,qT,qT,qT,qF,qF,qF,qF,qF,qF,qF,qF,qF,qF,qF,qF,qF,qF] HT_.out rfl rfl (by kernel_rfl) (fun _ _ _ h => h) (Or.inl ⟨by rfl, ?_⟩) ?_ ?_ ?_; rotate_left; ·intro w'; go_simp; with_reducible rfl
            rotate_left; ·simp only [Act.put, qy1, qy2, qy3, i64_w, i32_w]; rfl
            refine qP 4 (some 41) ?_ #[qT,qT,qT,qT,qT,qF,qF,qF,qF,qF,qF,qF,qF,qF,qF,qF,qF,qF] HT_.out rfl rfl (by kernel_rfl) (fun _ _ _ h => h) (Or.inl ⟨by rfl, ?_⟩) ?_ ?_ ?_; rotate_left; ·intro w'; go_simp; with_reducible rfl
            rotate_left; ·simp only [Act.put, qy1, qy2, qy3, i64_w, i32_w]; rfl
            refine qP 5 (some 42) ?_ #[qT,qT,qT,qT,qT,qT,qF,qF,qF,qF,qF,qF,qF,qF,qF,qF,qF,qF] HT_.out rfl rfl (by kernel_rfl) (fun _ _ _ h => h) (Or.inl ⟨by rfl, ?_⟩) ?_ ?_ ?_; rotate_left; ·intro w'; go_simp; with_reducible rfl
            rotate_left; ·simp only [Act.put, qy1, qy2, qy3, i64_w, i32_w]; rfl
            refine qP 6 (some 43) ?_ #[qT,qT,qT,qT,qT,qT,qT,qF,qF,qF,qF,qF,qF,qF,qF,qF,qF,qF] HT_.out rfl rfl (by kernel_rfl) (fun _ _ _ h => h) (Or.inl ⟨by rfl, ?_⟩) ?_ ?_ ?_; rotate_left; ·intro w'; go_simp; with_reducible rfl
            rotate_left; ·simp only [Act.put, qy1, qy2, qy3, i64_w, i32_w]; rfl
            refine qP 7 (some 44) ?_ #[qT,qT,qT,qT,qT,qT,qT,qT,qF,qF,qF,qF,qF,qF,qF,qF,qF,qF] HT_.out rfl rfl (by kernel_rfl) (fun _ _ _ h => h) (Or.inl ⟨by rfl, ?_⟩) ?_ ?_ ?_; rotate_left; ·intro w'; go_simp; with_reducible rfl
            rotate_left; ·simp only [Act.put, qy1, qy2, qy3, i64_w, i32_w]; rfl
            refine qP 8 (some 45) ?_ #[qT,qT,qT,qT,qT,qT,qT,qT,qT,qF,qF,qF,qF,qF,qF,qF,qF,qF] HT_.out rfl rfl (by kernel_rfl) (fun _ _ _ h => h) (Or.inl ⟨by rfl, ?_⟩) ?_ ?_ ?_; rotate_left; ·intro w'; go_simp; with_reducible rfl
            rotate_left; ·simp only [Act.put, qy1, qy2, qy3, i64_w, i32_w]; rfl
            refine qP 10 (some 47) ?_ #[qT,qT,qT,qT,qT,qT,qT,qT,qT,qF,qT,qF,qF,qF,qF,qF,qF,qF] HT_.out rfl rfl (by kernel_rfl) (fun _ _ _ h => h) (Or.inl ⟨by rfl, ?_⟩) ?_ ?_ ?_; rotate_left; ·intro w'; go_simp; with_reducible rfl
            rotate_left; ·simp only [Act.put, qy1, qy2, qy3, i64_w, i32_w]; rfl
            refine qP 11 (some 48) ?_ #[qT,qT,qT,qT,qT,qT,qT,qT,qT,qF,qT,qT,qF,qF,qF,qF,qF,qF] HT_.out rfl rfl (by kernel_rfl) (fun _ _ _ h => h) (Or.inl ⟨by rfl, ?_⟩) ?_ ?_ ?_; rotate_left; ·intro w'; go_simp; with_reducible rfl
            rotate_left; ·simp only [Act.put, qy1, qy2, qy3, i64_w, i32_w]; rfl
            refine qP 12 (some 49) ?_ #[qT,qT,qT,qT,qT,qT,qT,qT,qT,qF,qT,qT,qT,qF,qF,qF,qF,qF] HT_.out rfl rfl (by kernel_rfl) (fun _ _ _ h => h) (Or.inl ⟨by rfl, ?_⟩) ?_ ?_ ?_; rotate_left; ·intro w'; go_simp; with_reducible rfl
            rotate_left; ·simp only [Act.put, qy1, qy2, qy3, i64_w, i32_w]; rfl
            refine take_ (i := 9) (N := some 46) (v := ?_) (a' := ?_) #[qT,qT,qT,qT,qT,qT,qT,qT,qT,qT,qT,qT,qT,qF,qF,qF,qF,qF] rfl rfl (qaT HT_.out HW_.out (by kernel_rfl)) (fun _ _ _ h => h) (Or.inl ⟨by rfl, ?_⟩) hHeld ?_ ?_; rotate_left; ·rintro w' ⟨s0, s1, s2, s3, s4, s5⟩; go_simp; with_reducible rfl
            rotate_left; ·simp only [Act.put, qy1, qy2, qy3, i64_w, i32_w]; rfl
            refine take_ (i := 13) (N := some 50) (v := ?_) (a' := ?_) #[qT,qT,qT,qT,qT,qT,qT,qT,qT,qT,qT,qT,qT,qT,qF,qF,qF,qF] rfl rfl (qaT HT_.out HW_.out (by kernel_rfl)) (fun _ _ _ h => h) (Or.inl ⟨by rfl, ?_⟩) hHeld ?_ ?_; rotate_left; ·rintro w' ⟨s0, s1, s2, s3, s4, s5⟩; go_simp; with_reducible rfl
            rotate_left; ·simp only [Act.put, qy1, qy2, qy3, i64_w, i32_w]; rfl
            refine qP 14 (some 51) ?_ #[qT,qT,qT,qT,qT,qT,qT,qT,qT,qT,qT,qT,qT,qT,qT,qF,qF,qF] HT_.out rfl rfl (by kernel_rfl) (fun _ _ _ h => h) (Or.inl ⟨by rfl, ?_⟩) ?_ ?_ ?_; rotate_left; ·intro w'; go_simp; with_reducible rfl
            rotate_left; ·simp only [Act.put, qy1, qy2, qy3, i64_w, i32_w]; rfl
            refine last_ (i := 15) (N := none) #[qT,qT,qT,qT,qT,qT,qT,qT,qT,qT,qT,qT,qT,qT,qT,qT,qF,qF] rfl rfl (qbH HT_.out (by kernel_rfl)) (by decide) (fun K hK => ?_)
            refine skip_ (w1 := ?_) (by rfl) rfl ?_ ?_
            rotate_left
            ·first | (go_simp; rfl) | ((try simp only [World.setCells, show k102.sz = 3 from rfl, Nat.add_zero] at hf14_0); (try simp only [World.setCells, show k102.sz = 3 from rfl, Nat.add_zero] at hf14_1); (try simp only [World.setCells, show k102.sz = 3 from rfl, Nat.add_zero] at hf14_2); (try simp only [World.setCells, show k102.sz = 3 from rfl, Nat.add_zero] at hf15_0); (try simp only [World.setCells, show k102.sz = 3 from rfl, Nat.add_zero] at hf15_1); (try simp only [World.setCells, show k102.sz = 3 from rfl, Nat.add_zero] at hf15_2); (try simp only [World.setCells, show k102.sz = 3 from rfl, Nat.add_zero] at hx14_0); (try simp only [World.setCells, show k102.sz = 3 from rfl, Nat.add_zero] at hx14_1); (try simp only [World.setCells, show k102.sz = 3 from rfl, Nat.add_zero] at hx14_2); (try simp only [World.setCells, show k102.sz = 3 from rfl, Nat.add_zero] at hx15_0); (try simp only [World.setCells, show k102.sz = 3 from rfl, Nat.add_zero] at hx15_1); (try simp only [World.setCells, show k102.sz = 3 from rfl, Nat.add_zero] at hx15_2); (try simp only [World.setCells, show k102.sz = 3 from rfl, Nat.add_zero] at hx214_0); (try simp only [World.setCells, show k102.sz = 3 from rfl, Nat.add_zero] at hx214_1); (try simp only [World.setCells, show k102.sz = 3 from rfl, Nat.add_zero] at hx214_2); (try simp only [World.setCells, show k102.sz = 3 from rfl, Nat.add_zero] at hx215_0); (try simp only [World.setCells, show k102.sz = 3 from rfl, Nat.add_zero] at hx215_1); (try simp only [World.setCells, show k102.sz = 3 from rfl, Nat.add_zero] at hx215_2); (try simp only [World.setCells, show k102.sz = 3 from rfl, Nat.add_zero] at hx217_0); (try simp only [World.setCells, show k102.sz = 3 from rfl, Nat.add_zero] at hx217_1); (try simp only [World.setCells, show k102.sz = 3 from rfl, Nat.add_zero] at hx217_2); (try simp only [World.setCells, show k102.sz = 3 from rfl, Nat.add_zero] at hx218_0); (try simp only [World.setCells, show k102.sz = 3 from rfl, Nat.add_zero] at hx218_1); (try simp only [World.setCells, show k102.sz = 3 from rfl, Nat.add_zero] at hx218_2); (try simp [go_sem] at hf14_0); (try simp [go_sem] at hf14_1); (try simp [go_sem] at hf14_2); (try simp [go_sem] at hf15_0); (try simp [go_sem] at hf15_1); (try simp [go_sem] at hf15_2); (try simp [go_sem] at hx14_0); (try simp [go_sem] at hx14_1); (try simp [go_sem] at hx14_2); (try simp [go_sem] at hx15_0); (try simp [go_sem] at hx15_1); (try simp [go_sem] at hx15_2); (try simp [go_sem] at hx214_0); (try simp [go_sem] at hx214_1); (try simp [go_sem] at hx214_2); (try simp [go_sem] at hx215_0); (try simp [go_sem] at hx215_1); (try simp [go_sem] at hx215_2); (try simp [go_sem] at hx217_0); (try simp [go_sem] at hx217_1); (try simp [go_sem] at hx217_2); (try simp [go_sem] at hx218_0); (try simp [go_sem] at hx218_1); (try simp [go_sem] at hx218_2); go_simp; rfl)
            refine hK.out _ _ ?_
            clear hK K; refine qP 16 (some 52) ?_ #[qT,qT,qT,qT,qT,qT,qT,qT,qT,qT,qT,qT,qT,qT,qT,qT,qT,qF] HT_.out rfl rfl (by kernel_rfl) (fun _ _ _ h => h) (Or.inl ⟨by rfl, ?_⟩) ?_ ?_ ?_
            rotate_left; ·intro w'; go_simp; with_reducible rfl
            rotate_left; ·simp only [Act.put, qy1, qy2, qy3, i64_w, i32_w]; rfl
            refine last_ (i := 17) (N := none) #[qT,qT,qT,qT,qT,qT,qT,qT,qT,qT,qT,qT,qT,qT,qT,qT,qT,qT] rfl rfl (qbH HT_.out (by kernel_rfl)) (by decide) (fun K hK => ?_)
            refine skip_ (w1 := ?_) (by rfl) rfl ?_ ?_
            rotate_left
            ·first | (go_simp; rfl) | ((try simp only [World.setCells, show k102.sz = 3 from rfl, Nat.add_zero] at hf14_0); (try simp only [World.setCells, show k102.sz = 3 from rfl, Nat.add_zero] at hf14_1); (try simp only [World.setCells, show k102.sz = 3 from rfl, Nat.add_zero] at hf14_2); (try simp only [World.setCells, show k102.sz = 3 from rfl, Nat.add_zero] at hf15_0); (try simp only [World.setCells, show k102.sz = 3 from rfl, Nat.add_zero] at hf15_1); (try simp only [World.setCells, show k102.sz = 3 from rfl, Nat.add_zero] at hf15_2); (try simp only [World.setCells, show k102.sz = 3 from rfl, Nat.add_zero] at hx14_0); (try simp only [World.setCells, show k102.sz = 3 from rfl, Nat.add_zero] at hx14_1); (try simp only [World.setCells, show k102.sz = 3 from rfl, Nat.add_zero] at hx14_2); (try simp only [World.setCells, show k102.sz = 3 from rfl, Nat.add_zero] at hx15_0); (try simp only [World.setCells, show k102.sz = 3 from rfl, Nat.add_zero] at hx15_1); (try simp only [World.setCells, show k102.sz = 3 from rfl, Nat.add_zero] at hx15_2); (try simp only [World.setCells, show k102.sz = 3 from rfl, Nat.add_zero] at hx214_0); (try simp only [World.setCells, show k102.sz = 3 from rfl, Nat.add_zero] at hx214_1); (try simp only [World.setCells, show k102.sz = 3 from rfl, Nat.add_zero] at hx214_2); (try simp only [World.setCells, show k102.sz = 3 from rfl, Nat.add_zero] at hx215_0); (try simp only [World.setCells, show k102.sz = 3 from rfl, Nat.add_zero] at hx215_1); (try simp only [World.setCells, show k102.sz = 3 from rfl, Nat.add_zero] at hx215_2); (try simp only [World.setCells, show k102.sz = 3 from rfl, Nat.add_zero] at hx217_0); (try simp only [World.setCells, show k102.sz = 3 from rfl, Nat.add_zero] at hx217_1); (try simp only [World.setCells, show k102.sz = 3 from rfl, Nat.add_zero] at hx217_2); (try simp only [World.setCells, show k102.sz = 3 from rfl, Nat.add_zero] at hx218_0); (try simp only [World.setCells, show k102.sz = 3 from rfl, Nat.add_zero] at hx218_1); (try simp only [World.setCells, show k102.sz = 3 from rfl, Nat.add_zero] at hx218_2); (try simp [go_sem] at hf14_0); (try simp [go_sem] at hf14_1); (try simp [go_sem] at hf14_2); (try simp [go_sem] at hf15_0); (try simp [go_sem] at hf15_1); (try simp [go_sem] at hf15_2); (try simp [go_sem] at hx14_0); (try simp [go_sem] at hx14_1); (try simp [go_sem] at hx14_2); (try simp [go_sem] at hx15_0); (try simp [go_sem] at hx15_1); (try simp [go_sem] at hx15_2); (try simp [go_sem] at hx214_0); (try simp [go_sem] at hx214_1); (try simp [go_sem] at hx214_2); (try simp [go_sem] at hx215_0); (try simp [go_sem] at hx215_1); (try simp [go_sem] at hx215_2); (try simp [go_sem] at hx217_0); (try simp [go_sem] at hx217_1); (try simp [go_sem] at hx217_2); (try simp [go_sem] at hx218_0); (try simp [go_sem] at hx218_1); (try simp [go_sem] at hx218_2); go_simp; rfl)
            refine hK.out _ _ ?_
            clear hK K; refine done_ (qby HT_.out (by kernel_rfl)) ?_
            try go_wp2
            go_roundg k2
            case measure => have := HK1.out; have := HK2.out; omega
            case rel => exact ⟨(y220), (ji9), (by first | rfl | (simp; done) | (simp only [← hji9] <;> (first | rfl | simp)) | (simp [*]; done)), H', ⟨by have := HK1.out; have := HK2.out; omega⟩, ⟨by (with_reducible repeat (first | apply Kd.qax | apply Kd.qaw | apply Kd.qaA)); exact HQ21.out⟩, ⟨by repeat (first | (with_reducible first | exact HK.out | apply Kept.alloc | apply Kept.drewN | apply Kept.drew | refine Kept.setCell ?_ HMgo14.out _ | refine Kept.setCell ?_ HMgo14.out _ | refine Kept.setCell ?_ HMgo14.out _ | refine Kept.setCell ?_ HMgo14.out _ | refine Kept.setCell ?_ HMgo14.out _ | refine Kept.setCell ?_ HMgo14.out _) | exact HK.out)⟩, ⟨by repeat (first | (with_reducible first | exact HB.out | apply qae | apply qab | apply qad | refine qah ?_ GB14.out | refine qah ?_ GB14.out | refine qah ?_ GB14.out | refine qah ?_ GB14.out | refine qah ?_ GB14.out | refine qah ?_ GB14.out) | exact HB.out)⟩⟩
           ·rw [if_neg c13] at H; have c13b0 : decide (t216 < 0) = false := decide_eq_false c13; clear c13; have H' := qac.mk H; clear H; try go_wp2
            have n0_ := qac.mk (Kd.qaA HO_0.out)
            have n1_ := qac.mk (Kept.drew HK.out)
            have n2_ := qac.mk (qad HB.out)
            clear HO_0; clear HK; clear HB; have HO_0 := n0_; have HK := n1_; have HB := n2_; clear n0_ n1_ n2_; obtain ⟨Ao23, co23, eo23⟩ := Kd.qbc HO_0.out
            (first | subst eo23 | (injection eo23 with f1_ f2_ f3_; have f4_ := f1_.symm; have f5_ := f3_.symm; clear f1_ f2_ f3_; subst f4_; subst f5_))
            have p214 : 0 ≤ (x9_2 : Int) := of_decide_eq_true (by first | (with_reducible assumption) | assumption)
            have q214 : x9_2 < (x0_2.length : Int) := of_decide_eq_true (by first | (with_reducible assumption) | assumption)
            obtain ⟨ad214, e214, hx214_0, hx214_1, hx214_2⟩ := qbm (Kd.qaN HO_0.out).2.2 x9_2 p214 q214
            cases e214
            replace p214 := eq_true p214; replace q214 := eq_true q214; have p215 : 0 ≤ ((ji9) : Int) := of_decide_eq_true (by first | (with_reducible assumption) | assumption)
            have q215 : (ji9) < (x0_2.length : Int) := of_decide_eq_true (by first | (with_reducible assumption) | assumption)
            obtain ⟨ad215, e215, hx215_0, hx215_1, hx215_2⟩ := qbm (Kd.qaN HO_0.out).2.2 (ji9) p215 q215
            obtain rfl : ad214 = ad215 := (by injection e215)
            replace p215 := eq_true p215; replace q215 := eq_true q215; refine qbD (n := 17) (S := fun w' => w'.cell? (ad214.add ((x9_2).toNat * 3)) = some (.int .i64 ((qag x0_2 x9_2).f0)) ∧ w'.cell? ⟨(ad214.add ((x9_2).toNat * 3)).block, (ad214.add ((x9_2).toNat * 3)).off + 1, none⟩ = some (.int .i64 ((qag x0_2 x9_2).f1)) ∧ w'.cell? ⟨(ad214.add ((x9_2).toNat * 3)).block, (ad214.add ((x9_2).toNat * 3)).off + 2, none⟩ = some (.int .i64 ((qag x0_2 x9_2).f2)) ∧ w'.cell? (ad214.add (((ji9)).toNat * 3)) = some (.int .i64 ((qag x0_2 (ji9)).f0)) ∧ w'.cell? ⟨(ad214.add (((ji9)).toNat * 3)).block, (ad214.add (((ji9)).toNat * 3)).off + 1, none⟩ = some (.int .i64 ((qag x0_2 (ji9)).f1)) ∧ w'.cell? ⟨(ad214.add (((ji9)).toNat * 3)).block, (ad214.add (((ji9)).toNat * 3)).off + 2, none⟩ = some (.int .i64 ((qag x0_2 (ji9)).f2))) (ds := []) #[qF,qF,qF,qF,qF,qF,qF,qF,qF,qF,qF,qF,qF,qF,qF,qF,qF] (by kernel_rfl) rfl rfl ⟨hx214_0, hx214_1, hx214_2, hx215_0, hx215_1, hx215_2⟩ (fun hHeld => ?_); refine qbj qaf.tab4 qaf.bits4 (fun HT_ HW_ => ?_)
            generalize wr.drew = w22 at HO_0 HK HB hx214_0 hx214_1 hx214_2 hx215_0 hx215_1 hx215_2 hHeld ⊢
            refine qP 0 (some 18) ?_ #[qT,qF,qF,qF,qF,qF,qF,qF,qF,qF,qF,qF,qF,qF,qF,qF,qF] HT_.out rfl rfl (by kernel_rfl) (fun _ _ _ h => h) (Or.inl ⟨by rfl, ?_⟩) ?_ ?_ ?_; rotate_left; ·intro w'; go_simp; with_reducible rfl
            rotate_left; ·simp only [Act.put, qy1, qy2, qy3, i64_w, i32_w]; rfl
            refine qP 1 (some 19) ?_ #[qT,qT,qF,qF,qF,qF,qF,qF,qF,qF,qF,qF,qF,qF,qF,qF,qF] HT_.out rfl rfl (by kernel_rfl) (fun _ _ _ h => h) (Or.inl ⟨by rfl, ?_⟩) ?_ ?_ ?_; rotate_left; ·intro w'; go_simp; with_reducible rfl
            rotate_left; ·simp only [Act.put, qy1, qy2, qy3, i64_w, i32_w]; rfl
            refine qP 2 (some 20) ?_ #[qT,qT,qT,qF,qF,qF,qF,qF,qF,qF,qF,qF,qF,qF,qF,qF,qF] HT_.out rfl rfl (by kernel_rfl) (fun _ _ _ h => h) (Or.inl ⟨by rfl, ?_⟩) ?_ ?_ ?_; rotate_left; ·intro w'; go_simp; with_reducible rfl
            rotate_left; ·simp only [Act.put, qy1, qy2, qy3, i64_w, i32_w]; rfl
            refine qP 3 (some 21) ?_ #[qT,qT,qT,qT,qF,qF,qF,qF,qF,qF,qF,qF,qF,qF,qF,qF,qF] HT_.out rfl rfl (by kernel_rfl) (fun _ _ _ h => h) (Or.inl ⟨by rfl, ?_⟩) ?_ ?_ ?_; rotate_left; ·intro w'; go_simp; with_reducible rfl
            rotate_left; ·simp only [Act.put, qy1, qy2, qy3, i64_w, i32_w]; rfl
            refine qP 4 (some 22) ?_ #[qT,qT,qT,qT,qT,qF,qF,qF,qF,qF,qF,qF,qF,qF,qF,qF,qF] HT_.out rfl rfl (by kernel_rfl) (fun _ _ _ h => h) (Or.inl ⟨by rfl, ?_⟩) ?_ ?_ ?_; rotate_left; ·intro w'; go_simp; with_reducible rfl
            rotate_left; ·simp only [Act.put, qy1, qy2, qy3, i64_w, i32_w]; rfl
            refine qP 5 (some 23) ?_ #[qT,qT,qT,qT,qT,qT,qF,qF,qF,qF,qF,qF,qF,qF,qF,qF,qF] HT_.out rfl rfl (by kernel_rfl) (fun _ _ _ h => h) (Or.inl ⟨by rfl, ?_⟩) ?_ ?_ ?_; rotate_left; ·intro w'; go_simp; with_reducible rfl
            rotate_left; ·simp only [Act.put, qy1, qy2, qy3, i64_w, i32_w]; rfl
            refine qP 6 (some 24) ?_ #[qT,qT,qT,qT,qT,qT,qT,qF,qF,qF,qF,qF,qF,qF,qF,qF,qF] HT_.out rfl rfl (by kernel_rfl) (fun _ _ _ h => h) (Or.inl ⟨by rfl, ?_⟩) ?_ ?_ ?_; rotate_left; ·intro w'; go_simp; with_reducible rfl
            rotate_left; ·simp only [Act.put, qy1, qy2, qy3, i64_w, i32_w]; rfl
            refine qP 7 (some 25) ?_ #[qT,qT,qT,qT,qT,qT,qT,qT,qF,qF,qF,qF,qF,qF,qF,qF,qF] HT_.out rfl rfl (by kernel_rfl) (fun _ _ _ h => h) (Or.inl ⟨by rfl, ?_⟩) ?_ ?_ ?_; rotate_left; ·intro w'; go_simp; with_reducible rfl
            rotate_left; ·simp only [Act.put, qy1, qy2, qy3, i64_w, i32_w]; rfl
            refine qP 9 (some 27) ?_ #[qT,qT,qT,qT,qT,qT,qT,qT,qF,qT,qF,qF,qF,qF,qF,qF,qF] HT_.out rfl rfl (by kernel_rfl) (fun _ _ _ h => h) (Or.inl ⟨by rfl, ?_⟩) ?_ ?_ ?_; rotate_left; ·intro w'; go_simp; with_reducible rfl
            rotate_left; ·simp only [Act.put, qy1, qy2, qy3, i64_w, i32_w]; rfl
            refine qP 10 (some 28) ?_ #[qT,qT,qT,qT,qT,qT,qT,qT,qF,qT,qT,qF,qF,qF,qF,qF,qF] HT_.out rfl rfl (by kernel_rfl) (fun _ _ _ h => h) (Or.inl ⟨by rfl, ?_⟩) ?_ ?_ ?_; rotate_left; ·intro w'; go_simp; with_reducible rfl
            rotate_left; ·simp only [Act.put, qy1, qy2, qy3, i64_w, i32_w]; rfl
            refine qP 11 (some 29) ?_ #[qT,qT,qT,qT,qT,qT,qT,qT,qF,qT,qT,qT,qF,qF,qF,qF,qF] HT_.out rfl rfl (by kernel_rfl) (fun _ _ _ h => h) (Or.inl ⟨by rfl, ?_⟩) ?_ ?_ ?_; rotate_left; ·intro w'; go_simp; with_reducible rfl
            rotate_left; ·simp only [Act.put, qy1, qy2, qy3, i64_w, i32_w]; rfl
            refine qP 12 (some 30) ?_ #[qT,qT,qT,qT,qT,qT,qT,qT,qF,qT,qT,qT,qT,qF,qF,qF,qF] HT_.out rfl rfl (by kernel_rfl) (fun _ _ _ h => h) (Or.inl ⟨by rfl, ?_⟩) ?_ ?_ ?_; rotate_left; ·intro w'; go_simp; with_reducible rfl
            rotate_left; ·simp only [Act.put, qy1, qy2, qy3, i64_w, i32_w]; rfl
            refine take_ (i := 8) (N := some 26) (v := ?_) (a' := ?_) #[qT,qT,qT,qT,qT,qT,qT,qT,qT,qT,qT,qT,qT,qF,qF,qF,qF] rfl rfl (qaT HT_.out HW_.out (by kernel_rfl)) (fun _ _ _ h => h) (Or.inl ⟨by rfl, ?_⟩) hHeld ?_ ?_; rotate_left; ·rintro w' ⟨s0, s1, s2, s3, s4, s5⟩; go_simp; with_reducible rfl
            rotate_left; ·simp only [Act.put, qy1, qy2, qy3, i64_w, i32_w]; rfl
            refine take_ (i := 13) (N := some 31) (v := ?_) (a' := ?_) #[qT,qT,qT,qT,qT,qT,qT,qT,qT,qT,qT,qT,qT,qT,qF,qF,qF] rfl rfl (qaT HT_.out HW_.out (by kernel_rfl)) (fun _ _ _ h => h) (Or.inl ⟨by rfl, ?_⟩) hHeld ?_ ?_; rotate_left; ·rintro w' ⟨s0, s1, s2, s3, s4, s5⟩; go_simp; with_reducible rfl
            rotate_left; ·simp only [Act.put, qy1, qy2, qy3, i64_w, i32_w]; rfl
            refine one_ (i := 14) (N := some 32) #[qT,qT,qT,qT,qT,qT,qT,qT,qT,qT,qT,qT,qT,qT,qT,qF,qF] rfl rfl (qbH HT_.out (by kernel_rfl)) (by decide) (fun K hK => ?_)
            refine goesV_ Try.func75 (by kernel_rfl) rfl #[.agg #[.int .i64 ((qag x0_2 x9_2).f0), .int .i64 ((qag x0_2 x9_2).f1), .int .i64 ((qag x0_2 x9_2).f2)], .agg #[.int .i64 ((qag x0_2 (ji9)).f0), .int .i64 ((qag x0_2 (ji9)).f1), .int .i64 ((qag x0_2 (ji9)).f2)]] (by rfl) rfl rfl rfl (by (try simp only [qy6, qy7, qy8]); first | done | (simp only [hji9]; rfl) | rfl | (simp only [List.length_drop, List.length_take]; rfl)) ?_
            with_reducible refine (qaC.calls k2 ((qag x0_2 x9_2).f0) ((qag x0_2 x9_2).f1) ((qag x0_2 x9_2).f2) ((qag x0_2 (ji9)).f0) ((qag x0_2 (ji9)).f1) ((qag x0_2 (ji9)).f2) t216 _ A12.out).mono ?_
            rintro e w24 ⟨rfl, hb⟩
            have HS0_ := (hb.cell (World.block_lt_of_cell? _ _ (hHeld.1))).trans (hHeld.1)
            have HS1_ := (hb.cell (World.block_lt_of_cell? _ _ (hHeld.2.1))).trans (hHeld.2.1)
            have HS2_ := (hb.cell (World.block_lt_of_cell? _ _ (hHeld.2.2.1))).trans (hHeld.2.2.1)
            have HS3_ := (hb.cell (World.block_lt_of_cell? _ _ (hHeld.2.2.2.1))).trans (hHeld.2.2.2.1)
            have HS4_ := (hb.cell (World.block_lt_of_cell? _ _ (hHeld.2.2.2.2.1))).trans (hHeld.2.2.2.2.1)
            have HS5_ := (hb.cell (World.block_lt_of_cell? _ _ (hHeld.2.2.2.2.2))).trans (hHeld.2.2.2.2.2)
            refine ⟨_, rfl, ?_⟩
            have n0_ := qac.mk (Kd.qa8 (by (with_reducible repeat (first | apply Kd.qax | apply Kd.qaw | apply Kd.qaA)); exact HO_0.out) hb)
            have n1_ := qac.mk (Kept.below (S := (fun k_ => P0_ k_)) (by repeat (first | (with_reducible first | exact HK.out | apply Kept.alloc | apply Kept.drewN | apply Kept.drew) | exact HK.out)) hb)
            have n2_ := qac.mk (qaB (by repeat (first | (with_reducible first | exact HB.out | apply qae | apply qab | apply qad) | exact HB.out)) hb)
            clear HO_0; clear HK; clear HB; have HO_0 := n0_; have HK := n1_; have HB := n2_; clear n0_ n1_ n2_; (try clear hb); (try clear hb2); (try clear hk); (try clear hi); refine hK.out _ _ ⟨HS0_, HS1_, HS2_, HS3_, HS4_, HS5_⟩ (fun hHeld => ?_)
            clear hK K; refine norm_ (a' := ?_) ?_ ?_; rotate_left
            ·show Act.put _ (some 32) _ = _
             simp only [Act.put, qy1, qy2, qy3, i64_w, i32_w]
             rfl
            refine qP 15 (some 33) ?_ #[qT,qT,qT,qT,qT,qT,qT,qT,qT,qT,qT,qT,qT,qT,qT,qT,qF] HT_.out rfl rfl (by kernel_rfl) (fun _ _ _ h => h) (Or.inl ⟨by rfl, ?_⟩) ?_ ?_ ?_; rotate_left; ·intro w'; go_simp; with_reducible rfl
            rotate_left; ·simp only [Act.put, qy1, qy2, qy3, i64_w, i32_w]; rfl
            refine qP 16 (some 34) ?_ #[qT,qT,qT,qT,qT,qT,qT,qT,qT,qT,qT,qT,qT,qT,qT,qT,qT] HT_.out rfl rfl (by kernel_rfl) (fun _ _ _ h => h) (Or.inl ⟨by rfl, ?_⟩) ?_ ?_ ?_; rotate_left; ·intro w'; go_simp; with_reducible rfl
            rotate_left; ·simp only [Act.put, qy1, qy2, qy3, i64_w, i32_w]; rfl
            refine done_ (qby HT_.out (by kernel_rfl)) ?_
            try go_wp2
            go_roundg k2
            case measure => have := HK1.out; have := HK2.out; omega
            case rel => exact ⟨(x0_2), (wrap64 (x8_1 + 1)), (by first | rfl | (simp; done) | (simp [*]; done)), H', ⟨by have := HK1.out; have := HK2.out; omega⟩, ⟨by (with_reducible repeat (first | apply Kd.qax | apply Kd.qaw | apply Kd.qaA)); exact HO_0.out⟩, ⟨by repeat (first | (with_reducible first | exact HK.out | apply Kept.alloc | apply Kept.drewN | apply Kept.drew) | exact HK.out)⟩, ⟨by repeat (first | (with_reducible first | exact HB.out | apply qae | apply qab | apply qad) | exact HB.out)⟩⟩
          ·rw [if_neg c11] at H; exact absurd H (by simp)
         ·rw [if_neg c10] at H; exact absurd H (by simp)
        ·rw [if_neg c8] at H; exact absurd H (by simp)
       ·rw [if_neg c7] at H; exact absurd H (by simp)
      ·rw [if_neg c6] at H; have c6b0 : decide (a1 < x9_2) = false := decide_eq_false c6; clear c6; have H' := qac.mk H; clear H; try go_wp2
       have n0_ := qac.mk (Kd.qaA HO_0.out)
       have n1_ := qac.mk (Kept.drew HK.out)
       have n2_ := qac.mk (qad HB.out)
       clear HO_0; clear HK; clear HB; have HO_0 := n0_; have HK := n1_; have HB := n2_; clear n0_ n1_ n2_; refine qbD (n := 17) (S := fun w' => True) (ds := []) #[qF,qF,qF,qF,qF,qF,qF,qF,qF,qF,qF,qF,qF,qF,qF,qF,qF] (by kernel_rfl) rfl rfl trivial (fun hHeld => ?_); refine qbj qaf.tab4 qaf.bits4 (fun HT_ HW_ => ?_)
       generalize wr.drew = w25 at HO_0 HK HB hHeld ⊢
       refine qP 0 (some 18) ?_ #[qT,qF,qF,qF,qF,qF,qF,qF,qF,qF,qF,qF,qF,qF,qF,qF,qF] HT_.out rfl rfl (by kernel_rfl) (fun _ _ _ h => h) (Or.inl ⟨by rfl, ?_⟩) ?_ ?_ ?_; rotate_left; ·intro w'; go_simp; with_reducible rfl
       rotate_left; ·simp only [Act.put, qy1, qy2, qy3, i64_w, i32_w]; rfl
       refine qP 1 (some 19) ?_ #[qT,qT,qF,qF,qF,qF,qF,qF,qF,qF,qF,qF,qF,qF,qF,qF,qF] HT_.out rfl rfl (by kernel_rfl) (fun _ _ _ h => h) (Or.inl ⟨by rfl, ?_⟩) ?_ ?_ ?_; rotate_left; ·intro w'; go_simp; with_reducible rfl
       rotate_left; ·simp only [Act.put, qy1, qy2, qy3, i64_w, i32_w]; rfl
       refine qP 2 (some 20) ?_ #[qT,qT,qT,qF,qF,qF,qF,qF,qF,qF,qF,qF,qF,qF,qF,qF,qF] HT_.out rfl rfl (by kernel_rfl) (fun _ _ _ h => h) (Or.inl ⟨by rfl, ?_⟩) ?_ ?_ ?_; rotate_left; ·intro w'; go_simp; with_reducible rfl
       rotate_left; ·simp only [Act.put, qy1, qy2, qy3, i64_w, i32_w]; rfl
       refine qP 3 (some 21) ?_ #[qT,qT,qT,qT,qF,qF,qF,qF,qF,qF,qF,qF,qF,qF,qF,qF,qF] HT_.out rfl rfl (by kernel_rfl) (fun _ _ _ h => h) (Or.inl ⟨by rfl, ?_⟩) ?_ ?_ ?_; rotate_left; ·intro w'; go_simp; with_reducible rfl
       rotate_left; ·simp only [Act.put, qy1, qy2, qy3, i64_w, i32_w]; rfl
       refine pure_ (i := 4) (N := some 22) (v := undef) (a' := ?_) #[qT,qT,qT,qT,qT,qF,qF,qF,qF,qF,qF,qF,qF,qF,qF,qF,qF] rfl rfl (qbO HT_.out (by kernel_rfl)) (fun _ _ _ h => h) (Or.inr ⟨by rfl, rfl⟩) ?_ ?_; rotate_left; ·simp only [Act.put, qy1, qy2, qy3, i64_w, i32_w]; rfl
       refine pure_ (i := 5) (N := some 23) (v := undef) (a' := ?_) #[qT,qT,qT,qT,qT,qT,qF,qF,qF,qF,qF,qF,qF,qF,qF,qF,qF] rfl rfl (qbO HT_.out (by kernel_rfl)) (fun _ _ _ h => h) (Or.inr ⟨by rfl, rfl⟩) ?_ ?_; rotate_left; ·simp only [Act.put, qy1, qy2, qy3, i64_w, i32_w]; rfl
       refine pure_ (i := 6) (N := some 24) (v := undef) (a' := ?_) #[qT,qT,qT,qT,qT,qT,qT,qF,qF,qF,qF,qF,qF,qF,qF,qF,qF] rfl rfl (qbO HT_.out (by kernel_rfl)) (fun _ _ _ h => h) (Or.inr ⟨by rfl, rfl⟩) ?_ ?_; rotate_left; ·simp only [Act.put, qy1, qy2, qy3, i64_w, i32_w]; rfl
       refine pure_ (i := 7) (N := some 25) (v := undef) (a' := ?_) #[qT,qT,qT,qT,qT,qT,qT,qT,qF,qF,qF,qF,qF,qF,qF,qF,qF] rfl rfl (qbO HT_.out (by kernel_rfl)) (fun _ _ _ h => h) (Or.inr ⟨by rfl, rfl⟩) ?_ ?_; rotate_left; ·simp only [Act.put, qy1, qy2, qy3, i64_w, i32_w]; rfl
       refine pure_ (i := 8) (N := some 26) (v := undef) (a' := ?_) #[qT,qT,qT,qT,qT,qT,qT,qT,qT,qF,qF,qF,qF,qF,qF,qF,qF] rfl rfl (qbO HT_.out (by kernel_rfl)) (fun _ _ _ h => h) (Or.inr ⟨by rfl, rfl⟩) ?_ ?_; rotate_left; ·simp only [Act.put, qy1, qy2, qy3, i64_w, i32_w]; rfl
       refine pure_ (i := 9) (N := some 27) (v := undef) (a' := ?_) #[qT,qT,qT,qT,qT,qT,qT,qT,qT,qT,qF,qF,qF,qF,qF,qF,qF] rfl rfl (qbO HT_.out (by kernel_rfl)) (fun _ _ _ h => h) (Or.inr ⟨by rfl, rfl⟩) ?_ ?_; rotate_left; ·simp only [Act.put, qy1, qy2, qy3, i64_w, i32_w]; rfl
       refine pure_ (i := 10) (N := some 28) (v := undef) (a' := ?_) #[qT,qT,qT,qT,qT,qT,qT,qT,qT,qT,qT,qF,qF,qF,qF,qF,qF] rfl rfl (qbO HT_.out (by kernel_rfl)) (fun _ _ _ h => h) (Or.inr ⟨by rfl, rfl⟩) ?_ ?_; rotate_left; ·simp only [Act.put, qy1, qy2, qy3, i64_w, i32_w]; rfl
       refine pure_ (i := 11) (N := some 29) (v := undef) (a' := ?_) #[qT,qT,qT,qT,qT,qT,qT,qT,qT,qT,qT,qT,qF,qF,qF,qF,qF] rfl rfl (qbO HT_.out (by kernel_rfl)) (fun _ _ _ h => h) (Or.inr ⟨by rfl, rfl⟩) ?_ ?_; rotate_left; ·simp only [Act.put, qy1, qy2, qy3, i64_w, i32_w]; rfl
       refine pure_ (i := 12) (N := some 30) (v := undef) (a' := ?_) #[qT,qT,qT,qT,qT,qT,qT,qT,qT,qT,qT,qT,qT,qF,qF,qF,qF] rfl rfl (qbO HT_.out (by kernel_rfl)) (fun _ _ _ h => h) (Or.inr ⟨by rfl, rfl⟩) ?_ ?_; rotate_left; ·simp only [Act.put, qy1, qy2, qy3, i64_w, i32_w]; rfl
       refine pure_ (i := 13) (N := some 31) (v := undef) (a' := ?_) #[qT,qT,qT,qT,qT,qT,qT,qT,qT,qT,qT,qT,qT,qT,qF,qF,qF] rfl rfl (qbO HT_.out (by kernel_rfl)) (fun _ _ _ h => h) (Or.inr ⟨by rfl, rfl⟩) ?_ ?_; rotate_left; ·simp only [Act.put, qy1, qy2, qy3, i64_w, i32_w]; rfl
       refine pure_ (i := 14) (N := some 32) (v := undef) (a' := ?_) #[qT,qT,qT,qT,qT,qT,qT,qT,qT,qT,qT,qT,qT,qT,qT,qF,qF] rfl rfl (qbO HT_.out (by kernel_rfl)) (fun _ _ _ h => h) (Or.inr ⟨by rfl, rfl⟩) ?_ ?_; rotate_left; ·simp only [Act.put, qy1, qy2, qy3, i64_w, i32_w]; rfl
       refine pure_ (i := 15) (N := some 33) (v := undef) (a' := ?_) #[qT,qT,qT,qT,qT,qT,qT,qT,qT,qT,qT,qT,qT,qT,qT,qT,qF] rfl rfl (qbO HT_.out (by kernel_rfl)) (fun _ _ _ h => h) (Or.inr ⟨by rfl, rfl⟩) ?_ ?_; rotate_left; ·simp only [Act.put, qy1, qy2, qy3, i64_w, i32_w]; rfl
       refine qP 16 (some 34) ?_ #[qT,qT,qT,qT,qT,qT,qT,qT,qT,qT,qT,qT,qT,qT,qT,qT,qT] HT_.out rfl rfl (by kernel_rfl) (fun _ _ _ h => h) (Or.inl ⟨by rfl, ?_⟩) ?_ ?_ ?_; rotate_left; ·intro w'; go_simp; with_reducible rfl
       rotate_left; ·simp only [Act.put, qy1, qy2, qy3, i64_w, i32_w]; rfl
       refine done_ (qby HT_.out (by kernel_rfl)) ?_
       try go_wp2
       go_roundg k2
       case measure => have := HK1.out; have := HK2.out; omega
       case rel => exact ⟨(x0_2), (wrap64 (x8_1 + 1)), (by first | rfl | (simp; done) | (simp [*]; done)), H', ⟨by have := HK1.out; have := HK2.out; omega⟩, ⟨by (with_reducible repeat (first | apply Kd.qax | apply Kd.qaw | apply Kd.qaA)); exact HO_0.out⟩, ⟨by repeat (first | (with_reducible first | exact HK.out | apply Kept.alloc | apply Kept.drewN | apply Kept.drew) | exact HK.out)⟩, ⟨by repeat (first | (with_reducible first | exact HB.out | apply qae | apply qab | apply qad) | exact HB.out)⟩⟩
   ·rw [if_neg c5] at H; have c5b0 : decide (x8_1 < a2) = false := decide_eq_false c5; clear c5; obtain rfl := Option.some.inj H
    go_wp2; first | go_end0 | ((try simp only [Exit.inBlock, Exit.then]); refine bodyPost_ret (results_none rfl _ _ _) rfl ?_)
    exact ⟨by first | rfl | (simp [qaz, qay] <;> rfl) | (simp [*, qaz, qay] <;> rfl), by (with_reducible repeat (first | apply Kd.qax | apply Kd.qaw | apply Kd.qaA)); exact HO_0.out, by repeat (first | (with_reducible first | exact HB.out | apply qae | apply qab | apply qad) | exact HB.out), by repeat (first | (with_reducible first | exact HK.out | apply Kept.alloc | apply Kept.drewN | apply Kept.drew) | exact HK.out)⟩
end Go.Proofs.Ytfcifmbddikflaa.P
