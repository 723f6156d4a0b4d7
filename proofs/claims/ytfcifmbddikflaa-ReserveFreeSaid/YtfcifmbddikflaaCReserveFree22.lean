/- Texts of the claim, put together: Px12, Px13, Px14. -/
import Derived.Test.YtfcifmbddikflaaCReserveFree14
import Derived.Test.YtfcifmbddikflaaCReserveFree20
import Derived.Test.YtfcifmbddikflaaCReserveFree21
import Derived.Test.YtfcifmbddikflaaCReserveFree16
import Derived.Test.YtfcifmbddikflaaCReserveFree17
import Derived.Test.YtfcifmbddikflaaCReserveFree19
namespace Go.Proofs.Ytfcifmbddikflaa.P
open Go.RowKit Go.Proofs.YtfcifmbddikflaaW.PrintWords Go.Proofs.YtfcifmbddikflaaW.PrintLast Go.Proofs.YtfcifmbddikflaaW.PrintMore
attribute [local go_sem] qbo qbm qbz qby qbg qbf qbn qbl
set_option linter.unusedVariables false
set_option linter.unusedSimpArgs false
def qaP.l0 : Nat → List Int → Int → List (S29) → Int → Int → Option (List Int × Int × Int)
 | 0, _, _, _, _, _ => none
 | k + 1, x1, x7, x12, x13, x14 => if x14 < x13 then (if 0 ≤ x14 then (if x14 < (x12.length : Int) then (if x14 < (x1.length : Int) then ((qaT.f k ((qaF x12 x14).f0) ((qaF x12 x14).f1) (rd x1 x14)).bind fun bt148 => (qaP.l0 k x1 (wrap64 (x7 + bt148.1)) x12 x13 (wrap64 (x14 + 1)))) else (none)) else (none)) else (none)) else (some (x1, x7, 0))
def qaP.f (k : Nat) (l0 : List (S29)) (l1 : List Int) : Option (List Int × Int × Int) := qaP.l0 k l1 0 l0 (l0.length : Int) 0
theorem qaP.qbB : ∀ k, (∀ y0 y1 y2 y3 y4, LeO (qaP.l0 k y0 y1 y2 y3 y4) (qaP.l0 (k + 1) y0 y1 y2 y3 y4))
 | 0 => fun _ _ _ _ _ r h => by simp [qaP.l0] at h
 | k + 1 => by
  have ih0 := qaP.qbB k
  ·intro y0 y1 y2 y3 y4; unfold qaP.l0
   repeat' first
   | (with_reducible exact ih0 _ _ _ _ _)
   | (with_reducible exact qaT.mono _ _ _ _)
   | (with_reducible exact LeO.refl _)
   | (with_reducible exact LeO.none _)
   | (with_reducible refine LeO.ite ?_ ?_)
   | (with_reducible refine LeO.bind ?_ (fun _ => ?_))
   | exact ih0 _ _ _ _ _
   | exact qaT.mono _ _ _ _
   | exact LeO.none _
   | refine LeO.ite ?_ ?_
   | refine LeO.bind ?_ (fun _ => ?_)
theorem qaP.mono : ∀ a0 a1 k, LeO (qaP.f k a0 a1) (qaP.f (k + 1) a0 a1) := by
 intro a0 a1 k; have ih0 := qaP.qbB k
 unfold qaP.f
 repeat' first
   | (with_reducible exact ih0 _ _ _ _ _)
   | (with_reducible exact qaT.mono _ _ _ _)
   | (with_reducible exact LeO.refl _)
   | (with_reducible exact LeO.none _)
   | (with_reducible refine LeO.ite ?_ ?_)
   | (with_reducible refine LeO.bind ?_ (fun _ => ?_))
   | exact ih0 _ _ _ _ _
   | exact qaT.mono _ _ _ _
   | exact LeO.none _
   | refine LeO.ite ?_ ?_
   | refine LeO.bind ?_ (fun _ => ?_)
def qaP.T5 : Bool × List (List Nat × List Nat) := (true, [([], []), ([], []), ([], []), ([1, 2], [1, 2]), ([3], [3]), ([0, 4], [0, 4]), ([5], [5]), ([6], [6]), ([6], [6]), ([7, 5, 0, 1, 2, 3, 4, 5, 6, 7], [7]), ([8, 9, 0, 1, 2, 3, 4, 5, 6, 7, 8, 9], [8])])
def qaP.B5 : List Nat := [0, 0, 0, 6, 14, 31, 63, 127, 127, 255, 1023]
theorem qaP.tab5 : rtab .any (opsOf Try.f51 5) = qaP.T5 := by kernel_rfl
theorem qaP.bits5 : waitsOk qaP.T5.2 qaP.B5 = true := by kernel_rfl
set_option maxHeartbeats 8000000 in
set_option maxRecDepth 100000 in
theorem qaP.calls (k : Nat) (A0 : Option Addr) (c0 : Nat) (l0 : List (S29)) (P1_ : Nat → Prop) (A1 : Option Addr) (c1 : Nat) (l1 : List Int) (r1 : List Int) (r2 : Int) (r3 : Int) (w : World) (hr0 : Kd.C k29 w A0 l0.length l0) (hc0 : l0.length ≤ c0) (hs1 : Kd.V (Kd.int .i64) 3 w w.heap.size (fun k_ => P1_ k_) (.slice A1 l1.length c1) l1) (h : qaP.f k l0 l1 = some (r1, r2, r3)) :
  Calls Try.prog 51 #[.slice A0 l0.length c0, .slice A1 l1.length c1] w fun e w' => ∃ v0_ : Value, e = .returned (.tuple #[v0_, .int .i64 r2, .int .i64 r3]) ∧ Kd.V (Kd.int .i64) 3 w' w.heap.size (fun k_ => (P1_ k_ ∨ w.heap.size ≤ k_)) v0_ r1 ∧ Below w.heap.size w w' := by
 have hu29 := Try.underlying29; have HR0 := qae.mk hr0
 have HC0 := qae.mk hc0
 clear hr0 hc0; have HO1 := qae.mk (show Kd.V (Kd.int .i64) 3 w w.heap.size (fun k_ => (P1_ k_ ∨ w.heap.size ≤ k_)) (.slice A1 l1.length c1) l1 from Kd.qbw hs1 (fun k_ hk => .inl hk))
 have HB := qae.mk (Below.refl w.heap.size w)
 have H : (qaP.l0 k l1 0 l0 (l0.length : Int) 0) = some (r1, r2, r3) := h
 clear h; have H' := qae.mk H; clear H; go_enter Try.func51, Try.ntmps51; go_wp2; go_loopg [7, 14] k (fun kq v7 v14 w' => ∃ (x7_1 : Int) (x14_1 : Int), v7 = .int .i64 x7_1 ∧ v14 = .int .i64 x14_1 ∧ qae (qaP.l0 kq l1 x7_1 l0 (l0.length : Int) x14_1 = some (r1, r2, r3)) ∧ qae (kq ≤ k) ∧ qae (Kd.V (Kd.int .i64) 3 w' w.heap.size (fun k_ => (P1_ k_ ∨ w.heap.size ≤ k_)) (.slice A1 l1.length c1) l1) ∧ qae (Below w.heap.size w w'))
 case atStart => exact ⟨(0), (0), (by first | rfl | (simp; done) | (simp [*]; done)), (by first | rfl | (simp; done) | (simp [*]; done)), H', ⟨Nat.le_refl _⟩, ⟨by (with_reducible repeat (first | apply Kd.qa1 | apply Kd.qaZ | apply Kd.qbb)); exact HO1.out⟩, ⟨by repeat (first | (with_reducible first | exact HB.out | apply qad | apply qaa | apply qac) | exact HB.out)⟩⟩
 case round =>
  clear H'; (try clear c1); (try clear p2); obtain ⟨x7_1, x14_1, rfl, rfl, HA, HK1, HO_1, HB⟩ := hrel
  cases gk with
  | zero => exact absurd HA.out (by simp [qaP.l0])
  | succ k1 =>
   have H := HA.out; clear HA; simp only [qaP.l0] at H
   by_cases c3 : x14_1 < (l0.length : Int)
   ·rw [if_pos c3] at H; have c3b0 : decide (x14_1 < (l0.length : Int)) = true := decide_eq_true c3; clear c3; by_cases c4 : 0 ≤ x14_1
    ·rw [if_pos c4] at H; have c4b0 : decide (0 ≤ x14_1) = true := decide_eq_true c4; clear c4; by_cases c5 : x14_1 < (l0.length : Int)
     ·rw [if_pos c5] at H; have c5b0 : decide (x14_1 < (l0.length : Int)) = true := decide_eq_true c5; clear c5; by_cases c6 : x14_1 < (l1.length : Int)
      ·rw [if_pos c6] at H; have c6b0 : decide (x14_1 < (l1.length : Int)) = true := decide_eq_true c6; clear c6; replace H := Option.bind_eq_some_iff.mp H; obtain ⟨⟨t148, t149⟩, A70, H⟩ := H
       replace H : (qaP.l0 k1 l1 (wrap64 (x7_1 + t148)) l0 (l0.length : Int) (wrap64 (x14_1 + 1))) = some (r1, r2, r3) := H
       have A7 := qae.mk A70
       clear A70; have H' := qae.mk H; clear H; have p145 : 0 ≤ (x14_1 : Int) := of_decide_eq_true (by first | (with_reducible assumption) | assumption)
       have q145 : x14_1 < (l0.length : Int) := of_decide_eq_true (by first | (with_reducible assumption) | assumption)
       obtain ⟨ad145, A145_1, c145_1, e145, hx145_0, hx145_1, hl145_1, hi145_1⟩ := at_T29 HR0.out x14_1 p145 q145
       cases e145
       replace hx145_0 := (HB.out.cell (World.block_lt_of_cell? w _ hx145_0)).trans hx145_0
       replace hx145_1 := (HB.out.cell (World.block_lt_of_cell? w _ hx145_1)).trans hx145_1
       have HR145_1 := qae.mk hi145_1
       have HC145_1 := qae.mk hl145_1
       clear hi145_1 hl145_1; replace p145 := eq_true p145; replace q145 := eq_true q145; try go_wp2_with (first | ((with_reducible refine qaW (N := 9) rfl ?_); refine qaU ?hg (N := 9) ?hd (cs := #[.string (⟨#[]⟩ : ByteArray), .slice none 0 0]) (t := 29) ?hr ?_; (case hd => rfl); (case hg => rfl); (case hr => first | (go_simp; done) | (go_simp; rfl)); intro gb146 hg w8 hbox hb; have n0_ := qae.mk (Kd.qbu (Kd.qbY (by (with_reducible repeat (first | apply Kd.qa1 | apply Kd.qaZ | apply Kd.qbb)); exact HO_1.out) gb146 (Nat.le_of_eq hg.symm)) hb); have n1_ := qae.mk (qar (by repeat (first | (with_reducible first | exact HB.out | apply qad | apply qaa | apply qac) | exact HB.out)) hb); have n2_ := qae.mk (hbox); have n3_ := qae.mk ((by rw [hg]; exact (qan (by repeat (first | (with_reducible first | exact HB.out | apply qad | apply qaa | apply qac) | exact HB.out))) : w.heap.size ≤ gb146)); have n4_ := qae.mk ((by rw [hg]; exact (qan (by repeat (first | (with_reducible first | exact HB.out | apply qad | apply qaa | apply qac) | exact HB.out))) : w.heap.size ≤ gb146)); clear HO_1; clear HB; have HO_1 := n0_; have HB := n1_; have BK146 := n2_; have GW146 := n3_; have GE146 := n4_; clear n0_ n1_ n2_ n3_ n4_; clear hb hbox hg; have hcz9_0 : w8.cell? ⟨gb146, 0, none⟩ = some (.string (⟨#[]⟩ : ByteArray)) := (qao BK146.out 0).trans rfl; have hcz9_1 : w8.cell? ⟨gb146, 1, none⟩ = some (.slice none 0 0) := (qao BK146.out 1).trans rfl; have hfz9_0 := qam BK146.out 0; have hfz9_1 := qam BK146.out 1))
       have n0_ : qae (Kd.V (Kd.int .i64) 3 ((w8.setCell ⟨gb146, 0, none⟩ (.string ((qaF l0 x14_1).f0))).setCell ⟨gb146, 1, none⟩ (.slice A145_1 ((qaF l0 x14_1).f1).length c145_1)) w.heap.size (fun k_ => (P1_ k_ ∨ w.heap.size ≤ k_) ∧ k_ ≠ gb146) (.slice A1 l1.length c1) l1) := ⟨by (with_reducible repeat (first | apply Kd.qa1 | apply Kd.qaZ | apply Kd.qbb)); exact Kd.qbw (Kd.V_far (p := ⟨gb146, 1, none⟩) (Kd.V_far (p := ⟨gb146, 0, none⟩) (Kd.qbw HO_1.out (fun k_ hk => (⟨hk, hk.2⟩ : _ ∧ k_ ≠ gb146))) (fun _ hk => hk.2) (.string ((qaF l0 x14_1).f0))) (fun _ hk => hk.2) (.slice A145_1 ((qaF l0 x14_1).f1).length c145_1)) (fun _ hk => ⟨hk.1.1, hk.1.2⟩)⟩
       have n1_ : qae (((w8.setCell ⟨gb146, 0, none⟩ (.string ((qaF l0 x14_1).f0))).setCell ⟨gb146, 1, none⟩ (.slice A145_1 ((qaF l0 x14_1).f1).length c145_1)).heap[gb146]? = some (.cells #[.string ((qaF l0 x14_1).f0), .slice A145_1 ((qaF l0 x14_1).f1).length c145_1] 29 (0, 0))) := ⟨by (with_reducible repeat (first | refine qai ?_ _ | refine qak ?_ | refine qaj ?_ _)); refine qba (cs := #[.string ((qaF l0 x14_1).f0), .slice none 0 0]) ?_ 1 _ rfl; (with_reducible repeat (first | refine qai ?_ _ | refine qak ?_ | refine qaj ?_ _)); refine qba (cs := #[.string (⟨#[]⟩ : ByteArray), .slice none 0 0]) ?_ 0 _ rfl; (with_reducible repeat (first | refine qai ?_ _ | refine qak ?_ | refine qaj ?_ _)); exact BK146.out⟩
       have n2_ : qae (Below w.heap.size w ((w8.setCell ⟨gb146, 0, none⟩ (.string ((qaF l0 x14_1).f0))).setCell ⟨gb146, 1, none⟩ (.slice A145_1 ((qaF l0 x14_1).f1).length c145_1))) := ⟨by repeat (first | (with_reducible first | exact HB.out | apply qad | apply qaa | apply qac | refine qah ?_ GE146.out) | exact HB.out)⟩
       (try clear HO_1); (try clear BK146); (try clear HB); generalize ((w8.setCell ⟨gb146, 0, none⟩ (.string ((qaF l0 x14_1).f0))).setCell ⟨gb146, 1, none⟩ (.slice A145_1 ((qaF l0 x14_1).f1).length c145_1)) = w10 at n0_ n1_ n2_ ⊢
       have HO_1 := n0_; have BK146 := n1_; have HB := n2_; clear n0_ n1_ n2_; have n0_ := qae.mk (Kd.qbb HO_1.out)
       have n1_ := qae.mk (qak BK146.out)
       have n2_ := qae.mk (qac HB.out)
       clear HO_1; clear BK146; clear HB; have HO_1 := n0_; have BK146 := n1_; have HB := n2_; clear n0_ n1_ n2_; have p147 : 0 ≤ (x14_1 : Int) := of_decide_eq_true (by first | (with_reducible assumption) | assumption)
       have q147 : x14_1 < (l1.length : Int) := of_decide_eq_true (by first | (with_reducible assumption) | assumption)
       obtain ⟨ad147, e147, hx147_0⟩ := Kd.qbU (Kd.qbG HO_1.out).2.2 x14_1 p147 q147
       cases e147
       replace p147 := eq_true p147; replace q147 := eq_true q147; refine qbQ (n := 11) (S := fun w' => w'.cell? ⟨gb146, 0, none⟩ = some (.string ((qaF l0 x14_1).f0)) ∧ w'.cell? ⟨gb146, 1, none⟩ = some (.slice A145_1 ((qaF l0 x14_1).f1).length c145_1) ∧ w'.cell? (ad147.add (x14_1).toNat) = some (.int .i64 (rd l1 x14_1))) (ds := []) #[qF,qF,qF,qF,qF,qF,qF,qF,qF,qF,qF] (by kernel_rfl) rfl rfl ⟨(qao BK146.out 0).trans rfl, (qao BK146.out 1).trans rfl, hx147_0⟩ (fun hHeld => ?_); refine qbr qaP.tab5 qaP.bits5 (fun HT_ HW_ => ?_)
       generalize w10.drew = w11 at HO_1 BK146 HB hx147_0 hHeld ⊢
       refine qP 1 (some 21) ?_ #[qF,qT,qF,qF,qF,qF,qF,qF,qF,qF,qF] HT_.out rfl rfl (by kernel_rfl) (fun _ _ _ h => h) (Or.inl ⟨by rfl, ?_⟩) ?_ ?_ ?_; rotate_left; ·intro w'; go_simp; with_reducible rfl
       rotate_left; ·simp only [Act.put, qy1, qy2, qy3, i64_w, i32_w]; rfl
       refine qP 2 (some 22) ?_ #[qF,qT,qT,qF,qF,qF,qF,qF,qF,qF,qF] HT_.out rfl rfl (by kernel_rfl) (fun _ _ _ h => h) (Or.inl ⟨by rfl, ?_⟩) ?_ ?_ ?_; rotate_left; ·intro w'; go_simp; with_reducible rfl
       rotate_left; ·simp only [Act.put, qy1, qy2, qy3, i64_w, i32_w]; rfl
       refine qP 3 (some 23) ?_ #[qF,qT,qT,qT,qF,qF,qF,qF,qF,qF,qF] HT_.out rfl rfl (by kernel_rfl) (fun _ _ _ h => h) (Or.inl ⟨by rfl, ?_⟩) ?_ ?_ ?_; rotate_left; ·intro w'; go_simp; with_reducible rfl
       rotate_left; ·simp only [Act.put, qy1, qy2, qy3, i64_w, i32_w]; rfl
       refine take_ (i := 0) (N := some 20) (v := ?_) (a' := ?_) #[qT,qT,qT,qT,qF,qF,qF,qF,qF,qF,qF] rfl rfl (qa6 HT_.out HW_.out (by kernel_rfl)) (fun _ _ _ h => h) (Or.inl ⟨by rfl, ?_⟩) hHeld ?_ ?_; rotate_left; ·rintro w' ⟨s0, s1, s2⟩; go_simp; with_reducible rfl
       rotate_left; ·simp only [Act.put, qy1, qy2, qy3, i64_w, i32_w]; rfl
       refine take_ (i := 4) (N := some 24) (v := ?_) (a' := ?_) #[qT,qT,qT,qT,qT,qF,qF,qF,qF,qF,qF] rfl rfl (qa6 HT_.out HW_.out (by kernel_rfl)) (fun _ _ _ h => h) (Or.inl ⟨by rfl, ?_⟩) hHeld ?_ ?_; rotate_left; ·rintro w' ⟨s0, s1, s2⟩; go_simp; with_reducible rfl
       rotate_left; ·simp only [Act.put, qy1, qy2, qy3, i64_w, i32_w]; rfl
       refine one_ (i := 5) (N := some 25) #[qT,qT,qT,qT,qT,qT,qF,qF,qF,qF,qF] rfl rfl (qbR HT_.out (by kernel_rfl)) (by decide) (fun K hK => ?_)
       refine goes_ Try.func46 (by kernel_rfl) rfl #[.agg #[.string ((qaF l0 x14_1).f0), .slice A145_1 ((qaF l0 x14_1).f1).length c145_1], .int .i64 (rd l1 x14_1)] (by rfl) rfl rfl (by (try simp only [qy6, qy7, qy8]); first | done | rfl | (simp only [List.length_drop, List.length_take]; rfl)) ?_
       with_reducible refine (qaT.calls k1 ((qaF l0 x14_1).f0) _ _ ((qaF l0 x14_1).f1) (rd l1 x14_1) t148 t149 _ ?side1 ?side2 A7.out).mono ?_
       (case side1 => repeat (first | exact (Kd.qbC HR145_1.out HB.out) | (with_reducible refine Kd.qbk ?_ _) | (with_reducible refine Kd.qbj ?_ _) | (with_reducible refine Kd.qbA ?_)))
       (case side2 => exact HC145_1.out)
       rintro e w12 ⟨rfl, hb⟩
       have HS2_ := (hb.cell (World.block_lt_of_cell? _ _ (hHeld.2.2))).trans (hHeld.2.2)
       refine ⟨_, rfl, ?_⟩
       have n0_ := qae.mk (Kd.qbu (by (with_reducible repeat (first | apply Kd.qa1 | apply Kd.qaZ | apply Kd.qbb)); exact HO_1.out) hb)
       have n1_ := qae.mk (qa5 (g := gb146) (o := .cells #[.string ((qaF l0 x14_1).f0), .slice A145_1 ((qaF l0 x14_1).f1).length c145_1] 29 (0, 0)) (by (with_reducible repeat (first | refine qai ?_ _ | refine qak ?_ | refine qaj ?_ _)); exact BK146.out) hb)
       have n2_ := qae.mk (qar (by repeat (first | (with_reducible first | exact HB.out | apply qad | apply qaa | apply qac | refine qah ?_ GE146.out) | exact HB.out)) hb)
       clear HO_1; clear BK146; clear HB; have HO_1 := n0_; have BK146 := n1_; have HB := n2_; clear n0_ n1_ n2_; (try clear hb); (try clear hb2); (try clear hk); (try clear hi); refine hK.out _ _ ⟨(qao BK146.out 0).trans rfl, (qao BK146.out 1).trans rfl, HS2_⟩ (fun hHeld => ?_)
       clear hK K; refine norm_ (a' := ?_) ?_ ?_; rotate_left
       ·show Act.put _ (some 25) _ = _
        simp only [Act.put, qy1, qy2, qy3, i64_w, i32_w]
        rfl
       refine qP 6 (some 19) ?_ #[qT,qT,qT,qT,qT,qT,qT,qF,qF,qF,qF] HT_.out rfl rfl (by kernel_rfl) (fun _ _ _ h => h) (Or.inl ⟨by rfl, ?_⟩) ?_ ?_ ?_; rotate_left; ·intro w'; go_simp; with_reducible rfl
       rotate_left; ·simp only [Act.put, qy1, qy2, qy3, i64_w, i32_w]; rfl
       refine qP 7 (some 26) ?_ #[qT,qT,qT,qT,qT,qT,qT,qT,qF,qF,qF] HT_.out rfl rfl (by kernel_rfl) (fun _ _ _ h => h) (Or.inl ⟨by rfl, ?_⟩) ?_ ?_ ?_; rotate_left; ·intro w'; go_simp; with_reducible rfl
       rotate_left; ·simp only [Act.put, qy1, qy2, qy3, i64_w, i32_w]; rfl
       refine qP 8 (some 27) ?_ #[qT,qT,qT,qT,qT,qT,qT,qT,qT,qF,qF] HT_.out rfl rfl (by kernel_rfl) (fun _ _ _ h => h) (Or.inl ⟨by rfl, ?_⟩) ?_ ?_ ?_; rotate_left; ·intro w'; go_simp; with_reducible rfl
       rotate_left; ·simp only [Act.put, qy1, qy2, qy3, i64_w, i32_w]; rfl
       refine qP 9 (some 10) ?_ #[qT,qT,qT,qT,qT,qT,qT,qT,qT,qT,qF] HT_.out rfl rfl (by kernel_rfl) (fun _ _ _ h => h) (Or.inl ⟨by rfl, ?_⟩) ?_ ?_ ?_; rotate_left; ·intro w'; go_simp; with_reducible rfl
       rotate_left; ·simp only [Act.put, qy1, qy2, qy3, i64_w, i32_w]; rfl
       refine qP 10 (some 11) ?_ #[qT,qT,qT,qT,qT,qT,qT,qT,qT,qT,qT] HT_.out rfl rfl (by kernel_rfl) (fun _ _ _ h => h) (Or.inl ⟨by rfl, ?_⟩) ?_ ?_ ?_; rotate_left; ·intro w'; go_simp; with_reducible rfl
       rotate_left; ·simp only [Act.put, qy1, qy2, qy3, i64_w, i32_w]; rfl
       refine done_ (qbH HT_.out (by kernel_rfl)) ?_
       try go_wp2
       go_roundg k1
       case measure => have := HK1.out; omega
       case rel => exact ⟨(wrap64 (x7_1 + t148)), (wrap64 (x14_1 + 1)), (by first | rfl | (simp; done) | (simp [*]; done)), (by first | rfl | (simp; done) | (simp [*]; done)), H', ⟨by have := HK1.out; omega⟩, ⟨by (with_reducible repeat (first | apply Kd.qa1 | apply Kd.qaZ | apply Kd.qbb)); exact Kd.qbw HO_1.out (fun _ hk => hk.1)⟩, ⟨by repeat (first | (with_reducible first | exact HB.out | apply qad | apply qaa | apply qac | refine qah ?_ GE146.out) | exact HB.out)⟩⟩
      ·rw [if_neg c6] at H; exact absurd H (by simp)
     ·rw [if_neg c5] at H; exact absurd H (by simp)
    ·rw [if_neg c4] at H; exact absurd H (by simp)
   ·rw [if_neg c3] at H; have c3b0 : decide (x14_1 < (l0.length : Int)) = false := decide_eq_false c3; clear c3; simp only [Option.some.injEq, Prod.mk.injEq] at H
    obtain ⟨rfl, rfl, rfl⟩ := H; go_wp2; go_ret3
    exact ⟨_, by first | rfl | (simp [qaw, qav] <;> rfl) | (simp [*, qaw, qav] <;> rfl), by (with_reducible repeat (first | apply Kd.qa1 | apply Kd.qaZ | apply Kd.qbb)); exact HO_1.out, by repeat (first | (with_reducible first | exact HB.out | apply qad | apply qaa | apply qac) | exact HB.out)⟩
def qaM.l0 : Nat → List (S29) → List Int → Int → Int → List (S29) → Int → Int → Option (List Int × Int × Int)
 | 0, _, _, _, _, _, _, _ => none
 | k + 1, x0, x8, x9, x10, x37, x38, x39 => if x39 < x38 then (if 0 ≤ x39 then (if x39 < (x37.length : Int) then ((qaQ.f k ((qaF x37 x39).f0) ((qaF x37 x39).f1) x9).bind fun bt158 => (if x39 < (x8.length : Int) then (qaM.l0 k x0 (x8.set (x39 : Int).toNat (wrap64 (bt158.1 + (mn x10 (wrap64 (bt158.2.1 - bt158.1)))))) x9 (wrap64 (x10 - (mn x10 (wrap64 (bt158.2.1 - bt158.1))))) x37 x38 (wrap64 (x39 + 1))) else (none))) else (none)) else (none)) else ((qaP.f k x0 x8).bind fun bt162 => (some (bt162.1, bt162.2.1, bt162.2.2)))
def qaM.f (k : Nat) (l0 : List (S29)) (a1 : Int) : Option (List Int × Int × Int) := (qaN.f k l0 a1).bind fun t150 => (if t150 = 0 then (if 0 ≤ (l0.length : Int) then (if ((l0.length : Int) : Int).toNat ≤ 35184372088832 then ((some (List.replicate ((l0.length : Int) : Int).toNat 0 : List Int)).bind fun y151 => (if a1 = 0 then (some (y151, 0, 0)) else ((qaA.f k l0 a1).bind fun t154 => ((qau.f k l0 t154 false).bind fun t155 => (qaM.l0 k l0 y151 t154 (wrap64 (a1 - t155)) l0 (l0.length : Int) 0))))) else (none)) else (none)) else (some (([] : List Int), 0, t150)))
theorem qaM.qbB : ∀ k, (∀ y0 y1 y2 y3 y4 y5 y6, LeO (qaM.l0 k y0 y1 y2 y3 y4 y5 y6) (qaM.l0 (k + 1) y0 y1 y2 y3 y4 y5 y6))
 | 0 => fun _ _ _ _ _ _ _ r h => by simp [qaM.l0] at h
 | k + 1 => by
  have ih0 := qaM.qbB k
  ·intro y0 y1 y2 y3 y4 y5 y6; unfold qaM.l0
   repeat' first
   | (with_reducible exact ih0 _ _ _ _ _ _ _)
   | (with_reducible exact qaN.mono _ _ _)
   | (with_reducible exact qaP.mono _ _ _)
   | (with_reducible exact qaA.mono _ _ _)
   | (with_reducible exact qau.mono _ _ _ _)
   | (with_reducible exact qaQ.mono _ _ _ _)
   | (with_reducible exact LeO.refl _)
   | (with_reducible exact LeO.none _)
   | (with_reducible refine LeO.ite ?_ ?_)
   | (with_reducible refine LeO.bind ?_ (fun _ => ?_))
   | exact ih0 _ _ _ _ _ _ _
   | exact qaN.mono _ _ _
   | exact qaP.mono _ _ _
   | exact qaA.mono _ _ _
   | exact qau.mono _ _ _ _
   | exact qaQ.mono _ _ _ _
   | exact LeO.none _
   | refine LeO.ite ?_ ?_
   | refine LeO.bind ?_ (fun _ => ?_)
theorem qaM.mono : ∀ a0 a1 k, LeO (qaM.f k a0 a1) (qaM.f (k + 1) a0 a1) := by
 intro a0 a1 k; have ih0 := qaM.qbB k
 unfold qaM.f
 repeat' first
   | (with_reducible exact ih0 _ _ _ _ _ _ _)
   | (with_reducible exact qaN.mono _ _ _)
   | (with_reducible exact qaP.mono _ _ _)
   | (with_reducible exact qaA.mono _ _ _)
   | (with_reducible exact qau.mono _ _ _ _)
   | (with_reducible exact qaQ.mono _ _ _ _)
   | (with_reducible exact LeO.refl _)
   | (with_reducible exact LeO.none _)
   | (with_reducible refine LeO.ite ?_ ?_)
   | (with_reducible refine LeO.bind ?_ (fun _ => ?_))
   | exact ih0 _ _ _ _ _ _ _
   | exact qaN.mono _ _ _
   | exact qaP.mono _ _ _
   | exact qaA.mono _ _ _
   | exact qau.mono _ _ _ _
   | exact qaQ.mono _ _ _ _
   | exact LeO.none _
   | refine LeO.ite ?_ ?_
   | refine LeO.bind ?_ (fun _ => ?_)
set_option maxHeartbeats 8000000 in
set_option maxRecDepth 100000 in
theorem qaM.calls (k : Nat) (A0 : Option Addr) (c0 : Nat) (l0 : List (S29)) (a1 : Int) (r1 : List Int) (r2 : Int) (r3 : Int) (w : World) (hr0 : Kd.C k29 w A0 l0.length l0) (hc0 : l0.length ≤ c0) (h : qaM.f k l0 a1 = some (r1, r2, r3)) :
  Calls Try.prog 18 #[.slice A0 l0.length c0, .int .i64 a1] w fun e w' => ∃ v0_ : Value, e = .returned (.tuple #[v0_, .int .i64 r2, .int .i64 r3]) ∧ Kd.V (Kd.int .i64) 3 w' w.heap.size (fun k_ => (w.heap.size ≤ k_)) v0_ r1 ∧ Below w.heap.size w w' := by
 have hu29 := Try.underlying29; have HR0 := qae.mk hr0
 have HC0 := qae.mk hc0
 clear hr0 hc0; have HB := qae.mk (Below.refl w.heap.size w)
 have H : ((qaN.f k l0 a1).bind fun t150 => (if t150 = 0 then (if 0 ≤ (l0.length : Int) then (if ((l0.length : Int) : Int).toNat ≤ 35184372088832 then ((some (List.replicate ((l0.length : Int) : Int).toNat 0 : List Int)).bind fun y151 => (if a1 = 0 then (some (y151, 0, 0)) else ((qaA.f k l0 a1).bind fun t154 => ((qau.f k l0 t154 false).bind fun t155 => (qaM.l0 k l0 y151 t154 (wrap64 (a1 - t155)) l0 (l0.length : Int) 0))))) else (none)) else (none)) else (some (([] : List Int), 0, t150)))) = some (r1, r2, r3) := h
 clear h; replace H := Option.bind_eq_some_iff.mp H; obtain ⟨t150, A30, H⟩ := H; replace H : (if t150 = 0 then (if 0 ≤ (l0.length : Int) then (if ((l0.length : Int) : Int).toNat ≤ 35184372088832 then ((some (List.replicate ((l0.length : Int) : Int).toNat 0 : List Int)).bind fun y151 => (if a1 = 0 then (some (y151, 0, 0)) else ((qaA.f k l0 a1).bind fun t154 => ((qau.f k l0 t154 false).bind fun t155 => (qaM.l0 k l0 y151 t154 (wrap64 (a1 - t155)) l0 (l0.length : Int) 0))))) else (none)) else (none)) else (some (([] : List Int), 0, t150))) = some (r1, r2, r3) := H
 have A3 := qae.mk A30
 clear A30; by_cases c4 : t150 = 0
 ·rw [if_pos c4] at H; have c4b0 : (t150 == 0) = true := beq_iff_eq.mpr c4; have c4b1 : (t150 != 0) = false := bne_eq_false_iff_eq.mpr c4; clear c4; by_cases c5 : 0 ≤ (l0.length : Int)
  ·rw [if_pos c5] at H; have c5b0 := eq_true c5
   have c5b1 : decide (0 ≤ (l0.length : Int)) = true := decide_eq_true c5; clear c5; by_cases c6 : ((l0.length : Int) : Int).toNat ≤ 35184372088832
   ·rw [if_pos c6] at H; have c6b0 := eq_true c6
    have c6b1 : decide (((l0.length : Int) : Int).toNat ≤ 35184372088832) = true := decide_eq_true c6; clear c6; obtain ⟨y151, hy151⟩ : ∃ y_ : List Int, y_ = (List.replicate ((l0.length : Int) : Int).toNat 0) := ⟨_, rfl⟩
    replace H : (if a1 = 0 then (some (y151, 0, 0)) else ((qaA.f k l0 a1).bind fun t154 => ((qau.f k l0 t154 false).bind fun t155 => (qaM.l0 k l0 y151 t154 (wrap64 (a1 - t155)) l0 (l0.length : Int) 0)))) = some (r1, r2, r3) := by first | (rw [hy151]; with_reducible exact H) | (have H2_ := (Option.bind_some _ _).symm.trans H; rw [hy151]; with_reducible exact H2_) | (have H2_ := (Option.bind_some _ _).symm.trans H; with_reducible exact H2_) | with_reducible exact H | (rw [hy151]; exact H) | exact H
    have Ny151 := qae.mk hy151
    clear hy151; by_cases c7 : a1 = 0
    ·rw [if_pos c7] at H; have c7b0 : (a1 == 0) = true := beq_iff_eq.mpr c7; have c7b1 : (a1 != 0) = false := bne_eq_false_iff_eq.mpr c7; clear c7; simp only [Option.some.injEq, Prod.mk.injEq] at H
     obtain ⟨rfl, rfl, rfl⟩ := H; go_enter Try.func18, Try.ntmps18; go_wp2_with (first | ((with_reducible refine qaG (f := 47) rfl ?_); refine qa7 (some 19) rfl rfl Try.func47 (by kernel_rfl) rfl #[.slice A0 l0.length c0, .int .i64 a1] rfl (by (try simp only [qy6, qy7, qy8]); first | done | rfl | (simp only [List.length_drop, List.length_take]; rfl)) ?_; (with_reducible refine (qaN.calls k _ _ l0 a1 t150 _ ?side1 ?side2 A3.out).mono ?_); (case side1 => repeat (first | exact HR0.out | (with_reducible refine Kd.qbk ?_ _) | (with_reducible refine Kd.qbj ?_ _) | (with_reducible refine Kd.qbA ?_))); (case side2 => exact HC0.out); rintro e w8 ⟨rfl, hb⟩; refine ⟨_, rfl, ?_⟩; have n0_ := qae.mk (qar (by repeat (first | (with_reducible first | exact HB.out | apply qad | apply qaa | apply qac) | exact HB.out)) hb); clear HB; have HB := n0_; clear n0_; (try clear hb); (try clear hb2); (try clear hk); (try clear hi)) | ((with_reducible refine qaW (N := 25) rfl ?_); refine Kd.R_make (Kd.int .i64) _ 3 rfl (N := 25) rfl 34 _ _ rfl (l0.length : Int) rfl rfl Try.underlying34 (.int .i64 0) 8 info3 rfl (by decide) (by omega) 0 (ok := fun _ => True) (okp := fun _ => True) rfl (fun _ hk => hk) trivial (of_decide_eq_true (by first | (with_reducible assumption) | assumption)) (Nat.le_trans (Nat.mul_le_mul_right _ (of_decide_eq_true (by first | (with_reducible assumption) | assumption) : (l0.length : Int).toNat ≤ 35184372088832)) (by omega)) (Below.refl _ _) (Nat.le_refl _) ?_; intro v152 w9 ho10 hb hg_ hnew_; clear hg_ hnew_; (first | rw [← Ny151.out] at ho10 | (simp only [Int.reduceToNat] at ho10; rw [← Ny151.out] at ho10)); have n0_ := qae.mk (Kd.qbJ (Kd.R_newM (M := fun k_ => (w.heap.size ≤ k_)) ho10 (qan (by repeat (first | (with_reducible first | exact HB.out | apply qad | apply qaa | apply qac) | exact HB.out))) (fun k_ h_ => h_)) (qan (by repeat (first | (with_reducible first | exact HB.out | apply qad | apply qaa | apply qac) | exact HB.out)))); have n1_ := qae.mk (qar (by repeat (first | (with_reducible first | exact HB.out | apply qad | apply qaa | apply qac) | exact HB.out)) hb); clear HB; have HO153 := n0_; have HB := n1_; clear n0_ n1_; clear hb ho10))
     go_ret3
     exact ⟨_, by first | rfl | (simp [qaw, qav] <;> rfl) | (simp [*, qaw, qav] <;> rfl), Kd.R_V (by (with_reducible repeat (first | apply Kd.qay | apply Kd.qax | apply Kd.qaD)); exact Kd.qa3 HO153.out (fun _ hk => hk.1)), by repeat (first | (with_reducible first | exact HB.out | apply qad | apply qaa | apply qac) | exact HB.out)⟩
    ·rw [if_neg c7] at H; have c7b0 : (a1 == 0) = false := beq_eq_false_iff_ne.mpr c7; have c7b1 : (a1 != 0) = true := bne_iff_ne.mpr c7; replace H := Option.bind_eq_some_iff.mp H; obtain ⟨t154, A110, H⟩ := H; replace H : ((qau.f k l0 t154 false).bind fun t155 => (qaM.l0 k l0 y151 t154 (wrap64 (a1 - t155)) l0 (l0.length : Int) 0)) = some (r1, r2, r3) := H
     have A11 := qae.mk A110
     clear A110; replace H := Option.bind_eq_some_iff.mp H; obtain ⟨t155, A120, H⟩ := H; replace H : (qaM.l0 k l0 y151 t154 (wrap64 (a1 - t155)) l0 (l0.length : Int) 0) = some (r1, r2, r3) := H
     have A12 := qae.mk A120
     clear A120; have H' := qae.mk H; clear H; go_enter Try.func18, Try.ntmps18; go_wp2_with (first | ((with_reducible refine qaG (f := 47) rfl ?_); refine qa7 (some 19) rfl rfl Try.func47 (by kernel_rfl) rfl #[.slice A0 l0.length c0, .int .i64 a1] rfl (by (try simp only [qy6, qy7, qy8]); first | done | rfl | (simp only [List.length_drop, List.length_take]; rfl)) ?_; (with_reducible refine (qaN.calls k _ _ l0 a1 t150 _ ?side1 ?side2 A3.out).mono ?_); (case side1 => repeat (first | exact HR0.out | (with_reducible refine Kd.qbk ?_ _) | (with_reducible refine Kd.qbj ?_ _) | (with_reducible refine Kd.qbA ?_))); (case side2 => exact HC0.out); rintro e w13 ⟨rfl, hb⟩; refine ⟨_, rfl, ?_⟩; have n0_ := qae.mk (qar (by repeat (first | (with_reducible first | exact HB.out | apply qad | apply qaa | apply qac) | exact HB.out)) hb); clear HB; have HB := n0_; clear n0_; (try clear hb); (try clear hb2); (try clear hk); (try clear hi)) | ((with_reducible refine qaW (N := 25) rfl ?_); refine Kd.R_make (Kd.int .i64) _ 3 rfl (N := 25) rfl 34 _ _ rfl (l0.length : Int) rfl rfl Try.underlying34 (.int .i64 0) 8 info3 rfl (by decide) (by omega) 0 (ok := fun _ => True) (okp := fun _ => True) rfl (fun _ hk => hk) trivial (of_decide_eq_true (by first | (with_reducible assumption) | assumption)) (Nat.le_trans (Nat.mul_le_mul_right _ (of_decide_eq_true (by first | (with_reducible assumption) | assumption) : (l0.length : Int).toNat ≤ 35184372088832)) (by omega)) (Below.refl _ _) (Nat.le_refl _) ?_; intro v152 w14 ho15 hb hg_ hnew_; clear hg_ hnew_; (first | rw [← Ny151.out] at ho15 | (simp only [Int.reduceToNat] at ho15; rw [← Ny151.out] at ho15)); have n0_ := qae.mk (Kd.qbJ (Kd.R_newM (M := fun k_ => (w.heap.size ≤ k_)) ho15 (qan (by repeat (first | (with_reducible first | exact HB.out | apply qad | apply qaa | apply qac) | exact HB.out))) (fun k_ h_ => h_)) (qan (by repeat (first | (with_reducible first | exact HB.out | apply qad | apply qaa | apply qac) | exact HB.out)))); have n1_ := qae.mk (qar (by repeat (first | (with_reducible first | exact HB.out | apply qad | apply qaa | apply qac) | exact HB.out)) hb); clear HB; have HO153 := n0_; have HB := n1_; clear n0_ n1_; clear hb ho15) | ((with_reducible refine qaG (f := 48) rfl ?_); refine qa7 (some 31) rfl rfl Try.func48 (by kernel_rfl) rfl #[.slice A0 l0.length c0, .int .i64 a1] rfl (by (try simp only [qy6, qy7, qy8]); first | done | rfl | (simp only [List.length_drop, List.length_take]; rfl)) ?_; (with_reducible refine (qaA.calls k _ _ l0 a1 t154 _ ?side1 ?side2 A11.out).mono ?_); (case side1 => repeat (first | exact (Kd.qbC HR0.out HB.out) | (with_reducible refine Kd.qbk ?_ _) | (with_reducible refine Kd.qbj ?_ _) | (with_reducible refine Kd.qbA ?_))); (case side2 => exact HC0.out); rintro e w16 ⟨rfl, hb⟩; refine ⟨_, rfl, ?_⟩; have n0_ := qae.mk (Kd.qbc (by (with_reducible repeat (first | apply Kd.qay | apply Kd.qax | apply Kd.qaD)); exact HO153.out) hb); have n1_ := qae.mk (qar (by repeat (first | (with_reducible first | exact HB.out | apply qad | apply qaa | apply qac) | exact HB.out)) hb); clear HO153; clear HB; have HO153 := n0_; have HB := n1_; clear n0_ n1_; (try clear hb); (try clear hb2); (try clear hk); (try clear hi)) | ((with_reducible refine qaG (f := 49) rfl ?_); refine qa7 (some 35) rfl rfl Try.func49 (by kernel_rfl) rfl #[.slice A0 l0.length c0, .int .i64 t154, .bool false] rfl (by (try simp only [qy6, qy7, qy8]); first | done | rfl | (simp only [List.length_drop, List.length_take]; rfl)) ?_; (with_reducible refine (qau.calls k _ _ l0 t154 false t155 _ ?side1 ?side2 A12.out).mono ?_); (case side1 => repeat (first | exact (Kd.qbC HR0.out HB.out) | (with_reducible refine Kd.qbk ?_ _) | (with_reducible refine Kd.qbj ?_ _) | (with_reducible refine Kd.qbA ?_))); (case side2 => exact HC0.out); rintro e w17 ⟨rfl, hb⟩; refine ⟨_, rfl, ?_⟩; have n0_ := qae.mk (Kd.qbc (by (with_reducible repeat (first | apply Kd.qay | apply Kd.qax | apply Kd.qaD)); exact HO153.out) hb); have n1_ := qae.mk (qar (by repeat (first | (with_reducible first | exact HB.out | apply qad | apply qaa | apply qac) | exact HB.out)) hb); clear HO153; clear HB; have HO153 := n0_; have HB := n1_; clear n0_ n1_; (try clear hb); (try clear hb2); (try clear hk); (try clear hi)))
     (try simp only [Act.put, List.setIfInBounds_toArray, List.set_cons_zero, List.set_cons_succ])
     go_loopg [10, 39] k (fun kq v10 v39 w' => ∃ (x8_1 : List Int) (x10_1 : Int) (x39_1 : Int), v10 = .int .i64 x10_1 ∧ v39 = .int .i64 x39_1 ∧ qae (qaM.l0 kq l0 x8_1 t154 x10_1 l0 (l0.length : Int) x39_1 = some (r1, r2, r3)) ∧ qae (kq ≤ k) ∧ qae (Kd.R (Kd.int .i64) 3 w' w.heap.size (fun k_ => (w.heap.size ≤ k_)) v152 x8_1) ∧ qae (Below w.heap.size w w'))
     case atStart => exact ⟨(y151), (wrap64 (a1 - t155)), (0), (by first | rfl | (simp; done) | (simp [*]; done)), (by first | rfl | (simp; done) | (simp [*]; done)), H', ⟨Nat.le_refl _⟩, ⟨by (with_reducible repeat (first | apply Kd.qay | apply Kd.qax | apply Kd.qaD)); exact Kd.qa3 HO153.out (fun _ hk => hk.1)⟩, ⟨by repeat (first | (with_reducible first | exact HB.out | apply qad | apply qaa | apply qac) | exact HB.out)⟩⟩
     case round =>
      clear H'; (try clear c1); (try clear p2); (try clear c4); (try clear c4b0); (try clear c4b1); (try clear c5); (try clear c5b0); (try clear c5b1); (try clear c6); (try clear c6b0); (try clear c6b1); (try clear p6); (try clear c7); (try clear c7b0); (try clear c7b1); obtain ⟨x8_1, x10_1, x39_1, rfl, rfl, HA, HK1, HO_8, HB⟩ := hrel
      cases gk with
      | zero => exact absurd HA.out (by simp [qaM.l0])
      | succ k1 =>
       have H := HA.out; clear HA; simp only [qaM.l0] at H
       by_cases c18 : x39_1 < (l0.length : Int)
       ·rw [if_pos c18] at H; have c18b0 : decide (x39_1 < (l0.length : Int)) = true := decide_eq_true c18; clear c18; by_cases c19 : 0 ≤ x39_1
        ·rw [if_pos c19] at H; have c19b0 : decide (0 ≤ x39_1) = true := decide_eq_true c19; clear c19; by_cases c20 : x39_1 < (l0.length : Int)
         ·rw [if_pos c20] at H; have c20b0 : decide (x39_1 < (l0.length : Int)) = true := decide_eq_true c20; clear c20; replace H := Option.bind_eq_some_iff.mp H; obtain ⟨⟨t158, t159, t160⟩, A210, H⟩ := H
          replace H : (if x39_1 < (x8_1.length : Int) then (qaM.l0 k1 l0 (x8_1.set (x39_1 : Int).toNat (wrap64 (t158 + (mn x10_1 (wrap64 (t159 - t158)))))) t154 (wrap64 (x10_1 - (mn x10_1 (wrap64 (t159 - t158))))) l0 (l0.length : Int) (wrap64 (x39_1 + 1))) else (none)) = some (r1, r2, r3) := H
          have A21 := qae.mk A210
          clear A210; obtain ⟨ji22, hji22⟩ : ∃ j_ : Int, (mn x10_1 (wrap64 (t159 - t158))) = j_ := ⟨_, rfl⟩
          replace H : (if x39_1 < (x8_1.length : Int) then (qaM.l0 k1 l0 (x8_1.set (x39_1 : Int).toNat (wrap64 (t158 + (ji22)))) t154 (wrap64 (x10_1 - (ji22))) l0 (l0.length : Int) (wrap64 (x39_1 + 1))) else (none)) = some (r1, r2, r3) := by first | (rw [hji22] at H; exact H) | (simp only [hji22] at H ⊢; exact H)
          (try rw [hji22] at A21)
          have hji22_ : (if (wrap64 (t159 - t158)) < x10_1 then (wrap64 (t159 - t158)) else x10_1) = ji22 := hji22
          by_cases c23 : x39_1 < (x8_1.length : Int)
          ·rw [if_pos c23] at H; have c23b0 : decide (x39_1 < (x8_1.length : Int)) = true := decide_eq_true c23; clear c23; obtain ⟨y161, hy161⟩ : ∃ y_ : List Int, y_ = (x8_1.set (x39_1 : Int).toNat (wrap64 (t158 + (ji22)))) := ⟨_, rfl⟩
           replace H : (qaM.l0 k1 l0 y161 t154 (wrap64 (x10_1 - (ji22))) l0 (l0.length : Int) (wrap64 (x39_1 + 1))) = some (r1, r2, r3) := by first | (rw [hy161]; with_reducible exact H) | (have H2_ := (Option.bind_some _ _).symm.trans H; rw [hy161]; with_reducible exact H2_) | (have H2_ := (Option.bind_some _ _).symm.trans H; with_reducible exact H2_) | with_reducible exact H | (rw [hy161]; exact H) | exact H
           have Ny161 := qae.mk hy161
           clear hy161; have H' := qae.mk H; clear H; have p156 : 0 ≤ (x39_1 : Int) := of_decide_eq_true (by first | (with_reducible assumption) | assumption)
           have q156 : x39_1 < (l0.length : Int) := of_decide_eq_true (by first | (with_reducible assumption) | assumption)
           obtain ⟨ad156, A156_1, c156_1, e156, hx156_0, hx156_1, hl156_1, hi156_1⟩ := at_T29 HR0.out x39_1 p156 q156
           cases e156
           replace hx156_0 := (HB.out.cell (World.block_lt_of_cell? w _ hx156_0)).trans hx156_0
           replace hx156_1 := (HB.out.cell (World.block_lt_of_cell? w _ hx156_1)).trans hx156_1
           have HR156_1 := qae.mk hi156_1
           have HC156_1 := qae.mk hl156_1
           clear hi156_1 hl156_1; replace p156 := eq_true p156; replace q156 := eq_true q156; go_wp2_with (first | ((with_reducible refine qaW (N := 12) rfl ?_); refine qaU ?hg (N := 12) ?hd (cs := #[.string (⟨#[]⟩ : ByteArray), .slice none 0 0]) (t := 29) ?hr ?_; (case hd => rfl); (case hg => rfl); (case hr => first | (go_simp; done) | (go_simp; rfl)); intro gb157 hg w25 hbox hb; have n0_ := qae.mk (Kd.qbc (by (with_reducible repeat (first | apply Kd.qay | apply Kd.qax | apply Kd.qaD)); exact HO_8.out) hb); have n1_ := qae.mk (qar (by repeat (first | (with_reducible first | exact HB.out | apply qad | apply qaa | apply qac) | exact HB.out)) hb); have n2_ := qae.mk (hbox); have n3_ := qae.mk ((by rw [hg]; exact (qan (by repeat (first | (with_reducible first | exact HB.out | apply qad | apply qaa | apply qac) | exact HB.out))) : w.heap.size ≤ gb157)); have n4_ := qae.mk ((by rw [hg]; exact (qan (by repeat (first | (with_reducible first | exact HB.out | apply qad | apply qaa | apply qac) | exact HB.out))) : w.heap.size ≤ gb157)); clear HO_8; clear HB; have HO_8 := n0_; have HB := n1_; have BK157 := n2_; have GW157 := n3_; have GE157 := n4_; clear n0_ n1_ n2_ n3_ n4_; clear hb hbox hg; have hcz26_0 : w25.cell? ⟨gb157, 0, none⟩ = some (.string (⟨#[]⟩ : ByteArray)) := (qao BK157.out 0).trans rfl; have hcz26_1 : w25.cell? ⟨gb157, 1, none⟩ = some (.slice none 0 0) := (qao BK157.out 1).trans rfl; have hfz26_0 := qam BK157.out 0; have hfz26_1 := qam BK157.out 1) | ((with_reducible refine qaG (f := 50) rfl ?_); refine qa7 (some 47) rfl rfl Try.func50 (by kernel_rfl) rfl #[.agg #[.string ((qaF l0 x39_1).f0), .slice A156_1 ((qaF l0 x39_1).f1).length c156_1], .int .i64 t154] rfl (by (try simp only [qy6, qy7, qy8]); first | done | rfl | (simp only [List.length_drop, List.length_take]; rfl)) ?_; (with_reducible refine (qaQ.calls k1 ((qaF l0 x39_1).f0) _ _ ((qaF l0 x39_1).f1) t154 t158 t159 t160 _ ?side1 ?side2 A21.out).mono ?_); (case side1 => exact Kd.qbC HR156_1.out (by repeat (first | (with_reducible first | exact HB.out | apply qad | apply qaa | apply qac | refine qah ?_ GE157.out) | exact HB.out))); (case side2 => exact HC156_1.out); rintro e w27 ⟨rfl, hb⟩; refine ⟨_, rfl, ?_⟩; have n0_ := qae.mk (Kd.qbc (by (with_reducible repeat (first | apply Kd.qay | apply Kd.qax | apply Kd.qaD)); exact (Kd.qa3 (Kd.R_far (p := ⟨gb157, 1, none⟩) (Kd.R_far (p := ⟨gb157, 0, none⟩) (Kd.qbI HO_8.out BK157.out (by decide)) (fun _ hk => hk.2) (.string ((qaF l0 x39_1).f0))) (fun _ hk => hk.2) (.slice A156_1 ((qaF l0 x39_1).f1).length c156_1)) (fun _ h_ => h_.1))) hb); have n1_ := qae.mk (qa5 (g := gb157) (o := .cells #[.string ((qaF l0 x39_1).f0), .slice A156_1 ((qaF l0 x39_1).f1).length c156_1] 29 (0, 0)) (by (with_reducible repeat (first | refine qai ?_ _ | refine qak ?_ | refine qaj ?_ _)); refine qba (cs := #[.string ((qaF l0 x39_1).f0), .slice none 0 0]) ?_ 1 _ rfl; (with_reducible repeat (first | refine qai ?_ _ | refine qak ?_ | refine qaj ?_ _)); refine qba (cs := #[.string (⟨#[]⟩ : ByteArray), .slice none 0 0]) ?_ 0 _ rfl; (with_reducible repeat (first | refine qai ?_ _ | refine qak ?_ | refine qaj ?_ _)); exact BK157.out) hb); have n2_ := qae.mk (qar (by repeat (first | (with_reducible first | exact HB.out | apply qad | apply qaa | apply qac | refine qah ?_ GE157.out) | exact HB.out)) hb); clear HO_8; clear BK157; clear HB; have HO_8 := n0_; have BK157 := n1_; have HB := n2_; clear n0_ n1_ n2_; (try clear hb); (try clear hb2); (try clear hk); (try clear hi); have p24 : 0 ≤ (x39_1 : Int) := of_decide_eq_true (by first | (with_reducible assumption) | assumption); have q24 : (x39_1 : Int) < ((x8_1.length : Int) : Int) := of_decide_eq_true (by first | (with_reducible assumption) | assumption); obtain ⟨go24, co24, eo24, gb24, gl24, cl24, HG24⟩ := Kd.R_form HO_8.out (by omega); (first | cases eo24 | (injection eo24 with ea_ en_ ec_; (first | subst ea_ | (injection ea_ with ea_; subst ea_)); subst ec_; clear en_)); have GB24 := qae.mk gb24; have GG24 := qae.mk HG24; clear gb24 gl24 HG24; obtain ⟨hx24_0, hf24_0⟩ := Kd.R_celln 0 HO_8.out (x39_1 : Int) p24 q24; replace p24 := eq_true p24; replace q24 := eq_true q24; obtain ⟨hy28_, hz28_⟩ := Kd.R_celln 0 HO_8.out (x39_1 : Int) (of_decide_eq_true (by first | (with_reducible assumption) | assumption)) (of_decide_eq_true (by first | (with_reducible assumption) | assumption)); have HP28 := Kd.R_putg HO_8.out (x39_1 : Int) (wrap64 (t158 + (ji22)))) | ((with_reducible refine gate_store (t := 3) (p := 64) rfl ?_); refine store_event (t := 3) (p := 64) (v := ?vo_w29) (w1 := (w27.setCell ⟨go24, (x39_1 : Int).toNat, none⟩ (.int .i64 (wrap64 (t158 + (ji22)))))) ?hg ?ho ?hn ?hr ?_; (case ho => rfl); (case hg => rfl); (case hn => rfl); (case hr => first | (go_simp; done) | (go_simp; rfl)); intro w29 hw; have hg : w27.grownBy w29 (some go24) := (by rw [hw]; exact HP28.2); have hp_ : Kd.R (Kd.int .i64) 3 w29 w.heap.size (fun k_ => (w.heap.size ≤ k_)) (.slice (some ⟨go24, 0, none⟩) x8_1.length co24) y161 := (by rw [hw, Ny161.out]; exact HP28.1); clear HP28; have n0_ := qae.mk (hp_); have n1_ := qae.mk (qbS (g := gb157) (o := .cells #[.string ((qaF l0 x39_1).f0), .slice A156_1 ((qaF l0 x39_1).f1).length c156_1] 29 (0, 0)) (by (with_reducible repeat (first | refine qai ?_ _ | refine qak ?_ | refine qaj ?_ _)); exact BK157.out) hg (Kd.R_ne HO_8.out BK157.out (by decide))); have n2_ := qae.mk ((by rw [hw]; exact qah (HB.out) GB24.out : Below w.heap.size w w29)); clear HO_8; clear BK157; clear HB; have HO_8 := n0_; have BK157 := n1_; have HB := n2_; clear n0_ n1_ n2_; clear hg hw hp_))
           go_roundg k1
           case measure => have := HK1.out; omega
           case rel => exact ⟨(y161), (wrap64 (x10_1 - (ji22))), (wrap64 (x39_1 + 1)), (by first | rfl | (simp; done) | (simp only [← hji22] <;> (first | rfl | simp)) | (simp [*]; done)), (by first | rfl | (simp; done) | (simp [*]; done)), H', ⟨by have := HK1.out; omega⟩, ⟨by (with_reducible repeat (first | apply Kd.qay | apply Kd.qax | apply Kd.qaD)); exact HO_8.out⟩, ⟨by repeat (first | (with_reducible first | exact HB.out | apply qad | apply qaa | apply qac | refine qah ?_ GE157.out) | exact HB.out)⟩⟩
          ·rw [if_neg c23] at H; exact absurd H (by simp)
         ·rw [if_neg c20] at H; exact absurd H (by simp)
        ·rw [if_neg c19] at H; exact absurd H (by simp)
       ·rw [if_neg c18] at H; have c18b0 : decide (x39_1 < (l0.length : Int)) = false := decide_eq_false c18; clear c18; replace H := Option.bind_eq_some_iff.mp H; obtain ⟨⟨t162, t165, t166⟩, A300, H⟩ := H
        replace H : (some (t162, t165, t166)) = some (r1, r2, r3) := H
        have A30 := qae.mk A300
        clear A300; simp only [Option.some.injEq, Prod.mk.injEq] at H
        obtain ⟨rfl, rfl, rfl⟩ := H; obtain ⟨Ao31, co31, eo31⟩ := Kd.qbh HO_8.out
        subst eo31; go_wp2_with (first | ((with_reducible refine qaG (f := 51) rfl ?_); refine qa7 (some 68) rfl rfl Try.func51 (by kernel_rfl) rfl #[.slice A0 l0.length c0, .slice Ao31 x8_1.length co31] rfl (by (try simp only [qy6, qy7, qy8]); first | done | rfl | (simp only [List.length_drop, List.length_take]; rfl)) ?_; (with_reducible refine (qaP.calls k1 _ _ l0 (fun k_ => some k_ = (.slice Ao31 x8_1.length co31 : Value).ownBlock) _ _ x8_1 t162 t165 t166 _ ?side1 ?side2 ?side3 A30.out).mono ?_); (case side1 => repeat (first | exact (Kd.qbC HR0.out HB.out) | (with_reducible refine Kd.qbk ?_ _) | (with_reducible refine Kd.qbj ?_ _) | (with_reducible refine Kd.qbA ?_))); (case side2 => exact HC0.out); (case side3 => exact Kd.R_V (Kd.qbP rfl (HO_8.out))); rintro e w32 ⟨v163, rfl, ho0, hb⟩; refine ⟨_, rfl, ?_⟩; have n0_ := qae.mk (Kd.qbc (by (with_reducible repeat (first | apply Kd.qay | apply Kd.qax | apply Kd.qaD)); exact HO_8.out) hb); have n1_ := qae.mk (Kd.V_lower (Kd.qbw (ok' := fun k_ => (w.heap.size ≤ k_)) ho0 (fun k_ hk_ => Or.elim hk_ (fun hs_ => ((HO_8.out).1 k_ hs_.symm)) (fun hn_ => (Nat.le_trans (qan (by repeat (first | (with_reducible first | exact HB.out | apply qad | apply qaa | apply qac) | exact HB.out))) hn_)))) (qan (by repeat (first | (with_reducible first | exact HB.out | apply qad | apply qaa | apply qac) | exact HB.out)))); have n2_ := qae.mk (qar (by repeat (first | (with_reducible first | exact HB.out | apply qad | apply qaa | apply qac) | exact HB.out)) hb); clear HO_8; clear HB; have HO_8 := n0_; have HO164 := n1_; have HB := n2_; clear n0_ n1_ n2_; (try clear hb); (try clear hb2); (try clear hk); (try clear hi); (try clear ho0)))
        go_ret3
        exact ⟨_, by first | rfl | (simp [qaw, qav] <;> rfl) | (simp [*, qaw, qav] <;> rfl), by (with_reducible repeat (first | apply Kd.qa1 | apply Kd.qaZ | apply Kd.qbb)); exact HO164.out, by repeat (first | (with_reducible first | exact HB.out | apply qad | apply qaa | apply qac) | exact HB.out)⟩
   ·rw [if_neg c6] at H; exact absurd H (by simp)
  ·rw [if_neg c5] at H; exact absurd H (by simp)
 ·rw [if_neg c4] at H; have c4b0 : (t150 == 0) = false := beq_eq_false_iff_ne.mpr c4; have c4b1 : (t150 != 0) = true := bne_iff_ne.mpr c4; simp only [Option.some.injEq, Prod.mk.injEq] at H
  obtain ⟨rfl, rfl, rfl⟩ := H; go_enter Try.func18, Try.ntmps18; go_wp2_with (first | ((with_reducible refine qaG (f := 47) rfl ?_); refine qa7 (some 19) rfl rfl Try.func47 (by kernel_rfl) rfl #[.slice A0 l0.length c0, .int .i64 a1] rfl (by (try simp only [qy6, qy7, qy8]); first | done | rfl | (simp only [List.length_drop, List.length_take]; rfl)) ?_; (with_reducible refine (qaN.calls k _ _ l0 a1 t150 _ ?side1 ?side2 A3.out).mono ?_); (case side1 => repeat (first | exact HR0.out | (with_reducible refine Kd.qbk ?_ _) | (with_reducible refine Kd.qbj ?_ _) | (with_reducible refine Kd.qbA ?_))); (case side2 => exact HC0.out); rintro e w33 ⟨rfl, hb⟩; refine ⟨_, rfl, ?_⟩; have n0_ := qae.mk (qar (by repeat (first | (with_reducible first | exact HB.out | apply qad | apply qaa | apply qac) | exact HB.out)) hb); clear HB; have HB := n0_; clear n0_; (try clear hb); (try clear hb2); (try clear hk); (try clear hi)))
  go_ret3
  exact ⟨_, by first | rfl | (simp [qaw, qav] <;> rfl) | (simp [*, qaw, qav] <;> rfl), Kd.R_V (base := 0) (by first | exact Kd.R_nil _ _ _ _ _ | exact Kd.N_nil _ _ _ _ _ | exact Kd.V_nil _ _ _ _ _ | exact Kd.Q_nil _ _ _ _ _ | exact Kd.S_nil _ _ _ _ _), by repeat (first | (with_reducible first | exact HB.out | apply qad | apply qaa | apply qac) | exact HB.out)⟩
def qaJ.l0 : Nat → List Int → List Int → Int → Int → Option (Bool)
 | 0, _, _, _, _ => none
 | k + 1, x0, x1, x12, x13 => if x13 < x12 then (if 0 ≤ x13 then (if x13 < (x0.length : Int) then (if x13 < (x1.length : Int) then (if (rd x0 x13) = (rd x1 x13) then (qaJ.l0 k x0 x1 x12 (wrap64 (x13 + 1))) else (some false)) else (none)) else (none)) else (none)) else (some true)
def qaJ.f (k : Nat) (l0 : List Int) (l1 : List Int) : Option (Bool) := if (l0.length : Int) = (l1.length : Int) then (qaJ.l0 k l0 l1 (l0.length : Int) 0) else (some false)
theorem qaJ.qbB : ∀ k, (∀ y0 y1 y2 y3, LeO (qaJ.l0 k y0 y1 y2 y3) (qaJ.l0 (k + 1) y0 y1 y2 y3))
 | 0 => fun _ _ _ _ r h => by simp [qaJ.l0] at h
 | k + 1 => by
  have ih0 := qaJ.qbB k
  ·intro y0 y1 y2 y3; unfold qaJ.l0
   repeat' first
   | (with_reducible exact ih0 _ _ _ _)
   | (with_reducible exact LeO.refl _)
   | (with_reducible exact LeO.none _)
   | (with_reducible refine LeO.ite ?_ ?_)
   | (with_reducible refine LeO.bind ?_ (fun _ => ?_))
   | exact ih0 _ _ _ _
   | exact LeO.none _
   | refine LeO.ite ?_ ?_
   | refine LeO.bind ?_ (fun _ => ?_)
theorem qaJ.mono : ∀ a0 a1 k, LeO (qaJ.f k a0 a1) (qaJ.f (k + 1) a0 a1) := by
 intro a0 a1 k; have ih0 := qaJ.qbB k
 unfold qaJ.f
 repeat' first
   | (with_reducible exact ih0 _ _ _ _)
   | (with_reducible exact LeO.refl _)
   | (with_reducible exact LeO.none _)
   | (with_reducible refine LeO.ite ?_ ?_)
   | (with_reducible refine LeO.bind ?_ (fun _ => ?_))
   | exact ih0 _ _ _ _
   | exact LeO.none _
   | refine LeO.ite ?_ ?_
   | refine LeO.bind ?_ (fun _ => ?_)
set_option maxHeartbeats 8000000 in
set_option maxRecDepth 100000 in
theorem qaJ.calls (k : Nat) (A0 : Option Addr) (c0 : Nat) (l0 : List Int) (A1 : Option Addr) (c1 : Nat) (l1 : List Int) (r : Bool) (w : World) (hr0 : Kd.C (Kd.int .i64) w A0 l0.length l0) (hc0 : l0.length ≤ c0) (hr1 : Kd.C (Kd.int .i64) w A1 l1.length l1) (hc1 : l1.length ≤ c1) (h : qaJ.f k l0 l1 = some r) :
  Calls Try.prog 33 #[.slice A0 l0.length c0, .slice A1 l1.length c1] w fun e w' => e = .returned (.bool r) ∧ qa9 w w' := by
 have HR0 := qae.mk hr0
 have HC0 := qae.mk hc0
 clear hr0 hc0; have HR1 := qae.mk hr1
 have HC1 := qae.mk hc1
 clear hr1 hc1; have H : (if (l0.length : Int) = (l1.length : Int) then (qaJ.l0 k l0 l1 (l0.length : Int) 0) else (some false)) = some r := h
 clear h; by_cases c3 : (l0.length : Int) = (l1.length : Int)
 ·rw [if_pos c3] at H; have c3b0 : ((l0.length : Int) == (l1.length : Int)) = true := beq_iff_eq.mpr c3; have c3b1 : ((l0.length : Int) != (l1.length : Int)) = false := bne_eq_false_iff_eq.mpr c3; have c3b2 : (l0.length == l1.length) = true := by first | simpa using c3 | (simp at c3 ⊢; omega)
  clear c3; have H' := qae.mk H; clear H; go_enter Try.func33, Try.ntmps33; go_wp2; repeat (go_quiet (fail); try go_wp2)
  go_loopg [13] k (fun kq v13 w' => ∃ (x13_1 : Int), v13 = .int .i64 x13_1 ∧ qae (qaJ.l0 kq l0 l1 (l0.length : Int) x13_1 = some r) ∧ qae (kq ≤ k) ∧ qa9 w w')
  case atStart => exact ⟨(0), (by first | rfl | (simp; done) | (simp [*]; done)), H', ⟨Nat.le_refl _⟩, by repeat (first | exact qa9.refl _ | apply qa9.step)⟩
  case round =>
   clear H'; (try clear c1); (try clear p2); (try clear c3); (try clear c3b0); (try clear c3b1); (try clear c3b2); obtain ⟨x13_1, rfl, HA, HK1, ⟨m1, rfl⟩⟩ := hrel
   cases gk with
   | zero => exact absurd HA.out (by simp [qaJ.l0])
   | succ k1 =>
    have H := HA.out; clear HA; simp only [qaJ.l0] at H
    by_cases c4 : x13_1 < (l0.length : Int)
    ·rw [if_pos c4] at H; have c4b0 : decide (x13_1 < (l0.length : Int)) = true := decide_eq_true c4; clear c4; by_cases c5 : 0 ≤ x13_1
     ·rw [if_pos c5] at H; have c5b0 : decide (0 ≤ x13_1) = true := decide_eq_true c5; clear c5; by_cases c6 : x13_1 < (l0.length : Int)
      ·rw [if_pos c6] at H; have c6b0 : decide (x13_1 < (l0.length : Int)) = true := decide_eq_true c6; clear c6; by_cases c7 : x13_1 < (l1.length : Int)
       ·rw [if_pos c7] at H; have c7b0 : decide (x13_1 < (l1.length : Int)) = true := decide_eq_true c7; clear c7; by_cases c8 : (rd l0 x13_1) = (rd l1 x13_1)
        ·rw [if_pos c8] at H; have c8b0 : ((rd l0 x13_1) == (rd l1 x13_1)) = true := beq_iff_eq.mpr c8; have c8b1 : ((rd l0 x13_1) != (rd l1 x13_1)) = false := bne_eq_false_iff_eq.mpr c8; clear c8; have H' := qae.mk H; clear H; have p167 : 0 ≤ (x13_1 : Int) := of_decide_eq_true (by first | (with_reducible assumption) | assumption)
         have q167 : x13_1 < (l0.length : Int) := of_decide_eq_true (by first | (with_reducible assumption) | assumption)
         obtain ⟨ad167, e167, hx167_0⟩ := Kd.qbU HR0.out x13_1 p167 q167
         cases e167
         replace p167 := eq_true p167; replace q167 := eq_true q167; have p168 : 0 ≤ (x13_1 : Int) := of_decide_eq_true (by first | (with_reducible assumption) | assumption)
         have q168 : x13_1 < (l1.length : Int) := of_decide_eq_true (by first | (with_reducible assumption) | assumption)
         obtain ⟨ad168, e168, hx168_0⟩ := Kd.qbU HR1.out x13_1 p168 q168
         cases e168
         replace p168 := eq_true p168; replace q168 := eq_true q168; go_wp2; repeat (go_quiet (fail); try go_wp2)
         go_roundg k1
         case measure => have := HK1.out; omega
         case rel => exact ⟨(wrap64 (x13_1 + 1)), (by first | rfl | (simp; done) | (simp [*]; done)), H', ⟨by have := HK1.out; omega⟩, by repeat (first | exact qa9.refl _ | apply qa9.step)⟩
        ·rw [if_neg c8] at H; have c8b0 : ((rd l0 x13_1) == (rd l1 x13_1)) = false := beq_eq_false_iff_ne.mpr c8; have c8b1 : ((rd l0 x13_1) != (rd l1 x13_1)) = true := bne_iff_ne.mpr c8; obtain rfl := Option.some.inj H
         have p167 : 0 ≤ (x13_1 : Int) := of_decide_eq_true (by first | (with_reducible assumption) | assumption)
         have q167 : x13_1 < (l0.length : Int) := of_decide_eq_true (by first | (with_reducible assumption) | assumption)
         obtain ⟨ad167, e167, hx167_0⟩ := Kd.qbU HR0.out x13_1 p167 q167
         cases e167
         replace p167 := eq_true p167; replace q167 := eq_true q167; have p168 : 0 ≤ (x13_1 : Int) := of_decide_eq_true (by first | (with_reducible assumption) | assumption)
         have q168 : x13_1 < (l1.length : Int) := of_decide_eq_true (by first | (with_reducible assumption) | assumption)
         obtain ⟨ad168, e168, hx168_0⟩ := Kd.qbU HR1.out x13_1 p168 q168
         cases e168
         replace p168 := eq_true p168; replace q168 := eq_true q168; go_wp2; repeat (go_quiet (fail); try go_wp2)
         go_ret
         exact ⟨by first | rfl | (simp; done) | (simp [*]; done), by repeat (first | exact qa9.refl _ | apply qa9.step)⟩
       ·rw [if_neg c7] at H; exact absurd H (by simp)
      ·rw [if_neg c6] at H; exact absurd H (by simp)
     ·rw [if_neg c5] at H; exact absurd H (by simp)
    ·rw [if_neg c4] at H; have c4b0 : decide (x13_1 < (l0.length : Int)) = false := decide_eq_false c4; clear c4; obtain rfl := Option.some.inj H
     go_wp2; repeat (go_quiet (fail); try go_wp2)
     go_ret
     exact ⟨by first | rfl | (simp; done) | (simp [*]; done), by repeat (first | exact qa9.refl _ | apply qa9.step)⟩
 ·rw [if_neg c3] at H; have c3b0 : ((l0.length : Int) == (l1.length : Int)) = false := beq_eq_false_iff_ne.mpr c3; have c3b1 : ((l0.length : Int) != (l1.length : Int)) = true := bne_iff_ne.mpr c3; have c3b2 : (l0.length == l1.length) = false := by first | simpa using c3 | (simp at c3 ⊢; omega)
  obtain rfl := Option.some.inj H
  go_enter Try.func33, Try.ntmps33; go_wp2; repeat (go_quiet (fail); try go_wp2)
  go_ret
  exact ⟨by first | rfl | (simp; done) | (simp [*]; done), by repeat (first | exact qa9.refl _ | apply qa9.step)⟩
end Go.Proofs.Ytfcifmbddikflaa.P
