/- Texts of the claim, put together: Px15, Px16, Px17, Px18, Px19, Px20. -/
import Derived.Test.YtfcifmbddikflaaCReserveFree14
import Derived.Test.YtfcifmbddikflaaCReserveFree18
import Derived.Test.YtfcifmbddikflaaCReserveFree22
import Derived.Test.YtfcifmbddikflaaCReserveFree16
import Derived.Test.YtfcifmbddikflaaCReserveFree17
import Derived.Test.YtfcifmbddikflaaCReserveFree23
import Derived.Test.YtfcifmbddikflaaCReserveFree19
namespace Go.Proofs.Ytfcifmbddikflaa.P
open Go.RowKit Go.Proofs.YtfcifmbddikflaaW.PrintWords Go.Proofs.YtfcifmbddikflaaW.PrintLast Go.Proofs.YtfcifmbddikflaaW.PrintMore
attribute [local go_sem] qbo qbm qbz qby qbg qbf qbn qbl
set_option linter.unusedVariables false
set_option linter.unusedSimpArgs false
def qbe.f (k : Nat)  : Option (Bool) := (qa4.f (⟨#[65]⟩ : ByteArray)).bind fun bt169 => ((qa4.f (⟨#[66]⟩ : ByteArray)).bind fun bt173 => ((qaM.f k (([(⟨bt169.1, bt169.2⟩ : S29), (⟨bt173.1, bt173.2⟩ : S29)] : List (S29))) 22).bind fun bt180 => (if bt180.2.2 = 0 then (if bt180.2.1 = 116 then ((qaJ.f k bt180.1 (([12, 10] : List Int))).bind fun t188 => (some t188)) else (some false)) else (some false))))
theorem qbe.mono : ∀ k, LeO (qbe.f k ) (qbe.f (k + 1) ) := by
 intro  k; unfold qbe.f
 repeat' first
   | (with_reducible exact qaM.mono _ _ _)
   | (with_reducible exact qaJ.mono _ _ _)
   | (with_reducible exact LeO.refl _)
   | (with_reducible exact LeO.none _)
   | (with_reducible refine LeO.ite ?_ ?_)
   | (with_reducible refine LeO.bind ?_ (fun _ => ?_))
   | exact qaM.mono _ _ _
   | exact qaJ.mono _ _ _
   | exact LeO.none _
   | refine LeO.ite ?_ ?_
   | refine LeO.bind ?_ (fun _ => ?_)
set_option maxHeartbeats 8000000 in
set_option maxRecDepth 100000 in
theorem qbe.calls (k : Nat)  (r : Bool) (w : World) (h : qbe.f k  = some r) :
  Calls Try.prog 14 #[] w fun e w' => e = .returned (.bool r) ∧ Below w.heap.size w w' := by
 have HB := qae.mk (Below.refl w.heap.size w)
 have H : ((qa4.f (⟨#[65]⟩ : ByteArray)).bind fun bt169 => ((qa4.f (⟨#[66]⟩ : ByteArray)).bind fun bt173 => ((qaM.f k (([(⟨bt169.1, bt169.2⟩ : S29), (⟨bt173.1, bt173.2⟩ : S29)] : List (S29))) 22).bind fun bt180 => (if bt180.2.2 = 0 then (if bt180.2.1 = 116 then ((qaJ.f k bt180.1 (([12, 10] : List Int))).bind fun t188 => (some t188)) else (some false)) else (some false))))) = some r := h
 clear h; replace H := Option.bind_eq_some_iff.mp H; obtain ⟨⟨t169, t170⟩, A10, H⟩ := H
 replace H : ((qa4.f (⟨#[66]⟩ : ByteArray)).bind fun bt173 => ((qaM.f k (([(⟨t169, t170⟩ : S29), (⟨bt173.1, bt173.2⟩ : S29)] : List (S29))) 22).bind fun bt180 => (if bt180.2.2 = 0 then (if bt180.2.1 = 116 then ((qaJ.f k bt180.1 (([12, 10] : List Int))).bind fun t188 => (some t188)) else (some false)) else (some false)))) = some r := H
 have A1 := qae.mk A10
 clear A10; replace H := Option.bind_eq_some_iff.mp H; obtain ⟨⟨t173, t174⟩, A20, H⟩ := H
 replace H : ((qaM.f k (([(⟨t169, t170⟩ : S29), (⟨t173, t174⟩ : S29)] : List (S29))) 22).bind fun bt180 => (if bt180.2.2 = 0 then (if bt180.2.1 = 116 then ((qaJ.f k bt180.1 (([12, 10] : List Int))).bind fun t188 => (some t188)) else (some false)) else (some false))) = some r := H
 have A2 := qae.mk A20
 clear A20; obtain ⟨y177, hy177⟩ : ∃ y_ : List (S29), y_ = (([(⟨t169, t170⟩ : S29), (⟨t173, t174⟩ : S29)] : List (S29))) := ⟨_, rfl⟩
 replace H : ((qaM.f k y177 22).bind fun bt180 => (if bt180.2.2 = 0 then (if bt180.2.1 = 116 then ((qaJ.f k bt180.1 (([12, 10] : List Int))).bind fun t188 => (some t188)) else (some false)) else (some false))) = some r := by first | (rw [hy177]; with_reducible exact H) | (have H2_ := (Option.bind_some _ _).symm.trans H; rw [hy177]; with_reducible exact H2_) | (have H2_ := (Option.bind_some _ _).symm.trans H; with_reducible exact H2_) | with_reducible exact H | (rw [hy177]; exact H) | exact H
 have Ny177 := qae.mk hy177
 clear hy177; replace H := Option.bind_eq_some_iff.mp H; obtain ⟨⟨t180, t183, t184⟩, A30, H⟩ := H
 replace H : (if t184 = 0 then (if t183 = 116 then ((qaJ.f k t180 (([12, 10] : List Int))).bind fun t188 => (some t188)) else (some false)) else (some false)) = some r := H
 have A3 := qae.mk A30
 clear A30; by_cases c4 : t184 = 0
 ·rw [if_pos c4] at H; have c4b0 : (t184 == 0) = true := beq_iff_eq.mpr c4; have c4b1 : (t184 != 0) = false := bne_eq_false_iff_eq.mpr c4; clear c4; by_cases c5 : t183 = 116
  ·rw [if_pos c5] at H; have c5b0 : (t183 == 116) = true := beq_iff_eq.mpr c5; have c5b1 : (t183 != 116) = false := bne_eq_false_iff_eq.mpr c5; clear c5; obtain ⟨y185, hy185⟩ : ∃ y_ : List Int, y_ = (([12, 10] : List Int)) := ⟨_, rfl⟩
   replace H : ((qaJ.f k t180 y185).bind fun t188 => (some t188)) = some r := by first | (rw [hy185]; with_reducible exact H) | (have H2_ := (Option.bind_some _ _).symm.trans H; rw [hy185]; with_reducible exact H2_) | (have H2_ := (Option.bind_some _ _).symm.trans H; with_reducible exact H2_) | with_reducible exact H | (rw [hy185]; exact H) | exact H
   have Ny185 := qae.mk hy185
   clear hy185; replace H := Option.bind_eq_some_iff.mp H; obtain ⟨t188, A60, H⟩ := H; replace H : (some t188) = some r := H
   have A6 := qae.mk A60
   clear A60; obtain rfl := Option.some.inj H
   go_enter Try.func14, Try.ntmps14; go_wp2_with (first | ((with_reducible refine qaG (f := 16) rfl ?_); refine qa7 (some 5) rfl rfl Try.func16 (by kernel_rfl) rfl #[.string (⟨#[65]⟩ : ByteArray)] rfl (by (try simp only [qy6, qy7, qy8]); first | done | rfl | (simp only [List.length_drop, List.length_take]; rfl)) ?_; (with_reducible refine (qa4.calls (⟨#[65]⟩ : ByteArray) t169 t170 _ A1.out).mono ?_); rintro e w7 ⟨v171, rfl, ho0, hb⟩; refine ⟨_, rfl, ?_⟩; have n0_ := qae.mk (Kd.qbJ ho0 (qan (by repeat (first | (with_reducible first | exact HB.out | apply qad | apply qaa | apply qac) | exact HB.out)))); have n1_ := qae.mk (qar (by repeat (first | (with_reducible first | exact HB.out | apply qad | apply qaa | apply qac) | exact HB.out)) hb); clear HB; have HO172 := n0_; have HB := n1_; clear n0_ n1_; (try clear hb); (try clear hb2); (try clear hk); (try clear hi); (try clear ho0)) | ((with_reducible refine qaG (f := 16) rfl ?_); refine qa7 (some 6) rfl rfl Try.func16 (by kernel_rfl) rfl #[.string (⟨#[66]⟩ : ByteArray)] rfl (by (try simp only [qy6, qy7, qy8]); first | done | rfl | (simp only [List.length_drop, List.length_take]; rfl)) ?_; (with_reducible refine (qa4.calls (⟨#[66]⟩ : ByteArray) t173 t174 _ A2.out).mono ?_); rintro e w8 ⟨v175, rfl, ho0, hb⟩; refine ⟨_, rfl, ?_⟩; have n0_ := qae.mk (Kd.R_elder' (by (with_reducible repeat (first | apply Kd.qay | apply Kd.qax | apply Kd.qaD)); exact HO172.out) (Kd.R_base ho0) hb); have n1_ := qae.mk (Kd.qbJ (Kd.R_new' ho0 (Kd.R_lt (by (with_reducible repeat (first | apply Kd.qay | apply Kd.qax | apply Kd.qaD)); exact HO172.out))) (qan (by repeat (first | (with_reducible first | exact HB.out | apply qad | apply qaa | apply qac) | exact HB.out)))); have n2_ := qae.mk (qar (by repeat (first | (with_reducible first | exact HB.out | apply qad | apply qaa | apply qac) | exact HB.out)) hb); clear HO172; clear HB; have HO172 := n0_; have HO176 := n1_; have HB := n2_; clear n0_ n1_ n2_; (try clear hb); (try clear hb2); (try clear hk); (try clear hi); (try clear ho0); obtain ⟨Ao9, co9, eo9⟩ := Kd.qbh HO172.out; subst eo9; obtain ⟨Ao10, co10, eo10⟩ := Kd.qbh HO176.out; subst eo10) | ((with_reducible refine qaW (N := 7) rfl ?_); (try (refine gate_guard (by rfl) ?_; dsimp only)); refine Kd.N_lit k29 _ 29 ?hg (N' := 7) ?hd (xs := ([(⟨t169, t170⟩ : S29), (⟨t173, t174⟩ : S29)] : List (S29))) (inner := [.string t169, .slice Ao9 t170.length co9, .string t173, .slice Ao10 t174.length co10]) (ok := (fun _ => True)) (okp := (fun _ => True)) ?hr ?hp (fun _ hk => hk) ((show ∀ k_, w8.heap.size ≤ k_ → (fun _ => True) k_ from fun k_ hk => trivial) _ (Nat.le_refl _)) (Below.refl _ _) (Nat.le_refl _) (by simp) ?_; (case hd => rfl); (case hg => rfl); (case hr => first | (go_simp; done) | (go_simp; rfl)); (case hp => exact (Reps.c2 (show Kd.FK k29 _ _ (⟨t169, t170⟩ : S29) [.string t169, .slice Ao9 t170.length co9] from (k29_mkF _ _ (⟨t169, t170⟩ : S29) (Kd.qaO (Kd.qa3 (ok' := (fun _ => True)) (HO172.out) (fun k_ hk => trivial))).2.1 (Kd.R_F (Kd.qa3 (ok' := (fun _ => True)) (HO172.out) (fun k_ hk => trivial))))) (Reps.c2 (show Kd.FK k29 _ _ (⟨t173, t174⟩ : S29) [.string t173, .slice Ao10 t174.length co10] from (k29_mkF _ _ (⟨t173, t174⟩ : S29) (Kd.qaO (Kd.qa3 (ok' := (fun _ => True)) (HO176.out) (fun k_ hk => trivial))).2.1 (Kd.R_F (Kd.qa3 (ok' := (fun _ => True)) (HO176.out) (fun k_ hk => trivial))))) (Reps.none _ _)))); intro v178 w11 ho12 hb hg_ hnew_; clear hg_ hnew_; (first | rw [← Ny177.out] at ho12 | (simp only [Int.reduceToNat] at ho12; rw [← Ny177.out] at ho12)); have n0_ := qae.mk (Kd.N_lower ho12 (qan (by repeat (first | (with_reducible first | exact HB.out | apply qad | apply qaa | apply qac) | exact HB.out)))); have n1_ := qae.mk (qar (by repeat (first | (with_reducible first | exact HB.out | apply qad | apply qaa | apply qac) | exact HB.out)) hb); clear HB; clear HO172; clear HO176; have HO179 := n0_; have HB := n1_; clear n0_ n1_; clear hb ho12; obtain ⟨Ao13, co13, eo13⟩ := Kd.N_slice HO179.out; subst eo13) | ((with_reducible refine qaG (f := 18) rfl ?_); refine qa7 (some 8) rfl rfl Try.func18 (by kernel_rfl) rfl #[.slice Ao13 y177.length co13, .int .i64 22] rfl (by (try simp only [qy6, qy7, qy8]); first | done | rfl | (simp only [List.length_drop, List.length_take]; rfl)) ?_; (with_reducible refine (qaM.calls k _ _ y177 22 t180 t183 t184 _ ?side1 ?side2 A3.out).mono ?_); (case side1 => repeat (first | exact (Kd.qbK HO179.out).2.2 | (with_reducible refine Kd.qbk ?_ _) | (with_reducible refine Kd.qbj ?_ _) | (with_reducible refine Kd.qbA ?_))); (case side2 => exact (Kd.qbK HO179.out).2.1); rintro e w14 ⟨v181, rfl, ho0, hb⟩; refine ⟨_, rfl, ?_⟩; have n0_ := qae.mk (Kd.qbT (by (with_reducible repeat (first | apply Kd.qbE | apply Kd.qbD | apply Kd.qbL)); exact HO179.out) hb); have n1_ := qae.mk (Kd.V_lower (Kd.qbw (ok' := fun k_ => some k_ ≠ (.slice Ao13 y177.length co13 : Value).ownBlock) ho0 (fun k_ hk_ => (Kd.fresh' (Kd.N_lt (by (with_reducible repeat (first | apply Kd.qbE | apply Kd.qbD | apply Kd.qbL)); exact HO179.out)) k_ hk_))) (qan (by repeat (first | (with_reducible first | exact HB.out | apply qad | apply qaa | apply qac) | exact HB.out)))); have n2_ := qae.mk (qar (by repeat (first | (with_reducible first | exact HB.out | apply qad | apply qaa | apply qac) | exact HB.out)) hb); clear HO179; clear HB; have HO179 := n0_; have HO182 := n1_; have HB := n2_; clear n0_ n1_ n2_; (try clear hb); (try clear hb2); (try clear hk); (try clear hi); (try clear ho0)) | ((with_reducible refine qaW (N := 20) rfl ?_); (try (refine gate_guard (by rfl) ?_; dsimp only)); refine Kd.R_lit (Kd.int .i64) _ 3 ?hg (N := 20) ?hd (xs := ([12, 10] : List Int)) (inner := [.int .i64 12, .int .i64 10]) (ok := fun _ => True) (okp := fun _ => True) ?hr ?hp (fun _ hk => hk) trivial (Below.refl _ _) (Nat.le_refl _) (by simp) ?_; (case hd => rfl); (case hg => rfl); (case hr => first | (go_simp; done) | (go_simp; rfl)); (case hp => exact (Reps.one (show Kd.M (Kd.int .i64) _ _ _ 12 [.int .i64 12] from rfl) (Reps.one (show Kd.M (Kd.int .i64) _ _ _ 10 [.int .i64 10] from rfl) (Reps.none _ _)))); intro v186 w15 ho16 hb hg_ hnew_; clear hg_ hnew_; (first | rw [← Ny185.out] at ho16 | (simp only [Int.reduceToNat] at ho16; rw [← Ny185.out] at ho16)); have n0_ := qae.mk (Kd.N_elder' (by (with_reducible repeat (first | apply Kd.qbE | apply Kd.qbD | apply Kd.qbL)); exact HO179.out) (Kd.R_base ho16) hb); have n1_ := qae.mk (Kd.V_elder' (by (with_reducible repeat (first | apply Kd.qa1 | apply Kd.qaZ | apply Kd.qbb)); exact HO182.out) (Kd.R_base ho16) hb); have n2_ := qae.mk (Kd.qbJ ho16 (qan (by repeat (first | (with_reducible first | exact HB.out | apply qad | apply qaa | apply qac) | exact HB.out)))); have n3_ := qae.mk (qar (by repeat (first | (with_reducible first | exact HB.out | apply qad | apply qaa | apply qac) | exact HB.out)) hb); clear HO179; clear HO182; clear HB; have HO179 := n0_; have HO182 := n1_; have HO187 := n2_; have HB := n3_; clear n0_ n1_ n2_ n3_; clear hb ho16; obtain ⟨Ao17, co17, eo17⟩ := Kd.V_slice HO182.out; subst eo17; obtain ⟨Ao18, co18, eo18⟩ := Kd.qbh HO187.out; subst eo18) | (go_at_call 33; (with_reducible refine (qaJ.calls k _ _ t180 _ _ y185 t188 _ ?side1 ?side2 ?side3 ?side4 A6.out).mono ?_); (case side1 => repeat (first | exact (Kd.qbG HO182.out).2.2 | (with_reducible refine Kd.qbk ?_ _) | (with_reducible refine Kd.qbj ?_ _) | (with_reducible refine Kd.qbA ?_))); (case side2 => exact (Kd.qbG HO182.out).2.1); (case side3 => repeat (first | exact (Kd.qaO HO187.out).2.2 | (with_reducible refine Kd.qbk ?_ _) | (with_reducible refine Kd.qbj ?_ _) | (with_reducible refine Kd.qbA ?_))); (case side4 => exact (Kd.qaO HO187.out).2.1); rintro e w' ⟨rfl, ⟨nd, rfl⟩⟩))
   go_ret
   exact ⟨by first | rfl | (simp [qaw, qav] <;> rfl) | (simp [*, qaw, qav] <;> rfl), by repeat (first | (with_reducible first | exact HB.out | apply qad | apply qaa | apply qac) | exact HB.out)⟩
  ·rw [if_neg c5] at H; have c5b0 : (t183 == 116) = false := beq_eq_false_iff_ne.mpr c5; have c5b1 : (t183 != 116) = true := bne_iff_ne.mpr c5; obtain rfl := Option.some.inj H
   go_enter Try.func14, Try.ntmps14; go_wp2_with (first | ((with_reducible refine qaG (f := 16) rfl ?_); refine qa7 (some 5) rfl rfl Try.func16 (by kernel_rfl) rfl #[.string (⟨#[65]⟩ : ByteArray)] rfl (by (try simp only [qy6, qy7, qy8]); first | done | rfl | (simp only [List.length_drop, List.length_take]; rfl)) ?_; (with_reducible refine (qa4.calls (⟨#[65]⟩ : ByteArray) t169 t170 _ A1.out).mono ?_); rintro e w19 ⟨v171, rfl, ho0, hb⟩; refine ⟨_, rfl, ?_⟩; have n0_ := qae.mk (Kd.qbJ ho0 (qan (by repeat (first | (with_reducible first | exact HB.out | apply qad | apply qaa | apply qac) | exact HB.out)))); have n1_ := qae.mk (qar (by repeat (first | (with_reducible first | exact HB.out | apply qad | apply qaa | apply qac) | exact HB.out)) hb); clear HB; have HO172 := n0_; have HB := n1_; clear n0_ n1_; (try clear hb); (try clear hb2); (try clear hk); (try clear hi); (try clear ho0)) | ((with_reducible refine qaG (f := 16) rfl ?_); refine qa7 (some 6) rfl rfl Try.func16 (by kernel_rfl) rfl #[.string (⟨#[66]⟩ : ByteArray)] rfl (by (try simp only [qy6, qy7, qy8]); first | done | rfl | (simp only [List.length_drop, List.length_take]; rfl)) ?_; (with_reducible refine (qa4.calls (⟨#[66]⟩ : ByteArray) t173 t174 _ A2.out).mono ?_); rintro e w20 ⟨v175, rfl, ho0, hb⟩; refine ⟨_, rfl, ?_⟩; have n0_ := qae.mk (Kd.R_elder' (by (with_reducible repeat (first | apply Kd.qay | apply Kd.qax | apply Kd.qaD)); exact HO172.out) (Kd.R_base ho0) hb); have n1_ := qae.mk (Kd.qbJ (Kd.R_new' ho0 (Kd.R_lt (by (with_reducible repeat (first | apply Kd.qay | apply Kd.qax | apply Kd.qaD)); exact HO172.out))) (qan (by repeat (first | (with_reducible first | exact HB.out | apply qad | apply qaa | apply qac) | exact HB.out)))); have n2_ := qae.mk (qar (by repeat (first | (with_reducible first | exact HB.out | apply qad | apply qaa | apply qac) | exact HB.out)) hb); clear HO172; clear HB; have HO172 := n0_; have HO176 := n1_; have HB := n2_; clear n0_ n1_ n2_; (try clear hb); (try clear hb2); (try clear hk); (try clear hi); (try clear ho0); obtain ⟨Ao21, co21, eo21⟩ := Kd.qbh HO172.out; subst eo21; obtain ⟨Ao22, co22, eo22⟩ := Kd.qbh HO176.out; subst eo22) | ((with_reducible refine qaW (N := 7) rfl ?_); (try (refine gate_guard (by rfl) ?_; dsimp only)); refine Kd.N_lit k29 _ 29 ?hg (N' := 7) ?hd (xs := ([(⟨t169, t170⟩ : S29), (⟨t173, t174⟩ : S29)] : List (S29))) (inner := [.string t169, .slice Ao21 t170.length co21, .string t173, .slice Ao22 t174.length co22]) (ok := (fun _ => True)) (okp := (fun _ => True)) ?hr ?hp (fun _ hk => hk) ((show ∀ k_, w20.heap.size ≤ k_ → (fun _ => True) k_ from fun k_ hk => trivial) _ (Nat.le_refl _)) (Below.refl _ _) (Nat.le_refl _) (by simp) ?_; (case hd => rfl); (case hg => rfl); (case hr => first | (go_simp; done) | (go_simp; rfl)); (case hp => exact (Reps.c2 (show Kd.FK k29 _ _ (⟨t169, t170⟩ : S29) [.string t169, .slice Ao21 t170.length co21] from (k29_mkF _ _ (⟨t169, t170⟩ : S29) (Kd.qaO (Kd.qa3 (ok' := (fun _ => True)) (HO172.out) (fun k_ hk => trivial))).2.1 (Kd.R_F (Kd.qa3 (ok' := (fun _ => True)) (HO172.out) (fun k_ hk => trivial))))) (Reps.c2 (show Kd.FK k29 _ _ (⟨t173, t174⟩ : S29) [.string t173, .slice Ao22 t174.length co22] from (k29_mkF _ _ (⟨t173, t174⟩ : S29) (Kd.qaO (Kd.qa3 (ok' := (fun _ => True)) (HO176.out) (fun k_ hk => trivial))).2.1 (Kd.R_F (Kd.qa3 (ok' := (fun _ => True)) (HO176.out) (fun k_ hk => trivial))))) (Reps.none _ _)))); intro v178 w23 ho24 hb hg_ hnew_; clear hg_ hnew_; (first | rw [← Ny177.out] at ho24 | (simp only [Int.reduceToNat] at ho24; rw [← Ny177.out] at ho24)); have n0_ := qae.mk (Kd.N_lower ho24 (qan (by repeat (first | (with_reducible first | exact HB.out | apply qad | apply qaa | apply qac) | exact HB.out)))); have n1_ := qae.mk (qar (by repeat (first | (with_reducible first | exact HB.out | apply qad | apply qaa | apply qac) | exact HB.out)) hb); clear HB; clear HO172; clear HO176; have HO179 := n0_; have HB := n1_; clear n0_ n1_; clear hb ho24; obtain ⟨Ao25, co25, eo25⟩ := Kd.N_slice HO179.out; subst eo25) | ((with_reducible refine qaG (f := 18) rfl ?_); refine qa7 (some 8) rfl rfl Try.func18 (by kernel_rfl) rfl #[.slice Ao25 y177.length co25, .int .i64 22] rfl (by (try simp only [qy6, qy7, qy8]); first | done | rfl | (simp only [List.length_drop, List.length_take]; rfl)) ?_; (with_reducible refine (qaM.calls k _ _ y177 22 t180 t183 t184 _ ?side1 ?side2 A3.out).mono ?_); (case side1 => repeat (first | exact (Kd.qbK HO179.out).2.2 | (with_reducible refine Kd.qbk ?_ _) | (with_reducible refine Kd.qbj ?_ _) | (with_reducible refine Kd.qbA ?_))); (case side2 => exact (Kd.qbK HO179.out).2.1); rintro e w26 ⟨v181, rfl, ho0, hb⟩; refine ⟨_, rfl, ?_⟩; have n0_ := qae.mk (Kd.qbT (by (with_reducible repeat (first | apply Kd.qbE | apply Kd.qbD | apply Kd.qbL)); exact HO179.out) hb); have n1_ := qae.mk (Kd.V_lower (Kd.qbw (ok' := fun k_ => some k_ ≠ (.slice Ao25 y177.length co25 : Value).ownBlock) ho0 (fun k_ hk_ => (Kd.fresh' (Kd.N_lt (by (with_reducible repeat (first | apply Kd.qbE | apply Kd.qbD | apply Kd.qbL)); exact HO179.out)) k_ hk_))) (qan (by repeat (first | (with_reducible first | exact HB.out | apply qad | apply qaa | apply qac) | exact HB.out)))); have n2_ := qae.mk (qar (by repeat (first | (with_reducible first | exact HB.out | apply qad | apply qaa | apply qac) | exact HB.out)) hb); clear HO179; clear HB; have HO179 := n0_; have HO182 := n1_; have HB := n2_; clear n0_ n1_ n2_; (try clear hb); (try clear hb2); (try clear hk); (try clear hi); (try clear ho0)))
   go_ret
   exact ⟨by first | rfl | (simp [qaw, qav] <;> rfl) | (simp [*, qaw, qav] <;> rfl), by repeat (first | (with_reducible first | exact HB.out | apply qad | apply qaa | apply qac) | exact HB.out)⟩
 ·rw [if_neg c4] at H; have c4b0 : (t184 == 0) = false := beq_eq_false_iff_ne.mpr c4; have c4b1 : (t184 != 0) = true := bne_iff_ne.mpr c4; obtain rfl := Option.some.inj H
  go_enter Try.func14, Try.ntmps14; go_wp2_with (first | ((with_reducible refine qaG (f := 16) rfl ?_); refine qa7 (some 5) rfl rfl Try.func16 (by kernel_rfl) rfl #[.string (⟨#[65]⟩ : ByteArray)] rfl (by (try simp only [qy6, qy7, qy8]); first | done | rfl | (simp only [List.length_drop, List.length_take]; rfl)) ?_; (with_reducible refine (qa4.calls (⟨#[65]⟩ : ByteArray) t169 t170 _ A1.out).mono ?_); rintro e w27 ⟨v171, rfl, ho0, hb⟩; refine ⟨_, rfl, ?_⟩; have n0_ := qae.mk (Kd.qbJ ho0 (qan (by repeat (first | (with_reducible first | exact HB.out | apply qad | apply qaa | apply qac) | exact HB.out)))); have n1_ := qae.mk (qar (by repeat (first | (with_reducible first | exact HB.out | apply qad | apply qaa | apply qac) | exact HB.out)) hb); clear HB; have HO172 := n0_; have HB := n1_; clear n0_ n1_; (try clear hb); (try clear hb2); (try clear hk); (try clear hi); (try clear ho0)) | ((with_reducible refine qaG (f := 16) rfl ?_); refine qa7 (some 6) rfl rfl Try.func16 (by kernel_rfl) rfl #[.string (⟨#[66]⟩ : ByteArray)] rfl (by (try simp only [qy6, qy7, qy8]); first | done | rfl | (simp only [List.length_drop, List.length_take]; rfl)) ?_; (with_reducible refine (qa4.calls (⟨#[66]⟩ : ByteArray) t173 t174 _ A2.out).mono ?_); rintro e w28 ⟨v175, rfl, ho0, hb⟩; refine ⟨_, rfl, ?_⟩; have n0_ := qae.mk (Kd.R_elder' (by (with_reducible repeat (first | apply Kd.qay | apply Kd.qax | apply Kd.qaD)); exact HO172.out) (Kd.R_base ho0) hb); have n1_ := qae.mk (Kd.qbJ (Kd.R_new' ho0 (Kd.R_lt (by (with_reducible repeat (first | apply Kd.qay | apply Kd.qax | apply Kd.qaD)); exact HO172.out))) (qan (by repeat (first | (with_reducible first | exact HB.out | apply qad | apply qaa | apply qac) | exact HB.out)))); have n2_ := qae.mk (qar (by repeat (first | (with_reducible first | exact HB.out | apply qad | apply qaa | apply qac) | exact HB.out)) hb); clear HO172; clear HB; have HO172 := n0_; have HO176 := n1_; have HB := n2_; clear n0_ n1_ n2_; (try clear hb); (try clear hb2); (try clear hk); (try clear hi); (try clear ho0); obtain ⟨Ao29, co29, eo29⟩ := Kd.qbh HO172.out; subst eo29; obtain ⟨Ao30, co30, eo30⟩ := Kd.qbh HO176.out; subst eo30) | ((with_reducible refine qaW (N := 7) rfl ?_); (try (refine gate_guard (by rfl) ?_; dsimp only)); refine Kd.N_lit k29 _ 29 ?hg (N' := 7) ?hd (xs := ([(⟨t169, t170⟩ : S29), (⟨t173, t174⟩ : S29)] : List (S29))) (inner := [.string t169, .slice Ao29 t170.length co29, .string t173, .slice Ao30 t174.length co30]) (ok := (fun _ => True)) (okp := (fun _ => True)) ?hr ?hp (fun _ hk => hk) ((show ∀ k_, w28.heap.size ≤ k_ → (fun _ => True) k_ from fun k_ hk => trivial) _ (Nat.le_refl _)) (Below.refl _ _) (Nat.le_refl _) (by simp) ?_; (case hd => rfl); (case hg => rfl); (case hr => first | (go_simp; done) | (go_simp; rfl)); (case hp => exact (Reps.c2 (show Kd.FK k29 _ _ (⟨t169, t170⟩ : S29) [.string t169, .slice Ao29 t170.length co29] from (k29_mkF _ _ (⟨t169, t170⟩ : S29) (Kd.qaO (Kd.qa3 (ok' := (fun _ => True)) (HO172.out) (fun k_ hk => trivial))).2.1 (Kd.R_F (Kd.qa3 (ok' := (fun _ => True)) (HO172.out) (fun k_ hk => trivial))))) (Reps.c2 (show Kd.FK k29 _ _ (⟨t173, t174⟩ : S29) [.string t173, .slice Ao30 t174.length co30] from (k29_mkF _ _ (⟨t173, t174⟩ : S29) (Kd.qaO (Kd.qa3 (ok' := (fun _ => True)) (HO176.out) (fun k_ hk => trivial))).2.1 (Kd.R_F (Kd.qa3 (ok' := (fun _ => True)) (HO176.out) (fun k_ hk => trivial))))) (Reps.none _ _)))); intro v178 w31 ho32 hb hg_ hnew_; clear hg_ hnew_; (first | rw [← Ny177.out] at ho32 | (simp only [Int.reduceToNat] at ho32; rw [← Ny177.out] at ho32)); have n0_ := qae.mk (Kd.N_lower ho32 (qan (by repeat (first | (with_reducible first | exact HB.out | apply qad | apply qaa | apply qac) | exact HB.out)))); have n1_ := qae.mk (qar (by repeat (first | (with_reducible first | exact HB.out | apply qad | apply qaa | apply qac) | exact HB.out)) hb); clear HB; clear HO172; clear HO176; have HO179 := n0_; have HB := n1_; clear n0_ n1_; clear hb ho32; obtain ⟨Ao33, co33, eo33⟩ := Kd.N_slice HO179.out; subst eo33) | ((with_reducible refine qaG (f := 18) rfl ?_); refine qa7 (some 8) rfl rfl Try.func18 (by kernel_rfl) rfl #[.slice Ao33 y177.length co33, .int .i64 22] rfl (by (try simp only [qy6, qy7, qy8]); first | done | rfl | (simp only [List.length_drop, List.length_take]; rfl)) ?_; (with_reducible refine (qaM.calls k _ _ y177 22 t180 t183 t184 _ ?side1 ?side2 A3.out).mono ?_); (case side1 => repeat (first | exact (Kd.qbK HO179.out).2.2 | (with_reducible refine Kd.qbk ?_ _) | (with_reducible refine Kd.qbj ?_ _) | (with_reducible refine Kd.qbA ?_))); (case side2 => exact (Kd.qbK HO179.out).2.1); rintro e w34 ⟨v181, rfl, ho0, hb⟩; refine ⟨_, rfl, ?_⟩; have n0_ := qae.mk (Kd.qbT (by (with_reducible repeat (first | apply Kd.qbE | apply Kd.qbD | apply Kd.qbL)); exact HO179.out) hb); have n1_ := qae.mk (Kd.V_lower (Kd.qbw (ok' := fun k_ => some k_ ≠ (.slice Ao33 y177.length co33 : Value).ownBlock) ho0 (fun k_ hk_ => (Kd.fresh' (Kd.N_lt (by (with_reducible repeat (first | apply Kd.qbE | apply Kd.qbD | apply Kd.qbL)); exact HO179.out)) k_ hk_))) (qan (by repeat (first | (with_reducible first | exact HB.out | apply qad | apply qaa | apply qac) | exact HB.out)))); have n2_ := qae.mk (qar (by repeat (first | (with_reducible first | exact HB.out | apply qad | apply qaa | apply qac) | exact HB.out)) hb); clear HO179; clear HB; have HO179 := n0_; have HO182 := n1_; have HB := n2_; clear n0_ n1_ n2_; (try clear hb); (try clear hb2); (try clear hk); (try clear hi); (try clear ho0)))
  go_ret
  exact ⟨by first | rfl | (simp [qaw, qav] <;> rfl) | (simp [*, qaw, qav] <;> rfl), by repeat (first | (with_reducible first | exact HB.out | apply qad | apply qaa | apply qac) | exact HB.out)⟩
mutual
def qaH.l0 : Nat → List (S32) → List (S29) → List (S32) → Int → Int → Option (Int)
 | 0, _, _, _, _, _ => none
 | k + 1, x0, x3, x9, x10, x11 => if x11 < x10 then (if 0 ≤ x11 then (if x11 < (x9.length : Int) then (if x3.length < 3518437208883 then (qaH.l0 k x0 (x3 ++ [(⟨(qal x9 x11).f0.f0, (qal x9 x11).f0.f1⟩ : S29)]) x9 x10 (wrap64 (x11 + 1))) else (none)) else (none)) else (none)) else ((qaB.f k x3).bind fun t194 => (if t194 = 0 then (qaH.l1 k x0 (x0.length : Int) 0) else (some t194)))
def qaH.l1 : Nat → List (S32) → Int → Int → Option (Int)
 | 0, _, _, _ => none
 | k + 1, x26, x27, x28 => if x28 < x27 then (if 0 ≤ x28 then (if x28 < (x26.length : Int) then (if ((qal x26 x28).f1) < 0 then (some 4) else (if ((qal x26 x28).f1) > 100000 then (some 4) else (qaH.l1 k x26 x27 (wrap64 (x28 + 1))))) else (none)) else (none)) else (some 0)
end
def qaH.f (k : Nat) (l0 : List (S32)) : Option (Int) := qaH.l0 k l0 ([] : List (S29)) l0 (l0.length : Int) 0
theorem qaH.qbB : ∀ k, (∀ y0 y1 y2 y3 y4, LeO (qaH.l0 k y0 y1 y2 y3 y4) (qaH.l0 (k + 1) y0 y1 y2 y3 y4)) ∧ (∀ y0 y1 y2, LeO (qaH.l1 k y0 y1 y2) (qaH.l1 (k + 1) y0 y1 y2))
 | 0 => ⟨fun _ _ _ _ _ r h => by simp [qaH.l0] at h, fun _ _ _ r h => by simp [qaH.l1] at h⟩
 | k + 1 => by
  obtain ⟨ih0, ih1⟩ := qaH.qbB k
  refine ⟨?_, ?_⟩
  ·intro y0 y1 y2 y3 y4; unfold qaH.l0
   repeat' first
   | (with_reducible exact ih0 _ _ _ _ _)
   | (with_reducible exact ih1 _ _ _)
   | (with_reducible exact qaB.mono _ _)
   | (with_reducible exact LeO.refl _)
   | (with_reducible exact LeO.none _)
   | (with_reducible refine LeO.ite ?_ ?_)
   | (with_reducible refine LeO.bind ?_ (fun _ => ?_))
   | exact ih0 _ _ _ _ _
   | exact ih1 _ _ _
   | exact qaB.mono _ _
   | exact LeO.none _
   | refine LeO.ite ?_ ?_
   | refine LeO.bind ?_ (fun _ => ?_)
  ·intro y0 y1 y2; unfold qaH.l1
   repeat' first
   | (with_reducible exact ih0 _ _ _ _ _)
   | (with_reducible exact ih1 _ _ _)
   | (with_reducible exact qaB.mono _ _)
   | (with_reducible exact LeO.refl _)
   | (with_reducible exact LeO.none _)
   | (with_reducible refine LeO.ite ?_ ?_)
   | (with_reducible refine LeO.bind ?_ (fun _ => ?_))
   | exact ih0 _ _ _ _ _
   | exact ih1 _ _ _
   | exact qaB.mono _ _
   | exact LeO.none _
   | refine LeO.ite ?_ ?_
   | refine LeO.bind ?_ (fun _ => ?_)
theorem qaH.mono : ∀ a0 k, LeO (qaH.f k a0) (qaH.f (k + 1) a0) := by
 intro a0 k; obtain ⟨ih0, ih1⟩ := qaH.qbB k
 unfold qaH.f
 repeat' first
   | (with_reducible exact ih0 _ _ _ _ _)
   | (with_reducible exact ih1 _ _ _)
   | (with_reducible exact qaB.mono _ _)
   | (with_reducible exact LeO.refl _)
   | (with_reducible exact LeO.none _)
   | (with_reducible refine LeO.ite ?_ ?_)
   | (with_reducible refine LeO.bind ?_ (fun _ => ?_))
   | exact ih0 _ _ _ _ _
   | exact ih1 _ _ _
   | exact qaB.mono _ _
   | exact LeO.none _
   | refine LeO.ite ?_ ?_
   | refine LeO.bind ?_ (fun _ => ?_)
set_option maxHeartbeats 8000000 in
set_option maxRecDepth 100000 in
theorem qaH.calls (k : Nat) (P0_ : Nat → Prop) (A0 : Option Addr) (c0 : Nat) (l0 : List (S32)) (r : Int) (w : World) (hs0 : Kd.V k32 32 w w.heap.size (fun k_ => P0_ k_) (.slice A0 l0.length c0) l0) (h : qaH.f k l0 = some r) :
  Calls Try.prog 19 #[.slice A0 l0.length c0] w fun e w' => e = .returned (.int .i64 r) ∧ Below w.heap.size w w' := by
 have hu32 := Try.underlying32; have hu29 := Try.underlying29; have HO0 := qae.mk (show Kd.V k32 32 w w.heap.size (fun k_ => (P0_ k_ ∨ w.heap.size ≤ k_)) (.slice A0 l0.length c0) l0 from Kd.qbw hs0 (fun k_ hk => .inl hk))
 have HB := qae.mk (Below.refl w.heap.size w)
 have H : (qaH.l0 k l0 ([] : List (S29)) l0 (l0.length : Int) 0) = some r := h
 clear h; have H' := qae.mk H; clear H; go_enter Try.func19, Try.ntmps19; go_wp2; go_loopg [3, 11] k (fun kq v3 v11 w' => ∃ (x3_1 : List (S29)) (x11_1 : Int), v11 = .int .i64 x11_1 ∧ qae (qaH.l0 kq l0 x3_1 l0 (l0.length : Int) x11_1 = some r) ∧ qae (kq ≤ k) ∧ qae (Kd.V k32 32 w' w.heap.size (fun k_ => (P0_ k_ ∨ w.heap.size ≤ k_) ∧ some k_ ≠ (v3 : Value).ownBlock) (.slice A0 l0.length c0) l0) ∧ qae (Kd.N k29 29 w' w.heap.size (fun k_ => (P0_ k_ ∨ w.heap.size ≤ k_)) v3 x3_1) ∧ qae (Kd.V k32 32 w' w.heap.size (fun k_ => (P0_ k_ ∨ w.heap.size ≤ k_) ∧ some k_ ≠ (v3 : Value).ownBlock) (.slice A0 l0.length c0) l0) ∧ qae (Below w.heap.size w w'))
 case atStart => exact ⟨(([] : List (S29))), (0), (by first | rfl | (simp; done) | (simp [*]; done)), H', ⟨Nat.le_refl _⟩, ⟨by (with_reducible repeat (first | apply Kd.qa1 | apply Kd.qaZ | apply Kd.qbb)); exact Kd.qbw HO0.out (fun _ hk => ⟨hk, (by simp [Value.ownBlock])⟩)⟩, ⟨by first | exact Kd.S_nil _ _ _ _ _ | exact Kd.N_nil _ _ _ _ _ | exact Kd.V_nil _ _ _ _ _ | exact Kd.Q_nil _ _ _ _ _ | exact Kd.R_nil _ _ _ _ _⟩, ⟨by (with_reducible repeat (first | apply Kd.qa1 | apply Kd.qaZ | apply Kd.qbb)); exact Kd.qbw HO0.out (fun _ hk => ⟨hk, (by simp [Value.ownBlock])⟩)⟩, ⟨by repeat (first | (with_reducible first | exact HB.out | apply qad | apply qaa | apply qac) | exact HB.out)⟩⟩
 case round =>
  clear H'; (try clear c1); obtain ⟨x3_1, x11_1, rfl, HA, HK1, HO_0, HO_3, HO_9, HB⟩ := hrel
  cases gk with
  | zero => exact absurd HA.out (by simp [qaH.l0])
  | succ k1 =>
   have H := HA.out; clear HA; simp only [qaH.l0] at H
   by_cases c2 : x11_1 < (l0.length : Int)
   ·rw [if_pos c2] at H; have c2b0 : decide (x11_1 < (l0.length : Int)) = true := decide_eq_true c2; clear c2; by_cases c3 : 0 ≤ x11_1
    ·rw [if_pos c3] at H; have c3b0 : decide (0 ≤ x11_1) = true := decide_eq_true c3; clear c3; by_cases c4 : x11_1 < (l0.length : Int)
     ·rw [if_pos c4] at H; have c4b0 : decide (x11_1 < (l0.length : Int)) = true := decide_eq_true c4; clear c4; by_cases c5 : x3_1.length < 3518437208883
      ·rw [if_pos c5] at H; have LMc5 := qae.mk c5
       clear c5; obtain ⟨y191, hy191⟩ : ∃ y_ : List (S29), y_ = (x3_1 ++ [(⟨(qal l0 x11_1).f0.f0, (qal l0 x11_1).f0.f1⟩ : S29)]) := ⟨_, rfl⟩
       replace H : (qaH.l0 k1 l0 y191 l0 (l0.length : Int) (wrap64 (x11_1 + 1))) = some r := by first | (rw [hy191]; with_reducible exact H) | (have H2_ := (Option.bind_some _ _).symm.trans H; rw [hy191]; with_reducible exact H2_) | (have H2_ := (Option.bind_some _ _).symm.trans H; with_reducible exact H2_) | with_reducible exact H | (rw [hy191]; exact H) | exact H
       have Ny191 := qae.mk hy191
       clear hy191; have H' := qae.mk H; clear H; have p189 : 0 ≤ (x11_1 : Int) := of_decide_eq_true (by first | (with_reducible assumption) | assumption)
       have q189 : x11_1 < (l0.length : Int) := of_decide_eq_true (by first | (with_reducible assumption) | assumption)
       obtain ⟨ad189, A189_1, c189_1, e189, hx189_0, hx189_1, hx189_2, hl189_1, hi189_1⟩ := at_T32 (Kd.qbG HO_9.out).2.2 x11_1 p189 q189
       cases e189
       obtain ⟨ce189, hce189, hMe189, hcc189⟩ := Kd.V_get HO_9.out z32 x11_1 p189 (by first | exact q189 | exact of_decide_eq_true (by first | (with_reducible assumption) | assumption) | (have e_ := (Kd.qbG HO_9.out).1; omega))
       obtain ⟨ua189_1, uc189_1, rfl, ul189_1, ge189_1⟩ := k32_openF hMe189
       have hv189_1 := hcc189 1 _ rfl
       rw [qbX _ _ 1 (by omega)] at hv189_1; replace hv189_1 := Option.some.inj (hv189_1.symm.trans hx189_1)
       injection hv189_1 with hva_ hvn_ hvc_
       rw [hva_] at ge189_1; rw [hvc_] at ul189_1; have HL189_1 := qae.mk (show Kd.V k41 41 _ w.heap.size _ _ ((qal l0 x11_1).f0.f1) from Kd.V_mk ul189_1 ge189_1)
       clear hva_ hvn_ hvc_ ge189_1 ul189_1; clear hcc189 hce189; have HR189_1 := qae.mk hi189_1
       have HC189_1 := qae.mk hl189_1
       clear hi189_1 hl189_1; replace p189 := eq_true p189; replace q189 := eq_true q189; go_wp2_with (first | ((with_reducible refine qaW (N := 5) rfl ?_); refine qaU ?hg (N := 5) ?hd (cs := #[.string (⟨#[]⟩ : ByteArray), .slice none 0 0, .int .i64 0]) (t := 32) ?hr ?_; (case hd => rfl); (case hg => rfl); (case hr => first | (go_simp; done) | (go_simp; rfl)); intro gb190 hg w6 hbox hb; have n0_ := qae.mk (Kd.qbu (Kd.qbY (by (with_reducible repeat (first | apply Kd.qa1 | apply Kd.qaZ | apply Kd.qbb)); exact HO_0.out) gb190 (Nat.le_of_eq hg.symm)) hb); have n1_ := qae.mk (Kd.qbT (Kd.N_elderB (by (with_reducible repeat (first | apply Kd.qbE | apply Kd.qbD | apply Kd.qbL)); exact HO_3.out) gb190 (Nat.le_of_eq hg.symm)) hb); have n2_ := qae.mk (Kd.qbu (Kd.qbY (by (with_reducible repeat (first | apply Kd.qa1 | apply Kd.qaZ | apply Kd.qbb)); exact HO_9.out) gb190 (Nat.le_of_eq hg.symm)) hb); have n3_ := qae.mk (Kd.qbu (Kd.qbY (by (with_reducible repeat (first | apply Kd.qa1 | apply Kd.qaZ | apply Kd.qbb)); exact HL189_1.out) gb190 (Nat.le_of_eq hg.symm)) hb); have n4_ := qae.mk (Kd.qbC (by repeat (first | (with_reducible exact HR189_1.out) | (with_reducible refine Kd.qbk ?_ _) | (with_reducible refine Kd.qbj ?_ _) | (with_reducible refine Kd.qbA ?_) | exact HR189_1.out)) hb); have n5_ := qae.mk (qar (by repeat (first | (with_reducible first | exact HB.out | apply qad | apply qaa | apply qac) | exact HB.out)) hb); have n6_ := qae.mk (hbox); have n7_ := qae.mk ((by rw [hg]; exact (qan (by repeat (first | (with_reducible first | exact HB.out | apply qad | apply qaa | apply qac) | exact HB.out))) : w.heap.size ≤ gb190)); have n8_ := qae.mk ((by rw [hg]; exact (qan (by repeat (first | (with_reducible first | exact HB.out | apply qad | apply qaa | apply qac) | exact HB.out))) : w.heap.size ≤ gb190)); clear HO_0; clear HO_3; clear HO_9; clear HL189_1; clear HR189_1; clear HB; have HO_0 := n0_; have HO_3 := n1_; have HO_9 := n2_; have HL189_1 := n3_; have HR189_1 := n4_; have HB := n5_; have BK190 := n6_; have GW190 := n7_; have GE190 := n8_; clear n0_ n1_ n2_ n3_ n4_ n5_ n6_ n7_ n8_; clear hb hbox hg; have hcz7_0 : w6.cell? ⟨gb190, 0, none⟩ = some (.string (⟨#[]⟩ : ByteArray)) := (qao BK190.out 0).trans rfl; have hcz7_1 : w6.cell? ⟨gb190, 1, none⟩ = some (.slice none 0 0) := (qao BK190.out 1).trans rfl; have hcz7_2 : w6.cell? ⟨gb190, 2, none⟩ = some (.int .i64 0) := (qao BK190.out 2).trans rfl; have hfz7_0 := qam BK190.out 0; have hfz7_1 := qam BK190.out 1; have hfz7_2 := qam BK190.out 2) | ((with_reducible refine gate_store (t := 32) (p := 5) rfl ?_); refine store_event (t := 32) (p := 5) (v := ?vo_w8) (w1 := (((w6.setCell ⟨gb190, 0, none⟩ (.string ((qal l0 x11_1).f0.f0))).setCell ⟨gb190, 1, none⟩ (.slice A189_1 ((qal l0 x11_1).f0.f1).length c189_1)).setCell ⟨gb190, 2, none⟩ (.int .i64 ((qal l0 x11_1).f1)))) ?hg ?ho ?hn ?hr ?_; (case ho => rfl); (case hg => rfl); (case hn => rfl); (case hr => first | (go_simp; done) | (go_simp; rfl)); intro w8 hw; have n0_ : qae (Kd.V k32 32 w8 w.heap.size (fun k_ => (P0_ k_ ∨ w.heap.size ≤ k_) ∧ some k_ ≠ (u3 : Value).ownBlock ∧ k_ ≠ gb190) (.slice (some ad189) l0.length c0) l0) := ⟨(by rw [hw]; exact (by (with_reducible repeat (first | apply Kd.qa1 | apply Kd.qaZ | apply Kd.qbb)); exact Kd.qbw (Kd.V_far (p := ⟨gb190, 2, none⟩) (Kd.V_far (p := ⟨gb190, 1, none⟩) (Kd.V_far (p := ⟨gb190, 0, none⟩) (Kd.qbw HO_0.out (fun k_ hk => (⟨hk, hk.2⟩ : _ ∧ k_ ≠ gb190))) (fun _ hk => hk.2) (.string ((qal l0 x11_1).f0.f0))) (fun _ hk => hk.2) (.slice A189_1 ((qal l0 x11_1).f0.f1).length c189_1)) (fun _ hk => hk.2) (.int .i64 ((qal l0 x11_1).f1))) (fun _ hk => ⟨hk.1.1.1, ⟨hk.1.1.2, hk.1.2⟩⟩)))⟩; have n1_ : qae (Kd.N k29 29 w8 w.heap.size (fun k_ => (P0_ k_ ∨ w.heap.size ≤ k_) ∧ k_ ≠ gb190) u3 x3_1) := ⟨(by rw [hw]; exact (by (with_reducible repeat (first | apply Kd.qbE | apply Kd.qbD | apply Kd.qbL)); exact Kd.N_mono (Kd.N_far (p := ⟨gb190, 2, none⟩) (Kd.N_far (p := ⟨gb190, 1, none⟩) (Kd.N_far (p := ⟨gb190, 0, none⟩) (Kd.N_mono HO_3.out (fun k_ hk => (⟨hk, hk.2⟩ : _ ∧ k_ ≠ gb190))) (fun _ hk => hk.2) (.string ((qal l0 x11_1).f0.f0))) (fun _ hk => hk.2) (.slice A189_1 ((qal l0 x11_1).f0.f1).length c189_1)) (fun _ hk => hk.2) (.int .i64 ((qal l0 x11_1).f1))) (fun _ hk => ⟨hk.1.1, hk.1.2⟩)))⟩; have n2_ : qae (Kd.V k32 32 w8 w.heap.size (fun k_ => (P0_ k_ ∨ w.heap.size ≤ k_) ∧ some k_ ≠ (u3 : Value).ownBlock ∧ k_ ≠ gb190) (.slice (some ad189) l0.length c0) l0) := ⟨(by rw [hw]; exact (by (with_reducible repeat (first | apply Kd.qa1 | apply Kd.qaZ | apply Kd.qbb)); exact Kd.qbw (Kd.V_far (p := ⟨gb190, 2, none⟩) (Kd.V_far (p := ⟨gb190, 1, none⟩) (Kd.V_far (p := ⟨gb190, 0, none⟩) (Kd.qbw HO_9.out (fun k_ hk => (⟨hk, hk.2⟩ : _ ∧ k_ ≠ gb190))) (fun _ hk => hk.2) (.string ((qal l0 x11_1).f0.f0))) (fun _ hk => hk.2) (.slice A189_1 ((qal l0 x11_1).f0.f1).length c189_1)) (fun _ hk => hk.2) (.int .i64 ((qal l0 x11_1).f1))) (fun _ hk => ⟨hk.1.1.1, ⟨hk.1.1.2, hk.1.2⟩⟩)))⟩; have n3_ : qae (Kd.V k41 41 w8 w.heap.size (fun k_ => (P0_ k_ ∨ w.heap.size ≤ k_) ∧ some k_ ≠ (u3 : Value).ownBlock ∧ k_ ≠ gb190) (.slice A189_1 ((qal l0 x11_1).f0.f1).length c189_1) ((qal l0 x11_1).f0.f1)) := ⟨(by rw [hw]; exact (by (with_reducible repeat (first | apply Kd.qa1 | apply Kd.qaZ | apply Kd.qbb)); exact Kd.qbw (Kd.V_far (p := ⟨gb190, 2, none⟩) (Kd.V_far (p := ⟨gb190, 1, none⟩) (Kd.V_far (p := ⟨gb190, 0, none⟩) (Kd.qbw HL189_1.out (fun k_ hk => (⟨hk, hk.2⟩ : _ ∧ k_ ≠ gb190))) (fun _ hk => hk.2) (.string ((qal l0 x11_1).f0.f0))) (fun _ hk => hk.2) (.slice A189_1 ((qal l0 x11_1).f0.f1).length c189_1)) (fun _ hk => hk.2) (.int .i64 ((qal l0 x11_1).f1))) (fun _ hk => ⟨hk.1.1.1, ⟨hk.1.1.2, hk.1.2⟩⟩)))⟩; have n4_ : qae (w8.heap[gb190]? = some (.cells #[.string ((qal l0 x11_1).f0.f0), .slice A189_1 ((qal l0 x11_1).f0.f1).length c189_1, .int .i64 ((qal l0 x11_1).f1)] 32 (0, 0))) := ⟨(by rw [hw]; exact (by (with_reducible repeat (first | refine qai ?_ _ | refine qak ?_ | refine qaj ?_ _)); refine qba (cs := #[.string ((qal l0 x11_1).f0.f0), .slice A189_1 ((qal l0 x11_1).f0.f1).length c189_1, .int .i64 0]) ?_ 2 _ rfl; (with_reducible repeat (first | refine qai ?_ _ | refine qak ?_ | refine qaj ?_ _)); refine qba (cs := #[.string ((qal l0 x11_1).f0.f0), .slice none 0 0, .int .i64 0]) ?_ 1 _ rfl; (with_reducible repeat (first | refine qai ?_ _ | refine qak ?_ | refine qaj ?_ _)); refine qba (cs := #[.string (⟨#[]⟩ : ByteArray), .slice none 0 0, .int .i64 0]) ?_ 0 _ rfl; (with_reducible repeat (first | refine qai ?_ _ | refine qak ?_ | refine qaj ?_ _)); exact BK190.out))⟩; have n5_ : qae (Below w.heap.size w w8) := ⟨(by rw [hw]; exact (by repeat (first | (with_reducible first | exact HB.out | apply qad | apply qaa | apply qac | refine qah ?_ GE190.out) | exact HB.out)))⟩; clear hw; clear HO_0; clear HO_3; clear HO_9; clear HL189_1; clear BK190; clear HB; have HO_0 := n0_; have HO_3 := n1_; have HO_9 := n2_; have HL189_1 := n3_; have BK190 := n4_; have HB := n5_; clear n0_ n1_ n2_ n3_ n4_ n5_; have hcz9_0 : w8.cell? ⟨gb190, 0, none⟩ = some (.string ((qal l0 x11_1).f0.f0)) := (qao BK190.out 0).trans rfl; have hcz9_1 : w8.cell? ⟨gb190, 1, none⟩ = some (.slice A189_1 ((qal l0 x11_1).f0.f1).length c189_1) := (qao BK190.out 1).trans rfl; have hcz9_2 : w8.cell? ⟨gb190, 2, none⟩ = some (.int .i64 ((qal l0 x11_1).f1)) := (qao BK190.out 2).trans rfl; have hfz9_0 := qam BK190.out 0; have hfz9_1 := qam BK190.out 1; have hfz9_2 := qam BK190.out 2) | ((with_reducible refine qb3 (b := .append) (xs := #[.tmp 15, .tmp 18]) rfl ?_); at_builtin; refine Kd.N_append k29 (w0 := w) w.heap.size rfl (.tmp 15) (.tmp 18) 33 29 (.agg #[(.string ⟨#[]⟩), (.slice none 0 0)]) 40 rfl Try.underlying33 info29 rfl (by decide) (by omega) u3 x3_1 (⟨(qal l0 x11_1).f0.f0, (qal l0 x11_1).f0.f1⟩ : S29) [.string ((qal l0 x11_1).f0.f0), .slice A189_1 ((qal l0 x11_1).f0.f1).length c189_1] (fun k_ => (P0_ k_ ∨ w.heap.size ≤ k_) ∧ k_ ≠ gb190) (fun k_ => ((fun k_ => (P0_ k_ ∨ w.heap.size ≤ k_) ∧ k_ ≠ gb190)) k_ ∧ some k_ ≠ (u3 : Value).ownBlock) rfl rfl ?aP (fun _ hk => hk) ?aF ?aO ?aB ?aS ?aL ?_; (case aP => exact (k29_mkF _ _ (⟨(qal l0 x11_1).f0.f0, (qal l0 x11_1).f0.f1⟩ : S29) (Kd.qbG (Kd.qbw (ok' := (fun k_ => ((fun k_ => (P0_ k_ ∨ w.heap.size ≤ k_) ∧ k_ ≠ gb190)) k_ ∧ some k_ ≠ (u3 : Value).ownBlock)) (HL189_1.out) (fun k_ hk => ⟨⟨hk.1, hk.2.2⟩, hk.2.1⟩))).2.1 (Kd.V_F (Kd.qbw (ok' := (fun k_ => ((fun k_ => (P0_ k_ ∨ w.heap.size ≤ k_) ∧ k_ ≠ gb190)) k_ ∧ some k_ ≠ (u3 : Value).ownBlock)) (HL189_1.out) (fun k_ hk => ⟨⟨hk.1, hk.2.2⟩, hk.2.1⟩))))); (case aB => exact (by repeat (first | (with_reducible first | exact HB.out | apply qad | apply qaa | apply qac | refine qah ?_ GE190.out) | exact HB.out))); (case aF => exact (fun k_ hk => ⟨(.inr (Nat.le_trans (qan (by repeat (first | (with_reducible first | exact HB.out | apply qad | apply qaa | apply qac | refine qah ?_ GE190.out) | exact HB.out))) hk)), Kd.freshB (g := gb190) (o := .cells #[.string ((qal l0 x11_1).f0.f0), .slice A189_1 ((qal l0 x11_1).f0.f1).length c189_1, .int .i64 ((qal l0 x11_1).f1)] 32 (0, 0)) (by (with_reducible repeat (first | refine qai ?_ _ | refine qak ?_ | refine qaj ?_ _)); exact BK190.out) k_ hk⟩)); (case aO => exact (by (with_reducible repeat (first | apply Kd.qbE | apply Kd.qbD | apply Kd.qbL)); exact HO_3.out)); (case aS => exact (qan (by repeat (first | (with_reducible first | exact HB.out | apply qad | apply qaa | apply qac | refine qah ?_ GE190.out) | exact HB.out)))); (case aL => have := LMc5.out; omega); intro v192 w10 ho hb hg hat; rw [← Ny191.out] at ho; have n0_ := qae.mk (Kd.V_afterv (ok := (fun k_ => (P0_ k_ ∨ w.heap.size ≤ k_) ∧ k_ ≠ gb190)) (by (with_reducible repeat (first | apply Kd.qa1 | apply Kd.qaZ | apply Kd.qbb)); exact Kd.qbw HO_0.out (fun _ hk => ⟨⟨hk.1, hk.2.2⟩, hk.2.1⟩)) hg hat); have n1_ := qae.mk (Kd.V_afterv (ok := (fun k_ => (P0_ k_ ∨ w.heap.size ≤ k_) ∧ k_ ≠ gb190)) (by (with_reducible repeat (first | apply Kd.qa1 | apply Kd.qaZ | apply Kd.qbb)); exact Kd.qbw HO_9.out (fun _ hk => ⟨⟨hk.1, hk.2.2⟩, hk.2.1⟩)) hg hat); have n2_ := qae.mk (Kd.V_afterv (ok := (fun k_ => (P0_ k_ ∨ w.heap.size ≤ k_) ∧ k_ ≠ gb190)) (by (with_reducible repeat (first | apply Kd.qa1 | apply Kd.qaZ | apply Kd.qbb)); exact Kd.qbw HL189_1.out (fun _ hk => ⟨⟨hk.1, hk.2.2⟩, hk.2.1⟩)) hg hat); have n3_ := qae.mk (qbS (g := gb190) (o := .cells #[.string ((qal l0 x11_1).f0.f0), .slice A189_1 ((qal l0 x11_1).f0.f1).length c189_1, .int .i64 ((qal l0 x11_1).f1)] 32 (0, 0)) (by (with_reducible repeat (first | refine qai ?_ _ | refine qak ?_ | refine qaj ?_ _)); exact BK190.out) hg (Kd.N_ne HO_3.out BK190.out (by decide))); have n4_ := qae.mk (hb); have n5_ := qae.mk (ho); clear HO_0; clear HO_9; clear HL189_1; clear BK190; clear HB; clear HO_3; have HO_0 := n0_; have HO_9 := n1_; have HL189_1 := n2_; have BK190 := n3_; have HB := n4_; have HO193 := n5_; clear n0_ n1_ n2_ n3_ n4_ n5_; clear ho hb hg hat))
       go_roundg k1
       case measure => have := HK1.out; omega
       case rel => exact ⟨(y191), (wrap64 (x11_1 + 1)), (by first | rfl | (simp; done) | (simp [*]; done)), H', ⟨by have := HK1.out; omega⟩, ⟨by (with_reducible repeat (first | apply Kd.qa1 | apply Kd.qaZ | apply Kd.qbb)); exact Kd.qbw HO_0.out (fun _ hk => ⟨hk.1.1, hk.2⟩)⟩, ⟨by (with_reducible repeat (first | apply Kd.qbE | apply Kd.qbD | apply Kd.qbL)); exact Kd.N_mono HO193.out (fun _ hk => hk.1)⟩, ⟨by (with_reducible repeat (first | apply Kd.qa1 | apply Kd.qaZ | apply Kd.qbb)); exact Kd.qbw HO_9.out (fun _ hk => ⟨hk.1.1, hk.2⟩)⟩, ⟨by repeat (first | (with_reducible first | exact HB.out | apply qad | apply qaa | apply qac | refine qah ?_ GE190.out) | exact HB.out)⟩⟩
      ·rw [if_neg c5] at H; exact absurd H (by simp)
     ·rw [if_neg c4] at H; exact absurd H (by simp)
    ·rw [if_neg c3] at H; exact absurd H (by simp)
   ·rw [if_neg c2] at H; have c2b0 : decide (x11_1 < (l0.length : Int)) = false := decide_eq_false c2; clear c2; replace H := Option.bind_eq_some_iff.mp H; obtain ⟨t194, A110, H⟩ := H; replace H : (if t194 = 0 then (qaH.l1 k1 l0 (l0.length : Int) 0) else (some t194)) = some r := H
    have A11 := qae.mk A110
    clear A110; by_cases c12 : t194 = 0
    ·rw [if_pos c12] at H; have c12b0 : (t194 == 0) = true := beq_iff_eq.mpr c12; have c12b1 : (t194 != 0) = false := bne_eq_false_iff_eq.mpr c12; clear c12; have H' := qae.mk H; clear H; obtain ⟨Ao13, co13, eo13⟩ := Kd.N_slice HO_3.out
     subst eo13; go_wp2_with (first | ((with_reducible refine qaG (f := 52) rfl ?_); refine qa7 (some 22) rfl rfl Try.func52 (by kernel_rfl) rfl #[.slice Ao13 x3_1.length co13] rfl (by (try simp only [qy6, qy7, qy8]); first | done | rfl | (simp only [List.length_drop, List.length_take]; rfl)) ?_; (with_reducible refine (qaB.calls k1 _ _ x3_1 t194 _ ?side1 ?side2 A11.out).mono ?_); (case side1 => repeat (first | exact (Kd.qbK HO_3.out).2.2 | (with_reducible refine Kd.qbk ?_ _) | (with_reducible refine Kd.qbj ?_ _) | (with_reducible refine Kd.qbA ?_))); (case side2 => exact (Kd.qbK HO_3.out).2.1); rintro e w14 ⟨rfl, hb⟩; refine ⟨_, rfl, ?_⟩; have n0_ := qae.mk (Kd.qbu (by (with_reducible repeat (first | apply Kd.qa1 | apply Kd.qaZ | apply Kd.qbb)); exact HO_0.out) hb); have n1_ := qae.mk (Kd.qbT (by (with_reducible repeat (first | apply Kd.qbE | apply Kd.qbD | apply Kd.qbL)); exact HO_3.out) hb); have n2_ := qae.mk (Kd.qbu (by (with_reducible repeat (first | apply Kd.qa1 | apply Kd.qaZ | apply Kd.qbb)); exact HO_9.out) hb); have n3_ := qae.mk (qar (by repeat (first | (with_reducible first | exact HB.out | apply qad | apply qaa | apply qac) | exact HB.out)) hb); clear HO_0; clear HO_3; clear HO_9; clear HB; have HO_0 := n0_; have HO_3 := n1_; have HO_9 := n2_; have HB := n3_; clear n0_ n1_ n2_ n3_; (try clear hb); (try clear hb2); (try clear hk); (try clear hi)))
     (try simp only [Act.put, List.setIfInBounds_toArray, List.set_cons_zero, List.set_cons_succ])
     go_loopg [28] k1 (fun kq v28 w' => ∃ (x28_2 : Int), v28 = .int .i64 x28_2 ∧ qae (qaH.l1 kq l0 (l0.length : Int) x28_2 = some r) ∧ qae (kq ≤ k1) ∧ qae (Kd.V k32 32 w' w.heap.size (fun k_ => (P0_ k_ ∨ w.heap.size ≤ k_)) (.slice A0 l0.length c0) l0) ∧ qae (Below w.heap.size w w'))
     case atStart => exact ⟨(0), (by first | rfl | (simp; done) | (simp [*]; done)), H', ⟨Nat.le_refl _⟩, ⟨by (with_reducible repeat (first | apply Kd.qa1 | apply Kd.qaZ | apply Kd.qbb)); exact Kd.qbw HO_0.out (fun _ hk => hk.1)⟩, ⟨by repeat (first | (with_reducible first | exact HB.out | apply qad | apply qaa | apply qac) | exact HB.out)⟩⟩
     case round =>
      clear H'; (try clear c1); (try clear p1); (try clear q1); (try clear hx1); (try clear c2); (try clear c2b0); (try clear p2); (try clear c3); (try clear c3b0); (try clear c4); (try clear c4b0); (try clear c5); (try clear p6); (try clear c12); (try clear c12b0); (try clear c12b1); (try clear hcz7_0); (try clear hcz7_1); (try clear hcz7_2); (try clear hcz9_0); (try clear hcz9_1); (try clear hcz9_2); (try clear hfz7_0); (try clear hfz7_1); (try clear hfz7_2); (try clear hfz9_0); (try clear hfz9_1); (try clear hfz9_2); (try clear hx189_0); (try clear hx189_1); (try clear hx189_2); (try clear p189); (try clear q189); obtain ⟨x28_2, rfl, HA, HK2, HO_26, HB⟩ := hrel
      cases gk with
      | zero => exact absurd HA.out (by simp [qaH.l1])
      | succ k2 =>
       have H := HA.out; clear HA; simp only [qaH.l1] at H
       by_cases c15 : x28_2 < (l0.length : Int)
       ·rw [if_pos c15] at H; have c15b0 : decide (x28_2 < (l0.length : Int)) = true := decide_eq_true c15; clear c15; by_cases c16 : 0 ≤ x28_2
        ·rw [if_pos c16] at H; have c16b0 : decide (0 ≤ x28_2) = true := decide_eq_true c16; clear c16; by_cases c17 : x28_2 < (l0.length : Int)
         ·rw [if_pos c17] at H; have c17b0 : decide (x28_2 < (l0.length : Int)) = true := decide_eq_true c17; clear c17; by_cases c18 : ((qal l0 x28_2).f1) < 0
          ·rw [if_pos c18] at H; have c18b0 : decide (((qal l0 x28_2).f1) < 0) = true := decide_eq_true c18; clear c18; obtain rfl := Option.some.inj H
           have p195 : 0 ≤ (x28_2 : Int) := of_decide_eq_true (by first | (with_reducible assumption) | assumption)
           have q195 : x28_2 < (l0.length : Int) := of_decide_eq_true (by first | (with_reducible assumption) | assumption)
           obtain ⟨ad195, A195_1, c195_1, e195, hx195_0, hx195_1, hx195_2, hl195_1, hi195_1⟩ := at_T32 (Kd.qbG HO_26.out).2.2 x28_2 p195 q195
           cases e195
           obtain ⟨ce195, hce195, hMe195, hcc195⟩ := Kd.V_get HO_26.out z32 x28_2 p195 (by first | exact q195 | exact of_decide_eq_true (by first | (with_reducible assumption) | assumption) | (have e_ := (Kd.qbG HO_26.out).1; omega))
           obtain ⟨ua195_1, uc195_1, rfl, ul195_1, ge195_1⟩ := k32_openF hMe195
           have hv195_1 := hcc195 1 _ rfl
           rw [qbX _ _ 1 (by omega)] at hv195_1; replace hv195_1 := Option.some.inj (hv195_1.symm.trans hx195_1)
           injection hv195_1 with hva_ hvn_ hvc_
           rw [hva_] at ge195_1; rw [hvc_] at ul195_1; have HL195_1 := qae.mk (show Kd.V k41 41 _ w.heap.size _ _ ((qal l0 x28_2).f0.f1) from Kd.V_mk ul195_1 ge195_1)
           clear hva_ hvn_ hvc_ ge195_1 ul195_1; clear hcc195 hce195; have HR195_1 := qae.mk hi195_1
           have HC195_1 := qae.mk hl195_1
           clear hi195_1 hl195_1; replace p195 := eq_true p195; replace q195 := eq_true q195; go_wp2_with (first | ((with_reducible refine qaW (N := 8) rfl ?_); refine qaU ?hg (N := 8) ?hd (cs := #[.string (⟨#[]⟩ : ByteArray), .slice none 0 0, .int .i64 0]) (t := 32) ?hr ?_; (case hd => rfl); (case hg => rfl); (case hr => first | (go_simp; done) | (go_simp; rfl)); intro gb196 hg w19 hbox hb; have n0_ := qae.mk (Kd.qbu (Kd.qbY (by (with_reducible repeat (first | apply Kd.qa1 | apply Kd.qaZ | apply Kd.qbb)); exact HO_26.out) gb196 (Nat.le_of_eq hg.symm)) hb); have n1_ := qae.mk (Kd.qbu (Kd.qbY (by (with_reducible repeat (first | apply Kd.qa1 | apply Kd.qaZ | apply Kd.qbb)); exact HL195_1.out) gb196 (Nat.le_of_eq hg.symm)) hb); have n2_ := qae.mk (Kd.qbC (by repeat (first | (with_reducible exact HR195_1.out) | (with_reducible refine Kd.qbk ?_ _) | (with_reducible refine Kd.qbj ?_ _) | (with_reducible refine Kd.qbA ?_) | exact HR195_1.out)) hb); have n3_ := qae.mk (qar (by repeat (first | (with_reducible first | exact HB.out | apply qad | apply qaa | apply qac) | exact HB.out)) hb); have n4_ := qae.mk (hbox); have n5_ := qae.mk ((by rw [hg]; exact (qan (by repeat (first | (with_reducible first | exact HB.out | apply qad | apply qaa | apply qac) | exact HB.out))) : w.heap.size ≤ gb196)); have n6_ := qae.mk ((by rw [hg]; exact (qan (by repeat (first | (with_reducible first | exact HB.out | apply qad | apply qaa | apply qac) | exact HB.out))) : w.heap.size ≤ gb196)); clear HO_26; clear HL195_1; clear HR195_1; clear HB; have HO_26 := n0_; have HL195_1 := n1_; have HR195_1 := n2_; have HB := n3_; have BK196 := n4_; have GW196 := n5_; have GE196 := n6_; clear n0_ n1_ n2_ n3_ n4_ n5_ n6_; clear hb hbox hg; have hcz20_0 : w19.cell? ⟨gb196, 0, none⟩ = some (.string (⟨#[]⟩ : ByteArray)) := (qao BK196.out 0).trans rfl; have hcz20_1 : w19.cell? ⟨gb196, 1, none⟩ = some (.slice none 0 0) := (qao BK196.out 1).trans rfl; have hcz20_2 : w19.cell? ⟨gb196, 2, none⟩ = some (.int .i64 0) := (qao BK196.out 2).trans rfl; have hfz20_0 := qam BK196.out 0; have hfz20_1 := qam BK196.out 1; have hfz20_2 := qam BK196.out 2))
           go_ret
           exact ⟨by first | rfl | (simp [qaw, qav] <;> rfl) | (simp [*, qaw, qav] <;> rfl), by repeat (first | (with_reducible first | exact HB.out | apply qad | apply qaa | apply qac | refine qah ?_ GE196.out) | exact HB.out)⟩
          ·rw [if_neg c18] at H; have c18b0 : decide (((qal l0 x28_2).f1) < 0) = false := decide_eq_false c18; clear c18; by_cases c21 : ((qal l0 x28_2).f1) > 100000
           ·rw [if_pos c21] at H; have c21b0 : decide (100000 < ((qal l0 x28_2).f1)) = true := decide_eq_true c21; clear c21; obtain rfl := Option.some.inj H
            have p195 : 0 ≤ (x28_2 : Int) := of_decide_eq_true (by first | (with_reducible assumption) | assumption)
            have q195 : x28_2 < (l0.length : Int) := of_decide_eq_true (by first | (with_reducible assumption) | assumption)
            obtain ⟨ad195, A195_1, c195_1, e195, hx195_0, hx195_1, hx195_2, hl195_1, hi195_1⟩ := at_T32 (Kd.qbG HO_26.out).2.2 x28_2 p195 q195
            cases e195
            obtain ⟨ce195, hce195, hMe195, hcc195⟩ := Kd.V_get HO_26.out z32 x28_2 p195 (by first | exact q195 | exact of_decide_eq_true (by first | (with_reducible assumption) | assumption) | (have e_ := (Kd.qbG HO_26.out).1; omega))
            obtain ⟨ua195_1, uc195_1, rfl, ul195_1, ge195_1⟩ := k32_openF hMe195
            have hv195_1 := hcc195 1 _ rfl
            rw [qbX _ _ 1 (by omega)] at hv195_1; replace hv195_1 := Option.some.inj (hv195_1.symm.trans hx195_1)
            injection hv195_1 with hva_ hvn_ hvc_
            rw [hva_] at ge195_1; rw [hvc_] at ul195_1; have HL195_1 := qae.mk (show Kd.V k41 41 _ w.heap.size _ _ ((qal l0 x28_2).f0.f1) from Kd.V_mk ul195_1 ge195_1)
            clear hva_ hvn_ hvc_ ge195_1 ul195_1; clear hcc195 hce195; have HR195_1 := qae.mk hi195_1
            have HC195_1 := qae.mk hl195_1
            clear hi195_1 hl195_1; replace p195 := eq_true p195; replace q195 := eq_true q195; go_wp2_with (first | ((with_reducible refine qaW (N := 8) rfl ?_); refine qaU ?hg (N := 8) ?hd (cs := #[.string (⟨#[]⟩ : ByteArray), .slice none 0 0, .int .i64 0]) (t := 32) ?hr ?_; (case hd => rfl); (case hg => rfl); (case hr => first | (go_simp; done) | (go_simp; rfl)); intro gb196 hg w22 hbox hb; have n0_ := qae.mk (Kd.qbu (Kd.qbY (by (with_reducible repeat (first | apply Kd.qa1 | apply Kd.qaZ | apply Kd.qbb)); exact HO_26.out) gb196 (Nat.le_of_eq hg.symm)) hb); have n1_ := qae.mk (Kd.qbu (Kd.qbY (by (with_reducible repeat (first | apply Kd.qa1 | apply Kd.qaZ | apply Kd.qbb)); exact HL195_1.out) gb196 (Nat.le_of_eq hg.symm)) hb); have n2_ := qae.mk (Kd.qbC (by repeat (first | (with_reducible exact HR195_1.out) | (with_reducible refine Kd.qbk ?_ _) | (with_reducible refine Kd.qbj ?_ _) | (with_reducible refine Kd.qbA ?_) | exact HR195_1.out)) hb); have n3_ := qae.mk (qar (by repeat (first | (with_reducible first | exact HB.out | apply qad | apply qaa | apply qac) | exact HB.out)) hb); have n4_ := qae.mk (hbox); have n5_ := qae.mk ((by rw [hg]; exact (qan (by repeat (first | (with_reducible first | exact HB.out | apply qad | apply qaa | apply qac) | exact HB.out))) : w.heap.size ≤ gb196)); have n6_ := qae.mk ((by rw [hg]; exact (qan (by repeat (first | (with_reducible first | exact HB.out | apply qad | apply qaa | apply qac) | exact HB.out))) : w.heap.size ≤ gb196)); clear HO_26; clear HL195_1; clear HR195_1; clear HB; have HO_26 := n0_; have HL195_1 := n1_; have HR195_1 := n2_; have HB := n3_; have BK196 := n4_; have GW196 := n5_; have GE196 := n6_; clear n0_ n1_ n2_ n3_ n4_ n5_ n6_; clear hb hbox hg; have hcz23_0 : w22.cell? ⟨gb196, 0, none⟩ = some (.string (⟨#[]⟩ : ByteArray)) := (qao BK196.out 0).trans rfl; have hcz23_1 : w22.cell? ⟨gb196, 1, none⟩ = some (.slice none 0 0) := (qao BK196.out 1).trans rfl; have hcz23_2 : w22.cell? ⟨gb196, 2, none⟩ = some (.int .i64 0) := (qao BK196.out 2).trans rfl; have hfz23_0 := qam BK196.out 0; have hfz23_1 := qam BK196.out 1; have hfz23_2 := qam BK196.out 2))
            go_ret
            exact ⟨by first | rfl | (simp [qaw, qav] <;> rfl) | (simp [*, qaw, qav] <;> rfl), by repeat (first | (with_reducible first | exact HB.out | apply qad | apply qaa | apply qac | refine qah ?_ GE196.out) | exact HB.out)⟩
           ·rw [if_neg c21] at H; have c21b0 : decide (100000 < ((qal l0 x28_2).f1)) = false := decide_eq_false c21; clear c21; have H' := qae.mk H; clear H; have p195 : 0 ≤ (x28_2 : Int) := of_decide_eq_true (by first | (with_reducible assumption) | assumption)
            have q195 : x28_2 < (l0.length : Int) := of_decide_eq_true (by first | (with_reducible assumption) | assumption)
            obtain ⟨ad195, A195_1, c195_1, e195, hx195_0, hx195_1, hx195_2, hl195_1, hi195_1⟩ := at_T32 (Kd.qbG HO_26.out).2.2 x28_2 p195 q195
            cases e195
            obtain ⟨ce195, hce195, hMe195, hcc195⟩ := Kd.V_get HO_26.out z32 x28_2 p195 (by first | exact q195 | exact of_decide_eq_true (by first | (with_reducible assumption) | assumption) | (have e_ := (Kd.qbG HO_26.out).1; omega))
            obtain ⟨ua195_1, uc195_1, rfl, ul195_1, ge195_1⟩ := k32_openF hMe195
            have hv195_1 := hcc195 1 _ rfl
            rw [qbX _ _ 1 (by omega)] at hv195_1; replace hv195_1 := Option.some.inj (hv195_1.symm.trans hx195_1)
            injection hv195_1 with hva_ hvn_ hvc_
            rw [hva_] at ge195_1; rw [hvc_] at ul195_1; have HL195_1 := qae.mk (show Kd.V k41 41 _ w.heap.size _ _ ((qal l0 x28_2).f0.f1) from Kd.V_mk ul195_1 ge195_1)
            clear hva_ hvn_ hvc_ ge195_1 ul195_1; clear hcc195 hce195; have HR195_1 := qae.mk hi195_1
            have HC195_1 := qae.mk hl195_1
            clear hi195_1 hl195_1; replace p195 := eq_true p195; replace q195 := eq_true q195; go_wp2_with (first | ((with_reducible refine qaW (N := 8) rfl ?_); refine qaU ?hg (N := 8) ?hd (cs := #[.string (⟨#[]⟩ : ByteArray), .slice none 0 0, .int .i64 0]) (t := 32) ?hr ?_; (case hd => rfl); (case hg => rfl); (case hr => first | (go_simp; done) | (go_simp; rfl)); intro gb196 hg w24 hbox hb; have n0_ := qae.mk (Kd.qbu (Kd.qbY (by (with_reducible repeat (first | apply Kd.qa1 | apply Kd.qaZ | apply Kd.qbb)); exact HO_26.out) gb196 (Nat.le_of_eq hg.symm)) hb); have n1_ := qae.mk (Kd.qbu (Kd.qbY (by (with_reducible repeat (first | apply Kd.qa1 | apply Kd.qaZ | apply Kd.qbb)); exact HL195_1.out) gb196 (Nat.le_of_eq hg.symm)) hb); have n2_ := qae.mk (Kd.qbC (by repeat (first | (with_reducible exact HR195_1.out) | (with_reducible refine Kd.qbk ?_ _) | (with_reducible refine Kd.qbj ?_ _) | (with_reducible refine Kd.qbA ?_) | exact HR195_1.out)) hb); have n3_ := qae.mk (qar (by repeat (first | (with_reducible first | exact HB.out | apply qad | apply qaa | apply qac) | exact HB.out)) hb); have n4_ := qae.mk (hbox); have n5_ := qae.mk ((by rw [hg]; exact (qan (by repeat (first | (with_reducible first | exact HB.out | apply qad | apply qaa | apply qac) | exact HB.out))) : w.heap.size ≤ gb196)); have n6_ := qae.mk ((by rw [hg]; exact (qan (by repeat (first | (with_reducible first | exact HB.out | apply qad | apply qaa | apply qac) | exact HB.out))) : w.heap.size ≤ gb196)); clear HO_26; clear HL195_1; clear HR195_1; clear HB; have HO_26 := n0_; have HL195_1 := n1_; have HR195_1 := n2_; have HB := n3_; have BK196 := n4_; have GW196 := n5_; have GE196 := n6_; clear n0_ n1_ n2_ n3_ n4_ n5_ n6_; clear hb hbox hg; have hcz25_0 : w24.cell? ⟨gb196, 0, none⟩ = some (.string (⟨#[]⟩ : ByteArray)) := (qao BK196.out 0).trans rfl; have hcz25_1 : w24.cell? ⟨gb196, 1, none⟩ = some (.slice none 0 0) := (qao BK196.out 1).trans rfl; have hcz25_2 : w24.cell? ⟨gb196, 2, none⟩ = some (.int .i64 0) := (qao BK196.out 2).trans rfl; have hfz25_0 := qam BK196.out 0; have hfz25_1 := qam BK196.out 1; have hfz25_2 := qam BK196.out 2))
            go_roundg k2
            case measure => have := HK1.out; have := HK2.out; omega
            case rel => exact ⟨(wrap64 (x28_2 + 1)), (by first | rfl | (simp; done) | (simp [*]; done)), H', ⟨by have := HK1.out; have := HK2.out; omega⟩, ⟨by (with_reducible repeat (first | apply Kd.qa1 | apply Kd.qaZ | apply Kd.qbb)); exact Kd.qbw (Kd.V_far (p := ⟨gb196, 2, none⟩) (Kd.V_far (p := ⟨gb196, 1, none⟩) (Kd.V_far (p := ⟨gb196, 0, none⟩) (Kd.qbw HO_26.out (fun k_ hk => (⟨hk, hk.2⟩ : _ ∧ k_ ≠ gb196))) (fun _ hk => hk.2) (.string ((qal l0 x28_2).f0.f0))) (fun _ hk => hk.2) (.slice A195_1 ((qal l0 x28_2).f0.f1).length c195_1)) (fun _ hk => hk.2) (.int .i64 ((qal l0 x28_2).f1))) (fun _ hk => hk.1.1)⟩, ⟨by repeat (first | (with_reducible first | exact HB.out | apply qad | apply qaa | apply qac | refine qah ?_ GE196.out) | exact HB.out)⟩⟩
         ·rw [if_neg c17] at H; exact absurd H (by simp)
        ·rw [if_neg c16] at H; exact absurd H (by simp)
       ·rw [if_neg c15] at H; have c15b0 : decide (x28_2 < (l0.length : Int)) = false := decide_eq_false c15; clear c15; obtain rfl := Option.some.inj H
        go_wp2; go_ret
        exact ⟨by first | rfl | (simp [qaw, qav] <;> rfl) | (simp [*, qaw, qav] <;> rfl), by repeat (first | (with_reducible first | exact HB.out | apply qad | apply qaa | apply qac) | exact HB.out)⟩
    ·rw [if_neg c12] at H; have c12b0 : (t194 == 0) = false := beq_eq_false_iff_ne.mpr c12; have c12b1 : (t194 != 0) = true := bne_iff_ne.mpr c12; obtain rfl := Option.some.inj H
     obtain ⟨Ao26, co26, eo26⟩ := Kd.N_slice HO_3.out
     subst eo26; go_wp2_with (first | ((with_reducible refine qaG (f := 52) rfl ?_); refine qa7 (some 22) rfl rfl Try.func52 (by kernel_rfl) rfl #[.slice Ao26 x3_1.length co26] rfl (by (try simp only [qy6, qy7, qy8]); first | done | rfl | (simp only [List.length_drop, List.length_take]; rfl)) ?_; (with_reducible refine (qaB.calls k1 _ _ x3_1 t194 _ ?side1 ?side2 A11.out).mono ?_); (case side1 => repeat (first | exact (Kd.qbK HO_3.out).2.2 | (with_reducible refine Kd.qbk ?_ _) | (with_reducible refine Kd.qbj ?_ _) | (with_reducible refine Kd.qbA ?_))); (case side2 => exact (Kd.qbK HO_3.out).2.1); rintro e w27 ⟨rfl, hb⟩; refine ⟨_, rfl, ?_⟩; have n0_ := qae.mk (Kd.qbu (by (with_reducible repeat (first | apply Kd.qa1 | apply Kd.qaZ | apply Kd.qbb)); exact HO_0.out) hb); have n1_ := qae.mk (Kd.qbT (by (with_reducible repeat (first | apply Kd.qbE | apply Kd.qbD | apply Kd.qbL)); exact HO_3.out) hb); have n2_ := qae.mk (Kd.qbu (by (with_reducible repeat (first | apply Kd.qa1 | apply Kd.qaZ | apply Kd.qbb)); exact HO_9.out) hb); have n3_ := qae.mk (qar (by repeat (first | (with_reducible first | exact HB.out | apply qad | apply qaa | apply qac) | exact HB.out)) hb); clear HO_0; clear HO_3; clear HO_9; clear HB; have HO_0 := n0_; have HO_3 := n1_; have HO_9 := n2_; have HB := n3_; clear n0_ n1_ n2_ n3_; (try clear hb); (try clear hb2); (try clear hk); (try clear hi)))
     go_ret
     exact ⟨by first | rfl | (simp [qaw, qav] <;> rfl) | (simp [*, qaw, qav] <;> rfl), by repeat (first | (with_reducible first | exact HB.out | apply qad | apply qaa | apply qac) | exact HB.out)⟩
def qbq.f (k : Nat) (a0_0 : ByteArray) (l0_1 : List (S41)) (a0_2 : Int) : Option (Int) := (qaV.f k a0_0 l0_1).bind fun t198 => (some (mn a0_2 t198))
theorem qbq.mono : ∀ a0 a1 a2 k, LeO (qbq.f k a0 a1 a2) (qbq.f (k + 1) a0 a1 a2) := by
 intro a0 a1 a2 k; unfold qbq.f
 repeat' first
   | (with_reducible exact qaV.mono _ _ _)
   | (with_reducible exact LeO.refl _)
   | (with_reducible exact LeO.none _)
   | (with_reducible refine LeO.ite ?_ ?_)
   | (with_reducible refine LeO.bind ?_ (fun _ => ?_))
   | exact qaV.mono _ _ _
   | exact LeO.none _
   | refine LeO.ite ?_ ?_
   | refine LeO.bind ?_ (fun _ => ?_)
set_option maxHeartbeats 8000000 in
set_option maxRecDepth 100000 in
theorem qbq.calls (k : Nat) (a0_0 : ByteArray) (A0_1 : Option Addr) (c0_1 : Nat) (l0_1 : List (S41)) (a0_2 : Int) (r : Int) (w : World) (hr0_1 : Kd.C k41 w A0_1 l0_1.length l0_1) (hc0_1 : l0_1.length ≤ c0_1) (h : qbq.f k a0_0 l0_1 a0_2 = some r) :
  Calls Try.prog 41 #[.agg #[.string a0_0, .slice A0_1 l0_1.length c0_1, .int .i64 a0_2]] w fun e w' => e = .returned (.int .i64 r) ∧ Below w.heap.size w w' := by
 have hu32 := Try.underlying32; have hu29 := Try.underlying29; have HR0_1 := qae.mk hr0_1
 have HC0_1 := qae.mk hc0_1
 clear hr0_1 hc0_1; have HB := qae.mk (Below.refl w.heap.size w)
 have H : ((qaV.f k a0_0 l0_1).bind fun t198 => (some (mn a0_2 t198))) = some r := h
 clear h; replace H := Option.bind_eq_some_iff.mp H; obtain ⟨t198, A20, H⟩ := H; replace H : (some (mn a0_2 t198)) = some r := H
 have A2 := qae.mk A20
 clear A20; obtain ⟨ji3, hji3⟩ : ∃ j_ : Int, (mn a0_2 t198) = j_ := ⟨_, rfl⟩
 replace H : (some ji3) = some r := by first | (rw [hji3] at H; exact H) | (simp only [hji3] at H ⊢; exact H)
 (try rw [hji3] at A2)
 have hji3_ : (if t198 < a0_2 then t198 else a0_2) = ji3 := hji3
 obtain rfl := Option.some.inj H
 go_enter Try.func41, Try.ntmps41; try go_wp2_with (first | ((with_reducible refine qaW (N := 1) rfl ?_); refine qaU ?hg (N := 1) ?hd (cs := #[.string a0_0, .slice A0_1 l0_1.length c0_1, .int .i64 a0_2]) (t := 32) ?hr ?_; (case hd => rfl); (case hg => rfl); (case hr => first | (go_simp; done) | (go_simp; rfl)); intro gb197 hg w4 hbox hb; have n0_ := qae.mk (qar (by repeat (first | (with_reducible first | exact HB.out | apply qad | apply qaa | apply qac) | exact HB.out)) hb); have n1_ := qae.mk (hbox); have n2_ := qae.mk ((by rw [hg]; exact (qan (by repeat (first | (with_reducible first | exact HB.out | apply qad | apply qaa | apply qac) | exact HB.out))) : w.heap.size ≤ gb197)); have n3_ := qae.mk ((by rw [hg]; exact (qan (by repeat (first | (with_reducible first | exact HB.out | apply qad | apply qaa | apply qac) | exact HB.out))) : w.heap.size ≤ gb197)); clear HB; have HB := n0_; have BK197 := n1_; have GW197 := n2_; have GE197 := n3_; clear n0_ n1_ n2_ n3_; clear hb hbox hg))
 have n0_ := qae.mk (qak BK197.out)
 have n1_ := qae.mk (qac HB.out)
 clear BK197; clear HB; have BK197 := n0_; have HB := n1_; clear n0_ n1_; refine qbQ (n := 7) (S := fun w' => w'.cell? ⟨gb197, 0, none⟩ = some (.string a0_0) ∧ w'.cell? ⟨gb197, 1, none⟩ = some (.slice A0_1 l0_1.length c0_1) ∧ w'.cell? ⟨gb197, 2, none⟩ = some (.int .i64 a0_2)) (ds := []) #[qF,qF,qF,qF,qF,qF,qF] (by kernel_rfl) rfl rfl ⟨(qao BK197.out 0).trans rfl, (qao BK197.out 1).trans rfl, (qao BK197.out 2).trans rfl⟩ (fun hHeld => ?_)
 generalize w4.drew = w5 at BK197 HB hHeld ⊢
 refine pure_ (i := 0) (N := some 3) (v := ?_) (a' := ?_) #[qT,qF,qF,qF,qF,qF,qF] rfl rfl (by kernel_rfl) (fun _ _ _ h => h) (Or.inl ⟨by rfl, ?_⟩) ?_ ?_; rotate_left; ·intro w'; go_simp; with_reducible rfl
 rotate_left; ·simp only [Act.put, qy1, qy2, qy3, i64_w, i32_w]; rfl
 refine pure_ (i := 2) (N := some 5) (v := ?_) (a' := ?_) #[qT,qF,qT,qF,qF,qF,qF] rfl rfl (by kernel_rfl) (fun _ _ _ h => h) (Or.inl ⟨by rfl, ?_⟩) ?_ ?_; rotate_left; ·intro w'; go_simp; with_reducible rfl
 rotate_left; ·simp only [Act.put, qy1, qy2, qy3, i64_w, i32_w]; rfl
 refine take_ (i := 1) (N := some 4) (v := ?_) (a' := ?_) #[qT,qT,qT,qF,qF,qF,qF] rfl rfl (by kernel_rfl) (fun _ _ _ h => h) (Or.inl ⟨by rfl, ?_⟩) hHeld ?_ ?_; rotate_left; ·rintro w' ⟨s0, s1, s2⟩; go_simp; with_reducible rfl
 rotate_left; ·simp only [Act.put, qy1, qy2, qy3, i64_w, i32_w]; rfl
 refine take_ (i := 3) (N := some 6) (v := ?_) (a' := ?_) #[qT,qT,qT,qT,qF,qF,qF] rfl rfl (by kernel_rfl) (fun _ _ _ h => h) (Or.inl ⟨by rfl, ?_⟩) hHeld ?_ ?_; rotate_left; ·rintro w' ⟨s0, s1, s2⟩; go_simp; with_reducible rfl
 rotate_left; ·simp only [Act.put, qy1, qy2, qy3, i64_w, i32_w]; rfl
 refine one_ (i := 4) (N := some 7) #[qT,qT,qT,qT,qT,qF,qF] rfl rfl (by kernel_rfl) (by decide) (fun K hK => ?_)
 refine goes_ Try.func54 (by kernel_rfl) rfl #[.agg #[.string a0_0, .slice A0_1 l0_1.length c0_1]] (by rfl) rfl rfl (by (try simp only [qy6, qy7, qy8]); first | done | rfl | (simp only [List.length_drop, List.length_take]; rfl)) ?_
 with_reducible refine (qaV.calls k a0_0 _ _ l0_1 t198 _ ?side1 ?side2 A2.out).mono ?_
 (case side1 => repeat (first | exact (Kd.qbC HR0_1.out HB.out) | (with_reducible refine Kd.qbk ?_ _) | (with_reducible refine Kd.qbj ?_ _) | (with_reducible refine Kd.qbA ?_)))
 (case side2 => exact HC0_1.out)
 rintro e w6 ⟨rfl, hb⟩
 refine ⟨_, rfl, ?_⟩
 have n0_ := qae.mk (qa5 (g := gb197) (o := .cells #[.string a0_0, .slice A0_1 l0_1.length c0_1, .int .i64 a0_2] 32 (0, 0)) (by (with_reducible repeat (first | refine qai ?_ _ | refine qak ?_ | refine qaj ?_ _)); exact BK197.out) hb)
 have n1_ := qae.mk (qar (by repeat (first | (with_reducible first | exact HB.out | apply qad | apply qaa | apply qac | refine qah ?_ GE197.out) | exact HB.out)) hb)
 clear BK197; clear HB; have BK197 := n0_; have HB := n1_; clear n0_ n1_; (try clear hb); (try clear hb2); (try clear hk); (try clear hi); refine hK.out _ _ ⟨(qao BK197.out 0).trans rfl, (qao BK197.out 1).trans rfl, (qao BK197.out 2).trans rfl⟩ (fun hHeld => ?_)
 clear hK K; refine norm_ (a' := ?_) ?_ ?_; rotate_left
 ·show Act.put _ (some 7) _ = _
  simp only [Act.put, qy1, qy2, qy3, i64_w, i32_w]
  rfl
 refine pure_ (i := 5) (N := some 8) (v := ?_) (a' := ?_) #[qT,qT,qT,qT,qT,qT,qF] rfl rfl (by kernel_rfl) (fun _ _ _ h => h) (Or.inl ⟨by rfl, ?_⟩) ?_ ?_; rotate_left; ·intro w'; go_simp; with_reducible rfl
 rotate_left; ·simp only [Act.put, qy1, qy2, qy3, i64_w, i32_w]; rfl
 refine pure_ (i := 6) (N := some 2) (v := ?_) (a' := ?_) #[qT,qT,qT,qT,qT,qT,qT] rfl rfl (by kernel_rfl) (fun _ _ _ h => h) (Or.inl ⟨by rfl, ?_⟩) ?_ ?_; rotate_left; ·intro w'; go_simp; with_reducible rfl
 rotate_left; ·simp only [Act.put, qy1, qy2, qy3, i64_w, i32_w]; rfl
 refine done_ (by kernel_rfl) ?_
 try go_wp2
 go_ret
 exact ⟨by first | rfl | (simp [qaw, qav] <;> rfl) | (simp only [← hji3]; first | rfl | (simp [qaw, qav] <;> rfl)) | (simp [*, qaw, qav] <;> rfl), by repeat (first | (with_reducible first | exact HB.out | apply qad | apply qaa | apply qac | refine qah ?_ GE197.out) | exact HB.out)⟩
def qaI.l0 : Nat → Int → List (S32) → Int → Int → Option (Int × Int)
 | 0, _, _, _, _ => none
 | k + 1, x5, x13, x14, x15 => if x15 < x14 then (if 0 ≤ x15 then (if x15 < (x13.length : Int) then ((qbq.f k ((qal x13 x15).f0.f0) ((qal x13 x15).f0.f1) ((qal x13 x15).f1)).bind fun t202 => (qaI.l0 k (wrap64 (x5 + t202)) x13 x14 (wrap64 (x15 + 1)))) else (none)) else (none)) else (some (x5, 0))
def qaI.f (k : Nat) (l0 : List (S32)) : Option (Int × Int) := (qaH.f k l0).bind fun t199 => (if t199 = 0 then (qaI.l0 k 0 l0 (l0.length : Int) 0) else (some (0, t199)))
theorem qaI.qbB : ∀ k, (∀ y0 y1 y2 y3, LeO (qaI.l0 k y0 y1 y2 y3) (qaI.l0 (k + 1) y0 y1 y2 y3))
 | 0 => fun _ _ _ _ r h => by simp [qaI.l0] at h
 | k + 1 => by
  have ih0 := qaI.qbB k
  ·intro y0 y1 y2 y3; unfold qaI.l0
   repeat' first
   | (with_reducible exact ih0 _ _ _ _)
   | (with_reducible exact qaH.mono _ _)
   | (with_reducible exact qbq.mono _ _ _ _)
   | (with_reducible exact LeO.refl _)
   | (with_reducible exact LeO.none _)
   | (with_reducible refine LeO.ite ?_ ?_)
   | (with_reducible refine LeO.bind ?_ (fun _ => ?_))
   | exact ih0 _ _ _ _
   | exact qaH.mono _ _
   | exact qbq.mono _ _ _ _
   | exact LeO.none _
   | refine LeO.ite ?_ ?_
   | refine LeO.bind ?_ (fun _ => ?_)
theorem qaI.mono : ∀ a0 k, LeO (qaI.f k a0) (qaI.f (k + 1) a0) := by
 intro a0 k; have ih0 := qaI.qbB k
 unfold qaI.f
 repeat' first
   | (with_reducible exact ih0 _ _ _ _)
   | (with_reducible exact qaH.mono _ _)
   | (with_reducible exact qbq.mono _ _ _ _)
   | (with_reducible exact LeO.refl _)
   | (with_reducible exact LeO.none _)
   | (with_reducible refine LeO.ite ?_ ?_)
   | (with_reducible refine LeO.bind ?_ (fun _ => ?_))
   | exact ih0 _ _ _ _
   | exact qaH.mono _ _
   | exact qbq.mono _ _ _ _
   | exact LeO.none _
   | refine LeO.ite ?_ ?_
   | refine LeO.bind ?_ (fun _ => ?_)
set_option maxHeartbeats 8000000 in
set_option maxRecDepth 100000 in
theorem qaI.calls (k : Nat) (A0 : Option Addr) (c0 : Nat) (l0 : List (S32)) (r1 : Int) (r2 : Int) (w : World) (hr0 : Kd.C k32 w A0 l0.length l0) (hc0 : l0.length ≤ c0) (h : qaI.f k l0 = some (r1, r2)) :
  Calls Try.prog 15 #[.slice A0 l0.length c0] w fun e w' => e = .returned (.tuple #[.int .i64 r1, .int .i64 r2]) ∧ Below w.heap.size w w' := by
 have hu32 := Try.underlying32; have HR0 := qae.mk hr0
 have HC0 := qae.mk hc0
 clear hr0 hc0; have HB := qae.mk (Below.refl w.heap.size w)
 have H : ((qaH.f k l0).bind fun t199 => (if t199 = 0 then (qaI.l0 k 0 l0 (l0.length : Int) 0) else (some (0, t199)))) = some (r1, r2) := h
 clear h; replace H := Option.bind_eq_some_iff.mp H; obtain ⟨t199, A20, H⟩ := H; replace H : (if t199 = 0 then (qaI.l0 k 0 l0 (l0.length : Int) 0) else (some (0, t199))) = some (r1, r2) := H
 have A2 := qae.mk A20
 clear A20; by_cases c3 : t199 = 0
 ·rw [if_pos c3] at H; have c3b0 : (t199 == 0) = true := beq_iff_eq.mpr c3; have c3b1 : (t199 != 0) = false := bne_eq_false_iff_eq.mpr c3; clear c3; have H' := qae.mk H; clear H; go_enter Try.func15, Try.ntmps15; go_wp2_with (first | ((with_reducible refine qaG (f := 19) rfl ?_); refine qa7 (some 9) rfl rfl Try.func19 (by kernel_rfl) rfl #[.slice A0 l0.length c0] rfl (by (try simp only [qy6, qy7, qy8]); first | done | rfl | (simp only [List.length_drop, List.length_take]; rfl)) ?_; (with_reducible refine (qaH.calls k (fun k_ => k_ < w.heap.size) _ _ l0 t199 _ ?side1 A2.out).mono ?_); (case side1 => exact Kd.V_mk HC0.out (Kd.F_below (Kd.C_F k32_heap HR0.out) (by repeat (first | (with_reducible first | exact HB.out | apply qad | apply qaa | apply qac) | exact HB.out)))); rintro e w4 ⟨rfl, hb⟩; refine ⟨_, rfl, ?_⟩; have n0_ := qae.mk (qar (by repeat (first | (with_reducible first | exact HB.out | apply qad | apply qaa | apply qac) | exact HB.out)) hb); clear HB; have HB := n0_; clear n0_; (try clear hb); (try clear hb2); (try clear hk); (try clear hi)))
  (try simp only [Act.put, List.setIfInBounds_toArray, List.set_cons_zero, List.set_cons_succ])
  go_loopg [5, 15] k (fun kq v5 v15 w' => ∃ (x5_1 : Int) (x15_1 : Int), v5 = .int .i64 x5_1 ∧ v15 = .int .i64 x15_1 ∧ qae (qaI.l0 kq x5_1 l0 (l0.length : Int) x15_1 = some (r1, r2)) ∧ qae (kq ≤ k) ∧ qae (Below w.heap.size w w'))
  case atStart => exact ⟨(0), (0), (by first | rfl | (simp; done) | (simp [*]; done)), (by first | rfl | (simp; done) | (simp [*]; done)), H', ⟨Nat.le_refl _⟩, ⟨by repeat (first | (with_reducible first | exact HB.out | apply qad | apply qaa | apply qac) | exact HB.out)⟩⟩
  case round =>
   clear H'; (try clear c1); (try clear p2); (try clear c3); (try clear c3b0); (try clear c3b1); obtain ⟨x5_1, x15_1, rfl, rfl, HA, HK1, HB⟩ := hrel
   cases gk with
   | zero => exact absurd HA.out (by simp [qaI.l0])
   | succ k1 =>
    have H := HA.out; clear HA; simp only [qaI.l0] at H
    by_cases c5 : x15_1 < (l0.length : Int)
    ·rw [if_pos c5] at H; have c5b0 : decide (x15_1 < (l0.length : Int)) = true := decide_eq_true c5; clear c5; by_cases c6 : 0 ≤ x15_1
     ·rw [if_pos c6] at H; have c6b0 : decide (0 ≤ x15_1) = true := decide_eq_true c6; clear c6; by_cases c7 : x15_1 < (l0.length : Int)
      ·rw [if_pos c7] at H; have c7b0 : decide (x15_1 < (l0.length : Int)) = true := decide_eq_true c7; clear c7; replace H := Option.bind_eq_some_iff.mp H; obtain ⟨t202, A80, H⟩ := H; replace H : (qaI.l0 k1 (wrap64 (x5_1 + t202)) l0 (l0.length : Int) (wrap64 (x15_1 + 1))) = some (r1, r2) := H
       have A8 := qae.mk A80
       clear A80; have H' := qae.mk H; clear H; have p200 : 0 ≤ (x15_1 : Int) := of_decide_eq_true (by first | (with_reducible assumption) | assumption)
       have q200 : x15_1 < (l0.length : Int) := of_decide_eq_true (by first | (with_reducible assumption) | assumption)
       obtain ⟨ad200, A200_1, c200_1, e200, hx200_0, hx200_1, hx200_2, hl200_1, hi200_1⟩ := at_T32 HR0.out x15_1 p200 q200
       cases e200
       replace hx200_0 := (HB.out.cell (World.block_lt_of_cell? w _ hx200_0)).trans hx200_0
       replace hx200_1 := (HB.out.cell (World.block_lt_of_cell? w _ hx200_1)).trans hx200_1
       replace hx200_2 := (HB.out.cell (World.block_lt_of_cell? w _ hx200_2)).trans hx200_2
       have HR200_1 := qae.mk hi200_1
       have HC200_1 := qae.mk hl200_1
       clear hi200_1 hl200_1; replace p200 := eq_true p200; replace q200 := eq_true q200; go_wp2_with (first | ((with_reducible refine qaW (N := 7) rfl ?_); refine qaU ?hg (N := 7) ?hd (cs := #[.string (⟨#[]⟩ : ByteArray), .slice none 0 0, .int .i64 0]) (t := 32) ?hr ?_; (case hd => rfl); (case hg => rfl); (case hr => first | (go_simp; done) | (go_simp; rfl)); intro gb201 hg w9 hbox hb; have n0_ := qae.mk (qar (by repeat (first | (with_reducible first | exact HB.out | apply qad | apply qaa | apply qac) | exact HB.out)) hb); have n1_ := qae.mk (hbox); have n2_ := qae.mk ((by rw [hg]; exact (qan (by repeat (first | (with_reducible first | exact HB.out | apply qad | apply qaa | apply qac) | exact HB.out))) : w.heap.size ≤ gb201)); have n3_ := qae.mk ((by rw [hg]; exact (qan (by repeat (first | (with_reducible first | exact HB.out | apply qad | apply qaa | apply qac) | exact HB.out))) : w.heap.size ≤ gb201)); clear HB; have HB := n0_; have BK201 := n1_; have GW201 := n2_; have GE201 := n3_; clear n0_ n1_ n2_ n3_; clear hb hbox hg; have hcz10_0 : w9.cell? ⟨gb201, 0, none⟩ = some (.string (⟨#[]⟩ : ByteArray)) := (qao BK201.out 0).trans rfl; have hcz10_1 : w9.cell? ⟨gb201, 1, none⟩ = some (.slice none 0 0) := (qao BK201.out 1).trans rfl; have hcz10_2 : w9.cell? ⟨gb201, 2, none⟩ = some (.int .i64 0) := (qao BK201.out 2).trans rfl; have hfz10_0 := qam BK201.out 0; have hfz10_1 := qam BK201.out 1; have hfz10_2 := qam BK201.out 2) | ((with_reducible refine qaG (f := 41) rfl ?_); refine qa7 (some 21) rfl rfl Try.func41 (by kernel_rfl) rfl #[.agg #[.string ((qal l0 x15_1).f0.f0), .slice A200_1 ((qal l0 x15_1).f0.f1).length c200_1, .int .i64 ((qal l0 x15_1).f1)]] rfl (by (try simp only [qy6, qy7, qy8]); first | done | rfl | (simp only [List.length_drop, List.length_take]; rfl)) ?_; (with_reducible refine (qbq.calls k1 ((qal l0 x15_1).f0.f0) _ _ ((qal l0 x15_1).f0.f1) ((qal l0 x15_1).f1) t202 _ ?side1 ?side2 A8.out).mono ?_); (case side1 => exact Kd.qbC HR200_1.out (by repeat (first | (with_reducible first | exact HB.out | apply qad | apply qaa | apply qac | refine qah ?_ GE201.out) | exact HB.out))); (case side2 => exact HC200_1.out); rintro e w11 ⟨rfl, hb⟩; refine ⟨_, rfl, ?_⟩; have n0_ := qae.mk (qa5 (g := gb201) (o := .cells #[.string ((qal l0 x15_1).f0.f0), .slice A200_1 ((qal l0 x15_1).f0.f1).length c200_1, .int .i64 ((qal l0 x15_1).f1)] 32 (0, 0)) (by (with_reducible repeat (first | refine qai ?_ _ | refine qak ?_ | refine qaj ?_ _)); refine qba (cs := #[.string ((qal l0 x15_1).f0.f0), .slice A200_1 ((qal l0 x15_1).f0.f1).length c200_1, .int .i64 0]) ?_ 2 _ rfl; (with_reducible repeat (first | refine qai ?_ _ | refine qak ?_ | refine qaj ?_ _)); refine qba (cs := #[.string ((qal l0 x15_1).f0.f0), .slice none 0 0, .int .i64 0]) ?_ 1 _ rfl; (with_reducible repeat (first | refine qai ?_ _ | refine qak ?_ | refine qaj ?_ _)); refine qba (cs := #[.string (⟨#[]⟩ : ByteArray), .slice none 0 0, .int .i64 0]) ?_ 0 _ rfl; (with_reducible repeat (first | refine qai ?_ _ | refine qak ?_ | refine qaj ?_ _)); exact BK201.out) hb); have n1_ := qae.mk (qar (by repeat (first | (with_reducible first | exact HB.out | apply qad | apply qaa | apply qac | refine qah ?_ GE201.out) | exact HB.out)) hb); clear BK201; clear HB; have BK201 := n0_; have HB := n1_; clear n0_ n1_; (try clear hb); (try clear hb2); (try clear hk); (try clear hi)))
       go_roundg k1
       case measure => have := HK1.out; omega
       case rel => exact ⟨(wrap64 (x5_1 + t202)), (wrap64 (x15_1 + 1)), (by first | rfl | (simp; done) | (simp [*]; done)), (by first | rfl | (simp; done) | (simp [*]; done)), H', ⟨by have := HK1.out; omega⟩, ⟨by repeat (first | (with_reducible first | exact HB.out | apply qad | apply qaa | apply qac | refine qah ?_ GE201.out) | exact HB.out)⟩⟩
      ·rw [if_neg c7] at H; exact absurd H (by simp)
     ·rw [if_neg c6] at H; exact absurd H (by simp)
    ·rw [if_neg c5] at H; have c5b0 : decide (x15_1 < (l0.length : Int)) = false := decide_eq_false c5; clear c5; simp only [Option.some.injEq, Prod.mk.injEq] at H
     obtain ⟨rfl, rfl⟩ := H; go_wp2; go_ret2
     exact ⟨by first | rfl | (simp [qaw, qav] <;> rfl) | (simp [*, qaw, qav] <;> rfl), by repeat (first | (with_reducible first | exact HB.out | apply qad | apply qaa | apply qac) | exact HB.out)⟩
 ·rw [if_neg c3] at H; have c3b0 : (t199 == 0) = false := beq_eq_false_iff_ne.mpr c3; have c3b1 : (t199 != 0) = true := bne_iff_ne.mpr c3; simp only [Option.some.injEq, Prod.mk.injEq] at H
  obtain ⟨rfl, rfl⟩ := H; go_enter Try.func15, Try.ntmps15; go_wp2_with (first | ((with_reducible refine qaG (f := 19) rfl ?_); refine qa7 (some 9) rfl rfl Try.func19 (by kernel_rfl) rfl #[.slice A0 l0.length c0] rfl (by (try simp only [qy6, qy7, qy8]); first | done | rfl | (simp only [List.length_drop, List.length_take]; rfl)) ?_; (with_reducible refine (qaH.calls k (fun k_ => k_ < w.heap.size) _ _ l0 t199 _ ?side1 A2.out).mono ?_); (case side1 => exact Kd.V_mk HC0.out (Kd.F_below (Kd.C_F k32_heap HR0.out) (by repeat (first | (with_reducible first | exact HB.out | apply qad | apply qaa | apply qac) | exact HB.out)))); rintro e w12 ⟨rfl, hb⟩; refine ⟨_, rfl, ?_⟩; have n0_ := qae.mk (qar (by repeat (first | (with_reducible first | exact HB.out | apply qad | apply qaa | apply qac) | exact HB.out)) hb); clear HB; have HB := n0_; clear n0_; (try clear hb); (try clear hb2); (try clear hk); (try clear hi)))
  go_ret2
  exact ⟨by first | rfl | (simp [qaw, qav] <;> rfl) | (simp [*, qaw, qav] <;> rfl), by repeat (first | (with_reducible first | exact HB.out | apply qad | apply qaa | apply qac) | exact HB.out)⟩
def cmp_isNaN_int.f (a0 : Int) : Option (Bool) := some (a0 != a0)
set_option maxHeartbeats 8000000 in
set_option maxRecDepth 100000 in
theorem cmp_isNaN_int.calls (a0 : Int) (r : Bool) (w : World) (h : cmp_isNaN_int.f a0 = some r) :
  Calls Try.prog 81 #[.int .i64 a0] w fun e w' => e = .returned (.bool r) ∧ qa9 w w' := by
 have H : (some (a0 != a0)) = some r := h
 clear h; obtain rfl := Option.some.inj H
 go_enter Try.func81, Try.ntmps81; go_wp2; go_ret
 exact ⟨by first | rfl | (simp; done) | (simp [*]; done), by repeat (first | exact qa9.refl _ | apply qa9.step)⟩
def cmp_Compare_int.f (a0 : Int) (a1 : Int) : Option (Int) := (cmp_isNaN_int.f a0).bind fun t203 => ((cmp_isNaN_int.f a1).bind fun t204 => (if t203 = true then (if t204 = true then (some 0) else (some (-1))) else (if t204 = true then (some 1) else (if a0 < a1 then (some (-1)) else (if a0 > a1 then (some 1) else (some 0))))))
set_option maxHeartbeats 8000000 in
set_option maxRecDepth 100000 in
theorem cmp_Compare_int.calls (a0 : Int) (a1 : Int) (r : Int) (w : World) (h : cmp_Compare_int.f a0 a1 = some r) :
  Calls Try.prog 57 #[.int .i64 a0, .int .i64 a1] w fun e w' => e = .returned (.int .i64 r) ∧ qa9 w w' := by
 have H : ((cmp_isNaN_int.f a0).bind fun t203 => ((cmp_isNaN_int.f a1).bind fun t204 => (if t203 = true then (if t204 = true then (some 0) else (some (-1))) else (if t204 = true then (some 1) else (if a0 < a1 then (some (-1)) else (if a0 > a1 then (some 1) else (some 0))))))) = some r := h
 clear h; replace H := Option.bind_eq_some_iff.mp H; obtain ⟨t203, A30, H⟩ := H; replace H : ((cmp_isNaN_int.f a1).bind fun t204 => (if t203 = true then (if t204 = true then (some 0) else (some (-1))) else (if t204 = true then (some 1) else (if a0 < a1 then (some (-1)) else (if a0 > a1 then (some 1) else (some 0)))))) = some r := H
 have A3 := qae.mk A30
 clear A30; replace H := Option.bind_eq_some_iff.mp H; obtain ⟨t204, A40, H⟩ := H; replace H : (if t203 = true then (if t204 = true then (some 0) else (some (-1))) else (if t204 = true then (some 1) else (if a0 < a1 then (some (-1)) else (if a0 > a1 then (some 1) else (some 0))))) = some r := H
 have A4 := qae.mk A40
 clear A40; by_cases c5 : t203 = true
 ·subst c5; have H1 : (if t204 = true then (some 0) else (some (-1))) = some r := by rw [if_pos rfl] at H; exact H
  clear H; have H := H1; clear H1; by_cases c6 : t204 = true
  ·subst c6; have H1 : (some 0) = some r := by rw [if_pos rfl] at H; exact H
   clear H; have H := H1; clear H1; obtain rfl := Option.some.inj H
   go_enter Try.func57, Try.ntmps57; go_wp2_with (first | ((with_reducible refine qaG (f := 81) rfl ?_); refine qa7 (some 8) rfl rfl Try.func81 (by kernel_rfl) rfl #[.int .i64 a0] rfl (by (try simp only [qy6, qy7, qy8]); first | done | rfl | (simp only [List.length_drop, List.length_take]; rfl)) ?_; (with_reducible refine (cmp_isNaN_int.calls a0 true _ A3.out).mono ?_); rintro e w' ⟨rfl, ⟨nd, rfl⟩⟩; refine ⟨_, rfl, ?_⟩) | ((with_reducible refine qaG (f := 81) rfl ?_); refine qa7 (some 10) rfl rfl Try.func81 (by kernel_rfl) rfl #[.int .i64 a1] rfl (by (try simp only [qy6, qy7, qy8]); first | done | rfl | (simp only [List.length_drop, List.length_take]; rfl)) ?_; (with_reducible refine (cmp_isNaN_int.calls a1 true _ A4.out).mono ?_); rintro e w' ⟨rfl, ⟨nd, rfl⟩⟩; refine ⟨_, rfl, ?_⟩))
   go_ret
   exact ⟨by first | rfl | (simp; done) | (simp [*]; done), by repeat (first | exact qa9.refl _ | apply qa9.step)⟩
  ·replace c6 := Bool.eq_false_iff.mpr c6
   subst c6; have H1 : (some (-1)) = some r := by rw [if_neg (show ¬ (false = true) by decide)] at H; exact H
   clear H; have H := H1; clear H1; obtain rfl := Option.some.inj H
   go_enter Try.func57, Try.ntmps57; go_wp2_with (first | ((with_reducible refine qaG (f := 81) rfl ?_); refine qa7 (some 8) rfl rfl Try.func81 (by kernel_rfl) rfl #[.int .i64 a0] rfl (by (try simp only [qy6, qy7, qy8]); first | done | rfl | (simp only [List.length_drop, List.length_take]; rfl)) ?_; (with_reducible refine (cmp_isNaN_int.calls a0 true _ A3.out).mono ?_); rintro e w' ⟨rfl, ⟨nd, rfl⟩⟩; refine ⟨_, rfl, ?_⟩) | ((with_reducible refine qaG (f := 81) rfl ?_); refine qa7 (some 10) rfl rfl Try.func81 (by kernel_rfl) rfl #[.int .i64 a1] rfl (by (try simp only [qy6, qy7, qy8]); first | done | rfl | (simp only [List.length_drop, List.length_take]; rfl)) ?_; (with_reducible refine (cmp_isNaN_int.calls a1 false _ A4.out).mono ?_); rintro e w' ⟨rfl, ⟨nd, rfl⟩⟩; refine ⟨_, rfl, ?_⟩))
   go_ret
   exact ⟨by first | rfl | (simp; done) | (simp [*]; done), by repeat (first | exact qa9.refl _ | apply qa9.step)⟩
 ·replace c5 := Bool.eq_false_iff.mpr c5
  subst c5; have H1 : (if t204 = true then (some 1) else (if a0 < a1 then (some (-1)) else (if a0 > a1 then (some 1) else (some 0)))) = some r := by rw [if_neg (show ¬ (false = true) by decide)] at H; exact H
  clear H; have H := H1; clear H1; by_cases c7 : t204 = true
  ·subst c7; have H1 : (some 1) = some r := by rw [if_pos rfl] at H; exact H
   clear H; have H := H1; clear H1; obtain rfl := Option.some.inj H
   go_enter Try.func57, Try.ntmps57; go_wp2_with (first | ((with_reducible refine qaG (f := 81) rfl ?_); refine qa7 (some 8) rfl rfl Try.func81 (by kernel_rfl) rfl #[.int .i64 a0] rfl (by (try simp only [qy6, qy7, qy8]); first | done | rfl | (simp only [List.length_drop, List.length_take]; rfl)) ?_; (with_reducible refine (cmp_isNaN_int.calls a0 false _ A3.out).mono ?_); rintro e w' ⟨rfl, ⟨nd, rfl⟩⟩; refine ⟨_, rfl, ?_⟩) | ((with_reducible refine qaG (f := 81) rfl ?_); refine qa7 (some 10) rfl rfl Try.func81 (by kernel_rfl) rfl #[.int .i64 a1] rfl (by (try simp only [qy6, qy7, qy8]); first | done | rfl | (simp only [List.length_drop, List.length_take]; rfl)) ?_; (with_reducible refine (cmp_isNaN_int.calls a1 true _ A4.out).mono ?_); rintro e w' ⟨rfl, ⟨nd, rfl⟩⟩; refine ⟨_, rfl, ?_⟩))
   go_ret
   exact ⟨by first | rfl | (simp; done) | (simp [*]; done), by repeat (first | exact qa9.refl _ | apply qa9.step)⟩
  ·replace c7 := Bool.eq_false_iff.mpr c7
   subst c7; have H1 : (if a0 < a1 then (some (-1)) else (if a0 > a1 then (some 1) else (some 0))) = some r := by rw [if_neg (show ¬ (false = true) by decide)] at H; exact H
   clear H; have H := H1; clear H1; by_cases c8 : a0 < a1
   ·rw [if_pos c8] at H; have c8b0 : decide (a0 < a1) = true := decide_eq_true c8; clear c8; obtain rfl := Option.some.inj H
    go_enter Try.func57, Try.ntmps57; go_wp2_with (first | ((with_reducible refine qaG (f := 81) rfl ?_); refine qa7 (some 8) rfl rfl Try.func81 (by kernel_rfl) rfl #[.int .i64 a0] rfl (by (try simp only [qy6, qy7, qy8]); first | done | rfl | (simp only [List.length_drop, List.length_take]; rfl)) ?_; (with_reducible refine (cmp_isNaN_int.calls a0 false _ A3.out).mono ?_); rintro e w' ⟨rfl, ⟨nd, rfl⟩⟩; refine ⟨_, rfl, ?_⟩) | ((with_reducible refine qaG (f := 81) rfl ?_); refine qa7 (some 10) rfl rfl Try.func81 (by kernel_rfl) rfl #[.int .i64 a1] rfl (by (try simp only [qy6, qy7, qy8]); first | done | rfl | (simp only [List.length_drop, List.length_take]; rfl)) ?_; (with_reducible refine (cmp_isNaN_int.calls a1 false _ A4.out).mono ?_); rintro e w' ⟨rfl, ⟨nd, rfl⟩⟩; refine ⟨_, rfl, ?_⟩))
    go_ret
    exact ⟨by first | rfl | (simp; done) | (simp [*]; done), by repeat (first | exact qa9.refl _ | apply qa9.step)⟩
   ·rw [if_neg c8] at H; have c8b0 : decide (a0 < a1) = false := decide_eq_false c8; clear c8; by_cases c9 : a0 > a1
    ·rw [if_pos c9] at H; have c9b0 : decide (a1 < a0) = true := decide_eq_true c9; clear c9; obtain rfl := Option.some.inj H
     go_enter Try.func57, Try.ntmps57; go_wp2_with (first | ((with_reducible refine qaG (f := 81) rfl ?_); refine qa7 (some 8) rfl rfl Try.func81 (by kernel_rfl) rfl #[.int .i64 a0] rfl (by (try simp only [qy6, qy7, qy8]); first | done | rfl | (simp only [List.length_drop, List.length_take]; rfl)) ?_; (with_reducible refine (cmp_isNaN_int.calls a0 false _ A3.out).mono ?_); rintro e w' ⟨rfl, ⟨nd, rfl⟩⟩; refine ⟨_, rfl, ?_⟩) | ((with_reducible refine qaG (f := 81) rfl ?_); refine qa7 (some 10) rfl rfl Try.func81 (by kernel_rfl) rfl #[.int .i64 a1] rfl (by (try simp only [qy6, qy7, qy8]); first | done | rfl | (simp only [List.length_drop, List.length_take]; rfl)) ?_; (with_reducible refine (cmp_isNaN_int.calls a1 false _ A4.out).mono ?_); rintro e w' ⟨rfl, ⟨nd, rfl⟩⟩; refine ⟨_, rfl, ?_⟩))
     go_ret
     exact ⟨by first | rfl | (simp; done) | (simp [*]; done), by repeat (first | exact qa9.refl _ | apply qa9.step)⟩
    ·rw [if_neg c9] at H; have c9b0 : decide (a1 < a0) = false := decide_eq_false c9; clear c9; obtain rfl := Option.some.inj H
     go_enter Try.func57, Try.ntmps57; go_wp2_with (first | ((with_reducible refine qaG (f := 81) rfl ?_); refine qa7 (some 8) rfl rfl Try.func81 (by kernel_rfl) rfl #[.int .i64 a0] rfl (by (try simp only [qy6, qy7, qy8]); first | done | rfl | (simp only [List.length_drop, List.length_take]; rfl)) ?_; (with_reducible refine (cmp_isNaN_int.calls a0 false _ A3.out).mono ?_); rintro e w' ⟨rfl, ⟨nd, rfl⟩⟩; refine ⟨_, rfl, ?_⟩) | ((with_reducible refine qaG (f := 81) rfl ?_); refine qa7 (some 10) rfl rfl Try.func81 (by kernel_rfl) rfl #[.int .i64 a1] rfl (by (try simp only [qy6, qy7, qy8]); first | done | rfl | (simp only [List.length_drop, List.length_take]; rfl)) ?_; (with_reducible refine (cmp_isNaN_int.calls a1 false _ A4.out).mono ?_); rintro e w' ⟨rfl, ⟨nd, rfl⟩⟩; refine ⟨_, rfl, ?_⟩))
     go_ret
     exact ⟨by first | rfl | (simp; done) | (simp [*]; done), by repeat (first | exact qa9.refl _ | apply qa9.step)⟩
def qbv.l0 : Nat → Int → List Int → Int → Int → Option (Int)
 | 0, _, _, _, _ => none
 | k + 1, x3, x6, x7, x8 => if x8 < x7 then (if 0 ≤ x8 then (if x8 < (x6.length : Int) then (if (rd x6 x8) = x3 then (qbv.l0 k x3 x6 x7 (wrap64 (x8 + 1))) else (some (rd x6 x8))) else (none)) else (none)) else (some x3)
def qbv.f (k : Nat) (l0 : List Int) : Option (Int) := qbv.l0 k 0 l0 (l0.length : Int) 0
set_option maxHeartbeats 8000000 in
set_option maxRecDepth 100000 in
theorem qbv.calls (k : Nat) (A0 : Option Addr) (c0 : Nat) (l0 : List Int) (r : Int) (w : World) (hr0 : Kd.C (Kd.int .i64) w A0 l0.length l0) (hc0 : l0.length ≤ c0) (h : qbv.f k l0 = some r) :
  Calls Try.prog 76 #[.slice A0 l0.length c0] w fun e w' => e = .returned (.int .i64 r) ∧ qa9 w w' := by
 have HR0 := qae.mk hr0
 have HC0 := qae.mk hc0
 clear hr0 hc0; have H : (qbv.l0 k 0 l0 (l0.length : Int) 0) = some r := h
 clear h; have H' := qae.mk H; clear H; go_enter Try.func76, Try.ntmps76; go_wp2; go_loopg [8] k (fun kq v8 w' => ∃ (x8_1 : Int), v8 = .int .i64 x8_1 ∧ qae (qbv.l0 kq 0 l0 (l0.length : Int) x8_1 = some r) ∧ qae (kq ≤ k) ∧ qa9 w w')
 case atStart => exact ⟨(0), (by first | rfl | (simp; done) | (simp [*]; done)), H', ⟨Nat.le_refl _⟩, by repeat (first | exact qa9.refl _ | apply qa9.step)⟩
 case round =>
  clear H'; obtain ⟨x8_1, rfl, HA, HK1, ⟨m1, rfl⟩⟩ := hrel
  cases gk with
  | zero => exact absurd HA.out (by simp [qbv.l0])
  | succ k1 =>
   have H := HA.out; clear HA; simp only [qbv.l0] at H
   by_cases c2 : x8_1 < (l0.length : Int)
   ·rw [if_pos c2] at H; have c2b0 : decide (x8_1 < (l0.length : Int)) = true := decide_eq_true c2; clear c2; by_cases c3 : 0 ≤ x8_1
    ·rw [if_pos c3] at H; have c3b0 : decide (0 ≤ x8_1) = true := decide_eq_true c3; clear c3; by_cases c4 : x8_1 < (l0.length : Int)
     ·rw [if_pos c4] at H; have c4b0 : decide (x8_1 < (l0.length : Int)) = true := decide_eq_true c4; clear c4; by_cases c5 : (rd l0 x8_1) = 0
      ·rw [if_pos c5] at H; have c5b0 : ((rd l0 x8_1) == 0) = true := beq_iff_eq.mpr c5; have c5b1 : ((rd l0 x8_1) != 0) = false := bne_eq_false_iff_eq.mpr c5; clear c5; have H' := qae.mk H; clear H; have p205 : 0 ≤ (x8_1 : Int) := of_decide_eq_true (by first | (with_reducible assumption) | assumption)
       have q205 : x8_1 < (l0.length : Int) := of_decide_eq_true (by first | (with_reducible assumption) | assumption)
       obtain ⟨ad205, e205, hx205_0⟩ := Kd.qbU HR0.out x8_1 p205 q205
       cases e205
       replace p205 := eq_true p205; replace q205 := eq_true q205; go_wp2; go_roundg k1
       case measure => have := HK1.out; omega
       case rel => exact ⟨(wrap64 (x8_1 + 1)), (by first | rfl | (simp; done) | (simp [*]; done)), H', ⟨by have := HK1.out; omega⟩, by repeat (first | exact qa9.refl _ | apply qa9.step)⟩
      ·rw [if_neg c5] at H; have c5b0 : ((rd l0 x8_1) == 0) = false := beq_eq_false_iff_ne.mpr c5; have c5b1 : ((rd l0 x8_1) != 0) = true := bne_iff_ne.mpr c5; obtain rfl := Option.some.inj H
       have p205 : 0 ≤ (x8_1 : Int) := of_decide_eq_true (by first | (with_reducible assumption) | assumption)
       have q205 : x8_1 < (l0.length : Int) := of_decide_eq_true (by first | (with_reducible assumption) | assumption)
       obtain ⟨ad205, e205, hx205_0⟩ := Kd.qbU HR0.out x8_1 p205 q205
       cases e205
       replace p205 := eq_true p205; replace q205 := eq_true q205; go_wp2; go_ret
       exact ⟨by first | rfl | (simp; done) | (simp [*]; done), by repeat (first | exact qa9.refl _ | apply qa9.step)⟩
     ·rw [if_neg c4] at H; exact absurd H (by simp)
    ·rw [if_neg c3] at H; exact absurd H (by simp)
   ·rw [if_neg c2] at H; have c2b0 : decide (x8_1 < (l0.length : Int)) = false := decide_eq_false c2; clear c2; obtain rfl := Option.some.inj H
    go_wp2; go_ret
    exact ⟨by first | rfl | (simp; done) | (simp [*]; done), by repeat (first | exact qa9.refl _ | apply qa9.step)⟩
end Go.Proofs.Ytfcifmbddikflaa.P
