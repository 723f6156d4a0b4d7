/- The law 'ConvexRing' of the given program returns true for every input: the row, out of the pure statement and the contract. -/
import Derived.Test.YtcmbckancficcaaRows
import Derived.Test.YtcmbckancficcaaGRC
import Derived.Test.YtcmbckancficcaaPureConvexRing
import Derived.Test.YtcmbckancficcaaVeLaw
import Derived.WalkKit
import Derived.ProofKit
import Derived.OpenShut
import Derived.ShutString
import Derived.ChangeOld
import Derived.Below
import Derived.SizedLaws
namespace Go.Proofs.Ytcmbckancficcaa.convexRing
open Go.ChangeShapes Go.WideShapes Go.ChangeAt Go.RowKit Go.Proofs.Ytcmbckancficcaa.VE
open Go.ChangeMaps (open_string shut_string)
set_option linter.unusedVariables false
theorem own : ownKnob Try.prog.godebug = none := by kernel_rfl
theorem laidOut : laidOutB Try.prog = true := by kernel_rfl
set_option maxRecDepth 100000 in
theorem lifted (os : Os) (started : os.Started) (H : Type) (enc : TypeId × Value → H) :
    ReturnsInHanded {} Try.checked os 8 .any (Rows.convexRingSpec.pre6 enc Try.prog Try.f8 Rows.convexRingRow.domain false) (Rows.convexRingSpec.post enc Try.prog Try.f8 false true false false) := by
  refine returnsInHanded_of_change_sized (C := Try.checked) own started (by kernel_rfl) Try.func8
    (ChangeSpec.witness6 (enc := enc) (C := Try.checked) false ⟨#[], #[.agg #[.int .i64 0, .int .i64 0, .slice none 0 0], .agg #[.int .i64 0, .int .i64 0, .slice none 0 0], .agg #[.int .i64 0, .int .i64 0, .slice none 0 0]], []⟩ 8 (by kernel_rfl) (by kernel_rfl) (by kernel_rfl) (by kernel_rfl)) ?_
  intro W base args ds gs before hval0 hW hcnd hsz0 _
  have hsz : (DataW.weightsEach Try.prog (Try.f8.params.toList ++ Rows.convexRingSpec.plain.varTypes Try.prog) (ds ++ gs)).all (· ≤ reachBytes) = true := hsz0
  have hval : ∀ (j : Nat) t v, Try.f8.params[j]? = some t → args[j]? = some v → Value.okWide Try.prog W .any base t v := hval0
  have hW' := hW
  obtain ⟨p, q, hA0, hV, rfl, hfz, hnd⟩ := hW
  have hA : DataW.TrodAll enc Try.prog W 0 (fun _ => true) true Try.f8.params.toList args.toList ds p := hA0
  rw [Try.params8] at hA hval hsz
  obtain ⟨v0, vs0, d0, ds0, p0, q0, hargs, rfl, rfl, h0, r0⟩ := trodAll_cons hA
  obtain ⟨v1, vs1, d1, ds1, p1, q1, rfl, rfl, rfl, h1, r1⟩ := trodAll_cons r0
  obtain ⟨v2, vs2, d2, ds2, p2, q2, rfl, rfl, rfl, h2, r2⟩ := trodAll_cons r1
  obtain ⟨rfl, rfl, rfl⟩ := trodAll_nil r2
  obtain rfl : args = #[v0, v1, v2] := by cases args; simp_all
  obtain ⟨rfl, rfl⟩ := trodVars_none hV
  obtain ⟨cs0, rfl⟩ := okWide_agg Try.underlying32 (hval 0 32 v0 rfl rfl)
  have k0 := h0
  have lt0 : ∀ x ∈ p0, x.block < W.heap.size := by obtain ⟨m, hm⟩ := k0; exact DataW.trod_lt m _ _ _ hm
  obtain ⟨a0, K0, ok0⟩ : ∃ a : Ty.T (.pair (.int .i64) (.pair (.int .i64) (.list 60 (.pair (.int .i64) (.int .i64))))), Rep (· < W.heap.size) W (.pair (.int .i64) (.pair (.int .i64) (.list 60 (.pair (.int .i64) (.int .i64))))) a cs0.toList ∧ OkV Try.prog.bytesOf (.pair (.int .i64) (.pair (.int .i64) (.list 60 (.pair (.int .i64) (.int .i64))))) a := by
    obtain ⟨fuel, hf⟩ := h0
    exact opens 12 32 (.pair (.int .i64) (.pair (.int .i64) (.list 60 (.pair (.int .i64) (.int .i64))))) (by kernel_rfl) (by kernel_rfl) _ enc W 0 _ true fuel _ _ hf (weights_of hsz (j := 0) rfl rfl)
  have ok0 : OkV BY (.pair (.int .i64) (.pair (.int .i64) (.list 60 (.pair (.int .i64) (.int .i64))))) a0 := cast (congrFun (by kernel_rfl : OkV Try.prog.bytesOf (.pair (.int .i64) (.pair (.int .i64) (.list 60 (.pair (.int .i64) (.int .i64))))) = OkV BY (.pair (.int .i64) (.pair (.int .i64) (.list 60 (.pair (.int .i64) (.int .i64)))))) a0) ok0
  obtain ⟨cs1, rfl⟩ := okWide_agg Try.underlying32 (hval 1 32 v1 rfl rfl)
  have k1 := h1
  have lt1 : ∀ x ∈ p1, x.block < W.heap.size := by obtain ⟨m, hm⟩ := k1; exact DataW.trod_lt m _ _ _ hm
  obtain ⟨a1, K1, ok1⟩ : ∃ a : Ty.T (.pair (.int .i64) (.pair (.int .i64) (.list 60 (.pair (.int .i64) (.int .i64))))), Rep (· < W.heap.size) W (.pair (.int .i64) (.pair (.int .i64) (.list 60 (.pair (.int .i64) (.int .i64))))) a cs1.toList ∧ OkV Try.prog.bytesOf (.pair (.int .i64) (.pair (.int .i64) (.list 60 (.pair (.int .i64) (.int .i64))))) a := by
    obtain ⟨fuel, hf⟩ := h1
    exact opens 12 32 (.pair (.int .i64) (.pair (.int .i64) (.list 60 (.pair (.int .i64) (.int .i64))))) (by kernel_rfl) (by kernel_rfl) _ enc W 0 _ true fuel _ _ hf (weights_of hsz (j := 1) rfl rfl)
  have ok1 : OkV BY (.pair (.int .i64) (.pair (.int .i64) (.list 60 (.pair (.int .i64) (.int .i64))))) a1 := cast (congrFun (by kernel_rfl : OkV Try.prog.bytesOf (.pair (.int .i64) (.pair (.int .i64) (.list 60 (.pair (.int .i64) (.int .i64))))) = OkV BY (.pair (.int .i64) (.pair (.int .i64) (.list 60 (.pair (.int .i64) (.int .i64)))))) a1) ok1
  obtain ⟨cs2, rfl⟩ := okWide_agg Try.underlying32 (hval 2 32 v2 rfl rfl)
  have k2 := h2
  have lt2 : ∀ x ∈ p2, x.block < W.heap.size := by obtain ⟨m, hm⟩ := k2; exact DataW.trod_lt m _ _ _ hm
  obtain ⟨a2, K2, ok2⟩ : ∃ a : Ty.T (.pair (.int .i64) (.pair (.int .i64) (.list 60 (.pair (.int .i64) (.int .i64))))), Rep (· < W.heap.size) W (.pair (.int .i64) (.pair (.int .i64) (.list 60 (.pair (.int .i64) (.int .i64))))) a cs2.toList ∧ OkV Try.prog.bytesOf (.pair (.int .i64) (.pair (.int .i64) (.list 60 (.pair (.int .i64) (.int .i64))))) a := by
    obtain ⟨fuel, hf⟩ := h2
    exact opens 12 32 (.pair (.int .i64) (.pair (.int .i64) (.list 60 (.pair (.int .i64) (.int .i64))))) (by kernel_rfl) (by kernel_rfl) _ enc W 0 _ true fuel _ _ hf (weights_of hsz (j := 2) rfl rfl)
  have ok2 : OkV BY (.pair (.int .i64) (.pair (.int .i64) (.list 60 (.pair (.int .i64) (.int .i64))))) a2 := cast (congrFun (by kernel_rfl : OkV Try.prog.bytesOf (.pair (.int .i64) (.pair (.int .i64) (.list 60 (.pair (.int .i64) (.int .i64))))) = OkV BY (.pair (.int .i64) (.pair (.int .i64) (.list 60 (.pair (.int .i64) (.int .i64)))))) a2) ok2
  clear hA0 hval0 hsz0 hsz
  obtain ⟨k, h⟩ := Pure.ConvexRing a0 a1 a2 ok0 ok1 ok2
  refine (law_calls (W := W) (vals := #[.agg cs0, .agg cs1, .agg cs2]) (gridhallkeep3_ConvexRing.ok k) rfl (a0, a1, a2) (cms := [.a (leaves (.pair (.int .i64) (.pair (.int .i64) (.list 60 (.pair (.int .i64) (.int .i64))))) a0), .a (leaves (.pair (.int .i64) (.pair (.int .i64) (.list 60 (.pair (.int .i64) (.int .i64))))) a1), .a (leaves (.pair (.int .i64) (.pair (.int .i64) (.list 60 (.pair (.int .i64) (.int .i64))))) a2)]) rfl (All2.mk ⟨cs0, rfl, leaves_R K0⟩ (All2.mk ⟨cs1, rfl, leaves_R K1⟩ (All2.mk ⟨cs2, rfl, leaves_R K2⟩ trivial))) h).mono ?_
  rintro e W' ⟨he, bel⟩
  subst he
  exact ⟨_, rfl, _, _, _, [], _, [], hW', trodAll_mk1 (shut_bool Try.underlying4 _), (trodAll_cons_mk (Below.trod laidOut (by kernel_rfl) (of_decide_eq_true (by kernel_rfl)) k0 bel lt0) (trodAll_cons_mk (Below.trod laidOut (by kernel_rfl) (of_decide_eq_true (by kernel_rfl)) k1 bel lt1) (trodAll_cons_mk (Below.trod laidOut (by kernel_rfl) (of_decide_eq_true (by kernel_rfl)) k2 bel lt2) trodAll_mk0))), rfl, bel.frame _, fun h => by cases h⟩
theorem over : Rows.convexRingRow.holds Try.pinned (OpenSpec.ofChange Rows.convexRingSpec) :=
  OpenClaim.holds_of_wide 8 Try.f8 rfl rfl rfl rfl rfl rfl rfl ⟨rfl, rfl, rfl, rfl, rfl⟩ rfl rfl rfl rfl rfl (by kernel_rfl) Try.func8 (by kernel_rfl)
    (of_decide_eq_true (by kernel_rfl)) (by unfold Func.isWrapper; first | (rw [if_pos (by decide +kernel)]; kernel_rfl) | (rw [if_neg (by decide +kernel)]; exact ⟨rfl, rfl⟩))
    (fun os started H enc _ => lifted os started H enc)
theorem proved : Rows.ConvexRingSaid := over
#print axioms proved
end Go.Proofs.Ytcmbckancficcaa.convexRing
namespace Go.Proofs.Ytcmbckancficcaa
/-- The row, under a short name, for the claim. -/
theorem convexRing_holds : Rows.ConvexRingSaid := convexRing.proved
end Go.Proofs.Ytcmbckancficcaa
