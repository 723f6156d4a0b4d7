/- The law 'ConvexOffer' of the given program returns true for every input: the row, out of the pure statement and the contract. -/
import Derived.Test.YtcmbckancficcaaRows
import Derived.Test.YtcmbckancficcaaGCC
import Derived.Test.YtcmbckancficcaaPureConvexOffer
import Derived.Test.YtcmbckancficcaaVeLaw
import Derived.WalkKit
import Derived.ProofKit
import Derived.OpenShut
import Derived.ShutString
import Derived.ChangeOld
import Derived.Below
import Derived.SizedLaws
namespace Go.Proofs.Ytcmbckancficcaa.convexOffer
open Go.ChangeShapes Go.WideShapes Go.ChangeAt Go.RowKit Go.Proofs.Ytcmbckancficcaa.VE
open Go.ChangeMaps (open_string shut_string)
set_option linter.unusedVariables false
theorem own : ownKnob Try.prog.godebug = none := by kernel_rfl
theorem laidOut : laidOutB Try.prog = true := by kernel_rfl
set_option maxRecDepth 100000 in
theorem lifted (os : Os) (started : os.Started) (H : Type) (enc : TypeId × Value → H) :
    ReturnsInHanded {} Try.checked os 7 .any (Rows.convexOfferSpec.pre6 enc Try.prog Try.f7 Rows.convexOfferRow.domain false) (Rows.convexOfferSpec.post enc Try.prog Try.f7 false true false false) := by
  refine returnsInHanded_of_change_sized (C := Try.checked) own started (by kernel_rfl) Try.func7
    (ChangeSpec.witness6 (enc := enc) (C := Try.checked) false ⟨#[], #[.agg #[.string ByteArray.empty, .slice none 0 0], .int .i64 0], []⟩ 8 (by kernel_rfl) (by kernel_rfl) (by kernel_rfl) (by kernel_rfl)) ?_
  intro W base args ds gs before hval0 hW hcnd hsz0 _
  have hsz : (DataW.weightsEach Try.prog (Try.f7.params.toList ++ Rows.convexOfferSpec.plain.varTypes Try.prog) (ds ++ gs)).all (· ≤ reachBytes) = true := hsz0
  have hval : ∀ (j : Nat) t v, Try.f7.params[j]? = some t → args[j]? = some v → Value.okWide Try.prog W .any base t v := hval0
  have hW' := hW
  obtain ⟨p, q, hA0, hV, rfl, hfz, hnd⟩ := hW
  have hA : DataW.TrodAll enc Try.prog W 0 (fun _ => true) true Try.f7.params.toList args.toList ds p := hA0
  rw [Try.params7] at hA hval hsz
  obtain ⟨v0, vs0, d0, ds0, p0, q0, hargs, rfl, rfl, h0, r0⟩ := trodAll_cons hA
  obtain ⟨v1, vs1, d1, ds1, p1, q1, rfl, rfl, rfl, h1, r1⟩ := trodAll_cons r0
  obtain ⟨rfl, rfl, rfl⟩ := trodAll_nil r1
  obtain rfl : args = #[v0, v1] := by cases args; simp_all
  obtain ⟨rfl, rfl⟩ := trodVars_none hV
  obtain ⟨cs0, rfl⟩ := okWide_agg Try.underlying49 (hval 0 49 v0 rfl rfl)
  have k0 := h0
  have lt0 : ∀ x ∈ p0, x.block < W.heap.size := by obtain ⟨m, hm⟩ := k0; exact DataW.trod_lt m _ _ _ hm
  obtain ⟨a0, K0, ok0⟩ : ∃ a : Ty.T (.pair .str (.list 99 (.pair (.int .i64) (.int .i64)))), Rep (· < W.heap.size) W (.pair .str (.list 99 (.pair (.int .i64) (.int .i64)))) a cs0.toList ∧ OkV Try.prog.bytesOf (.pair .str (.list 99 (.pair (.int .i64) (.int .i64)))) a := by
    obtain ⟨fuel, hf⟩ := h0
    exact opens 12 49 (.pair .str (.list 99 (.pair (.int .i64) (.int .i64)))) (by kernel_rfl) (by kernel_rfl) _ enc W 0 _ true fuel _ _ hf (weights_of hsz (j := 0) rfl rfl)
  have ok0 : OkV BY (.pair .str (.list 99 (.pair (.int .i64) (.int .i64)))) a0 := cast (congrFun (by kernel_rfl : OkV Try.prog.bytesOf (.pair .str (.list 99 (.pair (.int .i64) (.int .i64)))) = OkV BY (.pair .str (.list 99 (.pair (.int .i64) (.int .i64))))) a0) ok0
  obtain ⟨a1, rfl, rfl, rfl, w1⟩ := open_int Try.underlying3 (hval 1 3 v1 rfl rfl) h1
  have ok1 : OkV BY (.int .i64) a1 := by simpa [Lit.wf, OkV] using w1
  clear hA0 hval0 hsz0 hsz
  obtain ⟨k, h⟩ := Pure.ConvexOffer a0 a1 ok0 ok1
  refine (law_calls (W := W) (vals := #[.agg cs0, .int .i64 a1]) (gridhallkeep3_ConvexOffer.ok k) rfl (a0, a1) (cms := [.a (leaves (.pair .str (.list 99 (.pair (.int .i64) (.int .i64)))) a0), .l (.v (.int .i64) a1)]) rfl (All2.mk ⟨cs0, rfl, leaves_R K0⟩ (All2.mk ⟨rfl, rfl⟩ trivial)) h).mono ?_
  rintro e W' ⟨he, bel⟩
  subst he
  exact ⟨_, rfl, _, _, _, [], _, [], hW', trodAll_mk1 (shut_bool Try.underlying4 _), (trodAll_cons_mk (Below.trod laidOut (by kernel_rfl) (of_decide_eq_true (by kernel_rfl)) k0 bel lt0) (trodAll_cons_mk (shut_int Try.underlying3 w1) trodAll_mk0)), rfl, bel.frame _, fun h => by cases h⟩
theorem over : Rows.convexOfferRow.holds Try.pinned (OpenSpec.ofChange Rows.convexOfferSpec) :=
  OpenClaim.holds_of_wide 7 Try.f7 rfl rfl rfl rfl rfl rfl rfl ⟨rfl, rfl, rfl, rfl, rfl⟩ rfl rfl rfl rfl rfl (by kernel_rfl) Try.func7 (by kernel_rfl)
    (of_decide_eq_true (by kernel_rfl)) (by unfold Func.isWrapper; first | (rw [if_pos (by decide +kernel)]; kernel_rfl) | (rw [if_neg (by decide +kernel)]; exact ⟨rfl, rfl⟩))
    (fun os started H enc _ => lifted os started H enc)
theorem proved : Rows.ConvexOfferSaid := over
#print axioms proved
end Go.Proofs.Ytcmbckancficcaa.convexOffer
namespace Go.Proofs.Ytcmbckancficcaa
/-- The row, under a short name, for the claim. -/
theorem convexOffer_holds : Rows.ConvexOfferSaid := convexOffer.proved
end Go.Proofs.Ytcmbckancficcaa
