/- The law 'CommitMore' of the given program returns true for every input: the row, out of the pure statement and the contract. -/
import Derived.Test.YtodagcbcdkfniaaRows
import Derived.Test.YtodagcbcdkfniaaGPC
import Derived.Test.YtodagcbcdkfniaaPureCommitMore
import Derived.Test.YtodagcbcdkfniaaVeLaw
import Derived.WalkKit
import Derived.ProofKit
import Derived.OpenShut
import Derived.ShutString
import Derived.ChangeOld
import Derived.Below
import Derived.SizedLaws
namespace Go.Proofs.Ytodagcbcdkfniaa.commitMore
open Go.ChangeShapes Go.WideShapes Go.ChangeAt Go.RowKit Go.Proofs.Ytodagcbcdkfniaa.VE
open Go.ChangeMaps (open_string shut_string)
set_option linter.unusedVariables false
theorem own : ownKnob Try.prog.godebug = none := by kernel_rfl
theorem laidOut : laidOutB Try.prog = true := by kernel_rfl
set_option maxRecDepth 100000 in
theorem lifted (os : Os) (started : os.Started) (H : Type) (enc : TypeId × Value → H) :
    ReturnsInHanded {} Try.checked os 11 .any (Rows.commitMoreSpec.pre6 enc Try.prog Try.f11 Rows.commitMoreRow.domain false) (Rows.commitMoreSpec.post enc Try.prog Try.f11 false true false false) := by
  refine returnsInHanded_of_change_sized (C := Try.checked) own started (by kernel_rfl) Try.func11
    (ChangeSpec.witness6 (enc := enc) (C := Try.checked) false ⟨#[], #[.slice none 0 0, .slice none 0 0], []⟩ 8 (by kernel_rfl) (by kernel_rfl) (by kernel_rfl) (by kernel_rfl)) ?_
  intro W base args ds gs before hval0 hW hcnd hsz0 _
  have hsz : (DataW.weightsEach Try.prog (Try.f11.params.toList ++ Rows.commitMoreSpec.plain.varTypes Try.prog) (ds ++ gs)).all (· ≤ reachBytes) = true := hsz0
  have hval : ∀ (j : Nat) t v, Try.f11.params[j]? = some t → args[j]? = some v → Value.okWide Try.prog W .any base t v := hval0
  have hW' := hW
  obtain ⟨p, q, hA0, hV, rfl, hfz, hnd⟩ := hW
  have hA : DataW.TrodAll enc Try.prog W 0 (fun _ => true) true Try.f11.params.toList args.toList ds p := hA0
  rw [Try.params11] at hA hval hsz
  obtain ⟨v0, vs0, d0, ds0, p0, q0, hargs, rfl, rfl, h0, r0⟩ := trodAll_cons hA
  obtain ⟨v1, vs1, d1, ds1, p1, q1, rfl, rfl, rfl, h1, r1⟩ := trodAll_cons r0
  obtain ⟨rfl, rfl, rfl⟩ := trodAll_nil r1
  obtain rfl : args = #[v0, v1] := by cases args; simp_all
  obtain ⟨rfl, rfl⟩ := trodVars_none hV
  obtain ⟨b0, len0, cap0, rfl⟩ := okWide_slice Try.underlying22 (hval 0 22 v0 rfl rfl)
  have k0 := h0
  have lt0 : ∀ x ∈ p0, x.block < W.heap.size := by obtain ⟨m, hm⟩ := k0; exact DataW.trod_lt m _ _ _ hm
  obtain ⟨a0, K0, ok0⟩ : ∃ a : Ty.T (.list 33 (.pair (.pair .str (.pair (.int .i64) (.pair (.int .i64) (.pair (.int .i64) (.pair (.int .i64) (.pair (.int .i64) (.pair (.int .i64) (.int .i64)))))))) (.pair (.pair .str (.list 72 (.pair (.int .i64) (.int .i64)))) (.pair .bool (.pair (.int .i64) (.int .i64)))))), Rep (· < W.heap.size) W (.list 33 (.pair (.pair .str (.pair (.int .i64) (.pair (.int .i64) (.pair (.int .i64) (.pair (.int .i64) (.pair (.int .i64) (.pair (.int .i64) (.int .i64)))))))) (.pair (.pair .str (.list 72 (.pair (.int .i64) (.int .i64)))) (.pair .bool (.pair (.int .i64) (.int .i64)))))) a [.slice b0 len0 cap0] ∧ OkV Try.prog.bytesOf (.list 33 (.pair (.pair .str (.pair (.int .i64) (.pair (.int .i64) (.pair (.int .i64) (.pair (.int .i64) (.pair (.int .i64) (.pair (.int .i64) (.int .i64)))))))) (.pair (.pair .str (.list 72 (.pair (.int .i64) (.int .i64)))) (.pair .bool (.pair (.int .i64) (.int .i64)))))) a := by
    obtain ⟨fuel, hf⟩ := h0
    exact opens 12 22 (.list 33 (.pair (.pair .str (.pair (.int .i64) (.pair (.int .i64) (.pair (.int .i64) (.pair (.int .i64) (.pair (.int .i64) (.pair (.int .i64) (.int .i64)))))))) (.pair (.pair .str (.list 72 (.pair (.int .i64) (.int .i64)))) (.pair .bool (.pair (.int .i64) (.int .i64)))))) (by kernel_rfl) (by kernel_rfl) _ enc W 0 _ true fuel _ _ hf (weights_of hsz (j := 0) rfl rfl)
  have ok0 : OkV BY (.list 33 (.pair (.pair .str (.pair (.int .i64) (.pair (.int .i64) (.pair (.int .i64) (.pair (.int .i64) (.pair (.int .i64) (.pair (.int .i64) (.int .i64)))))))) (.pair (.pair .str (.list 72 (.pair (.int .i64) (.int .i64)))) (.pair .bool (.pair (.int .i64) (.int .i64)))))) a0 := cast (congrFun (by kernel_rfl : OkV Try.prog.bytesOf (.list 33 (.pair (.pair .str (.pair (.int .i64) (.pair (.int .i64) (.pair (.int .i64) (.pair (.int .i64) (.pair (.int .i64) (.pair (.int .i64) (.int .i64)))))))) (.pair (.pair .str (.list 72 (.pair (.int .i64) (.int .i64)))) (.pair .bool (.pair (.int .i64) (.int .i64)))))) = OkV BY (.list 33 (.pair (.pair .str (.pair (.int .i64) (.pair (.int .i64) (.pair (.int .i64) (.pair (.int .i64) (.pair (.int .i64) (.pair (.int .i64) (.int .i64)))))))) (.pair (.pair .str (.list 72 (.pair (.int .i64) (.int .i64)))) (.pair .bool (.pair (.int .i64) (.int .i64))))))) a0) ok0
  obtain ⟨b1, len1, cap1, rfl⟩ := okWide_slice Try.underlying23 (hval 1 23 v1 rfl rfl)
  have k1 := h1
  have lt1 : ∀ x ∈ p1, x.block < W.heap.size := by obtain ⟨m, hm⟩ := k1; exact DataW.trod_lt m _ _ _ hm
  obtain ⟨a1, K1, ok1⟩ : ∃ a : Ty.T (.list 3 (.int .i64)), Rep (· < W.heap.size) W (.list 3 (.int .i64)) a [.slice b1 len1 cap1] ∧ OkV Try.prog.bytesOf (.list 3 (.int .i64)) a := by
    obtain ⟨fuel, hf⟩ := h1
    exact opens 12 23 (.list 3 (.int .i64)) (by kernel_rfl) (by kernel_rfl) _ enc W 0 _ true fuel _ _ hf (weights_of hsz (j := 1) rfl rfl)
  have ok1 : OkV BY (.list 3 (.int .i64)) a1 := cast (congrFun (by kernel_rfl : OkV Try.prog.bytesOf (.list 3 (.int .i64)) = OkV BY (.list 3 (.int .i64))) a1) ok1
  clear hA0 hval0 hsz0 hsz
  obtain ⟨k, h⟩ := Pure.CommitMore a0 a1 ok0 ok1
  refine (law_calls (W := W) (vals := #[.slice b0 len0 cap0, .slice b1 len1 cap1]) (gridhallkeep3_CommitMore.ok k) rfl (a0, a1) (cms := [.l (.v (.list 33 (.pair (.pair .str (.pair (.int .i64) (.pair (.int .i64) (.pair (.int .i64) (.pair (.int .i64) (.pair (.int .i64) (.pair (.int .i64) (.int .i64)))))))) (.pair (.pair .str (.list 72 (.pair (.int .i64) (.int .i64)))) (.pair .bool (.pair (.int .i64) (.int .i64)))))) a0), .l (.v (.list 3 (.int .i64)) a1)]) rfl (All2.mk ⟨rfl, K0⟩ (All2.mk ⟨rfl, K1⟩ trivial)) h).mono ?_
  rintro e W' ⟨he, bel⟩
  subst he
  exact ⟨_, rfl, _, _, _, [], _, [], hW', trodAll_mk1 (shut_bool Try.underlying4 _), (trodAll_cons_mk (Below.trod laidOut (by kernel_rfl) (of_decide_eq_true (by kernel_rfl)) k0 bel lt0) (trodAll_cons_mk (Below.trod laidOut (by kernel_rfl) (of_decide_eq_true (by kernel_rfl)) k1 bel lt1) trodAll_mk0)), rfl, bel.frame _, fun h => by cases h⟩
theorem over : Rows.commitMoreRow.holds Try.pinned (OpenSpec.ofChange Rows.commitMoreSpec) :=
  OpenClaim.holds_of_wide 11 Try.f11 rfl rfl rfl rfl rfl rfl rfl ⟨rfl, rfl, rfl, rfl, rfl⟩ rfl rfl rfl rfl rfl (by kernel_rfl) Try.func11 (by kernel_rfl)
    (of_decide_eq_true (by kernel_rfl)) (by unfold Func.isWrapper; first | (rw [if_pos (by decide +kernel)]; kernel_rfl) | (rw [if_neg (by decide +kernel)]; exact ⟨rfl, rfl⟩))
    (fun os started H enc _ => lifted os started H enc)
theorem proved : Rows.CommitMoreSaid := over
#print axioms proved
end Go.Proofs.Ytodagcbcdkfniaa.commitMore
namespace Go.Proofs.Ytodagcbcdkfniaa
/-- The row, under a short name, for the claim. -/
theorem commitMore_holds : Rows.CommitMoreSaid := commitMore.proved
end Go.Proofs.Ytodagcbcdkfniaa
