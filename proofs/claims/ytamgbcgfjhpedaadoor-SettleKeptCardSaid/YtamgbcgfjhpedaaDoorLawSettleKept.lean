/- The law 'SettleKept' of the given program returns true for every input: the row, out of the pure statement and the contract. -/
import Derived.Test.YtamgbcgfjhpedaaDoorTie
import Derived.Test.YtamgbcgfjhpedaaDoorCards
import Derived.Test.YtamgbcgfjhpedaaDoorGQC
import Derived.Test.YtamgbcgfjhpedaaDoorPureSettleKept
import Derived.Test.YtamgbcgfjhpedaaDoorVeLaw
import Derived.Lay
import Derived.LaidMore
import Derived.SevenTiedAt
import Derived.Stop.Joined
import Derived.Handed
import Derived.WalkKit
import Derived.ProofKit
import Derived.OpenShut
import Derived.ShutString
import Derived.ChangeOld
import Derived.Below
import Derived.SizedLaws
namespace Go.Proofs.YtamgbcgfjhpedaaDoor.settleKept
open Go.ChangeShapes Go.WideShapes Go.ChangeAt Go.RowKit Go.Proofs.YtamgbcgfjhpedaaDoor.VE
open Go.ChangeMaps (open_string shut_string)
set_option linter.unusedVariables false
theorem own : ownKnob Tryd.prog.godebug = none := by kernel_rfl
theorem laidOut : laidOutB Tryd.prog = true := by kernel_rfl
set_option maxRecDepth 100000 in
theorem lifted (os : Os) (started : os.Started) (H : Type) (enc : TypeId × Value → H) :
    ReturnsInHanded {} Tryd.checked os 4 .any (fun w args => (Rows.settleKeptSpec.pre enc Tryd.prog Tryd.f4 Rows.settleKeptRow.domain false w args ∧ laidMetH Tryd.prog Rows.settleKeptRow.laid w) ∧ sizedMet enc Tryd.prog Tryd.f4 (OpenSpec.ofChange Rows.settleKeptSpec) false w args) (Rows.settleKeptSpec.post enc Tryd.prog Tryd.f4 false true false false) := by
  refine returnsInHanded_of_change_and (C := Tryd.checked) (X := fun w _ => laidMetH Tryd.prog Rows.settleKeptRow.laid w) (fun _ _ _ hh h => h.of_heap hh) own started (by kernel_rfl) Tryd.func4
    (ChangeSpec.witness_shaped (enc := enc) (C := Tryd.checked) (os := os) (X := fun w _ => laidMetH Tryd.prog Rows.settleKeptRow.laid w) false (World.laidAll Tryd.prog os Rows.settleKeptRow.laid) #[.slice none 0 0] 8 (World.laidAll_os _ _ _)
      (World.shaped_of_ZipB (by kernel_rfl) (by kernel_rfl)) (by kernel_rfl) (by kernel_rfl) (by kernel_rfl)
      (by rw [MakeChecks.laidMetH_plain _ _ _ (by kernel_rfl)]; exact laidMet_laidAll _ (by kernel_rfl) (by kernel_rfl))) ?_
  intro W base args ds gs before hval0 hW hcnd hsz0 _ _
  have hsz : (DataW.weightsEach Tryd.prog (Tryd.f4.params.toList ++ Rows.settleKeptSpec.plain.varTypes Tryd.prog) (ds ++ gs)).all (· ≤ reachBytes) = true := hsz0
  have hval : ∀ (j : Nat) t v, Tryd.f4.params[j]? = some t → args[j]? = some v → Value.okWide Tryd.prog W .any base t v := hval0
  have hW' := hW
  obtain ⟨p, q, hA0, hV, rfl, hfz, hnd⟩ := hW
  have hA : DataW.TrodAll enc Tryd.prog W 0 (fun _ => true) true Tryd.f4.params.toList args.toList ds p := hA0
  rw [Tryd.params4] at hA hval hsz
  obtain ⟨v0, vs0, d0, ds0, p0, q0, hargs, rfl, rfl, h0, r0⟩ := trodAll_cons hA
  obtain ⟨rfl, rfl, rfl⟩ := trodAll_nil r0
  obtain rfl : args = #[v0] := by cases args; simp_all
  obtain ⟨rfl, rfl⟩ := trodVars_none hV
  obtain ⟨b0, len0, cap0, rfl⟩ := okWide_slice Tryd.underlying22 (hval 0 22 v0 rfl rfl)
  have k0 := h0
  have lt0 : ∀ x ∈ p0, x.block < W.heap.size := by obtain ⟨m, hm⟩ := k0; exact DataW.trod_lt m _ _ _ hm
  obtain ⟨a0, K0, ok0⟩ : ∃ a : Ty.T (.list 28 .str), Rep (· < W.heap.size) W (.list 28 .str) a [.slice b0 len0 cap0] ∧ OkV Tryd.prog.bytesOf (.list 28 .str) a := by
    obtain ⟨fuel, hf⟩ := h0
    exact VE.opens 12 22 (.list 28 .str) (by kernel_rfl) (by kernel_rfl) _ enc W 0 _ true fuel _ _ hf (weights_of hsz (j := 0) rfl rfl)
  have ok0 : OkV BY (.list 28 .str) a0 := cast (congrFun (by kernel_rfl : OkV Tryd.prog.bytesOf (.list 28 .str) = OkV BY (.list 28 .str)) a0) ok0
  clear hA0 hval0 hsz0 hsz
  obtain ⟨k, h⟩ := Pure.SettleKept a0 ok0
  refine (law_calls (W := W) (vals := #[.slice b0 len0 cap0]) (gridhallkeep3_SettleKept.ok k) rfl a0 (cms := [.l (.v (.list 28 .str) a0)]) rfl (All2.mk ⟨rfl, K0⟩ trivial) h).mono ?_
  rintro e W' ⟨he, bel⟩
  subst he
  exact ⟨_, rfl, _, _, _, [], _, [], hW', trodAll_mk1 (shut_bool Tryd.underlying4 _), (trodAll_cons_mk (Below.trod laidOut (by kernel_rfl) (of_decide_eq_true (by kernel_rfl)) k0 bel lt0) trodAll_mk0), rfl, bel.frame _, fun h => by cases h⟩
theorem over : Rows.settleKeptRow.holds Tryd.pinned (OpenSpec.ofChange Rows.settleKeptSpec) :=
  OpenClaim.holds_of_wide 4 Tryd.f4 rfl rfl rfl rfl rfl rfl rfl ⟨rfl, rfl, rfl, rfl, rfl⟩ rfl rfl rfl rfl rfl (by kernel_rfl) Tryd.func4 (by kernel_rfl)
    (of_decide_eq_true (by kernel_rfl)) (by unfold Func.isWrapper; first | (rw [if_pos (by decide +kernel)]; kernel_rfl) | (rw [if_neg (by decide +kernel)]; exact ⟨rfl, rfl⟩))
    (fun os started H enc _ => lifted os started H enc)
theorem proved : Rows.SettleKeptCardSaid :=
  Claim7.holds_tied_plain_at .later [] [.data, .pinned] true (true, "37040a1bfb2524d4efdd731ab964d5fcd76f0f52d6904787d105ce1770f36f28") false over (fun _ h => by cases h) (by kernel_rfl) (fun _ h => by cases h) settleKept_row_tie rfl ⟨rfl, rfl⟩ (by kernel_rfl) rfl
    (fun f fn hf hfn => by
      obtain rfl : f = 4 := Option.some.inj ((show Tryd.prog.funcNamed "gridhall/gridhallkeep3.SettleKept" = some 4 by kernel_rfl).symm.trans hf) |>.symm
      obtain rfl : fn = Tryd.f4 := (Option.some.inj (Tryd.func4.symm.trans hfn)).symm
      exact ⟨by kernel_rfl, fun j t ht => by
        rw [Tryd.params4] at ht
        have hm : t ∈ [22] := by simpa using Array.mem_of_getElem? ht
        have hall : ([22].all fun u => !Tryd.prog.wantsStandIn u) = true := by kernel_rfl
        exact (show Tryd.prog.wantsStandIn t = false by simpa using List.all_eq_true.1 hall t hm)⟩)
    (by kernel_rfl)
#print axioms proved
end Go.Proofs.YtamgbcgfjhpedaaDoor.settleKept
namespace Go.Proofs.YtamgbcgfjhpedaaDoor
/-- The row, under a short name, for the claim. -/
theorem settleKept_holds : Rows.SettleKeptCardSaid := settleKept.proved
end Go.Proofs.YtamgbcgfjhpedaaDoor
