/- The law 'SettleShares' of the given program returns true for every input: the row, out of the pure statement and the contract. -/
import Derived.Test.YtamgbcgfjhpedaaDoorTie
import Derived.Test.YtamgbcgfjhpedaaDoorCards
import Derived.Test.YtamgbcgfjhpedaaDoorGQC
import Derived.Test.YtamgbcgfjhpedaaDoorPureSettleShares
import Derived.Test.YtamgbcgfjhpedaaDoorVeLaw
import Derived.Lay
import Derived.LaidMore
import Derived.SevenTiedAt
import Derived.Stop.Joined
import Derived.Handed
import Derived.WalkKit
import Derived.ProofKit
import Derived.OpenShut
import Derived.ShutString
import Derived.ChangeOld
import Derived.Below
import Derived.SizedLaws
namespace Go.Proofs.YtamgbcgfjhpedaaDoor.settleShares
open Go.ChangeShapes Go.WideShapes Go.ChangeAt Go.RowKit Go.Proofs.YtamgbcgfjhpedaaDoor.VE
open Go.ChangeMaps (open_string shut_string)
set_option linter.unusedVariables false
theorem own : ownKnob Tryd.prog.godebug = none := by kernel_rfl
theorem laidOut : laidOutB Tryd.prog = true := by kernel_rfl
set_option maxRecDepth 100000 in
theorem lifted (os : Os) (started : os.Started) (H : Type) (enc : TypeId × Value → H) :
    ReturnsInHanded {} Tryd.checked os 5 .any (fun w args => (Rows.settleSharesSpec.pre enc Tryd.prog Tryd.f5 Rows.settleSharesRow.domain false w args ∧ laidMetH Tryd.prog Rows.settleSharesRow.laid w) ∧ sizedMet enc Tryd.prog Tryd.f5 (OpenSpec.ofChange Rows.settleSharesSpec) false w args) (Rows.settleSharesSpec.post enc Tryd.prog Tryd.f5 false true false false) := by
  refine returnsInHanded_of_change_and (C := Tryd.checked) (X := fun w _ => laidMetH Tryd.prog Rows.settleSharesRow.laid w) (fun _ _ _ hh h => h.of_heap hh) own started (by kernel_rfl) Tryd.func5
    (ChangeSpec.witness_shaped (enc := enc) (C := Tryd.checked) (os := os) (X := fun w _ => laidMetH Tryd.prog Rows.settleSharesRow.laid w) false (World.laidAll Tryd.prog os Rows.settleSharesRow.laid) #[.int .i64 0, .slice none 0 0] 8 (World.laidAll_os _ _ _)
      (World.shaped_of_ZipB (by kernel_rfl) (by kernel_rfl)) (by kernel_rfl) (by kernel_rfl) (by kernel_rfl)
      (by rw [MakeChecks.laidMetH_plain _ _ _ (by kernel_rfl)]; exact laidMet_laidAll _ (by kernel_rfl) (by kernel_rfl))) ?_
  intro W base args ds gs before hval0 hW hcnd hsz0 _ _
  have hsz : (DataW.weightsEach Tryd.prog (Tryd.f5.params.toList ++ Rows.settleSharesSpec.plain.varTypes Tryd.prog) (ds ++ gs)).all (· ≤ reachBytes) = true := hsz0
  have hval : ∀ (j : Nat) t v, Tryd.f5.params[j]? = some t → args[j]? = some v → Value.okWide Tryd.prog W .any base t v := hval0
  have hW' := hW
  obtain ⟨p, q, hA0, hV, rfl, hfz, hnd⟩ := hW
  have hA : DataW.TrodAll enc Tryd.prog W 0 (fun _ => true) true Tryd.f5.params.toList args.toList ds p := hA0
  rw [Tryd.params5] at hA hval hsz
  obtain ⟨v0, vs0, d0, ds0, p0, q0, hargs, rfl, rfl, h0, r0⟩ := trodAll_cons hA
  obtain ⟨v1, vs1, d1, ds1, p1, q1, rfl, rfl, rfl, h1, r1⟩ := trodAll_cons r0
  obtain ⟨rfl, rfl, rfl⟩ := trodAll_nil r1
  obtain rfl : args = #[v0, v1] := by cases args; simp_all
  obtain ⟨rfl, rfl⟩ := trodVars_none hV
  obtain ⟨a0, rfl, rfl, rfl, w0⟩ := open_int Tryd.underlying3 (hval 0 3 v0 rfl rfl) h0
  have ok0 : OkV BY (.int .i64) a0 := by simpa [Lit.wf, OkV] using w0
  obtain ⟨b1, len1, cap1, rfl⟩ := okWide_slice Tryd.underlying22 (hval 1 22 v1 rfl rfl)
  have k1 := h1
  have lt1 : ∀ x ∈ p1, x.block < W.heap.size := by obtain ⟨m, hm⟩ := k1; exact DataW.trod_lt m _ _ _ hm
  obtain ⟨a1, K1, ok1⟩ : ∃ a : Ty.T (.list 28 .str), Rep (· < W.heap.size) W (.list 28 .str) a [.slice b1 len1 cap1] ∧ OkV Tryd.prog.bytesOf (.list 28 .str) a := by
    obtain ⟨fuel, hf⟩ := h1
    exact VE.opens 12 22 (.list 28 .str) (by kernel_rfl) (by kernel_rfl) _ enc W 0 _ true fuel _ _ hf (weights_of hsz (j := 1) rfl rfl)
  have ok1 : OkV BY (.list 28 .str) a1 := cast (congrFun (by kernel_rfl : OkV Tryd.prog.bytesOf (.list 28 .str) = OkV BY (.list 28 .str)) a1) ok1
  clear hA0 hval0 hsz0 hsz
  obtain ⟨k, h⟩ := Pure.SettleShares a0 a1 ok0 ok1
  refine (law_calls (W := W) (vals := #[.int .i64 a0, .slice b1 len1 cap1]) (gridhallkeep3_SettleShares.ok k) rfl (a0, a1) (cms := [.l (.v (.int .i64) a0), .l (.v (.list 28 .str) a1)]) rfl (All2.mk ⟨rfl, rfl⟩ (All2.mk ⟨rfl, K1⟩ trivial)) h).mono ?_
  rintro e W' ⟨he, bel⟩
  subst he
  exact ⟨_, rfl, _, _, _, [], _, [], hW', trodAll_mk1 (shut_bool Tryd.underlying4 _), (trodAll_cons_mk (shut_int Tryd.underlying3 w0) (trodAll_cons_mk (Below.trod laidOut (by kernel_rfl) (of_decide_eq_true (by kernel_rfl)) k1 bel lt1) trodAll_mk0)), rfl, bel.frame _, fun h => by cases h⟩
theorem over : Rows.settleSharesRow.holds Tryd.pinned (OpenSpec.ofChange Rows.settleSharesSpec) :=
  OpenClaim.holds_of_wide 5 Tryd.f5 rfl rfl rfl rfl rfl rfl rfl ⟨rfl, rfl, rfl, rfl, rfl⟩ rfl rfl rfl rfl rfl (by kernel_rfl) Tryd.func5 (by kernel_rfl)
    (of_decide_eq_true (by kernel_rfl)) (by unfold Func.isWrapper; first | (rw [if_pos (by decide +kernel)]; kernel_rfl) | (rw [if_neg (by decide +kernel)]; exact ⟨rfl, rfl⟩))
    (fun os started H enc _ => lifted os started H enc)
theorem proved : Rows.SettleSharesCardSaid :=
  Claim7.holds_tied_plain_at .later [] [.data, .pinned] true (true, "37040a1bfb2524d4efdd731ab964d5fcd76f0f52d6904787d105ce1770f36f28") false over (fun _ h => by cases h) (by kernel_rfl) (fun _ h => by cases h) settleShares_row_tie rfl ⟨rfl, rfl⟩ (by kernel_rfl) rfl
    (fun f fn hf hfn => by
      obtain rfl : f = 5 := Option.some.inj ((show Tryd.prog.funcNamed "gridhall/gridhallkeep3.SettleShares" = some 5 by kernel_rfl).symm.trans hf) |>.symm
      obtain rfl : fn = Tryd.f5 := (Option.some.inj (Tryd.func5.symm.trans hfn)).symm
      exact ⟨by kernel_rfl, fun j t ht => by
        rw [Tryd.params5] at ht
        have hm : t ∈ [3, 22] := by simpa using Array.mem_of_getElem? ht
        have hall : ([3, 22].all fun u => !Tryd.prog.wantsStandIn u) = true := by kernel_rfl
        exact (show Tryd.prog.wantsStandIn t = false by simpa using List.all_eq_true.1 hall t hm)⟩)
    (by kernel_rfl)
#print axioms proved
end Go.Proofs.YtamgbcgfjhpedaaDoor.settleShares
namespace Go.Proofs.YtamgbcgfjhpedaaDoor
/-- The row, under a short name, for the claim. -/
theorem settleShares_holds : Rows.SettleSharesCardSaid := settleShares.proved
end Go.Proofs.YtamgbcgfjhpedaaDoor
