/- The law 'TopEnergy' of the given program returns true for every input: the row, out of the pure statement and the contract. -/
import Derived.Test.YtamgbcgfjhpedaaDoorTie
import Derived.Test.YtamgbcgfjhpedaaDoorCards
import Derived.Test.YtamgbcgfjhpedaaDoorGRC
import Derived.Test.YtamgbcgfjhpedaaDoorPureTopEnergy
import Derived.Test.YtamgbcgfjhpedaaDoorVeLaw
import Derived.Lay
import Derived.LaidMore
import Derived.SevenTiedAt
import Derived.Stop.Joined
import Derived.Handed
import Derived.WalkKit
import Derived.ProofKit
import Derived.OpenShut
import Derived.ShutString
import Derived.ChangeOld
import Derived.Below
import Derived.SizedLaws
namespace Go.Proofs.YtamgbcgfjhpedaaDoor.topEnergy
open Go.ChangeShapes Go.WideShapes Go.ChangeAt Go.RowKit Go.Proofs.YtamgbcgfjhpedaaDoor.VE
open Go.ChangeMaps (open_string shut_string)
set_option linter.unusedVariables false
theorem own : ownKnob Tryd.prog.godebug = none := by kernel_rfl
theorem laidOut : laidOutB Tryd.prog = true := by kernel_rfl
set_option maxRecDepth 100000 in
theorem lifted (os : Os) (started : os.Started) (H : Type) (enc : TypeId × Value → H) :
    ReturnsInHanded {} Tryd.checked os 7 .any (fun w args => (Rows.topEnergySpec.pre enc Tryd.prog Tryd.f7 Rows.topEnergyRow.domain false w args ∧ laidMetH Tryd.prog Rows.topEnergyRow.laid w) ∧ sizedMet enc Tryd.prog Tryd.f7 (OpenSpec.ofChange Rows.topEnergySpec) false w args) (Rows.topEnergySpec.post enc Tryd.prog Tryd.f7 false true false false) := by
  refine returnsInHanded_of_change_and (C := Tryd.checked) (X := fun w _ => laidMetH Tryd.prog Rows.topEnergyRow.laid w) (fun _ _ _ hh h => h.of_heap hh) own started (by kernel_rfl) Tryd.func7
    (ChangeSpec.witness_shaped (enc := enc) (C := Tryd.checked) (os := os) (X := fun w _ => laidMetH Tryd.prog Rows.topEnergyRow.laid w) false (World.laidAll Tryd.prog os Rows.topEnergyRow.laid) #[.agg #[.slice none 0 0, .slice none 0 0, .slice none 0 0, .slice none 0 0, .slice none 0 0, .slice none 0 0], .slice none 0 0, .slice none 0 0] 8 (World.laidAll_os _ _ _)
      (World.shaped_of_ZipB (by kernel_rfl) (by kernel_rfl)) (by kernel_rfl) (by kernel_rfl) (by kernel_rfl)
      (by rw [MakeChecks.laidMetH_plain _ _ _ (by kernel_rfl)]; exact laidMet_laidAll _ (by kernel_rfl) (by kernel_rfl))) ?_
  intro W base args ds gs before hval0 hW hcnd hsz0 _ _
  have hsz : (DataW.weightsEach Tryd.prog (Tryd.f7.params.toList ++ Rows.topEnergySpec.plain.varTypes Tryd.prog) (ds ++ gs)).all (· ≤ reachBytes) = true := hsz0
  have hval : ∀ (j : Nat) t v, Tryd.f7.params[j]? = some t → args[j]? = some v → Value.okWide Tryd.prog W .any base t v := hval0
  have hW' := hW
  obtain ⟨p, q, hA0, hV, rfl, hfz, hnd⟩ := hW
  have hA : DataW.TrodAll enc Tryd.prog W 0 (fun _ => true) true Tryd.f7.params.toList args.toList ds p := hA0
  rw [Tryd.params7] at hA hval hsz
  obtain ⟨v0, vs0, d0, ds0, p0, q0, hargs, rfl, rfl, h0, r0⟩ := trodAll_cons hA
  obtain ⟨v1, vs1, d1, ds1, p1, q1, rfl, rfl, rfl, h1, r1⟩ := trodAll_cons r0
  obtain ⟨v2, vs2, d2, ds2, p2, q2, rfl, rfl, rfl, h2, r2⟩ := trodAll_cons r1
  obtain ⟨rfl, rfl, rfl⟩ := trodAll_nil r2
  obtain rfl : args = #[v0, v1, v2] := by cases args; simp_all
  obtain ⟨rfl, rfl⟩ := trodVars_none hV
  obtain ⟨cs0, rfl⟩ := okWide_agg Tryd.underlying52 (hval 0 52 v0 rfl rfl)
  have k0 := h0
  have lt0 : ∀ x ∈ p0, x.block < W.heap.size := by obtain ⟨m, hm⟩ := k0; exact DataW.trod_lt m _ _ _ hm
  obtain ⟨a0, K0, ok0⟩ : ∃ a : Ty.T (.pair (.list 9 .str) (.pair (.list 150 (.pair .str (.pair .str (.pair .str (.pair .bool .bool))))) (.pair (.list 107 (.pair .str (.pair .str (.pair .str (.pair (.int .i64) (.pair (.int .i64) (.pair (.int .i64) (.pair (.int .i64) (.pair (.int .i64) (.int .i64)))))))))) (.pair (.list 76 (.pair .str (.pair .str (.pair (.int .i64) (.pair (.int .i64) (.int .i64)))))) (.pair (.list 109 (.pair .str (.pair .str (.int .i64)))) (.list 175 (.pair .str (.pair .str (.pair (.int .i64) (.pair (.int .i64) (.int .i64))))))))))), Rep (· < W.heap.size) W (.pair (.list 9 .str) (.pair (.list 150 (.pair .str (.pair .str (.pair .str (.pair .bool .bool))))) (.pair (.list 107 (.pair .str (.pair .str (.pair .str (.pair (.int .i64) (.pair (.int .i64) (.pair (.int .i64) (.pair (.int .i64) (.pair (.int .i64) (.int .i64)))))))))) (.pair (.list 76 (.pair .str (.pair .str (.pair (.int .i64) (.pair (.int .i64) (.int .i64)))))) (.pair (.list 109 (.pair .str (.pair .str (.int .i64)))) (.list 175 (.pair .str (.pair .str (.pair (.int .i64) (.pair (.int .i64) (.int .i64))))))))))) a cs0.toList ∧ OkV Tryd.prog.bytesOf (.pair (.list 9 .str) (.pair (.list 150 (.pair .str (.pair .str (.pair .str (.pair .bool .bool))))) (.pair (.list 107 (.pair .str (.pair .str (.pair .str (.pair (.int .i64) (.pair (.int .i64) (.pair (.int .i64) (.pair (.int .i64) (.pair (.int .i64) (.int .i64)))))))))) (.pair (.list 76 (.pair .str (.pair .str (.pair (.int .i64) (.pair (.int .i64) (.int .i64)))))) (.pair (.list 109 (.pair .str (.pair .str (.int .i64)))) (.list 175 (.pair .str (.pair .str (.pair (.int .i64) (.pair (.int .i64) (.int .i64))))))))))) a := by
    obtain ⟨fuel, hf⟩ := h0
    exact VE.opens 12 52 (.pair (.list 9 .str) (.pair (.list 150 (.pair .str (.pair .str (.pair .str (.pair .bool .bool))))) (.pair (.list 107 (.pair .str (.pair .str (.pair .str (.pair (.int .i64) (.pair (.int .i64) (.pair (.int .i64) (.pair (.int .i64) (.pair (.int .i64) (.int .i64)))))))))) (.pair (.list 76 (.pair .str (.pair .str (.pair (.int .i64) (.pair (.int .i64) (.int .i64)))))) (.pair (.list 109 (.pair .str (.pair .str (.int .i64)))) (.list 175 (.pair .str (.pair .str (.pair (.int .i64) (.pair (.int .i64) (.int .i64))))))))))) (by kernel_rfl) (by kernel_rfl) _ enc W 0 _ true fuel _ _ hf (weights_of hsz (j := 0) rfl rfl)
  have ok0 : OkV BY (.pair (.list 9 .str) (.pair (.list 150 (.pair .str (.pair .str (.pair .str (.pair .bool .bool))))) (.pair (.list 107 (.pair .str (.pair .str (.pair .str (.pair (.int .i64) (.pair (.int .i64) (.pair (.int .i64) (.pair (.int .i64) (.pair (.int .i64) (.int .i64)))))))))) (.pair (.list 76 (.pair .str (.pair .str (.pair (.int .i64) (.pair (.int .i64) (.int .i64)))))) (.pair (.list 109 (.pair .str (.pair .str (.int .i64)))) (.list 175 (.pair .str (.pair .str (.pair (.int .i64) (.pair (.int .i64) (.int .i64))))))))))) a0 := cast (congrFun (by kernel_rfl : OkV Tryd.prog.bytesOf (.pair (.list 9 .str) (.pair (.list 150 (.pair .str (.pair .str (.pair .str (.pair .bool .bool))))) (.pair (.list 107 (.pair .str (.pair .str (.pair .str (.pair (.int .i64) (.pair (.int .i64) (.pair (.int .i64) (.pair (.int .i64) (.pair (.int .i64) (.int .i64)))))))))) (.pair (.list 76 (.pair .str (.pair .str (.pair (.int .i64) (.pair (.int .i64) (.int .i64)))))) (.pair (.list 109 (.pair .str (.pair .str (.int .i64)))) (.list 175 (.pair .str (.pair .str (.pair (.int .i64) (.pair (.int .i64) (.int .i64))))))))))) = OkV BY (.pair (.list 9 .str) (.pair (.list 150 (.pair .str (.pair .str (.pair .str (.pair .bool .bool))))) (.pair (.list 107 (.pair .str (.pair .str (.pair .str (.pair (.int .i64) (.pair (.int .i64) (.pair (.int .i64) (.pair (.int .i64) (.pair (.int .i64) (.int .i64)))))))))) (.pair (.list 76 (.pair .str (.pair .str (.pair (.int .i64) (.pair (.int .i64) (.int .i64)))))) (.pair (.list 109 (.pair .str (.pair .str (.int .i64)))) (.list 175 (.pair .str (.pair .str (.pair (.int .i64) (.pair (.int .i64) (.int .i64)))))))))))) a0) ok0
  obtain ⟨b1, len1, cap1, rfl⟩ := okWide_slice Tryd.underlying34 (hval 1 34 v1 rfl rfl)
  have k1 := h1
  have lt1 : ∀ x ∈ p1, x.block < W.heap.size := by obtain ⟨m, hm⟩ := k1; exact DataW.trod_lt m _ _ _ hm
  obtain ⟨a1, K1, ok1⟩ : ∃ a : Ty.T (.list 3 (.int .i64)), Rep (· < W.heap.size) W (.list 3 (.int .i64)) a [.slice b1 len1 cap1] ∧ OkV Tryd.prog.bytesOf (.list 3 (.int .i64)) a := by
    obtain ⟨fuel, hf⟩ := h1
    exact VE.opens 12 34 (.list 3 (.int .i64)) (by kernel_rfl) (by kernel_rfl) _ enc W 0 _ true fuel _ _ hf (weights_of hsz (j := 1) rfl rfl)
  have ok1 : OkV BY (.list 3 (.int .i64)) a1 := cast (congrFun (by kernel_rfl : OkV Tryd.prog.bytesOf (.list 3 (.int .i64)) = OkV BY (.list 3 (.int .i64))) a1) ok1
  obtain ⟨b2, len2, cap2, rfl⟩ := okWide_slice Tryd.underlying34 (hval 2 34 v2 rfl rfl)
  have k2 := h2
  have lt2 : ∀ x ∈ p2, x.block < W.heap.size := by obtain ⟨m, hm⟩ := k2; exact DataW.trod_lt m _ _ _ hm
  obtain ⟨a2, K2, ok2⟩ : ∃ a : Ty.T (.list 3 (.int .i64)), Rep (· < W.heap.size) W (.list 3 (.int .i64)) a [.slice b2 len2 cap2] ∧ OkV Tryd.prog.bytesOf (.list 3 (.int .i64)) a := by
    obtain ⟨fuel, hf⟩ := h2
    exact VE.opens 12 34 (.list 3 (.int .i64)) (by kernel_rfl) (by kernel_rfl) _ enc W 0 _ true fuel _ _ hf (weights_of hsz (j := 2) rfl rfl)
  have ok2 : OkV BY (.list 3 (.int .i64)) a2 := cast (congrFun (by kernel_rfl : OkV Tryd.prog.bytesOf (.list 3 (.int .i64)) = OkV BY (.list 3 (.int .i64))) a2) ok2
  clear hA0 hval0 hsz0 hsz
  obtain ⟨k, h⟩ := Pure.TopEnergy a0 a1 a2 ok0 ok1 ok2
  refine (law_calls (W := W) (vals := #[.agg cs0, .slice b1 len1 cap1, .slice b2 len2 cap2]) (gridhalltop_TopEnergy.ok k) rfl (a0, a1, a2) (cms := [.a (leaves (.pair (.list 9 .str) (.pair (.list 150 (.pair .str (.pair .str (.pair .str (.pair .bool .bool))))) (.pair (.list 107 (.pair .str (.pair .str (.pair .str (.pair (.int .i64) (.pair (.int .i64) (.pair (.int .i64) (.pair (.int .i64) (.pair (.int .i64) (.int .i64)))))))))) (.pair (.list 76 (.pair .str (.pair .str (.pair (.int .i64) (.pair (.int .i64) (.int .i64)))))) (.pair (.list 109 (.pair .str (.pair .str (.int .i64)))) (.list 175 (.pair .str (.pair .str (.pair (.int .i64) (.pair (.int .i64) (.int .i64))))))))))) a0), .l (.v (.list 3 (.int .i64)) a1), .l (.v (.list 3 (.int .i64)) a2)]) rfl (All2.mk ⟨cs0, rfl, leaves_R K0⟩ (All2.mk ⟨rfl, K1⟩ (All2.mk ⟨rfl, K2⟩ trivial))) h).mono ?_
  rintro e W' ⟨he, bel⟩
  subst he
  exact ⟨_, rfl, _, _, _, [], _, [], hW', trodAll_mk1 (shut_bool Tryd.underlying4 _), (trodAll_cons_mk (Below.trod laidOut (by kernel_rfl) (of_decide_eq_true (by kernel_rfl)) k0 bel lt0) (trodAll_cons_mk (Below.trod laidOut (by kernel_rfl) (of_decide_eq_true (by kernel_rfl)) k1 bel lt1) (trodAll_cons_mk (Below.trod laidOut (by kernel_rfl) (of_decide_eq_true (by kernel_rfl)) k2 bel lt2) trodAll_mk0))), rfl, bel.frame _, fun h => by cases h⟩
theorem over : Rows.topEnergyRow.holds Tryd.pinned (OpenSpec.ofChange Rows.topEnergySpec) :=
  OpenClaim.holds_of_wide 7 Tryd.f7 rfl rfl rfl rfl rfl rfl rfl ⟨rfl, rfl, rfl, rfl, rfl⟩ rfl rfl rfl rfl rfl (by kernel_rfl) Tryd.func7 (by kernel_rfl)
    (of_decide_eq_true (by kernel_rfl)) (by unfold Func.isWrapper; first | (rw [if_pos (by decide +kernel)]; kernel_rfl) | (rw [if_neg (by decide +kernel)]; exact ⟨rfl, rfl⟩))
    (fun os started H enc _ => lifted os started H enc)
theorem proved : Rows.TopEnergyCardSaid :=
  Claim7.holds_tied_plain_at .later [] [.data, .pinned] true (true, "37040a1bfb2524d4efdd731ab964d5fcd76f0f52d6904787d105ce1770f36f28") false over (fun _ h => by cases h) (by kernel_rfl) (fun _ h => by cases h) topEnergy_row_tie rfl ⟨rfl, rfl⟩ (by kernel_rfl) rfl
    (fun f fn hf hfn => by
      obtain rfl : f = 7 := Option.some.inj ((show Tryd.prog.funcNamed "gridhall/gridhalltop.TopEnergy" = some 7 by kernel_rfl).symm.trans hf) |>.symm
      obtain rfl : fn = Tryd.f7 := (Option.some.inj (Tryd.func7.symm.trans hfn)).symm
      exact ⟨by kernel_rfl, fun j t ht => by
        rw [Tryd.params7] at ht
        have hm : t ∈ [52, 34, 34] := by simpa using Array.mem_of_getElem? ht
        have hall : ([52, 34, 34].all fun u => !Tryd.prog.wantsStandIn u) = true := by kernel_rfl
        exact (show Tryd.prog.wantsStandIn t = false by simpa using List.all_eq_true.1 hall t hm)⟩)
    (by kernel_rfl)
#print axioms proved
end Go.Proofs.YtamgbcgfjhpedaaDoor.topEnergy
namespace Go.Proofs.YtamgbcgfjhpedaaDoor
/-- The row, under a short name, for the claim. -/
theorem topEnergy_holds : Rows.TopEnergyCardSaid := topEnergy.proved
end Go.Proofs.YtamgbcgfjhpedaaDoor
