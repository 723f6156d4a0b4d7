/- The law 'NetdispatchFlows' of the given program returns true for every input: the row and its card. -/
import Derived.Test.YtfobeapcmgjhbaaGreatDoorTie
import Derived.Test.YtfobeapcmgjhbaaGreatDoorCards
import Derived.Lay
import Derived.LaidMore
import Derived.SevenTiedAt
import Derived.Stop.Joined
import Derived.Handed
import Derived.Deep.DeepHandedRow
import Derived.Lib.LaidTab
import Derived.WalkKit
import Derived.ProofKit
import Derived.OpenShut
import Derived.ShutString
import Derived.ChangeOld
import Derived.Below
import Derived.SizedLaws
import Derived.Test.YtfobeapcmgjhbaaGreatDoorKNetdispatchFlows24
namespace Go.Proofs.YtfobeapcmgjhbaaGreatDoor.netdispatchFlows
open Go.ChangeShapes Go.WideShapes Go.ChangeAt Go.RowKit Go.Proofs.YtfobeapcmgjhbaaGreatDoor.VE
open Go.ChangeMaps (open_string shut_string)
set_option linter.unusedVariables false
theorem k_in:(Rows.netdispatchFlowsUptoRow.inPlace==Tryz.pinned.checked.prog.inPlace 3)=true:=by kernel_rfl
theorem k_un:(Rows.netdispatchFlowsUptoRow.unfollowed==Tryz.pinned.checked.prog.unfollowed 3)=true:=by kernel_rfl
theorem k_re:(Rows.netdispatchFlowsUptoRow.recurses==Tryz.pinned.checked.prog.recurses 3)=true:=by kernel_rfl
theorem k_na:(Rows.netdispatchFlowsUptoRow.named==Tryz.pinned.checked.prog.varsNamed 3)=true:=by kernel_rfl
theorem k_la:laidOutB Tryz.pinned.checked.prog=true:=by kernel_rfl
theorem closed:joinedFacts Tryz.pinned.checked.prog 3 Tryz.f3 Rows.netdispatchFlowsSpec Rows.netdispatchFlowsUptoRow=true:=by
  unfold joinedFacts
  rw [k_in,k_un,k_re,k_na,k_la]
  kernel_rfl
theorem over:Rows.netdispatchFlowsUptoRow.holds Tryz.pinned (Rows.OpenSpec.upto Rows.netdispatchFlowsSpec):=
  OpenClaim.holds_of_cond 3 Tryz.f3 rfl rfl rfl rfl rfl rfl rfl ⟨rfl,rfl,rfl,rfl,rfl⟩ rfl rfl rfl rfl rfl (by kernel_rfl) Tryz.func3 closed
    (of_decide_eq_true (by kernel_rfl)) (by unfold Func.isWrapper;first|(rw [if_pos (by decide+kernel)];kernel_rfl)|(rw [if_neg (by decide+kernel)];exact ⟨rfl,rfl⟩))
    (fun os started H enc _ F=>by rw [OpenClaim.pre_eq_preRow];exact lifted os started H enc F)
theorem proved:Rows.NetdispatchFlowsUptoCardSaid:=
  Claim7.holds_tied_plain_at .later [] [.data,.pinned] true (true,"83a2ca3d4841b4fb34b0d34312930da16538633b210406be02efac340b621158") false over (fun _ h=>by cases h) (by kernel_rfl) (fun _ h=>by cases h) netdispatchFlowsUpto_row_tie rfl ⟨rfl,rfl⟩ (by kernel_rfl) rfl
    (fun f fn hf hfn=>by
      obtain rfl:f=3:=Option.some.inj ((show Tryz.prog.funcNamed "gridhall/gridhallkeep3.NetdispatchFlows"=some 3 by kernel_rfl).symm.trans hf) |>.symm
      obtain rfl:fn=Tryz.f3:=(Option.some.inj (Tryz.func3.symm.trans hfn)).symm
      exact ⟨by kernel_rfl,fun j t ht=>by
        rw [Tryz.params3] at ht
        have hm:t∈[29,30]:=by simpa using Array.mem_of_getElem? ht
        have hall:([29,30].all fun u=>!Tryz.prog.wantsStandIn u)=true:=by kernel_rfl
        exact (show Tryz.prog.wantsStandIn t=false by simpa using List.all_eq_true.1 hall t hm)⟩)
    (by kernel_rfl)
#print axioms proved
end Go.Proofs.YtfobeapcmgjhbaaGreatDoor.netdispatchFlows
namespace Go.Proofs.YtfobeapcmgjhbaaGreatDoor
theorem netdispatchFlows_holds:Rows.NetdispatchFlowsUptoCardSaid:=netdispatchFlows.proved
end Go.Proofs.YtfobeapcmgjhbaaGreatDoor
