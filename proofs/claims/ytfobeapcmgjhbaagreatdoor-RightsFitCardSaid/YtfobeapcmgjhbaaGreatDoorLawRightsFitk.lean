/- The law 'RightsFit' of the given program returns true for every input: the row and its card. -/
import Derived.Test.YtfobeapcmgjhbaaGreatDoorTie
import Derived.Test.YtfobeapcmgjhbaaGreatDoorCards
import Derived.Lay
import Derived.LaidMore
import Derived.SevenTiedAt
import Derived.Stop.Joined
import Derived.Handed
import Derived.WalkKit
import Derived.ProofKit
import Derived.OpenShut
import Derived.ShutString
import Derived.ChangeOld
import Derived.Below
import Derived.SizedLaws
import Derived.Test.YtfobeapcmgjhbaaGreatDoorKRightsFit23
namespace Go.Proofs.YtfobeapcmgjhbaaGreatDoor.rightsFit
open Go.ChangeShapes Go.WideShapes Go.ChangeAt Go.RowKit Go.Proofs.YtfobeapcmgjhbaaGreatDoor.VE
open Go.ChangeMaps (open_string shut_string)
set_option linter.unusedVariables false
theorem k_in:(Rows.rightsFitRow.inPlace==Tryz.pinned.checked.prog.inPlace 4)=true:=by kernel_rfl
theorem k_un:(Rows.rightsFitRow.unfollowed==Tryz.pinned.checked.prog.unfollowed 4)=true:=by kernel_rfl
theorem k_re:(Rows.rightsFitRow.recurses==Tryz.pinned.checked.prog.recurses 4)=true:=by kernel_rfl
theorem k_na:(Rows.rightsFitRow.named==Tryz.pinned.checked.prog.varsNamed 4)=true:=by kernel_rfl
theorem k_la:laidOutB Tryz.pinned.checked.prog=true:=by kernel_rfl
theorem closed:joinedFacts Tryz.pinned.checked.prog 4 Tryz.f4 Rows.rightsFitSpec Rows.rightsFitRow=true:=by
  unfold joinedFacts
  rw [k_in,k_un,k_re,k_na,k_la]
  kernel_rfl
theorem over:Rows.rightsFitRow.holds Tryz.pinned (OpenSpec.ofChange Rows.rightsFitSpec):=
  OpenClaim.holds_of_wide 4 Tryz.f4 rfl rfl rfl rfl rfl rfl rfl ⟨rfl,rfl,rfl,rfl,rfl⟩ rfl rfl rfl rfl rfl (by kernel_rfl) Tryz.func4 closed
    (of_decide_eq_true (by kernel_rfl)) (by unfold Func.isWrapper;first|(rw [if_pos (by decide+kernel)];kernel_rfl)|(rw [if_neg (by decide+kernel)];exact ⟨rfl,rfl⟩))
    (fun os started H enc _=>lifted os started H enc)
theorem proved:Rows.RightsFitCardSaid:=
  Claim7.holds_tied_plain_at .later [] [.data,.pinned] true (true,"83a2ca3d4841b4fb34b0d34312930da16538633b210406be02efac340b621158") false over (fun _ h=>by cases h) (by kernel_rfl) (fun _ h=>by cases h) rightsFit_row_tie rfl ⟨rfl,rfl⟩ (by kernel_rfl) rfl
    (fun f fn hf hfn=>by
      obtain rfl:f=4:=Option.some.inj ((show Tryz.prog.funcNamed "gridhall/gridhallkeep3.RightsFit"=some 4 by kernel_rfl).symm.trans hf) |>.symm
      obtain rfl:fn=Tryz.f4:=(Option.some.inj (Tryz.func4.symm.trans hfn)).symm
      exact ⟨by kernel_rfl,fun j t ht=>by
        rw [Tryz.params4] at ht
        have hm:t∈[29,53]:=by simpa using Array.mem_of_getElem? ht
        have hall:([29,53].all fun u=>!Tryz.prog.wantsStandIn u)=true:=by kernel_rfl
        exact (show Tryz.prog.wantsStandIn t=false by simpa using List.all_eq_true.1 hall t hm)⟩)
    (by kernel_rfl)
#print axioms proved
end Go.Proofs.YtfobeapcmgjhbaaGreatDoor.rightsFit
namespace Go.Proofs.YtfobeapcmgjhbaaGreatDoor
theorem rightsFit_holds:Rows.RightsFitCardSaid:=rightsFit.proved
end Go.Proofs.YtfobeapcmgjhbaaGreatDoor
