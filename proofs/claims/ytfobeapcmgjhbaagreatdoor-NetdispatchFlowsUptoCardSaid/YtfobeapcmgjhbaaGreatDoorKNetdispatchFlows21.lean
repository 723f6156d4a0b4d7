/- Texts behind the law NetdispatchFlows, part 21 (no statement is proved here). -/
import Derived.Test.YtfobeapcmgjhbaaGreatDoorKNetdispatchFlows20
namespace Go.Proofs.YtfobeapcmgjhbaaGreatDoor.VE
open Go Go.RowKit
set_option linter.unusedVariables false
attribute [local irreducible] wrap64
theorem isl_run {α:Type} {loop:Nat→Int→Option α} (il:List Int) (hb:il.length≤1000) {no:α} {fin:Nat→Option α} {Q:α→Prop}
  (step:∀(j:Nat),j<il.length→∀Q:α→Prop,EvP (fun k=>if rI64 il (j:Int)=0 then loop k ((j:Int)+1) else some no) Q→EvP (fun k=>loop k (j:Int)) Q)
  (done:∀Q:α→Prop,EvP (fun k=>fin k) Q→EvP (fun k=>loop k (il.length:Int)) Q) (hno:Q no) (hfin:(∀i:Nat,i<il.length→rI64 il (i:Int)=0)→EvP (fun k=>fin k) Q) :
  ∀(d j:Nat),j+d=il.length→(∀i:Nat,i<j→rI64 il (i:Int)=0)→EvP (fun k=>loop k (j:Int)) Q
 |0,j,hj,h=>by
  have:j=il.length:=by omega
  subst this
  exact done Q (hfin h)
 |d+1,j,hj,h=>by
  refine step j (by omega) Q (EvP.ite (fun e=>?_) (fun _=>EvP.ret hno))
  refine isl_run il hb step done hno hfin d (j+1) (by omega) (fun i hi=>?_)
  by_cases c:i=j
  ·rw [c];exact e
  ·exact h i (by omega)
end Go.Proofs.YtfobeapcmgjhbaaGreatDoor.VE
