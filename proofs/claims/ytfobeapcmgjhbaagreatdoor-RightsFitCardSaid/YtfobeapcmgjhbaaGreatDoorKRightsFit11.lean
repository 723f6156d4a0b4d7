/- Texts behind the law RightsFit, part 11 (no statement is proved here). -/
import Derived.Test.YtfobeapcmgjhbaaGreatDoorKRightsFit10
namespace Go.Proofs.YtfobeapcmgjhbaaGreatDoor.VE
open Go Go.RowKit
set_option linter.unusedVariables false
attribute [local irreducible] wrap64
theorem fine_loop (l:List Int) (hl:l.length≤1000):∀(n:Nat) (i:Int),0≤i→(l.length:Int) - i=n→Ev (fun k=>qaj.l2 k l (l.length:Int) i) (if (l.drop i.toNat).all (fun e=>decide (e=0))=true then -1 else i+((l.drop i.toNat).takeWhile (fun e=>decide (e=0))).length):=by
 intro n
 induction n with
 |zero=>
  intro i h0 h1
  rw [drop_end (by omega)]
  exact Ev.step (fun k=>qaj.l2_eq k _ _ _) (Ev.neg (by omega) (Ev.now _))
 |succ n ih=>
  intro i h0 h1
  have hlt:i<(l.length:Int):=by omega
  rw [rI64_drop (xs:=l) h0 hlt]
  refine Ev.step (fun k=>qaj.l2_eq k _ _ _) (Ev.pos hlt (Ev.pos h0 (Ev.pos hlt ?_)))
  refine Ev.bind (a:=!decide (rI64 l i=0)) (Ev.now _) ?_
  have ih':=ih (i+1) (by omega) (by omega)
  rw [w64 (x:=i+1) (by omega) (by omega)]
  by_cases hz:rI64 l i=0
  ·refine Ev.neg (by simp [hz]) ?_
   simp only [List.all_cons,List.takeWhile_cons,hz,decide_true,Bool.true_and,if_true,List.length_cons]
   have e:i+(((l.drop (i+1).toNat).takeWhile (fun e=>decide (e=0))).length+1:Nat)=i+1+(((l.drop (i+1).toNat).takeWhile (fun e=>decide (e=0))).length:Int):=by omega
   rw [e]
   exact ih'
  ·refine Ev.pos (by simp [hz]) ?_
   simp only [List.all_cons,List.takeWhile_cons,hz,decide_false,Bool.false_and,Bool.false_eq_true,if_false,List.length_nil]
   simpa using Ev.now i
theorem fine_ev (l:List Int) (hl:l.length≤1000):Ev (fun k=>qa8.f k l) (l.all (fun e=>decide (e=0))):=by
 have h:=fine_loop l hl l.length 0 (by omega) (by omega)
 unfold qa8.f qaQ.f qaj.f
 refine Ev.bind (Ev.bind h (Ev.now _)) ?_
 rw [show (0:Int).toNat=0 from rfl,List.drop_zero]
 cases hb:l.all (fun e=>decide (e=0)) with
 |true=>simpa using Ev.now true
 |false=>
  simp only [Bool.false_eq_true,if_false]
  rw [decide_eq_true (p:=(0:Int)≤0+((l.takeWhile (fun e=>decide (e=0))).length:Int)) (by omega)]
  exact Ev.now _
theorem rat2_0 (a b:ByteArray):rStr [a,b] 0=a:=rfl
theorem rat2_1 (a b:ByteArray):rStr [a,b] 1=b:=rfl
def RiP (n:NetT) (x:LdT):Prop:=x.1∈n.1∧x.2.1∈n.1∧1≤x.2.2∧x.2.2≤100000
theorem qga (n:NetT) (h:NetOk n) (hc:Ev (fun k=>qad.f k n) 0) (l:List LdT) (hl:l.length≤1000):∀(m j:Nat),j+m=l.length→EvP (fun k=>qaC.l7 k l (l.length:Int) (j:Int) n.1 n.2.1 n.2.2.1 n.2.2.2.1 n.2.2.2.2.1 n.2.2.2.2.2) (fun r=>r=0→∀x∈l.drop j,RiP n x)
 |0,j,hj=>by
  rw [List.drop_eq_nil_of_le (by omega)]
  exact EvP.step (fun k=>qaC.l7_eq k _ _ _ _ _ _ _ _ _) (EvP.neg (by omega) (EvP.ret (fun _ x hx=>by cases hx)))
 |m+1,j,hj=>by
  have hdr:=rY15_drop (xs:=l) (i:=(j:Int)) (by omega) (by omega)
  rw [show ((j:Int)).toNat=j from rfl,show ((j:Int)+1).toNat=j+1 from rfl] at hdr
  have ih:=qga n h hc l hl m (j+1) (by omega)
  rw [hdr]
  refine EvP.step (fun k=>qaC.l7_eq k _ _ _ _ _ _ _ _ _) (EvP.pos (by omega) (EvP.pos (by omega) (EvP.pos (by omega) ?_)))
  have no:∀{Q:Prop} {z:Int},z≠0→z=0→Q:=fun h e=>absurd e h
  refine EvP.step (fun k=>qaC.qdd k _ _ _ _ _ _ _ _ _ _ _ _ _ _) (EvP.pos (by omega) (EvP.pos (by omega) (EvP.pos (by omega) ?_)))
  rw [rat2_0]
  refine EvP.bindE (node_ev h hc _) ?_
  by_cases m1:(rY15 l (j:Int)).1∈n.1
  ·rw [if_pos m1]
   refine EvP.pos rfl ?_
   rw [w64 (x:=0+1) (by omega) (by omega)]
   refine EvP.step (fun k=>qaC.qdd k _ _ _ _ _ _ _ _ _ _ _ _ _ _) (EvP.pos (by omega) (EvP.pos (by omega) (EvP.pos (by omega) ?_)))
   rw [show (0:Int)+1=1 from rfl,rat2_1]
   refine EvP.bindE (node_ev h hc _) ?_
   by_cases m2:(rY15 l (j:Int)).2.1∈n.1
   ·rw [if_pos m2]
    refine EvP.pos rfl ?_
    rw [w64 (x:=1+1) (by omega) (by omega)]
    refine EvP.step (fun k=>qaC.qdd k _ _ _ _ _ _ _ _ _ _ _ _ _ _) (EvP.neg (by omega) (EvP.ite (fun _=>EvP.ret (no (by decide))) (fun c1=>EvP.ite (fun _=>EvP.ret (no (by decide))) (fun c2=>?_))))
    have c1:¬(rY15 l (j:Int)).2.2<1:=c1
    have c2:¬100000<(rY15 l (j:Int)).2.2:=c2
    rw [w64 (x:=(j:Int)+1) (by omega) (by omega)]
    refine ih.mono (fun r hr e x hx=>?_)
    rcases List.mem_cons.1 hx with rfl|hx
    ·exact ⟨m1,m2,by omega,by omega⟩
    ·exact hr e x hx
   ·rw [if_neg m2]
    exact EvP.neg (by decide) (EvP.ret (no (by decide)))
  ·rw [if_neg m1]
   exact EvP.neg (by decide) (EvP.ret (no (by decide)))
theorem rcheck_ex (n:NetT) (hz:NetSz n) (l:List LdT):EvP (fun k=>qaC.f k n l) (fun r=>r=0→NetOk n∧Ev (fun k=>qad.f k n) 0∧l.length≤12∧∀x∈l,RiP n x):=by
 obtain ⟨r,hr,hp⟩:=netCheck_ex n hz
 refine EvP.bindE hr (EvP.ite (fun e=>?_) (fun e=>EvP.ret (fun e'=>absurd e' e)))
 have e:r=0:=e
 subst e
 refine EvP.ite (fun _=>EvP.ret (fun e=>absurd e (by decide))) (fun hl=>?_)
 have hl:¬12<(l.length:Int):=hl
 exact (qga n (hp rfl) hr l (by omega) l.length 0 (Nat.zero_add _)).mono (fun r h e=>⟨hp rfl,hr,by omega,by rw [List.drop_zero] at h;exact h e⟩)
def busS (n:NetT) (t:List Int×List Int) (s:ByteArray):Int:=rI64 t.1 (idxS n.1 s)
theorem qe7 {n:NetT} {t:List Int×List Int} (ht:TopoP n t) {s:ByteArray} (hs:s∈n.1):0≤busS n t s∧busS n t s<t.2.length:=by
 have hi:=qch hs
 have:=ht.bus (idxS n.1 s).toNat (by omega)
 rw [show (((idxS n.1 s).toNat:Nat):Int)=idxS n.1 s by omega] at this
 exact this
theorem rbus_ev {n:NetT} (h:NetOk n) (hc:Ev (fun k=>qad.f k n) 0) {t:List Int×List Int} (ht:TopoP n t) {s:ByteArray} (hs:s∈n.1):Ev (fun k=>qbM.f k n t s) (busS n t s):=by
 have hi:=qch hs
 have hl:=ht.lb
 have N:=node_ev h hc s
 rw [if_pos hs] at N
 exact Ev.bind N (Ev.pos hi.1 (Ev.pos (by show idxS n.1 s<(t.1.length:Int);omega) (Ev.now _)))
end Go.Proofs.YtfobeapcmgjhbaaGreatDoor.VE
