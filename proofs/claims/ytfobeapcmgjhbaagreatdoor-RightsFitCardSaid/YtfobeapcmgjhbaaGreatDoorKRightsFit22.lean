/- Texts behind the law RightsFit, part 22 (no statement is proved here). -/
import Derived.Test.YtfobeapcmgjhbaaGreatDoorKRightsFit21
namespace Go.Proofs.YtfobeapcmgjhbaaGreatDoor.VE
open Go Go.RowKit
set_option linter.unusedVariables false
attribute [local irreducible] wrap64
attribute [local irreducible] rd
def RightsFit.Pure:Prop:=∀(a0:List ByteArray×(List (ByteArray×ByteArray×ByteArray×Bool×Bool))×(List (ByteArray×ByteArray×ByteArray×Int×Int×Int×Int×Int×Int))×(List (ByteArray×ByteArray×Int×Int×Int))×(List (ByteArray×ByteArray×Int))×List (ByteArray×ByteArray×Int×Int×Int)) (a1:List (ByteArray×ByteArray×Int)),OkV BY (.pair (.list 9 .str) (.pair (.list 190 (.pair .str (.pair .str (.pair .str (.pair .bool .bool))))) (.pair (.list 60 (.pair .str (.pair .str (.pair .str (.pair (.int .i64) (.pair (.int .i64) (.pair (.int .i64) (.pair (.int .i64) (.pair (.int .i64) (.int .i64)))))))))) (.pair (.list 48 (.pair .str (.pair .str (.pair (.int .i64) (.pair (.int .i64) (.int .i64)))))) (.pair (.list 51 (.pair .str (.pair .str (.int .i64)))) (.list 240 (.pair .str (.pair .str (.pair (.int .i64) (.pair (.int .i64) (.int .i64))))))))))) a0→OkV BY (.list 56 (.pair .str (.pair .str (.int .i64)))) a1→∃k,qak.f k a0 a1=some true
theorem seven:Ev (fun k=>(qbh.f k 10).bind fun r1=>qai.f k r1.1 [(ByteArray.mk #[78,49],ByteArray.mk #[78,50],7)]) ([ByteArray.mk #[55]],0):=Ev.far 300 (fun k=>by kernel_rfl)
theorem seven2:Ev (fun k=>qaP.f k [ByteArray.mk #[55]] [ByteArray.mk #[55]]) true:=Ev.far 10 (fun k=>by kernel_rfl)
theorem eleven:Ev (fun k=>(qbh.f k 10).bind fun r1=>qaE.f k r1.1 [(ByteArray.mk #[78,49],ByteArray.mk #[78,50],11)]) (false,0):=Ev.far 300 (fun k=>by kernel_rfl)
theorem fit_run {n:NetT} (h:NetOk n) {f:Nat→Rat} {fl:List ByteArray} (hf:Ts n.2.2.1.length f fl) (is:Bool) (hall:is=true↔FitB n f n.2.2.1.length):∀(d b:Nat) (fits:Bool),b+d=n.2.2.1.length→(fits=true↔FitB n f b)→
  Ev (fun k=>qak.l14 k is 0 fits fl (fl.length:Int) (b:Int) n.1 n.2.1 n.2.2.1 n.2.2.2.1 n.2.2.2.2.1 n.2.2.2.2.2) true
 |0,b,fits,hb,hfit=>by
  have e:=hf.1
  have:b=n.2.2.1.length:=by omega
  subst this
  refine Ev.step (fun k=>qak.l14_eq k ..) (Ev.neg (by omega) (Ev.pos rfl ?_))
  have:is=fits:=by rw [Bool.eq_iff_iff,hall,hfit]
  rw [decide_eq_true this]
  exact Ev.now _
 |d+1,b,fits,hb,hfit=>by
  have e:=hf.1
  have l2:=h.l2
  have hbb:b<n.2.2.1.length:=by omega
  obtain ⟨l0,l1⟩:=lim_rng h hbb
  have l0:0≤(rY11 n.2.2.1 (b:Int)).2.2.2.2.2.2.1:=l0
  have l1:(rY11 n.2.2.1 (b:Int)).2.2.2.2.2.2.1≤100000:=l1
  refine Ev.step (fun k=>qak.l14_eq k ..) (Ev.pos (by omega) (Ev.pos (by omega) (Ev.pos (by omega) (Ev.pos (by omega) (Ev.pos (by omega) ?_)))))
  have O:=hf.2 b hbb
  have E1:=ratOf_ev (n:=(rY11 n.2.2.1 (b:Int)).2.2.2.2.2.2.1) (by omega) (by omega)
  have F1:=fit_int (n:=(rY11 n.2.2.1 (b:Int)).2.2.2.2.2.2.1) (by omega) (by omega)
  have F2:=fit_int (n:=0 - (rY11 n.2.2.1 (b:Int)).2.2.2.2.2.2.1) (by omega) (by omega)
  have E2:=ratOf_ev (n:=0 - (rY11 n.2.2.1 (b:Int)).2.2.2.2.2.2.1) (by omega) (by omega)
  rw [if_pos F1] at E1
  rw [if_pos F2] at E2
  rw [w64 (x:=0 - (rY11 n.2.2.1 (b:Int)).2.2.2.2.2.2.1) (by omega) (by omega),w64 (by omega) (by omega)]
  refine Ev.bind E1 (Ev.pos (by omega) (Ev.pos (by omega) (Ev.bind E2 (Ev.bind (qgq O ⟨rfl,F1⟩) (Ev.bind (qgq O ⟨rfl,F2⟩) (Ev.bind (fine_ev _ (by simp)) (Ev.pos rfl ?_)))))))
  have step:∀fits',(fits'=true↔FitB n f (b+1))→Ev (fun k=>qak.l14 k is 0 fits' fl (fl.length:Int) ((b:Int)+1) n.1 n.2.1 n.2.2.1 n.2.2.2.1 n.2.2.2.2.1 n.2.2.2.2.2) true:=fun fits' h'=>fit_run h hf is hall d (b+1) fits' (by omega) h'
  have s1:sgnQ (f b - (((rY11 n.2.2.1 (b:Int)).2.2.2.2.2.2.1:Int):Rat))≤0↔f b≤(((brk n b).2.2.2.2.2.2.1:Int):Rat):=by
   have:=sgnQ_pos (f b - (((rY11 n.2.2.1 (b:Int)).2.2.2.2.2.2.1:Int):Rat))
   unfold brk
   constructor
   ·intro c
    by_cases q:0<f b - (((rY11 n.2.2.1 (b:Int)).2.2.2.2.2.2.1:Int):Rat)
    ·have:=this.2 q;omega
    ·grind
   ·intro c
    by_cases q:0<sgnQ (f b - (((rY11 n.2.2.1 (b:Int)).2.2.2.2.2.2.1:Int):Rat))
    ·have:=this.1 q;grind
    ·omega
  have s2:0≤sgnQ (f b - ((0 - (rY11 n.2.2.1 (b:Int)).2.2.2.2.2.2.1:Int):Rat))↔-(((brk n b).2.2.2.2.2.2.1:Int):Rat)≤f b:=by
   have:=sgnQ_neg (f b - ((0 - (rY11 n.2.2.1 (b:Int)).2.2.2.2.2.2.1:Int):Rat))
   have e0:((0 - (rY11 n.2.2.1 (b:Int)).2.2.2.2.2.2.1:Int):Rat)=-(((brk n b).2.2.2.2.2.2.1:Int):Rat):=by
    rw [Rat.intCast_sub]
    unfold brk
    show (0:Rat) - _=_
    grind
   rw [e0] at this ⊢
   constructor
   ·intro c
    by_cases q:f b - -(((brk n b).2.2.2.2.2.2.1:Int):Rat)<0
    ·have:=this.2 q;omega
    ·grind
   ·intro c
    by_cases q:sgnQ (f b - -(((brk n b).2.2.2.2.2.2.1:Int):Rat))<0
    ·have:=this.1 q;grind
    ·omega
  have key:FitB n f (b+1)↔FitB n f b∧f b≤(((brk n b).2.2.2.2.2.2.1:Int):Rat)∧-(((brk n b).2.2.2.2.2.2.1:Int):Rat)≤f b:=by
   constructor
   ·intro c
    exact ⟨fun i hi=>c i (by omega),(absQ_le _ _).1 (c b (by omega))⟩
   ·rintro ⟨c1,c2⟩ i hi
    by_cases q:i=b
    ·rw [q];exact (absQ_le _ _).2 c2
    ·exact c1 i (by omega)
  refine Ev.ite (fun c=>Ev.ite (fun c2=>step _ ?_) (fun c2=>step _ ?_)) (fun c=>step _ ?_)
  ·rw [key,decide_eq_true_iff]
   have c2:=s1.1 c2
   exact ⟨fun q=>⟨hfit.1 c,c2,s2.1 q⟩,fun q=>s2.2 q.2.2⟩
  ·rw [key]
   exact ⟨fun q=>(by cases q),fun q=>absurd (s1.2 q.2.1) c2⟩
  ·rw [key]
   exact ⟨fun q=>(by cases q),fun q=>absurd (hfit.2 q.1) c⟩
theorem Pure.RightsFit:RightsFit.Pure:=by
 intro a0 a1 ok0 ok1
 have hz:NetSz a0:=⟨fun x hx=>Nat.le_trans (ok0.1.2 x hx) (by omega),fun x hx=>Nat.le_trans (ok0.2.1.2 x hx).1 (by omega),fun x hx=>Nat.le_trans (ok0.2.2.1.2 x hx).1 (by omega),fun x hx=>Nat.le_trans (ok0.2.2.2.1.2 x hx).1 (by omega),fun x hx=>Nat.le_trans (ok0.2.2.2.2.1.2 x hx).1 (by omega),fun x hx=>Nat.le_trans (ok0.2.2.2.2.2.2 x hx).1 (by omega)⟩
 refine Ev.rounds ?_
 have A:=seven
 have B:=eleven
 refine Ev.bind (Ev.now _) (Ev.bind (a:=([ByteArray.mk #[55]],0)) (by obtain ⟨K,hK⟩:=A;exact ⟨K,hK⟩) (Ev.pos rfl (Ev.bind seven2 (Ev.pos rfl (Ev.bind (a:=(false,0)) (by obtain ⟨K,hK⟩:=B;exact ⟨K,hK⟩) (Ev.pos rfl (Ev.neg (by decide) ?_)))))))
 obtain ⟨r,hr,h1,h2⟩:=rflows_ex a0 hz a1
 obtain ⟨z,hz',z1,z2⟩:=feasible_ev hr (fun e=>by
  obtain ⟨t,X,x0,P,hf⟩:=h2 e
  exact ⟨P.ok,_,hf⟩)
 refine Ev.bind hr (Ev.bind hz' (Ev.ite (fun e=>?_) (fun e=>?_)))
 ·obtain ⟨t,X,x0,P,hf⟩:=h2 e
  obtain ⟨e2,e3⟩:=z2 e
  rw [e2]
  exact fit_run P.ok hf z.1 (e3 _ hf) a0.2.2.1.length 0 true (by omega) ⟨fun _ b hb=>absurd hb (by omega),fun _=>rfl⟩
 ·rw [z1 e,h1 e]
  exact Ev.pos rfl (Ev.neg (by show ¬(false=true);decide) (Ev.now _))
end Go.Proofs.YtfobeapcmgjhbaaGreatDoor.VE
