/- Texts behind the law NetdispatchFlows, part 23 (no statement is proved here). -/
import Derived.Test.YtfobeapcmgjhbaaGreatDoorKNetdispatchFlows22
namespace Go.Proofs.YtfobeapcmgjhbaaGreatDoor.VE
open Go Go.RowKit
set_option linter.unusedVariables false
attribute [local irreducible] wrap64
attribute [local irreducible] rd
def NetdispatchFlows.Pure:Prop:=∀(a0:List ByteArray×(List (ByteArray×ByteArray×ByteArray×Bool×Bool))×(List (ByteArray×ByteArray×ByteArray×Int×Int×Int×Int×Int×Int))×(List (ByteArray×ByteArray×Int×Int×Int))×(List (ByteArray×ByteArray×Int))×List (ByteArray×ByteArray×Int×Int×Int)) (a1:List Int),OkV BY (.pair (.list 9 .str) (.pair (.list 190 (.pair .str (.pair .str (.pair .str (.pair .bool .bool))))) (.pair (.list 60 (.pair .str (.pair .str (.pair .str (.pair (.int .i64) (.pair (.int .i64) (.pair (.int .i64) (.pair (.int .i64) (.pair (.int .i64) (.int .i64)))))))))) (.pair (.list 48 (.pair .str (.pair .str (.pair (.int .i64) (.pair (.int .i64) (.int .i64)))))) (.pair (.list 51 (.pair .str (.pair .str (.int .i64)))) (.list 240 (.pair .str (.pair .str (.pair (.int .i64) (.pair (.int .i64) (.int .i64))))))))))) a0→OkV BY (.list 3 (.int .i64)) a1→a1.length≤1048576→∃k,qaa.f k a0 a1=some true
theorem ten1:Ev (fun k=>(qbe.f k 10).bind fun r1=>qae.f k r1.1 [ByteArray.mk #[49,48],ByteArray.mk #[53]]) ([ByteArray.mk #[49,48]],0):=Ev.far 300 (fun k=>by kernel_rfl)
theorem ten2:Ev (fun k=>qar.f k [ByteArray.mk #[49,48]] [ByteArray.mk #[49,48]]) true:=Ev.far 10 (fun k=>by kernel_rfl)
theorem ten3:Ev (fun k=>(qbe.f k 10).bind fun r1=>qbp.f k r1.1 [10,(-10)]) (([ByteArray.mk #[48],ByteArray.mk #[45,49,48]],[ByteArray.mk #[49,48]]),0):=Ev.far 300 (fun k=>by kernel_rfl)
def genN (n:NetT) (i:Nat):Int:=idxS n.1 (rY13 n.2.2.2.1 (i:Int)).2.1
def loadN (n:NetT) (i:Nat):Int:=idxS n.1 (rY15 n.2.2.2.2.1 (i:Int)).2.1
def injK (n:NetT) (p:Nat→Rat) (a b k:Nat):Rat:=sm a (fun i=>if genN n i=(k:Int) then p i else 0) - sm b (fun i=>if loadN n i=(k:Int) then ((dem n i:Int):Rat) else 0)
theorem inj_flow {n:NetT} (h:NetOk n) {t:List Int×List Int} (ht:TopoP n t) (F p:Nat→Rat) {inj:List Int} (hi:∀k:Nat,k<n.1.length→((rI64 inj (k:Int):Int):Rat)=injK n p n.2.2.2.1.length n.2.2.2.2.1.length k) :
  sm t.2.length (fun b=>F b*Pb n t inj n.1.length b)=sm n.2.2.2.1.length (fun i=>F (genB n t i).toNat*p i) - sm n.2.2.2.2.1.length (fun i=>F (loadB n t i).toNat*((dem n i:Int):Rat)):=by
 have lb:=ht.lb
 unfold Pb
 rw [sm_pick (a:=fun k=>rI64 t.1 (k:Int)) (fun k hk=>ht.bus k hk) F (fun k=>((rI64 inj (k:Int):Int):Rat))]
 have g:∀i,i<n.2.2.2.1.length→0≤genN n i∧genN n i<(n.1.length:Int):=fun i hi=>qbO (gn_ok h hi)
 have l:∀i,i<n.2.2.2.2.1.length→0≤loadN n i∧loadN n i<(n.1.length:Int):=fun i hi=>qbO (ld_ok h hi).1
 have e:sm n.1.length (fun k=>F (rI64 t.1 (k:Int)).toNat*((rI64 inj (k:Int):Int):Rat))=sm n.1.length (fun k=>F (rI64 t.1 (k:Int)).toNat*sm n.2.2.2.1.length (fun i=>if genN n i=(k:Int) then p i else 0)) - sm n.1.length (fun k=>F (rI64 t.1 (k:Int)).toNat*sm n.2.2.2.2.1.length (fun i=>if loadN n i=(k:Int) then ((dem n i:Int):Rat) else 0)):=by
  rw [←qfi]
  refine qbc fun k hk=>?_
  rw [hi k hk]
  unfold injK
  grind
 rw [e,sm_pick g (fun k=>F (rI64 t.1 (k:Int)).toNat) p,sm_pick l (fun k=>F (rI64 t.1 (k:Int)).toNat) (fun i=>((dem n i:Int):Rat))]
 have e1:sm n.2.2.2.1.length (fun i=>F (rI64 t.1 ((genN n i).toNat:Int)).toNat*p i)=sm n.2.2.2.1.length (fun i=>F (genB n t i).toNat*p i):=qbc fun i hi=>by
  have:=g i hi
  rw [show (((genN n i).toNat:Nat):Int)=genN n i by omega];rfl
 have e2:sm n.2.2.2.2.1.length (fun i=>F (rI64 t.1 ((loadN n i).toNat:Int)).toNat*((dem n i:Int):Rat))=sm n.2.2.2.2.1.length (fun i=>F (loadB n t i).toNat*((dem n i:Int):Rat)):=qbc fun i hi=>by
  have:=l i hi
  rw [show (((loadN n i).toNat:Nat):Int)=loadN n i by omega];rfl
 rw [e1,e2]
theorem Pure.NetdispatchFlows:NetdispatchFlows.Pure:=by
 intro a0 a1 ok0 ok1 n1
 have hz:NetSz a0:=⟨fun x hx=>Nat.le_trans (ok0.1.2 x hx) (by omega),fun x hx=>Nat.le_trans (ok0.2.1.2 x hx).1 (by omega),fun x hx=>Nat.le_trans (ok0.2.2.1.2 x hx).1 (by omega),fun x hx=>Nat.le_trans (ok0.2.2.2.1.2 x hx).1 (by omega),fun x hx=>Nat.le_trans (ok0.2.2.2.2.1.2 x hx).1 (by omega),fun x hx=>Nat.le_trans (ok0.2.2.2.2.2.2 x hx).1 (by omega)⟩
 have hl1:a1.length*8≤140737488351232:=ok1.1
 have hx1:∀x∈a1,-9223372036854775808≤x∧x≤9223372036854775807:=fun x hx=>ok1.2 x hx
 refine EvP.rounds ?_
 have A:=ten1
 have B:=ten3
 refine EvP.bindE (Ev.now _) (EvP.bindE (a:=([ByteArray.mk #[49,48]],0)) (by obtain ⟨K,hK⟩:=A;exact ⟨K,hK⟩) (EvP.pos rfl (EvP.bindE ten2 (EvP.pos rfl (EvP.bindE (a:=(([ByteArray.mk #[48],ByteArray.mk #[45,49,48]],[ByteArray.mk #[49,48]]),0)) (by obtain ⟨K,hK⟩:=B;exact ⟨K,hK⟩) (EvP.pos rfl (EvP.bindE ten2 (EvP.pos rfl ?_))))))))
 -- behind the texts
 have tail:∀(v:List ByteArray),Ts a1.length (fun i=>((rI64 a1 (i:Int):Int):Rat)) v→(∀i:Nat,i<a1.length→-100000≤rI64 a1 (i:Int)∧rI64 a1 (i:Int)≤100000)→
   EvP (fun k=>(qae.f k a0 v).bind fun r7=>if r7.2=0 then if 0≤(a0.1.length:Int) then if (a0.1.length:Int)*8≤140737488355328 then if (a0.1.length:Int)≤140737488355328 then qaa.l22 k a1 r7.1 a0.2.2.2.1 (a0.2.2.2.1.length:Int) 0 a0.1 a0.2.1 a0.2.2.1 a0.2.2.2.1 a0.2.2.2.2.1 a0.2.2.2.2.2 (List.replicate (a0.1.length:Int).toNat 0) else none else none else none else some (decide ((r7.1.length:Int)=0))) (fun x=>x=true):=by
  intro v hv hr
  have hv':Ts v.length (fun i=>((rI64 a1 (i:Int):Int):Rat)) v:=by rw [hv.1];exact hv
  refine EvP.bind (nflows_ex a0 hz hv') (fun r7 h7=>EvP.ite (fun e=>?_) (fun e=>EvP.ret (by rw [h7.1 e];rfl)))
  obtain ⟨t,r4,X,x0,P,hisl,E,e4,hvl,hsum,hfl⟩:=h7.2 e
  have h:=P.ok
  have ht:=P.top
  have l0:=h.l0
  have l2:=h.l2
  have l3:=h.l3
  have l4:=h.l4
  have hgl:a1.length=a0.2.2.2.1.length:=by rw [←hvl,hv.1]
  refine EvP.pos (by omega) (EvP.pos (by omega) (EvP.pos (by omega) ?_))
  have fin:∀inj:List Int,inj.length=a0.1.length→(∀k:Nat,k<a0.1.length→((rI64 inj (k:Int):Int):Rat)=injK a0 (fun i=>((rI64 a1 (i:Int):Int):Rat)) a0.2.2.2.1.length a0.2.2.2.2.1.length k)→EvP (fun k=>(qbp.f k a0 inj).bind fun r10=>if r10.2=0 then (qar.f k r10.1.2 r7.1).bind fun r11=>some r11 else some true) (fun x=>x=true):=by
   intro inj hil hinj
   refine EvP.bind (fsolve_ev h P.ck ht P.fresh hisl inj (by omega)) (fun r10 h10=>EvP.ite (fun e10=>?_) (fun _=>EvP.ret rfl))
   obtain ⟨_,x,hsol,hfx⟩:=h10 e10
   have eqf:∀b,b<a0.2.2.1.length→Fl a0 t x b=gfl a0 t X x0 (fun i=>((rI64 a1 (i:Int):Int):Rat)) b:=fun b hb=>by
    rw [factors_flow h ht (E.inv e4) (E.sol e4) hsol hb,inj_flow h ht (Fq a0 t X b) _ hinj]
    unfold gfl
    grind
   have:=hfx.1
   have:=hfl.1
   refine EvP.bindE (eqv_run (by omega) (by omega) (fun j hj=>?_)) (EvP.ret rfl)
   have o1:=(hfx.2 j (by omega)).1
   have o2:=(hfl.2 j (by omega)).1
   rw [o1,o2,eqf j (by omega)]
  have loads:∀(d i:Nat) (inj:List Int),i+d=a0.2.2.2.2.1.length→inj.length=a0.1.length→(∀k:Nat,k<a0.1.length→((rI64 inj (k:Int):Int):Rat)=injK a0 (fun i=>((rI64 a1 (i:Int):Int):Rat)) a0.2.2.2.1.length i k∧-1000000 - 100000*(i:Int)≤rI64 inj (k:Int)∧rI64 inj (k:Int)≤1000000)→
    EvP (fun k=>qaa.l30 k r7.1 a0.2.2.2.2.1 (a0.2.2.2.2.1.length:Int) (i:Int) a0.1 a0.2.1 a0.2.2.1 a0.2.2.2.1 a0.2.2.2.2.1 a0.2.2.2.2.2 inj) (fun x=>x=true):=by
   intro d
   induction d with
   |zero=>
    intro i inj hi hil hinj
    have:i=a0.2.2.2.2.1.length:=by omega
    subst this
    exact EvP.step (fun k=>qaa.l30_eq k ..) (EvP.neg (by omega) (fin inj hil (fun k hk=>(hinj k hk).1)))
   |succ d ih=>
    intro i inj hi hil hinj
    obtain ⟨o1,o2,o3⟩:=ld_ok h (show i<a0.2.2.2.2.1.length by omega)
    have o2:0≤(rY15 a0.2.2.2.2.1 (i:Int)).2.2:=o2
    have o3:(rY15 a0.2.2.2.2.1 (i:Int)).2.2≤100000:=o3
    have hx:=qbO o1
    obtain ⟨q,hq⟩:∃q:Nat,idxS a0.1 (rY15 a0.2.2.2.2.1 (i:Int)).2.1=(q:Int):=⟨(idxS a0.1 (rY15 a0.2.2.2.2.1 (i:Int)).2.1).toNat,by omega⟩
    obtain ⟨v1,v2,v3⟩:=hinj q (by omega)
    refine EvP.step (fun k=>qaa.l30_eq k ..) (EvP.pos (by omega) (EvP.pos (by omega) (EvP.pos (by omega) (EvP.bindE (qeJ a0.1 _ (by omega)) ?_))))
    rw [hq]
    refine EvP.neg (by omega) (EvP.pos (by omega) (EvP.pos (by omega) (EvP.pos (by omega) (EvP.pos (by omega) ?_))))
    rw [w64 (x:=(i:Int)+1) (by omega) (by omega),w64 (by omega) (by omega)]
    refine ih (i+1) _ (by omega) (by rw [List.length_set];exact hil) (fun k hk=>?_)
    have es:=qeY (xs:=inj) (i:=(q:Int)) (rI64 inj (q:Int) - (rY15 a0.2.2.2.2.1 (i:Int)).2.2) (by omega) (by omega) (j:=(k:Int)) (by omega)
    rw [es]
    obtain ⟨c1,c2,c3⟩:=hinj k hk
    have en:loadN a0 i=(q:Int):=hq
    by_cases c:k=q
    ·subst c
     rw [if_pos rfl]
     refine ⟨?_,by omega,by omega⟩
     rw [Rat.intCast_sub,v1]
     unfold injK
     rw [qbi,if_pos en]
     unfold dem
     grind
    ·rw [if_neg (by omega)]
     refine ⟨?_,by omega,by omega⟩
     rw [c1]
     unfold injK
     rw [qbi,if_neg (by omega),Rat.add_zero]
  have gens:∀(d i:Nat) (inj:List Int),i+d=a0.2.2.2.1.length→inj.length=a0.1.length→(∀k:Nat,k<a0.1.length→((rI64 inj (k:Int):Int):Rat)=injK a0 (fun i=>((rI64 a1 (i:Int):Int):Rat)) i 0 k∧-100000*(i:Int)≤rI64 inj (k:Int)∧rI64 inj (k:Int)≤100000*(i:Int))→
    EvP (fun k=>qaa.l22 k a1 r7.1 a0.2.2.2.1 (a0.2.2.2.1.length:Int) (i:Int) a0.1 a0.2.1 a0.2.2.1 a0.2.2.2.1 a0.2.2.2.2.1 a0.2.2.2.2.2 inj) (fun x=>x=true):=by
   intro d
   induction d with
   |zero=>
    intro i inj hi hil hinj
    have:i=a0.2.2.2.1.length:=by omega
    subst this
    exact EvP.step (fun k=>qaa.l22_eq k ..) (EvP.neg (by omega) (loads a0.2.2.2.2.1.length 0 inj (by omega) hil (fun k hk=>⟨(hinj k hk).1,by have:=(hinj k hk).2;omega,by have:=(hinj k hk).2;omega⟩)))
   |succ d ih=>
    intro i inj hi hil hinj
    have o1:=gn_ok h (show i<a0.2.2.2.1.length by omega)
    have hx:=qbO o1
    obtain ⟨r1,r2⟩:=hr i (by omega)
    obtain ⟨q,hq⟩:∃q:Nat,idxS a0.1 (rY13 a0.2.2.2.1 (i:Int)).2.1=(q:Int):=⟨(idxS a0.1 (rY13 a0.2.2.2.1 (i:Int)).2.1).toNat,by omega⟩
    obtain ⟨v1,v2,v3⟩:=hinj q (by omega)
    refine EvP.step (fun k=>qaa.l22_eq k ..) (EvP.pos (by omega) (EvP.pos (by omega) (EvP.pos (by omega) (EvP.bindE (qeJ a0.1 _ (by omega)) ?_))))
    rw [hq]
    refine EvP.neg (by omega) (EvP.pos (by omega) (EvP.pos (by omega) (EvP.pos (by omega) (EvP.pos (by omega) (EvP.pos (by omega) (EvP.pos (by omega) ?_))))))
    rw [w64 (x:=(i:Int)+1) (by omega) (by omega),w64 (by omega) (by omega)]
    refine ih (i+1) _ (by omega) (by rw [List.length_set];exact hil) (fun k hk=>?_)
    have es:=qeY (xs:=inj) (i:=(q:Int)) (rI64 inj (q:Int)+rI64 a1 (i:Int)) (by omega) (by omega) (j:=(k:Int)) (by omega)
    rw [es]
    obtain ⟨c1,c2,c3⟩:=hinj k hk
    have en:genN a0 i=(q:Int):=hq
    by_cases c:k=q
    ·subst c
     rw [if_pos rfl]
     refine ⟨?_,by omega,by omega⟩
     rw [Rat.intCast_add,v1]
     unfold injK
     rw [qbi,if_pos en]
     grind
    ·rw [if_neg (by omega)]
     refine ⟨?_,by omega,by omega⟩
     rw [c1]
     unfold injK
     rw [qbi,if_neg (by omega),Rat.add_zero]
  refine gens a0.2.2.2.1.length 0 _ (by omega) (by rw [List.length_replicate];omega) (fun k hk=>?_)
  rw [qb6 (List.replicate (a0.1.length:Int).toNat 0) k 0 (by rw [List.getElem?_replicate,if_pos (by omega)])]
  exact ⟨by unfold injK;show (0:Rat)=0 - 0;grind,by omega,by omega⟩
 have texts:∀(d i:Nat) (v:List ByteArray),i+d=a1.length→Ts i (fun i=>((rI64 a1 (i:Int):Int):Rat)) v→(∀j:Nat,j<i→-100000≤rI64 a1 (j:Int)∧rI64 a1 (j:Int)≤100000)→EvP (fun k=>qaa.l10 k a1 a1 (a1.length:Int) (i:Int) a0.1 a0.2.1 a0.2.2.1 a0.2.2.2.1 a0.2.2.2.2.1 a0.2.2.2.2.2 v) (fun x=>x=true):=by
  intro d
  induction d with
  |zero=>
   intro i v hi hv hr
   have:i=a1.length:=by omega
   subst this
   exact EvP.step (fun k=>qaa.qeK k ..) (EvP.neg (by omega) (tail v hv hr))
  |succ d ih=>
   intro i v hi hv hr
   obtain ⟨x0,x1⟩:=hx1 _ (qd4 (xs:=a1) (i:=(i:Int)) (by omega) (by omega))
   have E1:=ratOf_ev (n:=rI64 a1 (i:Int)) (by omega) (by omega)
   have F1:=fit_int (n:=rI64 a1 (i:Int)) (by omega) (by omega)
   rw [if_pos F1] at E1
   have vl:=hv.1
   refine EvP.step (fun k=>qaa.qeK k ..) (EvP.pos (by omega) (EvP.pos (by omega) (EvP.pos (by omega) (EvP.bindE E1 (EvP.pos rfl (EvP.ite (fun _=>EvP.ret rfl) (fun c1=>EvP.ite (fun _=>EvP.ret rfl) (fun c2=>EvP.pos (by show (v.length+1)*16≤140737488355328;omega) ?_))))))))
   have c1:¬rI64 a1 (i:Int) < -100000:=c1
   have c2:¬100000<rI64 a1 (i:Int):=c2
   rw [w64 (by omega) (by omega)]
   refine ih (i+1) _ (by omega) (hv.app ⟨rfl,F1⟩) (fun j hj=>?_)
   by_cases c:j=i
   ·rw [c];omega
   ·exact hr j (by omega)
 exact texts a1.length 0 [] (by omega) (Ts.nil _) (fun j hj=>by omega)
end Go.Proofs.YtfobeapcmgjhbaaGreatDoor.VE
