/- Texts behind the law RightsFit, part 21 (no statement is proved here). -/
import Derived.Test.YtfobeapcmgjhbaaGreatDoorKRightsFit20
namespace Go.Proofs.YtfobeapcmgjhbaaGreatDoor.VE
open Go Go.RowKit
set_option linter.unusedVariables false
attribute [local irreducible] wrap64
def absQ (q:Rat):Rat:=if q<0 then -q else q
theorem absQ_le (q c:Rat):absQ q≤c↔q≤c∧-c≤q:=by
 unfold absQ
 split<;>constructor<;>intro h<;>first|exact ⟨by grind,by grind⟩|grind
theorem abs_ev {L:Nat} {q:Rat} {r:QT} (h:Rp L q r):EvP (fun k=>qcc.f k r) (Rp L (absQ q)):=by
 refine EvP.ret ?_
 have hs:=h.sgn
 unfold absQ
 by_cases e:q<0
 ·rw [if_pos e]
  have e2:(-q).num=-q.num:=rfl
  have e3:(-q).den=q.den:=rfl
  have e4:=(qc8 q).2 e
  refine ⟨?_,?_,?_,?_,?_⟩
  ·show false=decide ((-q).num<0)
   rw [e2];exact (decide_eq_false (by omega)).symm
  ·rw [e2,Int.natAbs_neg];exact h.num
  ·rw [e3];exact h.den
  ·rw [e2,Int.natAbs_neg];exact h.ln
  ·rw [e3];exact h.ld
 ·rw [if_neg e]
  have e4:¬q.num<0:=fun c=>e ((qc8 q).1 c)
  exact ⟨(decide_eq_false e4).symm,h.num,h.den,h.ln,h.ld⟩
def rfl_ (n:NetT) (t:List Int×List Int) (X:Mt) (x0:Nat→Rat) (l:List LdT) (m b:Nat):Rat:=Fl n t x0 b+sm m (fun i=>(Fq n t X b (busS n t (rY15 l (i:Int)).1).toNat - Fq n t X b (busS n t (rY15 l (i:Int)).2.1).toNat)*(((rY15 l (i:Int)).2.2:Int):Rat))
structure RfP (n:NetT) (l:List LdT) (t:List Int×List Int) (X:Mt) (x0:Nat→Rat):Prop where
 ok:NetOk n
 ck:Ev (fun k=>qad.f k n) 0
 top:TopoP n t
 fresh:Ev (fun k=>qaM.f k n) t
 isl:∀i:Nat,i<t.2.length→rI64 t.2 (i:Int)=0
 inv:InvP n t (t.2.length - 1) X
 sol:SolP n t (fun _=>0) x0
 ll:l.length≤12
 items:∀x∈l,RiP n x
theorem isl_run {α:Type} {loop:Nat→Int→Option α} (il:List Int) (hb:il.length≤1000) {no:α} {fin:Nat→Option α} {Q:α→Prop}
  (step:∀(j:Nat),j<il.length→∀Q:α→Prop,EvP (fun k=>if rI64 il (j:Int)=0 then loop k ((j:Int)+1) else some no) Q→EvP (fun k=>loop k (j:Int)) Q)
  (done:∀Q:α→Prop,EvP (fun k=>fin k) Q→EvP (fun k=>loop k (il.length:Int)) Q) (hno:Q no) (hfin:(∀i:Nat,i<il.length→rI64 il (i:Int)=0)→EvP (fun k=>fin k) Q) :
  ∀(d j:Nat),j+d=il.length→(∀i:Nat,i<j→rI64 il (i:Int)=0)→EvP (fun k=>loop k (j:Int)) Q
 |0,j,hj,h=>by
  have:j=il.length:=by omega
  subst this
  exact done Q (hfin h)
 |d+1,j,hj,h=>by
  refine step j (by omega) Q (EvP.ite (fun e=>?_) (fun _=>EvP.ret hno))
  refine isl_run il hb step done hno hfin d (j+1) (by omega) (fun i hi=>?_)
  by_cases c:i=j
  ·rw [c];exact e
  ·exact h i (by omega)
theorem rflows_ex (n:NetT) (hz:NetSz n) (l:List LdT):EvP (fun k=>qai.f k n l) (fun r=>(r.2≠0→r.1=[])∧(r.2=0→∃t X x0,RfP n l t X x0∧Ts n.2.2.1.length (rfl_ n t X x0 l l.length) r.1)):=by
 refine EvP.bind (rcheck_ex n hz l) (fun r1 h1=>EvP.ite (fun e=>?_) (fun e=>EvP.ret ⟨fun _=>rfl,fun e'=>absurd e' e⟩))
 obtain ⟨hok,hc,hl,hx⟩:=h1 e
 refine EvP.ite (fun _=>EvP.ret ⟨fun _=>rfl,fun e'=>absurd e' (by decide)⟩) (fun _=>?_)
 obtain ⟨t,hF,ht⟩:=fresh_ex n hok
 have hTopo:Ev (fun k=>qbz.f k n) (t,0):=Ev.bind hc (Ev.pos rfl (Ev.bind hF (Ev.now _)))
 have l0:=hok.l0
 have l2:=hok.l2
 have li:=ht.li
 refine EvP.bindE hTopo (EvP.pos rfl ?_)
 refine isl_run (loop:=fun k j=>qai.l10 k l t.2 (t.2.length:Int) j n.1 n.2.1 n.2.2.1 n.2.2.2.1 n.2.2.2.2.1 n.2.2.2.2.2 t.1 t.2) t.2 (by omega) (no:=([],15)) (fin:=fun k=>(qae.f k n).bind fun r3=>if r3.2=0 then qai.l20 k l (r3.1.2.2.2.1.length:Int) 0 n.1 n.2.1 n.2.2.1 n.2.2.2.1 n.2.2.2.2.1 n.2.2.2.2.2 t.1 t.2 r3.1.1 r3.1.2.1 r3.1.2.2.1 r3.1.2.2.2.1 r3.1.2.2.2.2.1 r3.1.2.2.2.2.2.1 r3.1.2.2.2.2.2.2 [] else some ([],r3.2)) ?_ ?_ ?_ ?_ t.2.length 0 (by omega) (fun i hi=>by omega)
 ·intro j hj Q hk
  refine EvP.step (fun k=>qai.qdd k ..) (EvP.pos (by omega) (EvP.pos (by omega) (EvP.pos (by omega) ?_)))
  rw [w64 (by omega) (by omega)]
  exact hk
 ·intro Q hk
  exact EvP.step (fun k=>qai.qdd k ..) (EvP.neg (by omega) hk)
 ·exact ⟨fun _=>rfl,fun e'=>absurd e' (by decide)⟩
 ·intro hisl
  refine EvP.bind (grid_ev hok hc ht hF hisl) (fun r3 h3=>EvP.ite (fun e3=>?_) (fun e3=>EvP.ret ⟨fun _=>rfl,fun e'=>absurd e' e3⟩))
  obtain ⟨X,x0,hX,hx0,G⟩:=h3 e3
  have P:RfP n l t X x0:=⟨hok,hc,ht,hF,hisl,hX,hx0,hl,hx⟩
  obtain ⟨⟨nb,gs,ls,fs,bs,lm,D⟩,er⟩:=r3
  have e1:fs.length=n.2.2.1.length:=G.fac.1
  have e2:bs.length=n.2.2.1.length:=G.base.1
  show EvP (fun k=>qai.l20 k l (fs.length:Int) 0 n.1 n.2.1 n.2.2.1 n.2.2.2.1 n.2.2.2.2.1 n.2.2.2.2.2 t.1 t.2 nb gs ls fs bs lm D []) _
  have outer:∀(d b:Nat) (out:List ByteArray),b+d=n.2.2.1.length→Ts b (rfl_ n t X x0 l l.length) out→EvP (fun k=>qai.l20 k l (fs.length:Int) (b:Int) n.1 n.2.1 n.2.2.1 n.2.2.2.1 n.2.2.2.2.1 n.2.2.2.2.2 t.1 t.2 nb gs ls fs bs lm D out) (fun r=>(r.2≠0→r.1=[])∧(r.2=0→∃t X x0,RfP n l t X x0∧Ts n.2.2.1.length (rfl_ n t X x0 l l.length) r.1)):=by
   intro d
   induction d with
   |zero=>
    intro b out hb ho
    have:b=n.2.2.1.length:=by omega
    subst this
    exact EvP.step (fun k=>qai.qdM k ..) (EvP.neg (by omega) (EvP.ret ⟨fun e'=>absurd rfl e',fun _=>⟨t,X,x0,P,ho⟩⟩))
   |succ d ih=>
    intro b out hb ho
    have hbb:b<n.2.2.1.length:=by omega
    have eo:=ho.1
    have hrow:=G.fac.rowN hbb
    have hrl:(rL122 fs (b:Int)).length=t.2.length:=hrow.1
    refine EvP.step (fun k=>qai.qdM k ..) (EvP.pos (by omega) (EvP.pos (by omega) (EvP.pos (by omega) ?_)))
    have inner:∀(e i:Nat) (f:QT),i+e=l.length→Rp (2000+4005*i) (rfl_ n t X x0 l i b) f→EvP (fun k=>qai.l24 k l (b:Int) (fs.length:Int) (b:Int) l (l.length:Int) (i:Int) n.1 n.2.1 n.2.2.1 n.2.2.2.1 n.2.2.2.2.1 n.2.2.2.2.2 t.1 t.2 nb gs ls fs bs lm D out f.1 f.2.1 f.2.2) (fun r=>(r.2≠0→r.1=[])∧(r.2=0→∃t X x0,RfP n l t X x0∧Ts n.2.2.1.length (rfl_ n t X x0 l l.length) r.1)):=by
     intro e
     induction e with
     |zero=>
      intro i f hi hf
      have:i=l.length:=by omega
      subst this
      refine EvP.step (fun k=>qai.l24_eq k ..) (EvP.neg (by omega) (EvP.bindE (fits_ev hf (by omega)) ?_))
      by_cases q:Fit (rfl_ n t X x0 l l.length b)
      ·rw [if_pos q]
       refine EvP.pos rfl (EvP.bindE (out_ev hf (by omega)) (EvP.pos (by show (out.length+1)*16≤_;omega) ?_))
       rw [w64 (by omega) (by omega)]
       exact ih (b+1) _ (by omega) (ho.app ⟨rfl,q⟩)
      ·rw [if_neg q]
       exact EvP.neg (by decide) (EvP.ret ⟨fun _=>rfl,fun e'=>absurd e' (by decide)⟩)
     |succ e ihe=>
      intro i f hi hf
      obtain ⟨m1,m2,p1,p2⟩:=hx _ (rY15_mem (xs:=l) (i:=(i:Int)) (by omega) (by omega))
      obtain ⟨a0,a1⟩:=qe7 ht m1
      obtain ⟨b0,b1⟩:=qe7 ht m2
      refine EvP.step (fun k=>qai.l24_eq k ..) (EvP.pos (by omega) (EvP.pos (by omega) (EvP.pos (by omega) (EvP.pos (by omega) (EvP.pos (by omega) (EvP.bindE (rbus_ev hok hc ht m1) (EvP.pos a0 (EvP.pos (by omega) (EvP.pos (by omega) (EvP.pos (by omega) (EvP.bindE (rbus_ev hok hc ht m2) (EvP.pos b0 (EvP.pos (by omega) ?_)))))))))))))
      refine EvP.bind (qc0 (hrow.get a0 a1) (hrow.get b0 b1) (by omega)) (fun r6 h6=>EvP.bind (qeR (by omega) (by omega)) (fun r7 h7=>EvP.bind (qfx h6 h7 (by omega)) (fun r8 h8=>EvP.bind (qeJ hf h8 (by omega)) (fun r9 h9=>?_))))
      rw [w64 (by omega) (by omega)]
      refine ihe (i+1) r9 (by omega) ((h9.up (by omega)).eq ?_)
      unfold rfl_
      rw [qbx];grind
    exact inner l.length 0 _ (by omega) (((G.base.2 b hbb).up (by omega)).eq (by unfold rfl_;show _=_+(0:Rat);grind))
  exact outer n.2.2.1.length 0 [] (by omega) (Ts.nil _)
def FitB (n:NetT) (f:Nat→Rat) (m:Nat):Prop:=∀b,b<m→absQ (f b)≤(((brk n b).2.2.2.2.2.2.1:Int):Rat)
theorem lim_rng {n:NetT} (h:NetOk n) {b:Nat} (hb:b<n.2.2.1.length):0≤(brk n b).2.2.2.2.2.2.1∧(brk n b).2.2.2.2.2.2.1≤100000:=by
 have ok:=(qgt h hb).2.2
 unfold BrOk at ok
 omega
theorem feas_run {n:NetT} (h:NetOk n) {f:Nat→Rat} {fl:List ByteArray} (hf:Ts n.2.2.1.length f fl):∀(d b:Nat),b+d=n.2.2.1.length→FitB n f b→EvP (fun k=>qaE.l5 k fl (fl.length:Int) (b:Int) n.1 n.2.1 n.2.2.1 n.2.2.2.1 n.2.2.2.2.1 n.2.2.2.2.2) (fun r=>r.2=0∧(r.1=true↔FitB n f n.2.2.1.length))
 |0,b,hb,hfit=>by
  have e:=hf.1
  have:b=n.2.2.1.length:=by omega
  subst this
  exact EvP.step (fun k=>qaE.l5_eq k ..) (EvP.neg (by omega) (EvP.ret ⟨rfl,fun _=>hfit,fun _=>rfl⟩))
 |d+1,b,hb,hfit=>by
  have e:=hf.1
  have l2:=h.l2
  have hbb:b<n.2.2.1.length:=by omega
  obtain ⟨l0,l1⟩:=lim_rng h hbb
  have l0:0≤(rY11 n.2.2.1 (b:Int)).2.2.2.2.2.2.1:=l0
  have l1:(rY11 n.2.2.1 (b:Int)).2.2.2.2.2.2.1≤100000:=l1
  refine EvP.step (fun k=>qaE.l5_eq k ..) (EvP.pos (by omega) (EvP.pos (by omega) (EvP.pos (by omega) (EvP.bind (in_ev (hf.2 b hbb)) (fun r2 h2=>EvP.bind (abs_ev h2) (fun r3 h3=>EvP.pos (by omega) (EvP.pos (by omega) ?_)))))))
  refine EvP.bind (qeR (by omega) (by omega)) (fun r4 h4=>EvP.bindE (cmpQ_ev h3 h4 (by omega)) (EvP.ite (fun c=>EvP.ret ⟨rfl,fun e'=>(by cases e'),fun hall=>?_⟩) (fun c=>?_)))
  ·have:=(sgnQ_pos _).1 c
   have:=hall b hbb
   unfold brk at this
   grind
  ·have c:¬0<absQ (f b) - (((rY11 n.2.2.1 (b:Int)).2.2.2.2.2.2.1:Int):Rat):=fun e'=>c ((sgnQ_pos _).2 e')
   rw [w64 (by omega) (by omega)]
   refine feas_run h hf d (b+1) (by omega) (fun i hi=>?_)
   by_cases q:i=b
   ·rw [q]
    unfold brk
    grind
   ·exact hfit i (by omega)
theorem feasible_ev {n:NetT} {l:List LdT} {r:List ByteArray×Int} (hr:Ev (fun k=>qai.f k n l) r) (h1:r.2=0→NetOk n∧∃f,Ts n.2.2.1.length f r.1):EvP (fun k=>qaE.f k n l) (fun z=>(r.2≠0→z=(false,r.2))∧(r.2=0→z.2=0∧∀f,Ts n.2.2.1.length f r.1→(z.1=true↔FitB n f n.2.2.1.length))):=by
 refine EvP.bindE hr (EvP.ite (fun e=>?_) (fun e=>EvP.ret ⟨fun _=>rfl,fun e'=>absurd e' e⟩))
 obtain ⟨hok,f,hf⟩:=h1 e
 refine (feas_run hok hf n.2.2.1.length 0 (by omega) (fun b hb=>by omega)).mono (fun z hz=>⟨fun e'=>absurd e e',fun _=>⟨hz.1,fun f' hf'=>?_⟩⟩)
 have:∀b,b<n.2.2.1.length→f' b=f b:=fun b hb=>outOk_uniq (hf'.2 b hb).1 (hf.2 b hb)
 rw [hz.2]
 constructor
 ·intro h b hb;rw [this b hb];exact h b hb
 ·intro h b hb;rw [←this b hb];exact h b hb
end Go.Proofs.YtfobeapcmgjhbaaGreatDoor.VE
