/- Texts behind the law NetdispatchFlows, part 22 (no statement is proved here). -/
import Derived.Test.YtfobeapcmgjhbaaGreatDoorKNetdispatchFlows21
namespace Go.Proofs.YtfobeapcmgjhbaaGreatDoor.VE
open Go Go.RowKit
set_option linter.unusedVariables false
attribute [local irreducible] wrap64
attribute [local irreducible] rd
def LN:Nat:=70000
def gfl (n:NetT) (t:List Int×List Int) (X:Mt) (x0 p:Nat→Rat) (b:Nat):Rat:=Fl n t x0 b+sm n.2.2.2.1.length (fun i=>Fq n t X b (genB n t i).toNat*p i) - sm n.2.2.2.2.1.length (fun i=>Fq n t X b (loadB n t i).toNat*((dem n i:Int):Rat))
theorem genB_rng {n:NetT} (h:NetOk n) {t:List Int×List Int} (ht:TopoP n t) {i:Nat} (hi:i<n.2.2.2.1.length):0≤genB n t i∧genB n t i<t.2.length:=qe6 ht (gn_ok h hi)
theorem loadB_rng {n:NetT} (h:NetOk n) {t:List Int×List Int} (ht:TopoP n t) {i:Nat} (hi:i<n.2.2.2.2.1.length):0≤loadB n t i∧loadB n t i<t.2.length:=qe6 ht (ld_ok h hi).1
theorem nflow_ev {n:NetT} (h:NetOk n) {t:List Int×List Int} (ht:TopoP n t) {X:Mt} {x0:Nat→Rat} {g:GrT} (G:GrdP n t X x0 g) {p:Nat→Rat} {pl:List ByteArray} (hp:Ts n.2.2.2.1.length p pl) {b:Nat} (hb:b<n.2.2.1.length):EvP (fun k=>qaq.f k g n pl (b:Int)) (Rp LN (gfl n t X x0 p b)):=by
 have G0:=G
 obtain ⟨nb,gs,ls,fs,bs,lm,D⟩:=g
 have l2:=h.l2
 have l3:=h.l3
 have l4:=h.l4
 have e1:fs.length=n.2.2.1.length:=G.fac.1
 have e2:bs.length=n.2.2.1.length:=G.base.1
 have e3:gs.length=n.2.2.2.1.length:=G.gl
 have e4:ls.length=n.2.2.2.2.1.length:=G.ll
 have hrow:=G.fac.rowN hb
 have hrl:(rL122 fs (b:Int)).length=t.2.length:=hrow.1
 have pl0:=hp.1
 have loads:∀(d i:Nat) (f:QT),i+d=n.2.2.2.2.1.length→Rp (42010+2004*i) (Fl n t x0 b+sm n.2.2.2.1.length (fun i=>Fq n t X b (genB n t i).toNat*p i) - sm i (fun i=>Fq n t X b (loadB n t i).toNat*((dem n i:Int):Rat))) f→
   EvP (fun k=>qaq.l8 k (b:Int) n.2.2.2.2.1 (n.2.2.2.2.1.length:Int) (i:Int) nb gs ls fs bs lm D false f.1 f.2.1 f.2.2) (Rp LN (gfl n t X x0 p b)):=by
  intro d
  induction d with
  |zero=>
   intro i f hi hf
   have:i=n.2.2.2.2.1.length:=by omega
   subst this
   exact EvP.step (fun k=>qaq.l8_eq k ..) (EvP.neg (by omega) (EvP.ret (hf.up (by show _≤70000;omega))))
  |succ d ih=>
   intro i f hi hf
   obtain ⟨b0,b1⟩:=loadB_rng h ht (show i<n.2.2.2.2.1.length by omega)
   obtain ⟨_,d0,d1⟩:=ld_ok h (show i<n.2.2.2.2.1.length by omega)
   have el:rI64 ls (i:Int)=loadB n t i:=G.loads i (by omega)
   refine EvP.step (fun k=>qaq.l8_eq k ..) (EvP.pos (by omega) (EvP.pos (by omega) (EvP.pos (by omega) (EvP.pos (by omega) (EvP.pos (by omega) (EvP.pos (by omega) (EvP.pos (by omega) ?_)))))))
   rw [el,w64 (by omega) (by omega)]
   refine EvP.pos b0 (EvP.pos (by omega) (EvP.bind (qeL (a:=dem n i) (by omega) (by omega)) (fun r4 h4=>EvP.bind (qeq (hrow.get b0 b1) h4 (by omega)) (fun r5 h5=>EvP.bind (qc7 hf h5 (by omega)) (fun r6 h6=>ih (i+1) r6 (by omega) ((h6.up (by omega)).eq ?_))))))
   rw [qbi];grind
 have gens:∀(d i:Nat) (f:QT),i+d=n.2.2.2.1.length→Rp (2000+4001*i) (Fl n t x0 b+sm i (fun i=>Fq n t X b (genB n t i).toNat*p i)) f→
   EvP (fun k=>qaq.l3 k (b:Int) pl (pl.length:Int) (i:Int) nb gs ls fs bs lm D n.1 n.2.1 n.2.2.1 n.2.2.2.1 n.2.2.2.2.1 n.2.2.2.2.2 false f.1 f.2.1 f.2.2) (Rp LN (gfl n t X x0 p b)):=by
  intro d
  induction d with
  |zero=>
   intro i f hi hf
   have:i=n.2.2.2.1.length:=by omega
   subst this
   refine EvP.step (fun k=>qaq.l3_eq k ..) (EvP.neg (by omega) ?_)
   refine loads n.2.2.2.2.1.length 0 f (by omega) ((hf.up (by omega)).eq ?_)
   show _=_ - (0:Rat)
   grind
  |succ d ih=>
   intro i f hi hf
   obtain ⟨b0,b1⟩:=genB_rng h ht (show i<n.2.2.2.1.length by omega)
   have el:rI64 gs (i:Int)=genB n t i:=G.gens i (by omega)
   refine EvP.step (fun k=>qaq.l3_eq k ..) (EvP.pos (by omega) (EvP.pos (by omega) (EvP.pos (by omega) (EvP.pos (by omega) (EvP.pos (by omega) (EvP.pos (by omega) (EvP.pos (by omega) ?_)))))))
   rw [el,w64 (by omega) (by omega)]
   refine EvP.pos b0 (EvP.pos (by omega) (EvP.bind (in_ev (hp.2 i (by omega))) (fun r1 h1=>EvP.bind (qeq (hrow.get b0 b1) h1 (by omega)) (fun r2 h2=>EvP.bind (qdV hf h2 (by omega)) (fun r3 h3=>ih (i+1) r3 (by omega) ((h3.up (by omega)).eq ?_))))))
   rw [qbi];grind
 refine EvP.pos (by omega) (EvP.pos (by show (b:Int)<(bs.length:Int);omega) ?_)
 exact gens n.2.2.2.1.length 0 _ (by omega) (((G.base.2 b hb).up (by omega)).eq (by show _=_+(0:Rat);grind))
structure NetP (n:NetT) (t:List Int×List Int):Prop where
 ok:NetOk n
 ck:Ev (fun k=>qaf.f k n) 0
 top:TopoP n t
 fresh:Ev (fun k=>qaM.f k n) t
theorem NetP.topo {n:NetT} {t:List Int×List Int} (P:NetP n t):Ev (fun k=>qbv.f k n) (t,0):=Ev.bind P.ck (Ev.pos rfl (Ev.bind P.fresh (Ev.now _)))
def Isl (t:List Int×List Int):Prop:=∀i:Nat,i<t.2.length→rI64 t.2 (i:Int)=0
structure GrE (n:NetT) (t:List Int×List Int) (r:GrT×Int) (X:Mt) (x0:Nat→Rat):Prop where
 ev:Ev (fun k=>qag.f k n) r
 inv:r.2=0→InvP n t (t.2.length - 1) X
 sol:r.2=0→SolP n t (fun _=>0) x0
 grd:r.2=0→GrdP n t X x0 r.1
theorem NetP.grid {n:NetT} {t:List Int×List Int} (P:NetP n t) (hi:Isl t):∃r X x0,GrE n t r X x0:=by
 obtain ⟨r,hr,h⟩:=grid_ev P.ok P.ck P.top P.fresh hi
 by_cases e:r.2=0
 ·obtain ⟨X,x0,h1,h2,h3⟩:=h e
  exact ⟨r,X,x0,hr,fun _=>h1,fun _=>h2,fun _=>h3⟩
 ·exact ⟨r,fun _ _=>0,fun _=>0,hr,fun q=>absurd q e,fun q=>absurd q e,fun q=>absurd q e⟩
theorem out_size {L:Nat} {q:Rat} {r:QT} (h:Rp L q r):(ofBytes (outL q)).size≤18*L+4:=by
 rw [qcI (qdi q)]
 have h1:=qfa q.num.natAbs
 have h2:=qfa q.den
 have h3:=h.ln
 have h4:=h.ld
 unfold outL
 rw [List.length_append,List.length_append]
 split<;>split<;>simp<;>omega
theorem nflows_ev {n:NetT} {t:List Int×List Int} (P:NetP n t) {r4:GrT×Int} {X:Mt} {x0:Nat→Rat} (hE:Isl t→GrE n t r4 X x0) {p:Nat→Rat} {pl:List ByteArray} (hp:Ts n.2.2.2.1.length p pl) :
  EvP (fun k=>qae.f k n pl) (fun r=>(r.2≠0→r.1=[])∧(r.2=0→Isl t∧r4.2=0∧sm n.2.2.2.1.length p=sm n.2.2.2.2.1.length (fun i=>((dem n i:Int):Rat))∧Ts n.2.2.1.length (gfl n t X x0 p) r.1)):=by
 have h:=P.ok
 have ht:=P.top
 have l0:=h.l0
 have l2:=h.l2
 have l3:=h.l3
 have li:=ht.li
 have pl0:=hp.1
 refine EvP.bindE P.ck (EvP.pos rfl (EvP.pos (by omega) (EvP.bindE (checkAll_ok (by omega) (fun x hx=>?_)) (EvP.pos rfl (EvP.bindE P.topo (EvP.pos rfl ?_))))))
 ·obtain ⟨i,hi,rfl⟩:=List.mem_iff_getElem.1 hx
  have:=hp.2 i (by omega)
  rw [qeX pl i pl[i] (List.getElem?_eq_getElem hi)] at this
  exact ⟨_,this⟩
 refine isl_run (loop:=fun k j=>qae.l13 k pl t.2 (t.2.length:Int) j n.1 n.2.1 n.2.2.1 n.2.2.2.1 n.2.2.2.2.1 n.2.2.2.2.2) t.2 (by omega) (no:=([],15)) (fin:=fun k=>(qag.f k n).bind fun r4=>if r4.2=0 then (qbh.f k (wrap64 (0 - r4.1.2.2.2.2.2.2))).bind fun r5=>qae.l23 k pl pl (pl.length:Int) 0 n.1 n.2.1 n.2.2.1 n.2.2.2.1 n.2.2.2.2.1 n.2.2.2.2.2 r4.1.1 r4.1.2.1 r4.1.2.2.1 r4.1.2.2.2.1 r4.1.2.2.2.2.1 r4.1.2.2.2.2.2.1 r4.1.2.2.2.2.2.2 r5.1 r5.2.1 r5.2.2 else some ([],r4.2)) ?_ ?_ ?_ ?_ t.2.length 0 (by omega) (fun i hi=>by omega)
 ·intro j hj Q hk
  refine EvP.step (fun k=>qae.l13_eq k ..) (EvP.pos (by omega) (EvP.pos (by omega) (EvP.pos (by omega) ?_)))
  rw [w64 (by omega) (by omega)]
  exact hk
 ·intro Q hk
  exact EvP.step (fun k=>qae.l13_eq k ..) (EvP.neg (by omega) hk)
 ·exact ⟨fun _=>rfl,fun e'=>absurd e' (by decide)⟩
 ·intro hisl
  have E:=hE hisl
  refine EvP.bindE E.ev (EvP.ite (fun e=>?_) (fun e=>EvP.ret ⟨fun _=>rfl,fun e'=>absurd e' e⟩))
  have G:=E.grd e
  have e0:r4.2=0:=e
  obtain ⟨g,er⟩:=r4
  have G0:=G
  obtain ⟨nb,gs,ls,fs,bs,lm,D⟩:=g
  have e1:fs.length=n.2.2.1.length:=G.fac.1
  have dr:0≤D∧D≤1200000:=G.demr
  have hD:((D:Int):Rat)=sm n.2.2.2.2.1.length (fun i=>((dem n i:Int):Rat)):=G.dem
  show EvP (fun k=>(qbh.f k (wrap64 (0 - D))).bind fun r5=>qae.l23 k pl pl (pl.length:Int) 0 n.1 n.2.1 n.2.2.1 n.2.2.2.1 n.2.2.2.2.1 n.2.2.2.2.2 nb gs ls fs bs lm D r5.1 r5.2.1 r5.2.2) _
  rw [w64 (x:=0 - D) (by omega) (by omega)]
  have flows:sm n.2.2.2.1.length p=sm n.2.2.2.2.1.length (fun i=>((dem n i:Int):Rat))→∀(d b:Nat) (out:List ByteArray),b+d=n.2.2.1.length→out.length=b→(∀j:Nat,j<b→rStr out (j:Int)=ofBytes (outL (gfl n t X x0 p j))∧(rStr out (j:Int)).size≤18*LN+4)→
    EvP (fun k=>qae.l31 k pl (fs.length:Int) (b:Int) n.1 n.2.1 n.2.2.1 n.2.2.2.1 n.2.2.2.2.1 n.2.2.2.2.2 nb gs ls fs bs lm D out) (fun r=>(r.2≠0→r.1=[])∧(r.2=0→Isl t∧er=0∧sm n.2.2.2.1.length p=sm n.2.2.2.2.1.length (fun i=>((dem n i:Int):Rat))∧Ts n.2.2.1.length (gfl n t X x0 p) r.1)):=by
   intro hsum d
   induction d with
   |zero=>
    intro b out hb ho1 ho2
    have:b=n.2.2.1.length:=by omega
    subst this
    refine EvP.step (fun k=>qae.l31_eq k ..) (EvP.neg (by omega) ?_)
    have hsz:∀x∈out,x.size≤140737488355328:=fun x hx=>by
     obtain ⟨i,hi,rfl⟩:=List.mem_iff_getElem.1 hx
     have:=(ho2 i (by omega)).2
     rw [qeX out i out[i] (List.getElem?_eq_getElem hi)] at this
     have e:(LN:Nat)=70000:=rfl
     omega
    refine EvP.bind (checkAll_ex (by omega) hsz) (fun r11 h11=>EvP.ite (fun e11=>EvP.ret ⟨fun e'=>absurd rfl e',fun _=>⟨hisl,e0,hsum,ho1,fun j hj=>?_⟩⟩) (fun e11=>EvP.ret ⟨fun _=>rfl,fun e'=>absurd e' (by decide)⟩))
    obtain ⟨h1,_⟩:=ho2 j hj
    obtain ⟨q,hq⟩:=h11 e11 _ (qeW (xs:=out) (i:=(j:Int)) (by omega) (by omega))
    have:=outOk_uniq h1 hq
    exact ⟨h1,this▸hq.2⟩
   |succ d ih=>
    intro b out hb ho1 ho2
    refine EvP.step (fun k=>qae.l31_eq k ..) (EvP.pos (by omega) (EvP.bind (nflow_ev h ht G0 hp (show b<n.2.2.1.length by omega)) (fun r9 h9=>EvP.bindE (out_ev h9 (by decide)) (EvP.pos (by show (out.length+1)*16≤_;omega) ?_))))
    rw [w64 (by omega) (by omega)]
    refine ih (b+1) _ (by omega) (by rw [List.length_append,ho1];rfl) (fun j hj=>?_)
    by_cases c:j=b
    ·subst c
     have:=rStr_app2 (xs:=out) (v:=ofBytes (outL (gfl n t X x0 p j)))
     rw [ho1] at this
     rw [this]
     exact ⟨rfl,out_size h9⟩
    ·rw [rStr_app1 (by omega)]
     exact ho2 j (by omega)
  have sums:∀(d i:Nat) (f:QT),i+d=n.2.2.2.1.length→Rp (3+2001*i) (sm i p - sm n.2.2.2.2.1.length (fun i=>((dem n i:Int):Rat))) f→EvP (fun k=>qae.l23 k pl pl (pl.length:Int) (i:Int) n.1 n.2.1 n.2.2.1 n.2.2.2.1 n.2.2.2.2.1 n.2.2.2.2.2 nb gs ls fs bs lm D f.1 f.2.1 f.2.2) (fun r=>(r.2≠0→r.1=[])∧(r.2=0→Isl t∧er=0∧sm n.2.2.2.1.length p=sm n.2.2.2.2.1.length (fun i=>((dem n i:Int):Rat))∧Ts n.2.2.1.length (gfl n t X x0 p) r.1)):=by
   intro d
   induction d with
   |zero=>
    intro i f hi hf
    have:i=n.2.2.2.1.length:=by omega
    subst this
    refine EvP.step (fun k=>qae.l23_eq k ..) (EvP.neg (by omega) (EvP.bindE (sign_ev hf) (EvP.ite (fun z=>?_) (fun z=>EvP.ret ⟨fun _=>rfl,fun e'=>absurd e' (by decide)⟩))))
    have z:=(qdY _).1 z
    exact flows (by grind) n.2.2.1.length 0 [] (by omega) rfl (fun j hj=>by omega)
   |succ d ih=>
    intro i f hi hf
    refine EvP.step (fun k=>qae.l23_eq k ..) (EvP.pos (by omega) (EvP.pos (by omega) (EvP.pos (by omega) (EvP.bind (in_ev (hp.2 i (by omega))) (fun r6 h6=>EvP.bind (qdV hf h6 (by omega)) (fun r7 h7=>?_))))))
    rw [w64 (by omega) (by omega)]
    refine ih (i+1) r7 (by omega) ((h7.up (by omega)).eq ?_)
    rw [qbi];grind
  refine EvP.bind (qeL (a:=0 - D) (by omega) (by omega)) (fun r5 h5=>sums n.2.2.2.1.length 0 r5 (by omega) (h5.eq ?_))
  rw [Rat.intCast_sub,hD]
  show (0:Rat) - _=0 - _
  rfl
theorem pot_sub (u v:Nat→Rat) (b:Nat):pot (fun i=>u i - v i) b=pot u b - pot v b:=by
 unfold pot
 split<;>grind
theorem factors_flow {n:NetT} (h:NetOk n) {t:List Int×List Int} (ht:TopoP n t) {X:Mt} (hX:InvP n t (t.2.length - 1) X) {x0 x P:Nat→Rat} (h0:SolP n t (fun _=>0) x0) (h1:SolP n t P x) {k:Nat} (hk:k<n.2.2.1.length) :
  Fl n t x k=Fl n t x0 k+sm t.2.length (fun b=>Fq n t X k b*P b):=by
 obtain ⟨⟨wa0,wa1⟩,wb0,wb1⟩:=w_rng h ht hk
 have hu:=hX (fun i=>x i - x0 i) (fun i=>P (i+1)) (fun i hi=>by
  have a:=h1 i hi
  have b:=h0 i hi
  unfold rhsK at a b
  have e:sm (t.2.length - 1) (fun j=>Lap n t i j*(x j - x0 j))=sm (t.2.length - 1) (fun j=>Lap n t i j*x j) - sm (t.2.length - 1) (fun j=>Lap n t i j*x0 j):=by
   rw [←qfi];exact qbc fun j _=>by grind
  rw [e,a,b];grind)
 have pw:∀w:Int,0≤w→w<t.2.length→pot x w.toNat - pot x0 w.toNat=sm (t.2.length - 1) (fun j=>pot (fun i=>X i j) w.toNat*P (j+1)):=by
  intro w w0 w1
  rw [←pot_sub]
  unfold pot
  by_cases e:w.toNat=0
  ·rw [if_pos e]
   exact (qcY fun j _=>by rw [if_pos e,Rat.zero_mul]).symm
  ·rw [if_neg e]
   refine (hu (w.toNat - 1) (by omega)).trans (qbc fun j _=>?_)
   rw [if_neg e]
 have a:=pw _ wa0 wa1
 have b:=pw _ wb0 wb1
 have e2:sm t.2.length (fun b=>Fq n t X k b*P b)=Bq n k*(sm (t.2.length - 1) (fun j=>pot (fun i=>X i j) (w1 n t k).toNat*P (j+1)) - sm (t.2.length - 1) (fun j=>pot (fun i=>X i j) (w2 n t k).toNat*P (j+1))):=by
  rw [←qfi,←qc9]
  have hl:t.2.length=1+(t.2.length - 1):=by omega
  rw [hl,qeT,show 1+(t.2.length - 1) - 1=t.2.length - 1 by omega]
  have z:sm 1 (fun b=>Fq n t X k b*P b)=0:=by
   show 0+Fq n t X k 0*P 0=0
   unfold Fq
   rw [if_pos rfl];grind
  rw [z,Rat.zero_add]
  refine qbc fun j _=>?_
  unfold Fq
  rw [if_neg (by omega),show 1+j - 1=j by omega,show 1+j=j+1 by omega]
  grind
 rw [e2,←a,←b]
 unfold Fl
 grind
theorem sm_pick {K I:Nat} {a:Nat→Int} (ha:∀i,i<I→0≤a i∧a i<(K:Int)) (G p:Nat→Rat):sm K (fun k=>G k*sm I (fun i=>if a i=(k:Int) then p i else 0))=sm I (fun i=>G (a i).toNat*p i):=by
 have e:sm K (fun k=>G k*sm I (fun i=>if a i=(k:Int) then p i else 0))=sm K (fun k=>sm I (fun i=>G k*(if a i=(k:Int) then p i else 0))):=qbc fun k _=>(qc9 _ _ _).symm
 rw [e,qfh]
 refine qbc fun i hi=>?_
 obtain ⟨h0,h1⟩:=ha i hi
 rw [qdC (show (a i).toNat<K by omega) (fun k _ hne=>by rw [if_neg (by omega),Rat.mul_zero]),if_pos (by omega)]
theorem nflows_ex (n:NetT) (hz:NetSz n) {p:Nat→Rat} {pl:List ByteArray} (hp:Ts pl.length p pl):EvP (fun k=>qae.f k n pl) (fun r=>(r.2≠0→r.1=[])∧(r.2=0→∃t r4 X x0,NetP n t∧Isl t∧GrE n t r4 X x0∧r4.2=0∧pl.length=n.2.2.2.1.length∧sm n.2.2.2.1.length p=sm n.2.2.2.2.1.length (fun i=>((dem n i:Int):Rat))∧Ts n.2.2.1.length (gfl n t X x0 p) r.1)):=by
 obtain ⟨r1,hr1,h1⟩:=netCheck_ex n hz
 by_cases e:r1=0
 ·subst e
  have hok:=h1 rfl
  obtain ⟨t,hF,ht⟩:=fresh_ex n hok
  have P:NetP n t:=⟨hok,hr1,ht,hF⟩
  by_cases el:pl.length=n.2.2.2.1.length
  ·by_cases hisl:Isl t
   ·obtain ⟨r4,X,x0,E⟩:=P.grid hisl
    rw [el] at hp
    exact (nflows_ev P (fun _=>E) hp).mono (fun r hr=>⟨hr.1,fun e=>by
     obtain ⟨a1,a2,a3,a4⟩:=hr.2 e
     exact ⟨t,r4,X,x0,P,a1,E,a2,el,a3,a4⟩⟩)
   ·rw [el] at hp
    exact (nflows_ev (r4:=((0,[],[],[],[],[],0),1)) (X:=fun _ _=>0) (x0:=fun _=>0) P (fun h=>absurd h hisl) hp).mono (fun r hr=>⟨hr.1,fun e=>absurd (hr.2 e).1 hisl⟩)
  ·refine EvP.bindE hr1 (EvP.pos rfl (EvP.neg (by omega) (EvP.ret ⟨fun _=>rfl,fun e'=>absurd e' (by decide)⟩)))
 ·exact EvP.bindE hr1 (EvP.neg e (EvP.ret ⟨fun _=>rfl,fun e'=>absurd e' e⟩))
theorem eqv_run {a b:List ByteArray} (hl:a.length=b.length) (hb:a.length≤1000000) (h:∀j:Nat,j<a.length→rStr a (j:Int)=rStr b (j:Int)):Ev (fun k=>qar.f k a b) true:=by
 have loop:∀(d j:Nat),j+d=a.length→Ev (fun k=>qar.l4 k a b (a.length:Int) (j:Int)) true:=by
  intro d
  induction d with
  |zero=>intro j hj;exact Ev.step (fun k=>qar.l4_eq k ..) (Ev.neg (by omega) (Ev.now _))
  |succ d ih=>
   intro j hj
   refine Ev.step (fun k=>qar.l4_eq k ..) (Ev.pos (by omega) (Ev.pos (by omega) (Ev.pos (by omega) (Ev.pos (by omega) (Ev.pos (by omega) (Ev.pos (h j (by omega)) ?_))))))
   rw [w64 (by omega) (by omega)]
   exact ih (j+1) (by omega)
 exact Ev.pos (by omega) (loop a.length 0 (by omega))
end Go.Proofs.YtfobeapcmgjhbaaGreatDoor.VE
