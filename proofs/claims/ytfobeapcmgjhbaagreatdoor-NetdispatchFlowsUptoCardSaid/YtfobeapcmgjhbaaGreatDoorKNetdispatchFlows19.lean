/- Texts behind the law NetdispatchFlows, part 19 (no statement is proved here). -/
import Derived.Test.YtfobeapcmgjhbaaGreatDoorKNetdispatchFlows18
namespace Go.Proofs.YtfobeapcmgjhbaaGreatDoor.VE
open Go Go.RowKit
set_option linter.unusedVariables false
attribute [local irreducible] wrap64
def bT (n:NetT) (t:List Int×List Int) (R:Nat) (r:Nat→Rat):Mt:=fun i j=>if j<R then Lap n t i j else r i
theorem b_row (n:NetT) (t:List Int×List Int) (R:Nat) (r x:Nat→Rat) (i:Nat):rowS (R+1) (bT n t R r) i x=sm R (fun j=>Lap n t i j*x j)+r i*x R:=by
 unfold rowS
 rw [qbi,qbc (n:=R) (g:=fun j=>Lap n t i j*x j) (fun j hj=>by unfold bT;rw [if_pos hj])]
 unfold bT
 rw [if_neg (by omega)]
theorem unique_ev {n:NetT} (h:NetOk n) {t:List Int×List Int} (ht:TopoP n t) (hisl:∀i:Nat,i<t.2.length→rI64 t.2 (i:Int)=0) {g:List (List QT)} (hg:Gd 21 (t.2.length - 1) (t.2.length - 1) (Lap n t) g) {r:Nat→Rat} {b:List QT} (hb:Rw 21 (t.2.length - 1) r b) (hr:∀i,i<t.2.length - 1→Ok n ((10000000:Nat):Rat) (r i)) :
  EvP (fun k=>qat.f k g b ((t.2.length - 1:Nat):Int)) (fun z=>z.2=1∧∃x,Rw LG (t.2.length - 1) x z.1∧∀i,i<t.2.length - 1→sm (t.2.length - 1) (fun j=>Lap n t i j*x j)=r i):=by
 have l0:=h.l0
 have li:=ht.li
 have inj0:=lap_inj h ht hisl
 generalize hR:t.2.length - 1=R at*
 have gl:=hg.1
 have bl:=hb.1
 have outs:∀(S:Mt) (g1:List (List QT)),Gd LG R (R+1) S g1→∀(d k:Nat) (xs:List QT),k+d=R→Rw LG R (fun i=>if i<k then S i R else 0) xs→EvP (fun f=>qat.l18 f (R:Int) g1 (R:Int) (k:Int) xs) (fun z=>z.2=1∧Rw LG R (fun i=>S i R) z.1):=by
  intro S g1 hg1 d
  induction d with
  |zero=>
   intro k xs hk hx
   have:k=R:=by omega
   subst this
   exact EvP.step (fun f=>qat.l18_eq f ..) (EvP.neg (by omega) (EvP.ret ⟨rfl,hx.congr (fun j hj=>if_pos hj)⟩))
  |succ d ih=>
   intro k xs hk hx
   have e1:=hg1.1
   have e2:=hg1.shp.2 k (by omega)
   have e3:=hx.1
   refine EvP.step (fun f=>qat.l18_eq f ..) (EvP.pos (by omega) (EvP.pos (by omega) (EvP.pos (by omega) (EvP.pos (by omega) (EvP.pos (by omega) (EvP.pos (by omega) (EvP.pos (by omega) ?_)))))))
   rw [w64 (by omega) (by omega)]
   refine ih (k+1) _ (by omega) ((hx.set (hg1.cell (i:=k) (j:=R) (by omega) (by omega)) (show k<R by omega)).congr (fun i hi=>?_))
   by_cases q:i=k
   ·rw [if_pos q,if_pos (by omega),q]
   ·rw [if_neg q]
    by_cases q2:i<k
    ·rw [if_pos q2,if_pos (by omega)]
    ·rw [if_neg q2,if_neg (by omega)]
 have rows:∀(d k:Nat) (g':List (List QT)),k+d=R→Gd 21 k (R+1) (bT n t R r) g'→EvP (fun f=>qat.l3 f b (R:Int) g (R:Int) (k:Int) g') (fun z=>z.2=1∧∃x,Rw LG R x z.1∧∀i,i<R→sm R (fun j=>Lap n t i j*x j)=r i):=by
  intro d
  induction d with
  |zero=>
   intro k g' hk hg'
   have:k=R:=by omega
   subst this
   have hok:∀i,i<k→∀j,j<k+1→Ok n ((10000000:Nat):Rat) (bT n t k r i j):=fun i hi j hj=>by
    unfold bT
    split
    ·exact (lap_ok h t (Nat.le_refl _) i j).up (qdR (by omega))
    ·exact hr i hi
   refine EvP.step (fun f=>qat.l3_eq f ..) (EvP.neg (by omega) ?_)
   refine EvP.bind (ech_ev (L:=LG) (hg'.up (by decide)) (FB.ok h (by omega) hok) (lg_grow (by omega)) (by decide) (by omega) (by omega) (by omega)) (fun r1 hr1=>?_)
   obtain ⟨S,c,he,hc,hgS⟩:=hr1
   obtain ⟨p1,p2⟩:=ech_full he (by omega) (fun x hx hs=>inj0 x (fun i hi=>by
    have:=hs i hi
    rw [b_row n t k r x i,hx k (by omega),Rat.mul_zero,Rat.add_zero] at this
    exact this))
   have e1:=hgS.1
   refine EvP.pos (by omega) (EvP.pos (by omega) ?_)
   have e2:(r1.2.drop (Int.toNat (r1.1.length:Int))).take ((Int.toNat (r1.2.length:Int)) - (Int.toNat (r1.1.length:Int)))=[]:=by
    rw [Int.toNat_natCast,Int.toNat_natCast,e1,p1,Nat.sub_self,List.take_zero]
   rw [e2,Int.toNat_natCast,Int.toNat_natCast,e1,p1,Nat.sub_self]
   refine EvP.step (fun f=>qat.l9_eq f ..) (EvP.neg (by omega) (EvP.neg (by omega) (EvP.pos (by omega) (EvP.pos (by omega) (EvP.pos (by omega) ?_)))))
   rw [Int.toNat_natCast,List.length_replicate]
   refine (outs S r1.2 hgS k 0 _ (by omega) ((Rw.zeros (by decide) k).congr (fun i hi=>(if_neg (by omega)).symm))).mono (fun z hz=>⟨hz.1,_,hz.2,fun i hi=>?_⟩)
   have hsol:SolS k (k+1) S (fun j=>if j<k then S j k else -1):=by
    intro i hi
    unfold rowS
    rw [qbi,qdC hi (fun j hj hne=>by
     have:=he.one j (by rw [p1];exact hj) i hi
     rw [p2 j hj,if_neg (fun e=>hne e.symm)] at this
     rw [this,Rat.zero_mul])]
    have h4:=he.one i (by rw [p1];exact hi) i hi
    rw [p2 i hi,if_pos rfl] at h4
    rw [h4]
    show (1:Rat)*(if i<k then S i k else -1)+S i k*(if k<k then S k k else -1)=0
    rw [if_pos hi,if_neg (by omega)]
    grind
   have h3:=(he.sol _).2 hsol i hi
   rw [b_row] at h3
   change sm k (fun j=>Lap n t i j*(if j<k then S j k else -1))+r i*(if k<k then S k k else -1)=0 at h3
   rw [if_neg (by omega),qbc (g:=fun j=>Lap n t i j*S j k) (fun j hj=>by rw [if_pos hj])] at h3
   grind
  |succ d ih=>
   intro k g' hk hg'
   have hrow:=hg.rowN (show k<R by omega)
   have e1:=hrow.1
   have e2:=hg'.1
   refine EvP.step (fun f=>qat.l3_eq f ..) (EvP.pos (by omega) (EvP.pos (by omega) (EvP.pos (by omega) (EvP.pos (by show (0+(rL122 g (k:Int)).length)*56≤_;omega) (EvP.pos (by omega) (EvP.pos (by omega) (EvP.pos (by show ((rL122 g (k:Int)).length+1)*56≤_;omega) (EvP.pos (by omega) ?_))))))))
   rw [w64 (by omega) (by omega),List.nil_append]
   refine ih (k+1) _ (by omega) ((hg'.app (hrow.app (hb.2 k (by omega)))).congr (fun i _ j hj=>?_))
   unfold bT
   by_cases q:i=k
   ·rw [if_pos q]
    by_cases q2:j=R
    ·rw [if_pos q2,if_neg (by omega),q]
    ·rw [if_neg q2,if_pos (by omega),q]
   ·rw [if_neg q]
 have:=rows R 0 [] (by omega) (Gd.nil _)
 refine EvP.congr (fun k=>?_) this
 show qat.l3 k b (R:Int) g (g.length:Int) 0 []=_
 rw [gl];rfl
def Pb (n:NetT) (t:List Int×List Int) (inj:List Int) (m b:Nat):Rat:=sm m (fun i=>if rI64 t.1 (i:Int)=(b:Int) then ((rI64 inj (i:Int):Int):Rat) else 0)
def InjOk (n:NetT) (inj:List Int):Prop:=inj.length=n.1.length∧∀i:Nat,i<n.1.length→-100000≤rI64 inj (i:Int)∧rI64 inj (i:Int)≤100000
theorem powers_ev {n:NetT} (h:NetOk n) {t:List Int×List Int} (ht:TopoP n t) {m:MT} (M:ModP n t m) {inj:List Int} (hi:InjOk n inj):EvP (fun k=>qam.f k m inj) (Rw 3 t.2.length (Pb n t inj n.1.length)):=by
 obtain ⟨⟨b0,i0⟩,W,Bs,Ss,pl,rows⟩:=m
 have htop:(b0,i0)=t:=M.top
 have hb0:b0=t.1:=by rw [←htop]
 have hpl:pl.length=t.2.length:=M.pl
 have l0:=h.l0
 have li:=ht.li
 have lb:=ht.lb
 have il:=hi.1
 subst hb0
 have outs:∀(xs:List Int),xs.length=t.2.length→(∀b:Nat,b<t.2.length→((rI64 xs (b:Int):Int):Rat)=Pb n t inj n.1.length b∧-2400000≤rI64 xs (b:Int)∧rI64 xs (b:Int)≤2400000)→∀(d k:Nat) (out:List QT),k+d=t.2.length→Rw 3 k (Pb n t inj n.1.length) out→
   EvP (fun f=>qam.l9 f (t.2.length:Int) (k:Int) out xs) (Rw 3 t.2.length (Pb n t inj n.1.length)):=by
  intro xs hx hv d
  induction d with
  |zero=>
   intro k out hk ho
   have:k=t.2.length:=by omega
   subst this
   exact EvP.step (fun f=>qam.l9_eq f ..) (EvP.neg (by omega) (EvP.ret ho))
  |succ d ih=>
   intro k out hk ho
   have e1:=ho.1
   obtain ⟨v1,v2,v3⟩:=hv k (by omega)
   refine EvP.step (fun f=>qam.l9_eq f ..) (EvP.pos (by omega) (EvP.pos (by omega) (EvP.pos (by omega) (EvP.bind (qeL (by omega) (by omega)) (fun r1 h1=>EvP.pos (by show (out.length+1)*56≤_;omega) ?_)))))
   rw [w64 (by omega) (by omega)]
   refine ih (k+1) _ (by omega) ((ho.app (h1.eq v1)).congr (fun i hi=>?_))
   by_cases q:i=k
   ·rw [if_pos q,q]
   ·rw [if_neg q]
 have sums:∀(d k:Nat) (xs:List Int),k+d=n.1.length→xs.length=t.2.length→(∀b:Nat,b<t.2.length→((rI64 xs (b:Int):Int):Rat)=Pb n t inj k b∧-100000*(k:Int)≤rI64 xs (b:Int)∧rI64 xs (b:Int)≤100000*(k:Int))→
   EvP (fun f=>qam.l3 f inj (inj.length:Int) (k:Int) t.1 i0 W Bs Ss pl rows xs) (Rw 3 t.2.length (Pb n t inj n.1.length)):=by
  intro d
  induction d with
  |zero=>
   intro k xs hk hx hv
   have:k=n.1.length:=by omega
   subst this
   refine EvP.step (fun f=>qam.l3_eq f ..) (EvP.neg (by omega) ?_)
   rw [hx]
   exact outs xs hx (fun b hb=>⟨(hv b hb).1,by have:=(hv b hb).2;omega,by have:=(hv b hb).2;omega⟩) t.2.length 0 [] (by omega) (Rw.nil _)
  |succ d ih=>
   intro k xs hk hx hv
   obtain ⟨u1,u2⟩:=ht.bus k (by omega)
   obtain ⟨i1,i2⟩:=hi.2 k (by omega)
   obtain ⟨b,hb⟩:∃b:Nat,rI64 t.1 (k:Int)=(b:Int):=⟨(rI64 t.1 (k:Int)).toNat,by omega⟩
   obtain ⟨v1,v2,v3⟩:=hv b (by omega)
   refine EvP.step (fun f=>qam.l3_eq f ..) (EvP.pos (by omega) (EvP.pos (by omega) (EvP.pos (by omega) (EvP.pos (by omega) (EvP.pos (by omega) ?_)))))
   rw [hb]
   refine EvP.pos (by omega) (EvP.pos (by omega) (EvP.pos (by omega) (EvP.pos (by omega) ?_)))
   rw [w64 (x:=(k:Int)+1) (by omega) (by omega),w64 (by omega) (by omega)]
   refine ih (k+1) _ (by omega) (by rw [List.length_set];exact hx) (fun c hc=>?_)
   have e:=qeY (xs:=xs) (i:=(b:Int)) (rI64 xs (b:Int)+rI64 inj (k:Int)) (by omega) (by omega) (j:=(c:Int)) (by omega)
   rw [e]
   obtain ⟨c1,c2,c3⟩:=hv c hc
   show _=sm (k+1) _∧_
   rw [qbi,hb]
   by_cases q:c=b
   ·subst q
    rw [if_pos rfl,if_pos rfl,Rat.intCast_add,v1]
    exact ⟨rfl,by omega,by omega⟩
   ·rw [if_neg (by omega),if_neg (by omega),Rat.add_zero]
    exact ⟨c1,by omega,by omega⟩
 refine EvP.pos (by show (0:Int)≤(pl.length:Int);omega) (EvP.pos (by show (pl.length:Int)*8≤_;omega) (EvP.pos (by show (pl.length:Int)≤_;omega) ?_))
 refine sums n.1.length 0 _ (by omega) (by show (List.replicate (pl.length:Int).toNat (0:Int)).length=_;rw [List.length_replicate];omega) (fun b hb=>?_)
 have e:rI64 (List.replicate (pl.length:Int).toNat 0) (b:Int)=0:=qb6 _ _ _ (by rw [List.getElem?_replicate,if_pos (by omega)])
 show ((rI64 (List.replicate (pl.length:Int).toNat 0) (b:Int):Int):Rat)=_∧_
 rw [e]
 exact ⟨rfl,by omega,by omega⟩
theorem Pb_ok {n:NetT} (h:NetOk n) (t:List Int×List Int) {inj:List Int} (hi:InjOk n inj) (b:Nat):Ok n ((2400000:Nat):Rat) (Pb n t inj n.1.length b):=by
 refine (Ok.sm (C:=((100000:Int):Rat)) fun i hi'=>?_).up ?_
 ·split
  ·exact Ok.int (hi.2 i hi').1 (hi.2 i hi').2
  ·exact Ok.zero (by decide)
 ·have:=qep h.l0 (C:=((100000:Int):Rat)) (by decide)
  have e:((24:Nat):Rat)*((100000:Int):Rat)=((2400000:Nat):Rat):=by rw [show ((24:Nat):Rat)=24 from rfl,show ((100000:Int):Rat)=100000 from rfl,show ((2400000:Nat):Rat)=2400000 from rfl];grind
  rw [←e];exact this
def rhsK (n:NetT) (t:List Int×List Int) (p:Nat→Rat) (m i:Nat):Rat:=p (i+1)+sm m (fun k=>Bq n k*Sq n k*dd n t k (i+1))
theorem rhs_ok {n:NetT} (h:NetOk n) (t:List Int×List Int) {p:Nat→Rat} (hp:∀b,Ok n ((2400000:Nat):Rat) (p b)) {m:Nat} (hm:m≤n.2.2.1.length) (i:Nat):Ok n ((2448000:Nat):Rat) (rhsK n t p m i):=by
 have h1:Ok n ((48000:Nat):Rat) (sm m (fun k=>Bq n k*Sq n k*dd n t k (i+1))):=by
  refine (Ok.sm (C:=2000) fun k hk=>(Ok.BS h (by omega)).dd t k (i+1)).up ?_
  have h2:=h.l2
  have:=qep (show m≤24 by omega) (C:=2000) (by decide)
  have e:((24:Nat):Rat)*2000=((48000:Nat):Rat):=by rw [show ((24:Nat):Rat)=24 from rfl,show ((48000:Nat):Rat)=48000 from rfl];grind
  rw [←e];exact this
 refine ((hp (i+1)).add h1).up ?_
 rw [show ((2400000:Nat):Rat)=2400000 from rfl,show ((48000:Nat):Rat)=48000 from rfl,show ((2448000:Nat):Rat)=2448000 from rfl]
 grind
theorem angles_ev {n:NetT} (h:NetOk n) {t:List Int×List Int} (ht:TopoP n t) (hisl:∀i:Nat,i<t.2.length→rI64 t.2 (i:Int)=0) {m:MT} (M:ModP n t m) {p:Nat→Rat} (hp:∀b,Ok n ((2400000:Nat):Rat) (p b)) {ps:List QT} (hps:Rw 3 t.2.length p ps) :
  EvP (fun k=>qac.f k m ps) (fun r=>∃x,Rw LG t.2.length (pot x) r∧∀i,i<t.2.length - 1→sm (t.2.length - 1) (fun j=>Lap n t i j*x j)=rhsK n t p n.2.2.1.length i):=by
 have M0:=M
 obtain ⟨⟨b0,i0⟩,W,Bs,Ss,pl,rows⟩:=m
 have hr:rows=((t.2.length - 1:Nat):Int):=M.rows
 subst hr
 have l0:=h.l0
 have l2:=h.l2
 have li:=ht.li
 have hWl:W.length=n.2.2.1.length:=M.wl
 have hpl:pl.length=t.2.length:=M.pl
 have hB:=M.B
 have hS:=M.S
 have hBl:Bs.length=n.2.2.1.length:=hB.1
 have hSl:Ss.length=n.2.2.1.length:=hS.1
 have hpsl:=hps.1
 generalize hR:t.2.length - 1=R at*
 have outs:∀(x:Nat→Rat) (xs:List QT),Rw LG R x xs→(∀i,i<R→sm R (fun j=>Lap n t i j*x j)=rhsK n t p n.2.2.1.length i)→∀(d k:Nat) (out:List QT),k+d=t.2.length→Rw LG t.2.length (fun i=>if i<k then pot x i else 0) out→
   EvP (fun f=>qac.l23 f xs pl (pl.length:Int) (k:Int) out) (fun r=>∃x,Rw LG t.2.length (pot x) r∧∀i,i<R→sm R (fun j=>Lap n t i j*x j)=rhsK n t p n.2.2.1.length i):=by
  intro x xs hx hsol d
  induction d with
  |zero=>
   intro k out hk ho
   have:k=t.2.length:=by omega
   exact EvP.step (fun f=>qac.l23_eq f ..) (EvP.neg (by omega) (EvP.ret ⟨x,ho.congr (fun j hj=>if_pos (by omega)),hsol⟩))
  |succ d ih=>
   intro k out hk ho
   have e1:=hx.1
   have e2:=ho.1
   have pk:rI64 pl (k:Int)=(k:Int) - 1:=M.p k (by omega)
   refine EvP.step (fun f=>qac.l23_eq f ..) (EvP.pos (by omega) (EvP.pos (by omega) (EvP.pos (by omega) ?_)))
   rw [pk,w64 (by omega) (by omega)]
   refine EvP.ite (fun c=>?_) (fun c=>?_)
   ·have c:0≤(k:Int) - 1:=c
    obtain ⟨k',rfl⟩:∃k',k=k'+1:=⟨k - 1,by omega⟩
    rw [show ((k'+1:Nat):Int) - 1=(k':Int) by omega]
    refine EvP.pos (by omega) (EvP.pos (by omega) (EvP.pos (by omega) (EvP.pos (by omega) (EvP.pos (by omega) ?_))))
    refine ih (k'+1+1) _ (by omega) ((ho.set (hx.2 k' (by omega)) (show k'+1<t.2.length by omega)).congr (fun i hi=>?_))
    by_cases q:i=k'+1
    ·rw [if_pos q,if_pos (by omega),q]
     unfold pot
     rw [if_neg (by omega),Nat.add_sub_cancel]
    ·rw [if_neg q]
     by_cases q2:i<k'+1
     ·rw [if_pos q2,if_pos (by omega)]
     ·rw [if_neg q2,if_neg (by omega)]
   ·have c:¬0≤(k:Int) - 1:=c
    refine ih (k+1) _ (by omega) (ho.congr (fun i hi=>?_))
    by_cases q:i<k
    ·omega
    ·rw [if_neg q]
     by_cases q2:i<k+1
     ·rw [if_pos q2]
      unfold pot
      rw [if_pos (by omega)]
     ·rw [if_neg q2]
 have wires:∀(d k:Nat) (rs:List QT),k+d=n.2.2.1.length→Rw 21 R (rhsK n t p k) rs→EvP (fun f=>qac.l10 f W (W.length:Int) (k:Int) b0 i0 W Bs Ss pl (R:Int) rs) (fun r=>∃x,Rw LG t.2.length (pot x) r∧∀i,i<R→sm R (fun j=>Lap n t i j*x j)=rhsK n t p n.2.2.1.length i):=by
  intro d
  induction d with
  |zero=>
   intro k rs hk hrs
   have:k=n.2.2.1.length:=by omega
   subst this
   refine EvP.step (fun f=>qac.qeK f ..) (EvP.neg (by omega) ?_)
   have M':ModP n t ((b0,i0),W,Bs,Ss,pl,((R:Nat):Int)):=M
   refine EvP.bind (qgc h ht M') (fun g hg=>?_)
   rw [hR] at hg
   have U:=unique_ev h ht hisl (g:=g) (r:=rhsK n t p n.2.2.1.length) (b:=rs) (by rw [hR];exact hg) (by rw [hR];exact hrs) (fun i _=>(rhs_ok h t hp (Nat.le_refl _) i).up (qdR (by omega)))
   rw [hR] at U
   refine EvP.bind U (fun z hz=>?_)
   obtain ⟨_,x,hx,hsol⟩:=hz
   refine EvP.pos (by omega) (EvP.pos (by omega) (EvP.pos (by omega) ?_))
   refine outs x z.1 hx hsol t.2.length 0 _ (by omega) ?_
   rw [Int.toNat_natCast,hpl]
   exact (Rw.zeros (by decide) t.2.length).congr (fun i hi=>(if_neg (by omega)).symm)
  |succ d ih=>
   intro k rs hk hrs
   have hkb:k<n.2.2.1.length:=by omega
   have rl:=hrs.1
   obtain ⟨⟨wa0,wa1⟩,wb0,wb1⟩:=w_rng h ht hkb
   obtain ⟨a,ha⟩:∃a:Nat,w1 n t k=(a:Int):=⟨(w1 n t k).toNat,by omega⟩
   obtain ⟨b,hb⟩:∃b:Nat,w2 n t k=(b:Int):=⟨(w2 n t k).toNat,by omega⟩
   have hw:rY4 W (k:Int)=((a:Int),(b:Int)):=by rw [←ha,←hb];exact M.w k hkb
   have pa:rI64 pl (a:Int)=(a:Int) - 1:=M.p a (by omega)
   have pb:rI64 pl (b:Int)=(b:Int) - 1:=M.p b (by omega)
   have ed:∀c:Nat,dd n t k c=(if a=c then 1 else 0) - (if b=c then 1 else 0):=fun c=>by
    unfold dd
    rw [ha,hb]
    simp only [Int.natCast_inj]
   have eR:∀i,rhsK n t p (k+1) i=rhsK n t p k i+Bq n k*Sq n k*((if a=i+1 then 1 else 0) - (if b=i+1 then 1 else 0)):=fun i=>by
    unfold rhsK
    rw [qbi,ed]
    grind
   have hmid:∀i,Ok n ((2450000:Nat):Rat) (rhsK n t p k i+(if a=i+1 then Bq n k*Sq n k else 0)):=fun i=>by
    refine ((rhs_ok h t hp (show k≤n.2.2.1.length by omega) i).add (E:=2000) ?_).up ?_
    ·split
     ·exact Ok.BS h hkb
     ·exact Ok.zero (by decide)
    ·rw [show ((2450000:Nat):Rat)=2450000 from rfl,show ((2448000:Nat):Rat)=2448000 from rfl];grind
   have sz1:=fun i=>Ok.sz h (by omega) (hmid i)
   have sz2:=fun i=>Ok.sz h (by omega) (rhs_ok h t hp (show k+1≤n.2.2.1.length by omega) i)
   refine EvP.step (fun f=>qac.qeK f ..) (EvP.pos (by omega) (EvP.pos (by omega) (EvP.pos (by omega) (EvP.pos rfl (EvP.pos (by omega) (EvP.pos (by omega) (EvP.pos (by omega) (EvP.pos (by omega) ?_))))))))
   rw [hw,pair_0,pa]
   refine EvP.bind (qeq (hB.2 k hkb) (hS.2 k hkb) (by omega)) (fun r2 h2=>?_)
   refine EvP.pos (by omega) (EvP.pos (by omega) (EvP.pos (two_0 _ _) (EvP.pos (by omega) (EvP.pos (by omega) ?_))))
   -- the second end
   have two:∀rs',Rw 21 R (fun i=>rhsK n t p k i+(if a=i+1 then Bq n k*Sq n k else 0)) rs'→EvP (fun f=>qac.l16 f W (W.length:Int) (k:Int) b0 i0 W Bs Ss pl (R:Int) rs' [(a:Int),(b:Int)] r2.1 r2.2.1 r2.2.2) (fun r=>∃x,Rw LG t.2.length (pot x) r∧∀i,i<R→sm R (fun j=>Lap n t i j*x j)=rhsK n t p n.2.2.1.length i):=by
    intro rs' hrs'
    have rl':=hrs'.1
    refine EvP.step (fun f=>qac.qfD f ..) (EvP.pos (by omega) (EvP.pos (by omega) (EvP.pos (two_1 _ _) ?_)))
    rw [pair_1,pb,w64 (by omega) (by omega)]
    refine EvP.pos (by omega) (EvP.pos (by omega) (EvP.ite (fun c=>?_) (fun c=>?_)))
    ·have c:0≤(b:Int) - 1:=c
     obtain ⟨b',rfl⟩:∃b',b=b'+1:=⟨b - 1,by omega⟩
     rw [show ((b'+1:Nat):Int) - 1=(b':Int) by omega]
     have hc:=hrs'.2 b' (by omega)
     refine EvP.pos (by omega) (EvP.pos (by omega) (EvP.bind (qc7 hc h2 (by omega)) (fun r6 h6=>EvP.pos (by omega) (EvP.pos (by omega) ?_))))
     have e6:rhsK n t p k b'+(if a=b'+1 then Bq n k*Sq n k else 0) - Bq n k*Sq n k=rhsK n t p (k+1) b':=by
      rw [eR,if_pos rfl]
      split<;>grind
     have h6:Rp 21 (rhsK n t p (k+1) b') r6:=(h6.eq e6).to (sz2 b').1 (sz2 b').2
     refine ih (k+1) _ (by omega) ((hrs'.set h6 (show b'<R by omega)).congr (fun i hi=>?_))
     by_cases q:i=b'
     ·rw [if_pos q,q]
     ·rw [if_neg q,eR,if_neg (show ¬b'+1=i+1 by omega)]
      split<;>grind
    ·have c:¬0≤(b:Int) - 1:=c
     refine ih (k+1) _ (by omega) (hrs'.congr (fun i hi=>?_))
     rw [eR,if_neg (show ¬b=i+1 by omega)]
     split<;>grind
   refine EvP.ite (fun c=>?_) (fun c=>?_)
   ·have c:0≤(a:Int) - 1:=c
    obtain ⟨a',rfl⟩:∃a',a=a'+1:=⟨a - 1,by omega⟩
    rw [show ((a'+1:Nat):Int) - 1=(a':Int) by omega]
    have hc:=hrs.2 a' (by omega)
    refine EvP.pos (by omega) (EvP.pos (by omega) (EvP.bind (qdV hc h2 (by omega)) (fun r3 h3=>EvP.pos (by omega) (EvP.pos (by omega) ?_))))
    have e3:rhsK n t p k a'+Bq n k*Sq n k=rhsK n t p k a'+(if a'+1=a'+1 then Bq n k*Sq n k else 0):=by rw [if_pos rfl]
    have h3:Rp 21 _ r3:=(h3.eq e3).to (sz1 a').1 (sz1 a').2
    refine two _ ((hrs.set h3 (show a'<R by omega)).congr (fun i hi=>?_))
    by_cases q:i=a'
    ·rw [if_pos q,q]
    ·rw [if_neg q,if_neg (show ¬a'+1=i+1 by omega),Rat.add_zero]
   ·have c:¬0≤(a:Int) - 1:=c
    refine two rs (hrs.congr (fun i hi=>?_))
    rw [if_neg (show ¬a=i+1 by omega),Rat.add_zero]
 have start:∀(d k:Nat) (rs:List QT),k+d=t.2.length→Rw 21 R (fun i=>if i+1<k then p (i+1) else 0) rs→EvP (fun f=>qac.l3 f ps (ps.length:Int) (k:Int) b0 i0 W Bs Ss pl (R:Int) rs) (fun r=>∃x,Rw LG t.2.length (pot x) r∧∀i,i<R→sm R (fun j=>Lap n t i j*x j)=rhsK n t p n.2.2.1.length i):=by
  intro d
  induction d with
  |zero=>
   intro k rs hk hrs
   have:k=t.2.length:=by omega
   refine EvP.step (fun f=>qac.l3_eq f ..) (EvP.neg (by omega) (wires n.2.2.1.length 0 rs (by omega) (hrs.congr (fun i hi=>?_))))
   rw [if_pos (by omega)]
   show _=_+sm 0 _
   exact (Rat.add_zero _).symm
  |succ d ih=>
   intro k rs hk hrs
   have rl:=hrs.1
   have pk:rI64 pl (k:Int)=(k:Int) - 1:=M.p k (by omega)
   refine EvP.step (fun f=>qac.l3_eq f ..) (EvP.pos (by omega) (EvP.pos (by omega) (EvP.pos (by omega) (EvP.pos (by omega) (EvP.pos (by omega) ?_)))))
   rw [pk,w64 (by omega) (by omega)]
   refine EvP.ite (fun c=>?_) (fun c=>?_)
   ·have c:0≤(k:Int) - 1:=c
    obtain ⟨k',rfl⟩:∃k',k=k'+1:=⟨k - 1,by omega⟩
    rw [show ((k'+1:Nat):Int) - 1=(k':Int) by omega]
    have hc:=(hrs.2 k' (by omega)).eq (q:=0) (if_neg (by omega))
    refine EvP.pos (by omega) (EvP.pos (by omega) (EvP.bind (qdV hc (hps.2 (k'+1) (by omega)) (by omega)) (fun r1 h1=>EvP.pos (by omega) (EvP.pos (by omega) ?_))))
    have s1:=Ok.sz h (by omega) (hp (k'+1))
    have h1:Rp 21 (p (k'+1)) r1:=(h1.eq (Rat.zero_add _)).to s1.1 s1.2
    refine ih (k'+1+1) _ (by omega) ((hrs.set h1 (show k'<R by omega)).congr (fun i hi=>?_))
    by_cases q:i=k'
    ·rw [if_pos q,if_pos (by omega),q]
    ·rw [if_neg q]
     by_cases q2:i+1<k'+1
     ·rw [if_pos q2,if_pos (by omega)]
     ·rw [if_neg q2,if_neg (by omega)]
   ·have c:¬0≤(k:Int) - 1:=c
    refine ih (k+1) _ (by omega) (hrs.congr (fun i hi=>?_))
    rw [if_neg (by omega),if_neg (by omega)]
 refine EvP.pos (by show (0:Int)≤(R:Int);omega) (EvP.pos (by show (R:Int)*56≤_;omega) (EvP.pos (by show (R:Int)≤_;omega) ?_))
 refine start t.2.length 0 _ (by omega) ?_
 show Rw 21 R _ (List.replicate (R:Int).toNat (false,[],[]))
 rw [Int.toNat_natCast]
 exact (Rw.zeros (by omega) R).congr (fun i hi=>(if_neg (by omega)).symm)
end Go.Proofs.YtfobeapcmgjhbaaGreatDoor.VE
