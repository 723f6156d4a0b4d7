/- Texts behind the law NetdispatchFlows, part 6 (no statement is proved here). -/
import Derived.Test.YtfobeapcmgjhbaaGreatDoorKNetdispatchFlows5
namespace Go.Proofs.YtfobeapcmgjhbaaGreatDoor.VE
open Go Go.RowKit
set_option linter.unusedVariables false
attribute [local irreducible] wrap64
attribute [local irreducible] rd
theorem div_KN {v:List Int} (hv:Dig v) {n':Nat} (hn:v.length=n'+2) (h1:1≤rU32 v ((n'+1:Nat):Int)) {L J j:Nat} (hJ:J+v.length=L) {U0:Int} {u q:List Int} (I:DivI v U0 L J (j+1) u q) :
  KN (vL u) (vL v) (Bp j) (Bp n') (vL (u.take (j+n'))) (vL (v.take n')) (rU32 u ((j+n'+2:Nat):Int)) (rU32 u ((j+n'+1:Nat):Int)) (rU32 u ((j+n':Nat):Int)) (rU32 v ((n'+1:Nat):Int)) (rU32 v ((n':Nat):Int)):=by
 obtain ⟨du,lu,dq,lq,jq,zq,eq,lt⟩:=I
 have hlen:j+n'+3≤u.length:=by omega
 have hr:=qcr v hv
 have hB:vL u<Bp (j+n'+3):=by
  have a1:=Int.mul_le_mul_of_nonneg_right (show vL v≤Bp v.length by omega) (qdJ (n:=j+1))
  rw [←qdp,show v.length+(j+1)=j+n'+3 by omega] at a1
  omega
 have hz:=qeE du hlen hB
 have es:=qdW u _ hlen
 rw [hz,Int.mul_zero,Int.add_zero,qbI (show j+n'+2<u.length by omega),qbI (show j+n'+1<u.length by omega),qbI (show j+n'<u.length by omega)] at es
 have ev:=qdW v v.length (Nat.le_refl _)
 rw [List.drop_length,show vL []=0 from rfl,Int.mul_zero,Int.add_zero,hn,qbI (show n'+1<v.length by omega),qbI (show n'<v.length by omega)] at ev
 have w1:=du.qdM (show j+n'≤u.length by omega)
 have w2:=hv.qdM (show n'≤v.length by omega)
 rw [qdp] at w1
 refine ⟨qcT j,qcT n',?_,w1,?_,w2,⟨h1,(hv.at (by omega)).2⟩,hv.at (by omega),du.at (by omega),du.at (by omega),du.at (by omega),lt⟩
 ·rw [es,show Bp (j+n'+2)=1000000000*(1000000000*Bp (j+n')) from rfl,show Bp (j+n'+1)=1000000000*Bp (j+n') from rfl,qdp]
  grind
 ·rw [ev,show Bp (n'+1)=1000000000*Bp n' from rfl]
  grind
theorem wi1 {a n':Nat} (h:a=n'+2) (hb:a≤9000000000000):wrap64 ((a:Int) - 1)=((n'+1:Nat):Int):=by
 rw [w64 (by omega) (by omega)];omega
theorem wi2 {a n':Nat} (h:a=n'+2) (hb:a≤9000000000000):wrap64 ((a:Int) - 2)=((n':Nat):Int):=by
 rw [w64 (by omega) (by omega)];omega
theorem wi3 {a n' j:Nat} (h:a=n'+2) (hb:j+a≤9000000000000):wrap64 ((j:Int)+(a:Int))=((j+n'+2:Nat):Int):=by
 rw [w64 (by omega) (by omega)];omega
theorem wi4 {j n':Nat} (hb:j+n'≤9000000000000):wrap64 (((j+n'+2:Nat):Int) - 1)=((j+n'+1:Nat):Int):=by
 rw [w64 (by omega) (by omega)];omega
theorem wi5 {j n':Nat} (hb:j+n'≤9000000000000):wrap64 (((j+n'+2:Nat):Int) - 2)=((j+n':Nat):Int):=by
 rw [w64 (by omega) (by omega)];omega
theorem div16 {v:List Int} (hv:Dig v) {n':Nat} (hn:v.length=n'+2) (h1:1≤rU32 v ((n'+1:Nat):Int)) {L J:Nat} (hJ:J+v.length=L) (hb:L≤8000000000000) (f:Int) (U0:Int) (j:Nat) (R:List Int×List Int→Prop)
  (K:∀u q,DivI v U0 L J j u q→EvP (fun k=>qan.l12 k f (v.length:Int) ((j:Int) - 1) u v q) R)
  (u q:List Int) (I:DivI v U0 L J (j+1) u q):∀(d:Nat) (qh rh:Int),qh.toNat<d→0≤qh→qh<9000000000000000000→0≤rh→rh<1000000000→qh*rU32 v ((n'+1:Nat):Int)+rh=rU32 u ((j+n'+2:Nat):Int)*1000000000+rU32 u ((j+n'+1:Nat):Int)→vL u<(qh+1)*(vL v*Bp j)→
  EvP (fun k=>qan.l16 k f (v.length:Int) (j:Int) qh rh u v q) R
 |0,qh,rh,hd,_,_,_,_,_,_=>by omega
 |d+1,qh,rh,hd,q0,q1,r0,r1,he,hi=>by
  have KK:=div_KN hv hn h1 hJ I
  have hV:0<vL v:=by
   have:=KK.hV
   have:=KK.hw'
   have:=Int.mul_le_mul_of_nonneg_left KK.h1.1 (show 0≤Bp n' from qdJ)
   have:=Int.mul_nonneg (show 0≤Bp n' from qdJ) KK.h2.1
   have:=KK.hp
   have e:vL v=vL (v.take n')+Bp n'*rU32 v ((n':Nat):Int)+1000000000*(Bp n'*rU32 v ((n'+1:Nat):Int)):=by rw [KK.hV];grind
   omega
  have FIX:=div_fix hv hV hJ hb f U0 j R K u q I
  have lu:=I.lu
  have jq:=I.jq
  have b1:=KK.h1
  have b2:=KK.h2
  have b3:=KK.h3
  refine EvP.step (fun k=>qan.qfD k _ _ _ _ _ _ _ _) ?_
  rw [wi1 hn (by omega),wi2 hn (by omega),wi3 hn (by omega),wi5 (by omega),w64u (x:=rU32 v ((n'+1:Nat):Int)) (by omega) (by omega),w64u (x:=rU32 v ((n':Nat):Int)) (by omega) (by omega),w64u (x:=rU32 u ((j+n':Nat):Int)) (by omega) (by omega),w64u (x:=rh+rU32 v ((n'+1:Nat):Int)) (by omega) (by omega),w64u (x:=rh*1000000000) (by omega) (by omega),w64u (x:=rh*1000000000+rU32 u ((j+n':Nat):Int)) (by omega) (by omega)]
  have down:∀_:Unit,1≤qh→vL u<qh*(vL v*Bp j)→EvP (fun k=>if 1000000000≤rh+rU32 v ((n'+1:Nat):Int) then
    (qaz.f k v (j:Int) (IntKind.wrap .u64 (qh - 1)) u).bind fun r=>if r.1=true then
   (qaV.f k v (j:Int) r.2).bind fun r'=>if 0≤(j:Int) then (if (j:Int)<(q.length:Int) then qan.l12 k f (v.length:Int) (wrap64 ((j:Int) - 1)) r' v (q.set ((j:Int)).toNat (IntKind.wrap .u32 (IntKind.wrap .u64 (IntKind.wrap .u64 (qh - 1) - 1)))) else none) else none
   else if 0≤(j:Int) then (if (j:Int)<(q.length:Int) then qan.l12 k f (v.length:Int) (wrap64 ((j:Int) - 1)) r.2 v (q.set ((j:Int)).toNat (IntKind.wrap .u32 (IntKind.wrap .u64 (qh - 1)))) else none) else none
    else qan.l16 k f (v.length:Int) (j:Int) (IntKind.wrap .u64 (qh - 1)) (rh+rU32 v ((n'+1:Nat):Int)) u v q) R:=by
   intro _ hq hu
   rw [w64u (x:=qh - 1) (by omega) (by omega)]
   have he':(qh - 1)*rU32 v ((n'+1:Nat):Int)+(rh+rU32 v ((n'+1:Nat):Int))=rU32 u ((j+n'+2:Nat):Int)*1000000000+rU32 u ((j+n'+1:Nat):Int):=by rw [←he,Int.sub_mul];omega
   have hu':vL u<(qh - 1+1)*(vL v*Bp j):=by rwa [Int.sub_add_cancel]
   refine EvP.ite (fun h=>?_) (fun h=>?_)
   ·obtain ⟨g1,g2⟩:=KK.big he' (by omega) h
    exact FIX (qh - 1) (by omega) g1 hu' (KK.lo (by omega) (by omega) g2)
   ·exact div16 hv hn h1 hJ hb f U0 j R K u q I d (qh - 1) _ (by omega) (by omega) (by omega) (by omega) (by omega) he' hu'
  refine EvP.ite (fun h=>EvP.pos (by omega) (EvP.pos (by omega) ?_)) (fun h=>EvP.pos (by omega) (EvP.pos (by omega) (EvP.pos (by omega) (EvP.pos (by omega) ?_))))
  ·have h:1000000000≤qh:=h
   exact down () (by omega) (KK.hiB h)
  ·have h:¬1000000000≤qh:=h
   have hp:=dig_prod (x:=qh) (y:=rU32 v ((n':Nat):Int)) (a:=0) (b:=0) ⟨q0,by omega⟩ b2 (by omega) (by omega)
   rw [w64u (x:=qh*rU32 v ((n':Nat):Int)) (by omega) (by omega)]
   refine EvP.ite (fun h'=>EvP.pos (by omega) (EvP.pos (by omega) ?_)) (fun h'=>?_)
   ·have h':rh*1000000000+rU32 u ((j+n':Nat):Int)<qh*rU32 v ((n':Nat):Int):=h'
    refine down () ?_ (KK.hiT he q0 h')
    apply Classical.byContradiction
    intro hc
    rw [show qh=0 by omega,Int.zero_mul] at h'
    omega
   ·exact FIX qh q0 (by omega) hi (KK.lo q0 (by omega) (KK.fit he h'))
theorem div12 {v:List Int} (hv:Dig v) {n':Nat} (hn:v.length=n'+2) (h1:1≤rU32 v ((n'+1:Nat):Int)) {L J:Nat} (hJ:J+v.length=L) (hb:L≤1000000000000) {f:Nat} (hf:0<f∧f<1000000000) {U V:Nat} (hV:vL v=(V:Int)):∀(j:Nat) (u q:List Int),DivI v (U:Int) L J j u q→
  EvP (fun k=>qan.l12 k (f:Int) (v.length:Int) ((j:Int) - 1) u v q) (fun r=>r=(dig (U / V),dig (U % V / f)))
 |0,u,q,I=>by
  obtain ⟨du,lu,dq,lq,jq,zq,eq,lt⟩:=I
  have ur:=qcr u du
  have qr:=qcr q dq
  obtain ⟨x,hx⟩:∃x:Nat,vL u=x:=⟨(vL u).toNat,by omega⟩
  obtain ⟨y,hy⟩:∃y:Nat,vL q=y:=⟨(vL q).toNat,by omega⟩
  rw [hx,hV,hy] at eq
  rw [hx,hV,show Bp 0=1 from rfl] at lt
  have e:U=V*y+x:=by
   have:((V*y+x:Nat):Int)=V*y+x:=by rw [Int.natCast_add,Int.natCast_mul]
   omega
  have e1:U / V=y:=by
   rw [e,Nat.mul_add_div (by omega),Nat.div_eq_of_lt (by omega),Nat.add_zero]
  have e2:U % V=x:=by
   rw [e,Nat.mul_add_mod,Nat.mod_eq_of_lt (by omega)]
  rw [e1,e2]
  have hxl:(dig x).length≤L:=qbT (by rw [←lu,←hx];exact ur.2)
  exact EvP.step (fun k=>qan.qb9 k _ _ _ _ _ _) (EvP.neg (by omega) (EvP.bindE (qc0 (by omega) du hx) (EvP.bindE (short_ev hf (by omega)) (EvP.bindE (qc0 (by omega) dq hy) (EvP.ret rfl)))))
 |j+1,u,q,I=>by
  have lu:=I.lu
  have jq:=I.jq
  have du:=I.du
  have KK:=div_KN hv hn h1 hJ I
  have b1:=KK.h1
  have bb:=KK.hb
  have bt:=KK.ht
  rw [show ((j+1:Nat):Int) - 1=(j:Int) by omega]
  refine EvP.step (fun k=>qan.qb9 k _ _ _ _ _ _) ?_
  have hs:0≤rU32 u ((j+n'+2:Nat):Int)*1000000000+rU32 u ((j+n'+1:Nat):Int):=by omega
  have hd0:0<rU32 v ((n'+1:Nat):Int):=by omega
  have hmod:=Int.emod_add_mul_ediv (rU32 u ((j+n'+2:Nat):Int)*1000000000+rU32 u ((j+n'+1:Nat):Int)) (rU32 v ((n'+1:Nat):Int))
  have hm0:=Int.emod_nonneg (rU32 u ((j+n'+2:Nat):Int)*1000000000+rU32 u ((j+n'+1:Nat):Int)) (show rU32 v ((n'+1:Nat):Int)≠0 by omega)
  have hm1:=Int.emod_lt_of_pos (rU32 u ((j+n'+2:Nat):Int)*1000000000+rU32 u ((j+n'+1:Nat):Int)) hd0
  have hq0:=Int.ediv_nonneg hs (show 0≤rU32 v ((n'+1:Nat):Int) by omega)
  have hq1:=Int.ediv_le_self (rU32 v ((n'+1:Nat):Int)) hs
  rw [wi1 hn (by omega),wi3 hn (by omega),wi4 (by omega),w64u (x:=rU32 v ((n'+1:Nat):Int)) (by omega) (by omega),w64u (x:=rU32 u ((j+n'+2:Nat):Int)) (by omega) (by omega),w64u (x:=rU32 u ((j+n'+2:Nat):Int)*1000000000) (by omega) (by omega),w64u (x:=rU32 u ((j+n'+1:Nat):Int)) (by omega) (by omega),w64u (x:=rU32 u ((j+n'+2:Nat):Int)*1000000000+rU32 u ((j+n'+1:Nat):Int)) (by omega) (by omega),Int.tmod_eq_emod_of_nonneg hs,Int.tdiv_eq_ediv_of_nonneg hs]
  rw [w64u (x:=(rU32 u ((j+n'+2:Nat):Int)*1000000000+rU32 u ((j+n'+1:Nat):Int)) / rU32 v ((n'+1:Nat):Int)) (by omega) (by omega)]
  refine EvP.pos (by omega) (EvP.pos (by omega) (EvP.pos (by omega) (EvP.pos (by omega) (EvP.pos (by omega) (EvP.pos (by omega) (EvP.pos (by omega) (EvP.pos (by omega) (EvP.pos (by omega) (EvP.pos (by omega) (EvP.pos (by omega) ?_))))))))))
  refine div16 hv hn h1 hJ (by omega) _ _ j _ (fun u' q' I'=>div12 hv hn h1 hJ hb hf hV j u' q' I') u q I _ _ _ (Nat.lt_succ_self _) hq0 (by omega) hm0 (by omega) (by rw [Int.mul_comm];omega) (KK.hi0 (r:=(rU32 u ((j+n'+2:Nat):Int)*1000000000+rU32 u ((j+n'+1:Nat):Int)) % rU32 v ((n'+1:Nat):Int)) (by rw [Int.mul_comm];omega) hq0 hm1)
end Go.Proofs.YtfobeapcmgjhbaaGreatDoor.VE
