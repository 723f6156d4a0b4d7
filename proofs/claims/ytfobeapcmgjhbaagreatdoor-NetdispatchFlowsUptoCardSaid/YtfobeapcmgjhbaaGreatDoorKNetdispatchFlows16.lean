/- Texts behind the law NetdispatchFlows, part 16 (no statement is proved here). -/
import Derived.Test.YtfobeapcmgjhbaaGreatDoorKNetdispatchFlows15
namespace Go.Proofs.YtfobeapcmgjhbaaGreatDoor.VE
open Go Go.RowKit
set_option linter.unusedVariables false
attribute [local irreducible] wrap64
def Ok (n:NetT) (C q:Rat):Prop:=isI (q*(DD n n.2.2.1.length:Rat))∧lim C q
theorem Ok.add {n:NetT} {C E p q:Rat} (h:Ok n C p) (k:Ok n E q):Ok n (C+E) (p+q):=⟨by rw [Rat.add_mul];exact isI_add h.1 k.1,lim_add h.2 k.2⟩
theorem Ok.sub {n:NetT} {C E p q:Rat} (h:Ok n C p) (k:Ok n E q):Ok n (C+E) (p - q):=⟨by rw [show (p - q)*(DD n n.2.2.1.length:Rat)=p*(DD n n.2.2.1.length:Rat) - q*(DD n n.2.2.1.length:Rat) by grind];exact isI_sub h.1 k.1,lim_sub h.2 k.2⟩
theorem Ok.up {n:NetT} {C E q:Rat} (h:Ok n C q) (k:C≤E):Ok n E q:=⟨h.1,lim_up h.2 k⟩
theorem Ok.zero {n:NetT} {C:Rat} (h:0≤C):Ok n C 0:=⟨by rw [Rat.zero_mul];exact isI_zero,by unfold lim;grind⟩
theorem Ok.int {n:NetT} {a c:Int} (h0:-c≤a) (h1:a≤c):Ok n (c:Rat) (a:Rat):=⟨isI_mul (isI_int a) (isI_int _),by
 have e0:=qdS h0
 have e1:=qdS h1
 rw [Rat.intCast_neg] at e0
 exact ⟨e0,e1⟩⟩
theorem Ok.sm {n:NetT} {C:Rat} {f:Nat→Rat} {m:Nat} (h:∀k,k<m→Ok n C (f k)):Ok n ((m:Rat)*C) (VE.sm m f):=by
 refine ⟨?_,lim_sm (fun k hk=>(h k hk).2)⟩
 rw [Rat.mul_comm,←qc9]
 exact isI_sm fun k hk=>by rw [Rat.mul_comm];exact (h k hk).1
theorem Ok.dd {n:NetT} {C q:Rat} (h:Ok n C q) (t:List Int×List Int) (k b:Nat):Ok n C (q*dd n t k b):=by
 have h0:0≤C:=by have:=h.2;unfold lim at this;grind
 rcases dd_cases n t k b with e|e|e<;>rw [e]
 ·rw [Rat.mul_zero];exact Ok.zero h0
 ·rw [Rat.mul_one];exact h
 ·refine ⟨?_,?_⟩
  ·have:=isI_neg h.1
   rw [←Rat.neg_mul] at this
   rw [show q*-1=-q by grind]
   exact this
  ·have:=h.2
   unfold lim at*
   grind
theorem Ok.B {n:NetT} (h:NetOk n) {k:Nat} (hk:k<n.2.2.1.length):Ok n 2000 (Bq n k):=⟨(B_int h (Nat.le_refl _) k hk).1,(B_rng h hk).2.1⟩
theorem Ok.BS {n:NetT} (h:NetOk n) {k:Nat} (hk:k<n.2.2.1.length):Ok n 2000 (Bq n k*Sq n k):=⟨(B_int h (Nat.le_refl _) k hk).2,(B_rng h hk).2.2⟩
theorem Ok.sz {n:NetT} (h:NetOk n) {C:Nat} (hC:C≤10000000) {q:Rat} (k:Ok n (C:Rat) q):dl q.num.natAbs≤21∧dl q.den≤21:=sz_sum h hC k.1 k.2
theorem qdR {a b:Nat} (h:a≤b):(a:Rat)≤(b:Rat):=by
 have:=qdS (a:=(a:Int)) (b:=(b:Int)) (by omega)
 rw [Rat.intCast_natCast,Rat.intCast_natCast] at this
 exact this
theorem qep {m N:Nat} (hm:m≤N) {C:Rat} (hC:0≤C):(m:Rat)*C≤(N:Rat)*C:=Rat.mul_le_mul_of_nonneg_right (qdR hm) hC
def LapK (n:NetT) (t:List Int×List Int) (m:Nat):Mt:=fun i j=>VE.sm m (fun k=>Bq n k*dd n t k (i+1)*dd n t k (j+1))
def Lap (n:NetT) (t:List Int×List Int):Mt:=LapK n t n.2.2.1.length
theorem lap_ok {n:NetT} (h:NetOk n) (t:List Int×List Int) {m:Nat} (hm:m≤n.2.2.1.length) (i j:Nat):Ok n ((48000:Nat):Rat) (LapK n t m i j):=by
 refine (Ok.sm (C:=2000) fun k hk=>((Ok.B h (by omega)).dd t k (i+1)).dd t k (j+1)).up ?_
 have h2:=h.l2
 have:=qep (show m≤24 by omega) (C:=2000) (by decide)
 have e:((24:Nat):Rat)*2000=((48000:Nat):Rat):=by rw [show ((24:Nat):Rat)=24 from rfl,show ((48000:Nat):Rat)=48000 from rfl];grind
 rw [←e];exact this
theorem lap_sz {n:NetT} (h:NetOk n) (t:List Int×List Int) {m:Nat} (hm:m≤n.2.2.1.length) (i j:Nat):dl (LapK n t m i j).num.natAbs≤21∧dl (LapK n t m i j).den≤21:=Ok.sz h (by omega) (lap_ok h t hm i j)
theorem pair_0 (a b:Int):rI64 [a,b] 0=a:=qb6 [a,b] 0 a rfl
theorem pair_1 (a b:Int):rI64 [a,b] 1=b:=qb6 [a,b] 1 b rfl
theorem two_0 (a b:Int):(0:Int)<([a,b].length:Int):=by show (0:Int)<((2:Nat):Int);omega
theorem two_1 (a b:Int):(1:Int)<([a,b].length:Int):=by show (1:Int)<((2:Nat):Int);omega
theorem qgc {n:NetT} (h:NetOk n) {t:List Int×List Int} (ht:TopoP n t) {m:MT} (M:ModP n t m):EvP (fun k=>qab.f k m) (Gd 21 (t.2.length - 1) (t.2.length - 1) (Lap n t)):=by
 obtain ⟨⟨b0,i0⟩,W,Bs,Ss,pl,rows⟩:=m
 have l0:=h.l0
 have l2:=h.l2
 have li:=ht.li
 have hr:rows=((t.2.length - 1:Nat):Int):=M.rows
 subst hr
 generalize hR:t.2.length - 1=R
 have hWl:W.length=n.2.2.1.length:=M.wl
 have hpl:pl.length=t.2.length:=M.pl
 have hB:=M.B
 have hBl:Bs.length=n.2.2.1.length:=hB.1
 -- the wires
 have wires:∀(d k:Nat) (g:List (List QT)),k+d=n.2.2.1.length→Gd 21 R R (LapK n t k) g→EvP (fun f=>qab.l8 f W (W.length:Int) (k:Int) b0 i0 W Bs Ss pl (R:Int) g) (Gd 21 R R (Lap n t)):=by
  intro d
  induction d with
  |zero=>
   intro k g hk hg
   have:k=n.2.2.1.length:=by omega
   subst this
   exact EvP.step (fun f=>qab.l8_eq f ..) (EvP.neg (by omega) (EvP.ret hg))
  |succ d ih=>
   intro k g hk hg
   have hkb:k<n.2.2.1.length:=by omega
   obtain ⟨⟨wa0,wa1⟩,wb0,wb1⟩:=w_rng h ht hkb
   obtain ⟨a,ha⟩:∃a:Nat,w1 n t k=(a:Int):=⟨(w1 n t k).toNat,by omega⟩
   obtain ⟨b,hb⟩:∃b:Nat,w2 n t k=(b:Int):=⟨(w2 n t k).toNat,by omega⟩
   have hw:rY4 W (k:Int)=((a:Int),(b:Int)):=by rw [←ha,←hb];exact M.w k hkb
   have pa:rI64 pl (a:Int)=(a:Int) - 1:=M.p a (by omega)
   have pb:rI64 pl (b:Int)=(b:Int) - 1:=M.p b (by omega)
   have g0:=hg.1
   have hBk:=hB.2 k hkb
   have new:∀g',(∀i,i<R→∀j,j<R→True)→Gd 21 R R (LapK n t (k+1)) g'→EvP (fun f=>qab.l8 f W (W.length:Int) ((k:Int)+1) b0 i0 W Bs Ss pl (R:Int) g') (Gd 21 R R (Lap n t)):=fun g' _ hg'=>ih (k+1) g' (by omega) hg'
   have ed:∀c:Nat,dd n t k c=(if a=c then 1 else 0) - (if b=c then 1 else 0):=fun c=>by
    unfold dd
    rw [ha,hb]
    simp only [Int.natCast_inj]
   have eL:∀i j,LapK n t (k+1) i j=LapK n t k i j+Bq n k*((if a=i+1 then 1 else 0) - (if b=i+1 then 1 else 0))*((if a=j+1 then 1 else 0) - (if b=j+1 then 1 else 0)):=fun i j=>by
    show VE.sm (k+1) _=_
    rw [qbi,ed,ed]
    rfl
   have sz:=fun i j=>lap_sz h t (show k+1≤n.2.2.1.length by omega) i j
   refine EvP.step (fun f=>qab.l8_eq f ..) (EvP.pos (by omega) (EvP.pos (by omega) (EvP.pos (by omega) (EvP.pos rfl ?_))))
   rw [hw,pair_0,pair_1,pa]
   rw [w64 (by omega) (by omega)]
   refine EvP.pos (by omega) (EvP.pos (by omega) (EvP.pos (by first|exact two_0 _ _|exact two_1 _ _) (EvP.pos (by omega) (EvP.pos (by omega) (EvP.pos (by omega) (EvP.pos (by omega) (EvP.pos (by first|exact two_0 _ _|exact two_1 _ _) (EvP.pos (by omega) (EvP.pos (by omega) (EvP.pos (by omega) (EvP.pos (by omega) (EvP.pos (by first|exact two_0 _ _|exact two_1 _ _) (EvP.pos (by omega) (EvP.pos (by omega) (EvP.pos (by first|exact two_0 _ _|exact two_1 _ _) ?_)))))))))))))))
   refine EvP.ite (fun hab=>?_) (fun hab=>?_)
   ·have hab:(a:Int)=(b:Int):=hab
    refine new g (fun _ _ _ _=>trivial) (hg.congr (fun i _ j _=>?_))
    rw [eL,show a=b by omega];grind
   ·have hab:¬(a:Int)=(b:Int):=hab
    rw [pb]
    -- the tail: both ends,or the second one alone
    have t16:∀g',1≤a→1≤b→Gd 21 R R (fun i j=>LapK n t k i j+(if i=a - 1∧j=a - 1 then Bq n k else 0)+(if i=b - 1∧j=b - 1 then Bq n k else 0)) g'→
      EvP (fun f=>qab.l16 f (k:Int) ((a:Int) - 1) ((b:Int) - 1) W (W.length:Int) (k:Int) b0 i0 W Bs Ss pl (R:Int) g') (Gd 21 R R (Lap n t)):=by
     intro g' h1 h2 hg'
     obtain ⟨a',rfl⟩:∃a',a=a'+1:=⟨a - 1,by omega⟩
     obtain ⟨b',rfl⟩:∃b',b=b'+1:=⟨b - 1,by omega⟩
     rw [show ((a'+1:Nat):Int) - 1=(a':Int) by omega,show ((b'+1:Nat):Int) - 1=(b':Int) by omega]
     have haR:a'<R:=by omega
     have hbR:b'<R:=by omega
     have g0':=hg'.1
     have c1:=(hg'.cell haR hbR).eq (q:=LapK n t k a' b') (by rw [if_neg (by omega),if_neg (by omega)];grind)
     have s1:=hg'.shp.2 a' haR
     have s2:=hg'.shp.2 b' hbR
     refine EvP.step (fun f=>qab.qfD f ..) (EvP.pos (by omega) (EvP.pos (by omega) (EvP.pos (by omega) (EvP.pos (by omega) (EvP.pos (by omega) (EvP.pos (by omega) (EvP.pos (by omega) (EvP.pos (by omega) (EvP.pos (by omega) (EvP.pos (by omega) ?_))))))))))
     refine EvP.bind (qc7 c1 hBk (by omega)) (fun r3 hr3=>?_)
     have e1:LapK n t k a' b' - Bq n k=LapK n t (k+1) a' b':=by rw [eL,if_pos rfl,if_neg (by omega),if_neg (by omega),if_pos rfl];grind
     have e2:LapK n t k b' a' - Bq n k=LapK n t (k+1) b' a':=by rw [eL,if_neg (show ¬a'+1=b'+1 by omega),if_pos (show b'+1=b'+1 from rfl),if_pos (show a'+1=a'+1 from rfl),if_neg (show ¬b'+1=a'+1 by omega)];grind
     have hr3:Rp 21 (LapK n t (k+1) a' b') r3:=(hr3.eq e1).to (sz a' b').1 (sz a' b').2
     have hg2:=hg'.setCell hr3 haR hbR
     have g2:=hg2.1
     have s3:=hg2.shp.2 b' hbR
     have c2:=(hg2.cell hbR haR).eq (q:=LapK n t k b' a') (by rw [if_neg (by omega),if_neg (by omega),if_neg (by omega)];grind)
     simp only [Int.toNat_natCast]
     refine EvP.pos (by omega) (EvP.pos (by omega) (EvP.pos (by omega) (EvP.pos (by omega) (EvP.pos (by omega) (EvP.pos (by omega) (EvP.pos (by omega) (EvP.pos (by omega) (EvP.pos (by omega) (EvP.pos (by omega) ?_)))))))))
     refine EvP.bind (qc7 c2 hBk (by omega)) (fun r4 hr4=>?_)
     have hr4:Rp 21 (LapK n t (k+1) b' a') r4:=(hr4.eq e2).to (sz b' a').1 (sz b' a').2
     refine EvP.pos (by omega) (EvP.pos (by omega) ?_)
     rw [w64 (by omega) (by omega)]
     refine new _ (fun _ _ _ _=>trivial) ((hg2.setCell hr4 hbR haR).congr (fun i hi j hj=>?_))
     by_cases q1:i=b'∧j=a'
     ·rw [if_pos q1,q1.1,q1.2]
     ·rw [if_neg q1]
      by_cases q2:i=a'∧j=b'
      ·rw [if_pos q2,q2.1,q2.2]
      ·rw [if_neg q2,eL]
       by_cases i1:i=a'
       ·by_cases j1:j=a'
        ·rw [if_pos (by omega),if_neg (by omega),if_pos (by omega),if_neg (by omega),if_pos (by omega),if_neg (by omega)];grind
        ·rw [if_neg (by omega),if_neg (by omega),if_pos (by omega),if_neg (by omega),if_neg (by omega),if_neg (by omega)];grind
       ·by_cases i2:i=b'
        ·by_cases j1:j=b'
         ·rw [if_neg (by omega),if_pos (by omega),if_neg (by omega),if_pos (by omega),if_neg (by omega),if_pos (by omega)];grind
         ·rw [if_neg (by omega),if_neg (by omega),if_neg (by omega),if_pos (by omega),if_neg (by omega),if_neg (by omega)];grind
        ·rw [if_neg (by omega),if_neg (by omega),if_neg (show ¬a'+1=i+1 by omega),if_neg (show ¬b'+1=i+1 by omega)];grind
    have t14:∀g',Gd 21 R R (fun i j=>LapK n t k i j+(if 1≤a∧i=a - 1∧j=a - 1 then Bq n k else 0)) g'→
      EvP (fun f=>qab.l14 f (k:Int) ((a:Int) - 1) ((b:Int) - 1) W (W.length:Int) (k:Int) b0 i0 W Bs Ss pl (R:Int) g') (Gd 21 R R (Lap n t)):=by
     intro g' hg'
     have g0':=hg'.1
     refine EvP.step (fun f=>qab.l14_eq f ..) (EvP.ite (fun hb1=>?_) (fun hb1=>?_))
     ·have hb1:0≤(b:Int) - 1:=hb1
      obtain ⟨b',rfl⟩:∃b',b=b'+1:=⟨b - 1,by omega⟩
      have hbR:b'<R:=by omega
      have s2:=hg'.shp.2 b' hbR
      have c1:=(hg'.cell hbR hbR).eq (q:=LapK n t k b' b') (by rw [if_neg (by omega)];grind)
      have e1:LapK n t k b' b'+Bq n k=LapK n t (k+1) b' b':=by rw [eL,if_neg (by omega),if_pos rfl];grind
      rw [show ((b'+1:Nat):Int) - 1=(b':Int) by omega]
      refine EvP.pos (by omega) (EvP.pos (by omega) (EvP.pos (by omega) (EvP.pos (by omega) (EvP.pos (by omega) (EvP.pos (by omega) (EvP.pos (by omega) (EvP.pos (by omega) ?_)))))))
      refine EvP.bind (qdV c1 hBk (by omega)) (fun r2 hr2=>?_)
      have hr2:Rp 21 (LapK n t (k+1) b' b') r2:=(hr2.eq e1).to (sz b' b').1 (sz b' b').2
      refine EvP.pos (by omega) (EvP.pos (by omega) ?_)
      have hg2:=hg'.setCell hr2 hbR hbR
      by_cases ha1:1≤a
      ·have:=t16 (g'.set b' ((rL122 g' (b':Int)).set b' r2)) ha1 (by omega) (hg2.congr (fun i hi j hj=>?_))
       ·rw [show ((b'+1:Nat):Int) - 1=(b':Int) by omega] at this
        exact this
       ·by_cases q:i=b'∧j=b'
        ·rw [if_pos q,q.1,q.2,←e1,if_neg (by omega),if_pos (by omega)];grind
        ·rw [if_neg q,if_neg (show ¬(i=b'+1 - 1∧j=b'+1 - 1) by omega)]
         by_cases q2:i=a - 1∧j=a - 1
         ·rw [if_pos ⟨ha1,q2⟩,if_pos q2];grind
         ·rw [if_neg (fun e=>q2 e.2),if_neg q2];grind
      ·refine EvP.step (fun f=>qab.qfD f ..) (EvP.neg (by omega) ?_)
       rw [w64 (by omega) (by omega)]
       refine new _ (fun _ _ _ _=>trivial) (hg2.congr (fun i hi j hj=>?_))
       by_cases q:i=b'∧j=b'
       ·rw [if_pos q,q.1,q.2]
       ·rw [if_neg q,if_neg (by omega),eL,if_neg (show ¬a=i+1 by omega),if_neg (show ¬a=j+1 by omega)]
        by_cases i2:i=b'
        ·rw [if_pos (by omega),if_neg (by omega)];grind
        ·rw [if_neg (by omega)];grind
     ·have hb1:¬0≤(b:Int) - 1:=hb1
      refine EvP.step (fun f=>qab.qfD f ..) (EvP.pos (by omega) (EvP.neg (by omega) ?_))
      rw [w64 (by omega) (by omega)]
      refine new _ (fun _ _ _ _=>trivial) (hg'.congr (fun i hi j hj=>?_))
      rw [eL,if_neg (show ¬b=i+1 by omega),if_neg (show ¬b=j+1 by omega)]
      by_cases i1:i=a - 1
      ·by_cases j1:j=a - 1
       ·rw [if_pos (by omega),if_pos (by omega),if_pos (by omega)];grind
       ·rw [if_neg (by omega),if_pos (by omega),if_neg (by omega)];grind
      ·rw [if_neg (by omega),if_neg (by omega)];grind
    refine EvP.ite (fun ha1=>?_) (fun ha1=>?_)
    ·have ha1:0≤(a:Int) - 1:=ha1
     obtain ⟨a',rfl⟩:∃a',a=a'+1:=⟨a - 1,by omega⟩
     have haR:a'<R:=by omega
     have s2:=hg.shp.2 a' haR
     have c1:=hg.cell haR haR
     have e1:LapK n t k a' a'+Bq n k=LapK n t (k+1) a' a':=by rw [eL,if_pos rfl,if_neg (by omega)];grind
     rw [show ((a'+1:Nat):Int) - 1=(a':Int) by omega] at t14 ⊢
     refine EvP.pos (by omega) (EvP.pos (by omega) (EvP.pos (by omega) (EvP.pos (by omega) (EvP.pos (by omega) (EvP.pos (by omega) (EvP.pos (by omega) (EvP.pos (by omega) ?_)))))))
     refine EvP.bind (qdV c1 hBk (by omega)) (fun r1 hr1=>?_)
     have hr1:Rp 21 (LapK n t (k+1) a' a') r1:=(hr1.eq e1).to (sz a' a').1 (sz a' a').2
     refine EvP.pos (by omega) (EvP.pos (by omega) (t14 _ ((hg.setCell hr1 haR haR).congr (fun i hi j hj=>?_))))
     by_cases q:i=a'∧j=a'
     ·rw [if_pos q,if_pos (by omega),q.1,q.2,←e1]
     ·rw [if_neg q,if_neg (by omega)];grind
    ·have ha1:¬0≤(a:Int) - 1:=ha1
     refine t14 g (hg.congr (fun i hi j hj=>?_))
     rw [if_neg (by omega)];grind
 -- the rows of zeros
 have zeros:∀(d k:Nat) (g:List (List QT)),k+d=R→g.length=R→(∀i:Nat,i<k→Rw 21 R (fun _=>0) (rL122 g (i:Int)))→EvP (fun f=>qab.l3 f (R:Int) (k:Int) b0 i0 W Bs Ss pl (R:Int) g) (Gd 21 R R (Lap n t)):=by
  intro d
  induction d with
  |zero=>
   intro k g hk hl hg
   have:k=R:=by omega
   subst this
   refine EvP.step (fun f=>qab.l3_eq f ..) (EvP.neg (by omega) ?_)
   exact wires n.2.2.1.length 0 g (by omega) ⟨hl,fun i hi=>(hg i hi).congr (fun j _=>rfl)⟩
  |succ d ih=>
   intro k g hk hl hg
   refine EvP.step (fun f=>qab.l3_eq f ..) (EvP.pos (by omega) (EvP.pos (by omega) (EvP.pos (by omega) (EvP.pos (by omega) (EvP.pos (by omega) (EvP.pos (by omega) ?_))))))
   rw [w64 (by omega) (by omega)]
   refine ih (k+1) _ (by omega) (by rw [List.length_set];exact hl) (fun i hi=>?_)
   have e:=qd3 (xs:=g) (i:=(k:Int)) (List.replicate (R:Int).toNat (false,[],[])) (by omega) (by omega) (j:=(i:Int)) (by omega)
   rw [e]
   by_cases q:i=k
   ·rw [if_pos (by omega)]
    exact Rw.zeros (by omega) R
   ·rw [if_neg (by omega)]
    exact hg i (by omega)
 refine EvP.pos (by show (0:Int)≤(R:Int);omega) (EvP.pos (by show (R:Int)*24≤_;omega) (EvP.pos (by show (R:Int)≤_;omega) ?_))
 have e:(List.replicate (R:Int).toNat ([]:List QT)).length=R:=List.length_replicate
 have:=zeros R 0 (List.replicate (R:Int).toNat []) (by omega) e (fun i hi=>by omega)
 rw [←e] at this
 rw [e] at this ⊢
 exact this
end Go.Proofs.YtfobeapcmgjhbaaGreatDoor.VE
