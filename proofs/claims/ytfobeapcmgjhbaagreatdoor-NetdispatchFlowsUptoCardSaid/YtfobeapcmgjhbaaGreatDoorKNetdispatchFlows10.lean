/- Texts behind the law NetdispatchFlows, part 10 (no statement is proved here). -/
import Derived.Test.YtfobeapcmgjhbaaGreatDoorKNetdispatchFlows9
namespace Go.Proofs.YtfobeapcmgjhbaaGreatDoor.VE
open Go Go.RowKit
set_option linter.unusedVariables false
attribute [local irreducible] wrap64
attribute [local irreducible] rd
def dl (n:Nat):Nat:=(dig n).length
theorem qeO (m n:Nat):dl (m*n)≤dl m+dl n:=by
 refine qbT ?_
 have h1:=qdH m
 have h2:=qdH n
 rw [qdp,Int.natCast_mul]
 have:=Int.mul_le_mul (show (m:Int)+1≤Bp (dig m).length by omega) (show (n:Int)+1≤Bp (dig n).length by omega) (by omega) qdJ
 rw [Int.add_mul,Int.mul_add] at this
 unfold dl
 omega
theorem dl_add {m n L:Nat} (hm:dl m≤L) (hn:dl n≤L):dl (m+n)≤L+1:=by
 refine qbT ?_
 have h1:=qdH m
 have h2:=qdH n
 have h3:=qeC hm
 have h4:=qeC hn
 unfold dl at h3 h4
 rw [show Bp (L+1)=1000000000*Bp L from rfl]
 omega
theorem qcJ {m n:Nat} (h:m≤n):dl m≤dl n:=qb3 h
theorem dl_pos {n:Nat} (h:n≠0):1≤dl n:=by unfold dl;rw [qcD h,List.length_cons];omega
theorem dl_one:dl 1=1:=by unfold dl;rw [qcD (by omega),show 1 / 1000000000=0 from rfl,qbr];rfl
def sg (b:Bool) (m:Nat):Int:=if b=true then -(m:Int) else (m:Int)
theorem qfm (b:Bool) (m:Nat):(sg b m).natAbs=m:=by unfold sg;split<;>omega
theorem qfl (n:Int):sg (decide (n<0)) n.natAbs=n:=by
 unfold sg
 by_cases h:n<0
 ·rw [if_pos (by simpa using h)];omega
 ·rw [if_neg (by simpa using h)];omega
structure Rp (L:Nat) (q:Rat) (r:Bool×List Int×List Int):Prop where
 sgn:r.1=decide (q.num<0)
 num:r.2.1=dig q.num.natAbs
 den:r.2.2=dig q.den∨r.2.2=[]∧q.den=1
 ln:dl q.num.natAbs≤L
 ld:dl q.den≤L
theorem Rp.up {L M:Nat} {q:Rat} {r:Bool×List Int×List Int} (h:Rp L q r) (hm:L≤M):Rp M q r:=⟨h.sgn,h.num,h.den,Nat.le_trans h.ln hm,Nat.le_trans h.ld hm⟩
theorem of1:Ev (fun k=>qbf.f k 1) (dig 1):=of_ev (n:=1) (by omega)
theorem qck {L:Nat} {q:Rat} {r:Bool×List Int×List Int} (h:Rp L q r):Ev (fun k=>qaW.f k r) (dig q.den):=by
 rcases h.den with e|⟨e,e1⟩
 ·have:=dl_pos q.den_nz
  unfold dl at this
  rw [←e] at this ⊢
  exact Ev.neg (by omega) (Ev.now _)
 ·rw [e1]
  exact Ev.pos (by rw [e];rfl) (Ev.bind of1 (Ev.now _))
theorem qbC {L:Nat} {q:Rat} {r:Bool×List Int×List Int} (h:Rp L q r):(r.2.1.length:Int)=0↔q=0:=by
 rw [h.num,←Rat.num_eq_zero]
 constructor
 ·intro e
  have:=dig_nil.1 (List.eq_nil_of_length_eq_zero (show (dig q.num.natAbs).length=0 by omega))
  omega
 ·intro e
  rw [e]
  show ((dig 0).length:Int)=0
  rw [qbr];rfl
theorem low_ev {b:Bool} {m d L:Nat} (hd:0<d) (hm:dl m≤L) (hdl:dl d≤L) (hL:L≤100000000000):EvP (fun k=>qbG.f k b (dig m) (dig d)) (Rp L (mkRat (sg b m) d)):=by
 have h1:=dl_pos (show d≠0 by omega)
 by_cases h:m=0
 ·subst h
  refine EvP.pos (by rw [qbr];rfl) (EvP.ret ?_)
  have e:mkRat (sg b 0) d=0:=by
   rw [show sg b 0=0 by unfold sg;split<;>rfl]
   exact Rat.zero_mkRat d
  rw [e]
  exact ⟨rfl,qbr.symm,Or.inr ⟨rfl,rfl⟩,by show dl 0≤L;unfold dl;rw [qbr];exact Nat.zero_le _,by show dl 1≤L;rw [dl_one];omega⟩
 ·have hl:=dl_pos h
  have hg:0<Nat.gcd m d:=Nat.gcd_pos_of_pos_right m hd
  have hgd:=Nat.gcd_dvd_left m d
  have hgd2:=Nat.gcd_dvd_right m d
  have hnum:(mkRat (sg b m) d).num=sg b (m / Nat.gcd m d):=by
   rw [Rat.num_mkRat,if_neg (by omega),qfm,Nat.gcd_comm d m]
   unfold sg
   split
   ·rw [Int.neg_ediv_of_dvd (Int.natCast_dvd_natCast.2 hgd)];rfl
   ·rfl
  have hden:(mkRat (sg b m) d).den=d / Nat.gcd m d:=by
   rw [Rat.den_mkRat,if_neg (by omega),qfm,Nat.gcd_comm d m]
  have hmg:0<m / Nat.gcd m d:=Nat.div_pos (Nat.le_of_dvd (by omega) hgd) hg
  have fin:Rp L (mkRat (sg b m) d) (b,dig (m / Nat.gcd m d),dig (d / Nat.gcd m d)):=by
   refine ⟨?_,by rw [hnum,qfm],Or.inl (by rw [hden]),by rw [hnum,qfm];exact Nat.le_trans (qcJ (Nat.div_le_self _ _)) hm,by rw [hden];exact Nat.le_trans (qcJ (Nat.div_le_self _ _)) hdl⟩
   rw [hnum]
   unfold sg
   cases b
   ·simp;omega
   ·simp;omega
  have hgl:dl (Nat.gcd m d)≤L:=Nat.le_trans (qcJ (Nat.le_of_dvd (by omega) hgd)) hm
  unfold dl at hl hgl hm hdl
  refine EvP.neg (by omega) (EvP.bindE (gcd_ev (by omega) (by omega)) (EvP.bindE of1 (EvP.bindE (cmp_ev (by omega)) ?_)))
  by_cases h2:1<Nat.gcd m d
  ·rw [cmpI_gt (by omega)]
   exact EvP.pos (by omega) (EvP.bindE (div_ev hg (by omega) (by omega)) (EvP.bindE (div_ev hg (by omega) (by omega)) (EvP.ret fin)))
  ·have h3:Nat.gcd m d=1:=by omega
   rw [h3,Nat.div_one,Nat.div_one] at fin
   rw [h3,show ((1:Nat):Int)=1 from rfl,cmpI_eq]
   exact EvP.neg (by omega) (EvP.ret fin)
theorem qdV {L M:Nat} {p q:Rat} {a b:Bool×List Int×List Int} (ha:Rp L p a) (hb:Rp M q b) (hL:L+M≤20000000000):EvP (fun k=>qa6.f k a b) (Rp (L+M+1) (p+q)):=by
 by_cases hp:p=0
 ·refine EvP.pos ((qbC ha).2 hp) (EvP.ret ?_)
  rw [hp,Rat.zero_add]
  exact hb.up (by omega)
 ·refine EvP.neg (fun e=>hp ((qbC ha).1 e)) ?_
  by_cases hq:q=0
  ·refine EvP.pos ((qbC hb).2 hq) (EvP.ret ?_)
   rw [hq,Rat.add_zero]
   exact ha.up (by omega)
  ·refine EvP.neg (fun e=>hq ((qbC hb).1 e)) ?_
   have a1:=ha.ln
   have a2:=ha.ld
   have b1:=hb.ln
   have b2:=hb.ld
   have l1:=qeO p.num.natAbs q.den
   have l2:=qeO q.num.natAbs p.den
   have l3:=qeO p.den q.den
   have hd:0<p.den*q.den:=Nat.mul_pos p.den_pos q.den_pos
   rw [ha.num,hb.num,ha.sgn,hb.sgn,Rat.add_def']
   have hs:=qfl p.num
   have ht:=qfl q.num
   have ex:(p.num*(q.den:Int)+q.num*(p.den:Int))=sg (decide (p.num<0)) (p.num.natAbs*q.den)+sg (decide (q.num<0)) (q.num.natAbs*p.den):=by
    conv=>lhs;rw [←hs,←ht]
    unfold sg
    split<;>split<;>simp [Int.natCast_mul,Int.neg_mul]
   rw [ex]
   have c1:(dig q.den).length≤M:=b2
   have c2:(dig p.den).length≤L:=a2
   have c3:(dig p.num.natAbs).length≤L:=a1
   have c4:(dig q.num.natAbs).length≤M:=b1
   have M1:=qd9 (m:=p.num.natAbs) (n:=q.den) (by omega) (by omega)
   have M2:=qd9 (m:=q.num.natAbs) (n:=p.den) (by omega) (by omega)
   clear ex hs ht
   generalize p.num.natAbs*q.den=m at M1 l1 ⊢
   generalize q.num.natAbs*p.den=n at M2 l2 ⊢
   have l4:=dl_add (L:=L+M) (m:=m) (n:=n) (by omega) (by omega)
   have c5:(dig m).length≤L+M:=by unfold dl at l1 a1 b2;omega
   have c6:(dig n).length≤L+M:=by unfold dl at l2 b1 a2;omega
   have c7:dl (p.den*q.den)≤L+M+1:=by omega
   refine EvP.bindE (qck hb) (EvP.bindE M1 (EvP.bindE (qck ha) (EvP.bindE M2 (EvP.bindE (qck ha) (EvP.bindE (qck hb) (EvP.bindE (qd9 (by omega) (by omega)) ?_))))))
   have sub_low:∀(c:Bool) (x y:Nat),y≤x→(dig x).length≤L+M→EvP (fun k=>(qaP.f k (dig x) (dig y)).bind fun r=>(qbG.f k c r (dig (p.den*q.den))).bind fun r'=>some r') (Rp (L+M+1) (mkRat (sg c (x - y)) (p.den*q.den))):=by
    intro c x y hxy hx
    exact EvP.bindE (sub_ev hxy (by omega)) (EvP.bind (low_ev hd (Nat.le_trans (qcJ (Nat.sub_le _ _)) (show dl x≤L+M+1 from Nat.le_succ_of_le hx)) c7 (by omega)) (fun r hr=>EvP.ret hr))
   refine EvP.ite (fun h=>?_) (fun h=>?_)
   ·have h:decide (p.num<0)=decide (q.num<0):=h
    rw [←h,show sg (decide (p.num<0)) m+sg (decide (p.num<0)) n=sg (decide (p.num<0)) (m+n) by unfold sg;split<;>omega]
    exact EvP.bindE (add_ev (by omega) (by omega)) (EvP.bind (low_ev hd l4 c7 (by omega)) (fun r hr=>EvP.ret hr))
   ·have h:¬decide (p.num<0)=decide (q.num<0):=h
    refine EvP.bindE (cmp_ev (by omega)) (EvP.ite (fun h'=>?_) (fun h'=>?_))
    ·have hle:n≤m:=by
      apply Classical.byContradiction
      intro hc
      have h':0≤cmpI (m:Int) n:=h'
      rw [cmpI_lt (by omega)] at h'
      omega
     have e:sg (decide (p.num<0)) m+sg (decide (q.num<0)) n=sg (decide (p.num<0)) (m - n):=by
      generalize decide (p.num<0)=u at h ⊢
      generalize decide (q.num<0)=w at h ⊢
      cases u<;>cases w<;>simp [sg] at h ⊢<;>omega
     rw [e]
     exact sub_low _ m n hle c5
    ·have hle:m≤n:=by
      apply Classical.byContradiction
      intro hc
      have h':¬0≤cmpI (m:Int) n:=h'
      rw [cmpI_gt (by omega)] at h'
      omega
     have e:sg (decide (p.num<0)) m+sg (decide (q.num<0)) n=sg (decide (q.num<0)) (n - m):=by
      generalize decide (p.num<0)=u at h ⊢
      generalize decide (q.num<0)=w at h ⊢
      cases u<;>cases w<;>simp [sg] at h ⊢<;>omega
     rw [e]
     exact sub_low _ n m hle c6
theorem negQ_ev {L:Nat} {q:Rat} {b:Bool×List Int×List Int} (hb:Rp L q b):EvP (fun k=>qco.f k b) (Rp L (-q)):=by
 by_cases hq:q=0
 ·refine EvP.pos ((qbC hb).2 hq) (EvP.ret ?_)
  rw [hq] at hb ⊢
  exact hb
 ·refine EvP.neg (fun e=>hq ((qbC hb).1 e)) (EvP.ret ⟨?_,?_,?_,?_,?_⟩)
  ·rw [Rat.neg_num]
   show (!decide (b.1=true))=_
   rw [hb.sgn]
   have:q.num≠0:=fun e=>hq (Rat.num_eq_zero.1 e)
   by_cases h:q.num<0
   ·simp [h];omega
   ·simp [h];omega
  ·rw [Rat.neg_num,Int.natAbs_neg];exact hb.num
  ·rw [Rat.neg_den];exact hb.den
  ·rw [Rat.neg_num,Int.natAbs_neg];exact hb.ln
  ·rw [Rat.neg_den];exact hb.ld
theorem qc7 {L M:Nat} {p q:Rat} {a b:Bool×List Int×List Int} (ha:Rp L p a) (hb:Rp M q b) (hL:L+M≤20000000000):EvP (fun k=>qaU.f k a b) (Rp (L+M+1) (p - q)):=by
 rw [Rat.sub_eq_add_neg]
 exact EvP.bind (negQ_ev hb) (fun r hr=>EvP.bind (qdV ha hr hL) (fun r hr=>EvP.ret hr))
theorem Bp_ten:∀n,Bp n=((10 ^ (9*n):Nat):Int)
 |0=>rfl
 |n+1=>by
  show 1000000000*Bp n=_
  rw [Bp_ten n,show 9*(n+1)=9*n+9 by omega,Nat.pow_add,Int.natCast_mul,Int.mul_comm]
  rfl
theorem qfa (n:Nat):(txtN n).length≤9*dl n+1:=by
 unfold txtN
 split
 ·simp
 ·obtain ⟨h1,h2,h3⟩:=decL_ok n
  obtain ⟨x,t,e,hx⟩:=h3 (by assumption)
  have h4:=qdH n
  rw [Bp_ten] at h4
  have h5:n<10 ^ (9*dl n):=by unfold dl;omega
  rw [e,vB_cons] at h2
  rw [e,List.length_cons]
  have h6:10 ^ t.length≤(x - 48).toNat*10 ^ t.length:=Nat.le_mul_of_pos_left _ (by omega)
  have h7:10 ^ t.length<10 ^ (9*dl n):=by omega
  have:=(Nat.pow_lt_pow_iff_right (by omega:1<10)).1 h7
  omega
theorem len_txt (n:Nat):dl n≤(txtN n).length:=by
 obtain ⟨h1,h2,h3⟩:=qbJ n
 refine qbT ?_
 have h4:=vB_lt _ h1
 rw [h2] at h4
 have h5:10 ^ (txtN n).length≤10 ^ (9*(txtN n).length):=Nat.pow_le_pow_right (by omega) (by omega)
 rw [Bp_ten]
 omega
def Fit (q:Rat):Prop:=(txtN q.num.natAbs).length≤2000∧(txtN q.den).length≤2000
instance (q:Rat):Decidable (Fit q):=inferInstanceAs (Decidable (_∧_))
theorem qe9:txtN 1=[49]:=by
 unfold txtN
 rw [if_neg (by omega),qe4 (by omega),show 1 / 10=0 from rfl,qcE];rfl
theorem qfb {m n:Nat} (h:txtN m=txtN n):m=n:=by
 rw [←(qbJ m).2.1,h,(qbJ n).2.1]
theorem fits_ev {L:Nat} {q:Rat} {r:Bool×List Int×List Int} (h:Rp L q r) (hL:L≤90000000000):Ev (fun k=>qbX.f k r) (if Fit q then 0 else 2):=by
 have h1:=h.ln
 have h2:=h.ld
 have D:Ev (fun k=>qbz.f k r.2.2) ((txtN q.den).length:Int):=by
  rcases h.den with e|⟨e,e1⟩
  ·rw [e];exact qfO (by unfold dl at h2;omega)
  ·have:=qfO (n:=0) (by rw [qbr];simp)
   rw [qbr] at this
   rw [e,e1,qe9]
   exact this
 refine Ev.bind (a:=((txtN q.num.natAbs).length:Int)) (by rw [h.num];exact qfO (by unfold dl at h1;omega)) (Ev.ite (fun hc=>?_) (fun hc=>Ev.bind D (Ev.ite (fun hd=>?_) (fun hd=>?_))))
 ·have hc:2000<((txtN q.num.natAbs).length:Int):=hc
  rw [if_neg (fun hf=>by have:=hf.1;omega)]
  exact Ev.now _
 ·have hd:2000<((txtN q.den).length:Int):=hd
  rw [if_neg (fun hf=>by have:=hf.2;omega)]
  exact Ev.now _
 ·have hc:¬2000<((txtN q.num.natAbs).length:Int):=hc
  have hd:¬2000<((txtN q.den).length:Int):=hd
  rw [if_pos ⟨by omega,by omega⟩]
  exact Ev.now _
def outL (q:Rat):List Int:=(if q.num<0 then [45] else [])++(txtN q.num.natAbs++(if q.den=1 then [] else 47::txtN q.den))
theorem qdi (q:Rat):∀x∈outL q,0≤x∧x<256:=by
 intro x hx
 have h1:=(qbJ q.num.natAbs).1
 have h2:=(qbJ q.den).1
 unfold outL at hx
 rw [List.mem_append,List.mem_append] at hx
 rcases hx with hx|hx|hx
 ·split at hx
  ·rw [List.mem_singleton.1 hx];omega
  ·cases hx
 ·have:=h1 x hx;omega
 ·split at hx
  ·cases hx
  ·rcases List.mem_cons.1 hx with rfl|hx
   ·omega
   ·have:=h2 x hx;omega
theorem of_app {a b:List Int} (ha:∀x∈a,0≤x∧x<256) (hb:∀x∈b,0≤x∧x<256):ofBytes a++ofBytes b=ofBytes (a++b):=qcj (by
 rw [bytesL_append,qa7 ha,qa7 hb,qa7 (fun x hx=>(List.mem_append.1 hx).elim (ha x) (hb x))])
theorem qcI {a:List Int} (ha:∀x∈a,0≤x∧x<256):(ofBytes a).size=a.length:=by rw [←qba,qa7 ha]
theorem one_byte {c:Int} (h:0≤c∧c<256):∀x∈[c],0≤x∧x<256:=fun x hx=>by rw [List.mem_singleton.1 hx];exact h
theorem out_ev {L:Nat} {q:Rat} {r:Bool×List Int×List Int} (h:Rp L q r) (hL:L≤90000000000):Ev (fun k=>qbx.f k r) (ofBytes (outL q)):=by
 by_cases hq:q=0
 ·refine Ev.pos ((qbC h).2 hq) ?_
  rw [hq]
  exact Ev.now _
 ·have h1:=h.ln
  have h2:=h.ld
  have n1:=(qbJ q.num.natAbs).1.byte
  have n2:=(qbJ q.den).1.byte
  have s1:=qcI n1
  have s2:=qcI n2
  have t1:=qfa q.num.natAbs
  have t2:=qfa q.den
  have eq1:ofBytes (txtN q.den)=ByteArray.mk #[49]↔q.den=1:=by
   rw [show ByteArray.mk #[49]=ofBytes [49] from rfl,←qe9]
   constructor
   ·intro e
    have:=congrArg qaD e
    rw [qa7 n2,qa7 (qbJ 1).1.byte] at this
    exact qfb this
   ·intro e;rw [e]
  have a45:∀l:List Int,(∀x∈l,0≤x∧x<256)→ByteArray.mk #[45]++ofBytes l=ofBytes (45::l):=fun l hl=>of_app (a:=[45]) (one_byte (by omega)) hl
  have a47:∀l:List Int,(∀x∈l,0≤x∧x<256)→ByteArray.mk #[47]++ofBytes l=ofBytes (47::l):=fun l hl=>of_app (a:=[47]) (one_byte (by omega)) hl
  have b47:∀x∈(47::txtN q.den),0≤x∧x<256:=fun x hx=>(List.mem_cons.1 hx).elim (fun e=>by omega) (n2 x)
  have b45:∀x∈(45::txtN q.num.natAbs),0≤x∧x<256:=fun x hx=>(List.mem_cons.1 hx).elim (fun e=>by omega) (n1 x)
  have z45:(ByteArray.mk #[45]).size=1:=rfl
  have z47:(ByteArray.mk #[47]).size=1:=rfl
  have s3:=qcI b47
  have s4:=qcI b45
  rw [List.length_cons] at s3 s4
  refine Ev.neg (fun e=>hq ((qbC h).1 e)) (Ev.bind (a:=ofBytes (txtN q.num.natAbs)) (by rw [h.num];exact text_ev (by unfold dl at h1;omega)) (Ev.ite (fun hs=>Ev.pos (by omega) (Ev.bind (qck h) (Ev.bind (text_ev (by unfold dl at h2;omega)) ?_))) (fun hs=>(Ev.bind (qck h) (Ev.bind (text_ev (by unfold dl at h2;omega)) ?_)))))
  ·have hs:q.num<0:=by
    have hs:r.1=true:=hs
    rw [h.sgn] at hs
    simpa using hs
   rw [a45 _ n1,a47 _ n2]
   unfold outL
   rw [if_pos hs]
   refine Ev.ite (fun hd=>?_) (fun hd=>Ev.pos (by omega) (Ev.pos (by omega) ?_))
   ·rw [if_pos (eq1.1 hd),List.append_nil]
    exact Ev.now _
   ·rw [if_neg (fun e=>hd (eq1.2 e)),of_app b45 b47]
    exact Ev.now _
  ·have hs:¬q.num<0:=by
    have hs:¬r.1=true:=hs
    rw [h.sgn] at hs
    simpa using hs
   rw [a47 _ n2]
   unfold outL
   rw [if_neg hs,List.nil_append]
   refine Ev.ite (fun hd=>?_) (fun hd=>Ev.pos (by omega) (Ev.pos (by omega) ?_))
   ·rw [if_pos (eq1.1 hd),List.append_nil]
    exact Ev.now _
   ·rw [if_neg (fun e=>hd (eq1.2 e)),of_app n1 b47]
    exact Ev.now _
theorem told_ev {L:Nat} {q:Rat} {r:Bool×List Int×List Int} (h:Rp L q r) (hL:L≤90000000000):Ev (fun k=>qcF.f k r) (if Fit q then (ofBytes (outL q),0) else (ByteArray.empty,2)):=by
 refine Ev.bind (fits_ev h hL) ?_
 by_cases hf:Fit q
 ·rw [if_pos hf,if_pos hf]
  exact Ev.pos rfl (Ev.bind (out_ev h hL) (Ev.now _))
 ·rw [if_neg hf,if_neg hf]
  exact Ev.neg (by decide) (Ev.now _)
theorem ixb (l:List UInt8) (c:UInt8):(c∉l∧Lib.indexByte l c=-1)∨∃a b,l=a++c::b∧c∉a∧Lib.indexByte l c=(a.length:Int):=by
 induction l with
 |nil=>exact Or.inl ⟨by simp,rfl⟩
 |cons x t ih=>
  by_cases hx:x=c
  ·subst hx
   exact Or.inr ⟨[],t,rfl,by simp,by simp [Lib.indexByte]⟩
  ·rcases ih with ⟨h1,h2⟩|⟨a,b,h1,h2,h3⟩
   ·left
    refine ⟨by simp [h1,Ne.symm hx],?_⟩
    simp [Lib.indexByte,hx,h2]
   ·right
    refine ⟨x::a,b,by rw [h1];rfl,by simp [h2,Ne.symm hx],?_⟩
    have h4:¬(Lib.indexByte t c=-1):=by omega
    simp only [Lib.indexByte,List.length_cons]
    rw [if_neg (by simpa using hx),if_neg (by simpa using h4),h3]
    omega
theorem idx47 (s:ByteArray):((47:Int)∉qaD s∧idxB s 47=-1)∨∃a b,qaD s=a++47::b∧(47:Int)∉a∧idxB s 47=(a.length:Int):=by
 have hmem:∀l:List UInt8,(47:UInt8)∉l→(47:Int)∉l.map fun b=>(b.toNat:Int):=by
  intro l h hm
  obtain ⟨b,hb,e⟩:=List.mem_map.1 hm
  have:b=47:=UInt8.toNat_inj.1 (by show b.toNat=47;omega)
  exact h (this▸hb)
 rcases ixb s.data.toList 47 with ⟨h1,h2⟩|⟨a,b,h1,h2,h3⟩
 ·exact Or.inl ⟨hmem _ h1,h2⟩
 ·refine Or.inr ⟨a.map fun b=>(b.toNat:Int),b.map fun b=>(b.toNat:Int),?_,hmem _ h2,?_⟩
  ·unfold qaD
   rw [h1,List.map_append,List.map_cons];rfl
  ·rw [List.length_map];exact h3
theorem qej {c:Int}:∀{a b a' b':List Int},a++c::b=a'++c::b'→c∉a→c∉a'→a=a'∧b=b'
 |[],b,[],b',h,_,_=>by simpa using h
 |[],b,y::a',b',h,_,h2=>by
  rw [List.nil_append,List.cons_append,List.cons.injEq] at h
  exact absurd (by rw [h.1];simp) h2
 |x::a,b,[],b',h,h1,_=>by
  rw [List.nil_append,List.cons_append,List.cons.injEq] at h
  exact absurd (by rw [h.1];simp) h1
 |x::a,b,y::a',b',h,h1,h2=>by
  rw [List.cons_append,List.cons_append,List.cons.injEq] at h
  obtain ⟨e1,e2⟩:=qej h.2 (fun hm=>h1 (by simp [hm])) (fun hm=>h2 (by simp [hm]))
  exact ⟨by rw [h.1,e1],e2⟩
theorem qcR {s:ByteArray} {a b:List Int} (h:qaD s=a++b):(∀x∈a,0≤x∧x<256)∧(∀x∈b,0≤x∧x<256):=
 ⟨fun x hx=>qex s x (by rw [h];simp [hx]),fun x hx=>qex s x (by rw [h];simp [hx])⟩
theorem pre_ev (s:ByteArray):Ev (fun k=>stringslite_HasPrefix.f k s (ByteArray.mk #[45])) (decide ((qaD s).head?=some 45)):=by
 have hl:=qba s
 have z:((ByteArray.mk #[45]).size:Int)=1:=rfl
 refine Ev.ite (fun h=>Ev.pos h (Ev.pos (by decide) ?_)) (fun h=>?_)
 ·have h:((ByteArray.mk #[45]).size:Int)≤(s.size:Int):=h
  have e:(s.extract (Int.toNat 0) (Int.toNat ((ByteArray.mk #[45]).size:Int))=ByteArray.mk #[45])↔((qaD s).head?=some 45):=by
   have e1:qaD (s.extract (Int.toNat 0) (Int.toNat ((ByteArray.mk #[45]).size:Int)))=(qaD s).take 1:=by
    rw [qbN];rfl
   cases hb:qaD s with
   |nil=>rw [hb] at hl;simp at hl;omega
   |cons x t=>
    rw [hb] at e1
    constructor
    ·intro e2
     rw [e2] at e1
     have e1:[(45:Int)]=[x]:=e1
     rw [List.head?_cons]
     exact congrArg some (List.cons.inj e1).1.symm
    ·intro e2
     rw [List.head?_cons,Option.some.injEq] at e2
     refine qcj ?_
     rw [e1,e2];rfl
  rw [show decide ((qaD s).head?=some 45)=decide (s.extract (Int.toNat 0) (Int.toNat ((ByteArray.mk #[45]).size:Int))=ByteArray.mk #[45]) by simp only [e]]
  exact Ev.now _
 ·have h:¬((ByteArray.mk #[45]).size:Int)≤(s.size:Int):=h
  have e:qaD s=[]:=List.eq_nil_of_length_eq_zero (by omega)
  rw [e]
  exact Ev.now _
theorem cutp_neg {s:ByteArray} {t:List Int} (h:qaD s=45::t):Ev (fun k=>strings_CutPrefix.f k s (ByteArray.mk #[45])) (ofBytes t,true):=by
 have hl:=qba s
 have hp:=pre_ev s
 rw [h,List.head?_cons,decide_eq_true rfl] at hp
 rw [h,List.length_cons] at hl
 have e:s.extract (Int.toNat ((ByteArray.mk #[45]).size:Int)) (Int.toNat (s.size:Int))=ofBytes t:=by
  refine qcj ?_
  rw [qbN,h,qa7 (qcR (a:=[45]) h).2,show Int.toNat (s.size:Int)=s.size from rfl,List.take_of_length_le (by rw [List.length_cons];omega)];rfl
 refine Ev.bind (a:=(ofBytes t,true)) (Ev.bind hp (Ev.pos rfl (Ev.pos (by decide) (Ev.pos (by show (1:Int)≤_;omega) ?_)))) (Ev.now _)
 rw [e]
 exact Ev.now _
theorem cutp_pos {s:ByteArray} (h:(qaD s).head?≠some 45):Ev (fun k=>strings_CutPrefix.f k s (ByteArray.mk #[45])) (s,false):=by
 have hp:=pre_ev s
 rw [decide_eq_false h] at hp
 exact Ev.bind (a:=(s,false)) (Ev.bind hp (Ev.neg (by decide) (Ev.now _))) (Ev.now _)
theorem idx_ev (s:ByteArray):Ev (fun k=>stringslite_Index.f k s (ByteArray.mk #[47])) (idxB s 47):=by
 refine Ev.neg (by decide) (Ev.ite (fun h=>?_) (fun h=>Ev.pos (by decide) (Ev.pos (by decide) (Ev.pos (by decide) (Ev.bind (a:=idxB s 47) (Ev.now _) (Ev.now _))))))
 have h:ByteArray.mk #[47]=s:=h
 rw [←h]
 exact Ev.now _
theorem cut_yes {s:ByteArray} {a b:List Int} (h:qaD s=a++47::b) (ha:(47:Int)∉a) (hb:s.size≤9000000000000000):Ev (fun k=>strings_Cut.f k s (ByteArray.mk #[47])) (ofBytes a,ofBytes b,true):=by
 have hl:=qba s
 have hi:idxB s 47=(a.length:Int):=by
  rcases idx47 s with ⟨h1,_⟩|⟨a',b',h1,h2,h3⟩
  ·exact absurd (by rw [h];simp) h1
  ·rw [h] at h1
   rw [h3,(qej h1 ha h2).1]
 have hx:=idx_ev s
 rw [hi] at hx
 have bb:=(qcR (a:=a++[47]) (b:=b) (by rw [h];simp)).2
 have ba:=(qcR h).1
 rw [h,List.length_append,List.length_cons] at hl
 have z:((ByteArray.mk #[47]).size:Int)=1:=rfl
 have e1:s.extract (Int.toNat 0) (Int.toNat (a.length:Int))=ofBytes a:=by
  refine qcj ?_
  rw [qbN,h,qa7 ba,show Int.toNat (a.length:Int)=a.length from rfl,List.take_left];rfl
 have e2:s.extract (Int.toNat ((a.length:Int)+1)) (Int.toNat (s.size:Int))=ofBytes b:=by
  refine qcj ?_
  rw [qbN,h,qa7 bb,show Int.toNat (s.size:Int)=s.size from rfl,show Int.toNat ((a.length:Int)+1)=a.length+1 from rfl,List.take_of_length_le (by rw [List.length_append,List.length_cons];omega),←List.drop_drop,List.drop_left];rfl
 refine Ev.bind (a:=(ofBytes a,ofBytes b,true)) (Ev.bind hx ?_) (Ev.now _)
 rw [z,w64 (x:=(a.length:Int)+1) (by omega) (by omega),e1,e2]
 exact Ev.pos (by omega) (Ev.pos (by omega) (Ev.pos (by omega) (Ev.pos (by omega) (Ev.pos (by omega) (Ev.now _)))))
theorem cut_no {s:ByteArray} (h:(47:Int)∉qaD s):Ev (fun k=>strings_Cut.f k s (ByteArray.mk #[47])) (s,ByteArray.empty,false):=by
 have hi:idxB s 47=-1:=by
  rcases idx47 s with ⟨_,h2⟩|⟨a',b',h1,_,_⟩
  ·exact h2
  ·exact absurd (by rw [h1];simp) h
 have hx:=idx_ev s
 rw [hi] at hx
 exact Ev.bind (a:=(s,ByteArray.empty,false)) (Ev.bind hx (Ev.neg (by omega) (Ev.now _))) (Ev.now _)
def OutOk (p:ByteArray) (q:Rat):Prop:=p=ofBytes (outL q)∧Fit q
def bodyL (q:Rat):List Int:=txtN q.num.natAbs++(if q.den=1 then [] else 47::txtN q.den)
theorem body_byte (q:Rat):∀x∈bodyL q,0≤x∧x<256:=fun x hx=>qdi q x (by unfold outL;unfold bodyL at hx;exact List.mem_append_right _ hx)
theorem ds_no {l:List Int} (h:Ds l) {c:Int} (hc:c<48):c∉l:=fun hm=>by have:=h c hm;omega
theorem parts_ev (q:Rat) (hf:Fit q):Ev (fun k=>strings_CutPrefix.f k (ofBytes (outL q)) (ByteArray.mk #[45])) (ofBytes (bodyL q),decide (q.num<0))∧
  Ev (fun k=>strings_Cut.f k (ofBytes (bodyL q)) (ByteArray.mk #[47])) (ofBytes (txtN q.num.natAbs),(if q.den=1 then ByteArray.empty else ofBytes (txtN q.den)),decide (q.den≠1)):=by
 have hob:=qa7 (qdi q)
 have hbb:=qa7 (body_byte q)
 obtain ⟨n1,n2,n3⟩:=qbJ q.num.natAbs
 constructor
 ·by_cases h:q.num<0
  ·rw [decide_eq_true h]
   refine cutp_neg ?_
   rw [hob];unfold outL;rw [if_pos h];rfl
  ·have e:outL q=bodyL q:=by unfold outL bodyL;rw [if_neg h];rfl
   rw [decide_eq_false h,e]
   refine cutp_pos ?_
   rw [hbb]
   unfold bodyL
   cases ht:txtN q.num.natAbs with
   |nil=>exact absurd ht n3
   |cons x t=>
    rw [List.cons_append,List.head?_cons]
    intro e
    have:=n1 x (by rw [ht];simp)
    have:=Option.some.inj e
    omega
 ·by_cases h:q.den=1
  ·have e:bodyL q=txtN q.num.natAbs:=by unfold bodyL;rw [if_pos h,List.append_nil]
   rw [if_pos h,e,show decide (q.den≠1)=false by simp [h]]
   refine cut_no ?_
   rw [qa7 n1.byte]
   exact ds_no n1 (by omega)
  ·have e:bodyL q=txtN q.num.natAbs++47::txtN q.den:=by unfold bodyL;rw [if_neg h]
   rw [if_neg h,show decide (q.den≠1)=true by simp [h]]
   refine cut_yes (by rw [hbb,e]) (ds_no n1 (by omega)) ?_
   rw [qcI (body_byte q),e,List.length_append,List.length_cons]
   have:=hf.1
   have:=hf.2
   omega
theorem qda {n:Nat} (h:(txtN n).length≤2000):dl n≤2000:=Nat.le_trans (len_txt n) h
theorem qeU {n:Nat} (h:(txtN n).length≤2000):Ev (fun k=>qaJ.f k (ofBytes (txtN n))) (dig n):=by
 obtain ⟨n1,n2,_⟩:=qbJ n
 have:=read_ev (s:=ofBytes (txtN n)) (by rw [qa7 n1.byte];exact n1) (by rw [qcI n1.byte];omega)
 rw [qa7 n1.byte,n2] at this
 exact this
theorem chk_txt {n:Nat} (h:(txtN n).length≤2000):Ev (fun k=>qbg.f k (ofBytes (txtN n))) 0:=by
 obtain ⟨r,hr,_,h1⟩:=qe5 (s:=ofBytes (txtN n)) (by rw [qcI (qbJ n).1.byte];omega)
 rw [←h1.2 (decOk_of h)]
 exact hr
theorem in_ev {p:ByteArray} {q:Rat} (h:OutOk p q):EvP (fun k=>qb5.f k p) (Rp 2000 q):=by
 obtain ⟨rfl,hf⟩:=h
 obtain ⟨h1,h2⟩:=parts_ev q hf
 refine EvP.bindE h1 (EvP.bindE h2 (EvP.bindE (qeU hf.1) (EvP.bindE of1 ?_)))
 by_cases hd:q.den=1
 ·refine EvP.neg (by simp [hd]) (EvP.ret ⟨rfl,rfl,Or.inl (by rw [hd]),qda hf.1,qda hf.2⟩)
 ·rw [if_neg hd]
  exact EvP.pos (by simp [hd]) (EvP.bindE (qeU hf.2) (EvP.ret ⟨rfl,rfl,Or.inl rfl,qda hf.1,qda hf.2⟩))
theorem qdv {m n:Nat} (h:ofBytes (txtN m)=ofBytes (txtN n)):m=n:=by
 have:=congrArg qaD h
 rw [qa7 (qbJ m).1.byte,qa7 (qbJ n).1.byte] at this
 exact qfb this
theorem b48:ByteArray.mk #[48]=ofBytes (txtN 0):=rfl
theorem b49:ByteArray.mk #[49]=ofBytes (txtN 1):=by rw [qe9];rfl
theorem ratCheck_ok {p:ByteArray} {q:Rat} (h:OutOk p q):Ev (fun k=>qbj.f k p) 0:=by
 obtain ⟨rfl,hf⟩:=h
 obtain ⟨h1,h2⟩:=parts_ev q hf
 have g:Ev (fun k=>(qaJ.f k (ofBytes (txtN q.num.natAbs))).bind fun r5=>(qaJ.f k (ofBytes (txtN q.den))).bind fun r6=>(qa8.f k r5 r6).bind fun r7=>(qbf.f k 1).bind fun r8=>(qaQ.f k r7 r8).bind fun r9=>if r9=0 then some 0 else some 3) (0:Int):=by
  have a1:=qda hf.1
  have a2:=qda hf.2
  unfold dl at a1 a2
  refine Ev.bind (qeU hf.1) (Ev.bind (qeU hf.2) (Ev.bind (gcd_ev (by omega) (by omega)) (Ev.bind of1 (Ev.bind (cmp_ev ?_) ?_))))
  ·rw [q.reduced];show (dig 1).length≤_;have:=dl_one;unfold dl at this;omega
  ·rw [q.reduced,show ((1:Nat):Int)=1 from rfl,cmpI_eq]
   exact Ev.pos rfl (Ev.now _)
 refine Ev.bind h1 (Ev.bind h2 (Ev.bind (chk_txt hf.1) ?_))
 by_cases hd:q.den=1
 ·rw [if_pos hd,show decide (q.den≠1)=false by simp [hd]]
  refine Ev.neg (by simp) (Ev.step (fun k=>qbj.l6_eq k _ _ _ _ _ _) (Ev.neg (by simp) (Ev.neg (by simp) (Ev.ite (fun hn=>Ev.neg ?_ (Ev.pos rfl (Ev.pos rfl (Ev.neg (by simp) (Ev.now _))))) (fun hn=>Ev.pos rfl (Ev.pos rfl (Ev.neg (by simp) (Ev.now _))))))))
  intro e
  have hn:decide (q.num<0)=true:=hn
  have hn:=of_decide_eq_true hn
  rw [b48] at e
  have:=qdv e
  omega
 ·rw [if_neg hd,show decide (q.den≠1)=true by simp [hd]]
  have c0:¬ofBytes (txtN q.den)=ByteArray.mk #[48]:=fun e=>q.den_nz (qdv (e.trans b48))
  have c1:¬ofBytes (txtN q.den)=ByteArray.mk #[49]:=fun e=>hd (qdv (e.trans b49))
  refine Ev.pos rfl (Ev.bind (chk_txt hf.2) (Ev.step (fun k=>qbj.l6_eq k _ _ _ _ _ _) (Ev.neg (by decide) (Ev.neg (by decide) (Ev.ite (fun hn=>Ev.neg ?_ (Ev.pos rfl (Ev.pos rfl (Ev.pos rfl (Ev.neg c0 (Ev.neg c1 g)))))) (fun hn=>Ev.pos rfl (Ev.pos rfl (Ev.pos rfl (Ev.neg c0 (Ev.neg c1 g))))))))))
  intro e
  have hn:decide (q.num<0)=true:=hn
  have hn:=of_decide_eq_true hn
  have:=qdv (e.trans b48)
  omega
theorem gcd_tail {x5 x6:ByteArray} (h5:DecOk x5) (h6:DecOk x6):EvP (fun k=>if x6=ByteArray.mk #[48] then some (3:Int) else if x6=ByteArray.mk #[49] then some 3 else (qaJ.f k x5).bind fun r5=>(qaJ.f k x6).bind fun r6=>(qa8.f k r5 r6).bind fun r7=>(qbf.f k 1).bind fun r8=>(qaQ.f k r7 r8).bind fun r9=>if r9=0 then some 0 else some 3) (fun r=>r=0→x6≠ByteArray.mk #[48]∧x6≠ByteArray.mk #[49]∧Nat.gcd (vB (qaD x5)) (vB (qaD x6))=1):=by
 have l5:dl (vB (qaD x5))≤2000:=qda (by rw [←h5.2.1,qba];exact h5.2.2)
 have l6:dl (vB (qaD x6))≤2000:=qda (by rw [←h6.2.1,qba];exact h6.2.2)
 have z5:=h5.2.2
 have z6:=h6.2.2
 have lg:dl (Nat.gcd (vB (qaD x5)) (vB (qaD x6)))≤2000:=by
  by_cases h0:vB (qaD x5)=0
  ·rw [h0,Nat.gcd_zero_left];exact l6
  ·exact Nat.le_trans (qcJ (Nat.le_of_dvd (by omega) (Nat.gcd_dvd_left _ _))) l5
 unfold dl at l5 l6 lg
 refine EvP.ite (fun h=>EvP.ret (fun e=>by omega)) (fun c0=>EvP.ite (fun h=>EvP.ret (fun e=>by omega)) (fun c1=>EvP.bindE (read_ev h5.1 (by omega)) (EvP.bindE (read_ev h6.1 (by omega)) (EvP.bindE (gcd_ev (by omega) (by omega)) (EvP.bindE of1 (EvP.bindE (cmp_ev (by omega)) (EvP.ite (fun h=>EvP.ret (fun _=>⟨c0,c1,?_⟩)) (fun h=>EvP.ret (fun e=>by omega)))))))))
 have h:cmpI (Nat.gcd (vB (qaD x5)) (vB (qaD x6)):Nat) ((1:Nat):Int)=0:=h
 unfold cmpI at h
 split at h
 ·omega
 ·split at h<;>omega
theorem l6_ex (neg:Bool) (x5 x6:ByteArray) (sl:Bool) (r3 r4:Int) (h3:r3=0→DecOk x5) (h4:sl=true→r4=0→DecOk x6):EvP (fun k=>qbj.l6 k neg x5 x6 sl r3 r4) (fun r=>r=0→r3=0∧r4=0∧(neg=true→x5≠ByteArray.mk #[48])∧(sl=true→x6≠ByteArray.mk #[48]∧x6≠ByteArray.mk #[49]∧Nat.gcd (vB (qaD x5)) (vB (qaD x6))=1)):=by
 refine EvP.step (fun k=>qbj.l6_eq k _ _ _ _ _ _) (EvP.ite (fun _=>EvP.ret (fun e=>by omega)) (fun _=>EvP.ite (fun _=>EvP.ret (fun e=>by omega)) (fun _=>EvP.ite (fun hn=>EvP.ite (fun _=>EvP.ret (fun e=>by omega)) (fun h5=>EvP.ite (fun e3=>EvP.ite (fun e4=>EvP.ite (fun hs=>?_) (fun hs=>EvP.ret (fun _=>⟨e3,e4,fun _=>h5,fun e=>absurd e hs⟩))) (fun _=>EvP.ret (fun e=>by omega))) (fun _=>EvP.ret (fun e=>by omega)))) (fun hn=>EvP.ite (fun e3=>EvP.ite (fun e4=>EvP.ite (fun hs=>?_) (fun hs=>EvP.ret (fun _=>⟨e3,e4,fun e=>absurd e hn,fun e=>absurd e hs⟩))) (fun _=>EvP.ret (fun e=>by omega))) (fun _=>EvP.ret (fun e=>by omega))))))
 ·exact (gcd_tail (h3 e3) (h4 hs e4)).mono (fun r hr e=>⟨e3,e4,fun _=>h5,fun _=>hr e⟩)
 ·exact (gcd_tail (h3 e3) (h4 hs e4)).mono (fun r hr e=>⟨e3,e4,fun e=>absurd e hn,fun _=>hr e⟩)
theorem ratCheck_ex {p:ByteArray} (hb:p.size≤140737488355328):EvP (fun k=>qbj.f k p) (fun r=>r=0→∃q,OutOk p q):=by
 have hl:=qba p
 obtain ⟨s,neg,hcp,hps⟩:∃s neg,Ev (fun k=>strings_CutPrefix.f k p (ByteArray.mk #[45])) (s,neg)∧qaD p=(if neg=true then [45] else [])++qaD s:=by
  by_cases h:(qaD p).head?=some 45
  ·cases hc:qaD p with
   |nil=>rw [hc] at h;cases h
   |cons x t=>
    rw [hc,List.head?_cons,Option.some.injEq] at h
    subst h
    exact ⟨_,_,cutp_neg hc,by rw [qa7 (qcR (a:=[45]) hc).2];rfl⟩
  ·exact ⟨_,_,cutp_pos h,rfl⟩
 have hsl:s.size≤p.size:=by
  rw [←qba,←qba,hps,List.length_append];omega
 have mk:∀(m d:Nat),(neg=true→m≠0)→d≠0→Nat.gcd m d=1→(txtN m).length≤2000→(txtN d).length≤2000→qaD s=txtN m++(if d=1 then [] else 47::txtN d)→∃q,OutOk p q:=by
  intro m d hm hd hg f1 f2 e
  refine ⟨⟨sg neg m,d,hd,by rw [qfm];exact hg⟩,?_,by show (txtN (sg neg m).natAbs).length≤2000;rw [qfm];exact f1,f2⟩
  rw [←qd8 p,hps,e]
  show _=ofBytes ((if sg neg m<0 then [45] else [])++(txtN (sg neg m).natAbs++(if d=1 then [] else 47::txtN d)))
  rw [qfm]
  have:sg neg m<0↔neg=true:=by
   unfold sg
   cases neg
   ·simp
   ·have:=hm rfl
    simp;omega
  simp only [this]
 refine EvP.bindE hcp ?_
 by_cases h47:(47:Int)∈qaD s
 ·rcases idx47 s with ⟨h1,_⟩|⟨a,b,h1,h2,_⟩
  ·exact absurd h47 h1
  ·have bb:=(qcR (a:=a++[47]) (b:=b) (by rw [h1];simp)).2
   have ba:=(qcR h1).1
   have hal:a.length+b.length+1=s.size:=by rw [←qba,h1,List.length_append,List.length_cons];omega
   refine EvP.bindE (cut_yes (s:=s) h1 h2 (by omega)) ?_
   obtain ⟨r3,hr3,_,g3⟩:=qe5 (s:=ofBytes a) (by rw [qcI ba];omega)
   obtain ⟨r4,hr4,_,g4⟩:=qe5 (s:=ofBytes b) (by rw [qcI bb];omega)
   refine EvP.bindE hr3 (EvP.pos rfl (EvP.bindE hr4 ((l6_ex neg (ofBytes a) (ofBytes b) true r3 r4 g3.1 (fun _=>g4.1)).mono (fun r hr e=>?_))))
   obtain ⟨e3,e4,e5,e6⟩:=hr e
   obtain ⟨c0,c1,hg⟩:=e6 rfl
   have d1:=g3.1 e3
   have d2:=g4.1 e4
   unfold DecOk at d1 d2
   rw [←qba,qa7 ba] at d1
   rw [←qba,qa7 bb] at d2
   rw [qa7 ba,qa7 bb] at hg
   have hne0:vB b≠0:=fun h0=>c0 (by rw [d2.2.1,h0,b48])
   have hne1:vB b≠1:=fun h0=>c1 (by rw [d2.2.1,h0,b49])
   refine mk (vB a) (vB b) (fun hn h0=>e5 hn (by rw [d1.2.1,h0,b48])) hne0 hg (by rw [←d1.2.1];exact d1.2.2) (by rw [←d2.2.1];exact d2.2.2) ?_
   rw [if_neg hne1,←d1.2.1,←d2.2.1]
   exact h1
 ·refine EvP.bindE (cut_no (s:=s) h47) ?_
  obtain ⟨r3,hr3,_,g3⟩:=qe5 (s:=s) (by omega)
  refine EvP.bindE hr3 (EvP.neg (by simp) ((l6_ex neg s ByteArray.empty false r3 0 g3.1 (fun e=>by cases e)).mono (fun r hr e=>?_)))
  obtain ⟨e3,_,e5,_⟩:=hr e
  have d1:=g3.1 e3
  refine mk (vB (qaD s)) 1 (fun hn h0=>e5 hn (by rw [←qd8 s,d1.2.1,h0,b48])) (by omega) (Nat.gcd_one_right _) (by rw [←d1.2.1,qba];exact d1.2.2) (by rw [qe9];simp) ?_
  rw [if_pos rfl,List.append_nil,←d1.2.1]
theorem qeP (xs:List ByteArray) (hb:xs.length≤140737488355328) (hs:∀x∈xs,x.size≤140737488355328):∀(m j:Nat),j+m=xs.length→EvP (fun k=>qaO.l2 k xs (xs.length:Int) (j:Int)) (fun r=>r=0→∀x∈xs.drop j,∃q,OutOk x q)
 |0,j,hj=>by
  rw [List.drop_eq_nil_of_le (by omega)]
  exact EvP.step (fun k=>qaO.l2_eq k _ _ _) (EvP.neg (by omega) (EvP.ret (fun _ x hx=>by cases hx)))
 |m+1,j,hj=>by
  have hdr:=qfu (xs:=xs) (i:=(j:Int)) (by omega) (by omega)
  rw [show ((j:Int)).toNat=j from rfl,show ((j:Int)+1).toNat=j+1 from rfl] at hdr
  have hm:=qeW (xs:=xs) (i:=(j:Int)) (by omega) (by omega)
  rw [hdr]
  refine EvP.step (fun k=>qaO.l2_eq k _ _ _) (EvP.pos (by omega) (EvP.pos (by omega) (EvP.pos (by omega) (EvP.bind (ratCheck_ex (hs _ hm)) (fun r hr=>?_)))))
  refine EvP.ite (fun h=>?_) (fun h=>EvP.ret (fun e=>absurd e h))
  rw [w64 (by omega) (by omega)]
  refine (qeP xs hb hs m (j+1) (by omega)).mono (fun r' hr' e x hx=>?_)
  rcases List.mem_cons.1 hx with rfl|hx
  ·exact hr h
  ·exact hr' e x hx
theorem checkAll_ex {xs:List ByteArray} (hb:xs.length≤140737488355328) (hs:∀x∈xs,x.size≤140737488355328):EvP (fun k=>qaO.f k xs) (fun r=>r=0→∀x∈xs,∃q,OutOk x q):=by
 have:=qeP xs hb hs xs.length 0 (Nat.zero_add _)
 rw [List.drop_zero] at this
 exact this
theorem qdm (xs:List ByteArray) (hb:xs.length≤140737488355328) (hs:∀x∈xs,∃q,OutOk x q):∀(m j:Nat),j+m=xs.length→Ev (fun k=>qaO.l2 k xs (xs.length:Int) (j:Int)) 0
 |0,j,hj=>Ev.step (fun k=>qaO.l2_eq k _ _ _) (Ev.neg (by omega) (Ev.now _))
 |m+1,j,hj=>by
  obtain ⟨q,hq⟩:=hs _ (qeW (xs:=xs) (i:=(j:Int)) (by omega) (by omega))
  refine Ev.step (fun k=>qaO.l2_eq k _ _ _) (Ev.pos (by omega) (Ev.pos (by omega) (Ev.pos (by omega) (Ev.bind (ratCheck_ok hq) (Ev.pos rfl ?_)))))
  rw [w64 (by omega) (by omega)]
  exact qdm xs hb hs m (j+1) (by omega)
theorem checkAll_ok {xs:List ByteArray} (hb:xs.length≤140737488355328) (hs:∀x∈xs,∃q,OutOk x q):Ev (fun k=>qaO.f k xs) 0:=qdm xs hb hs xs.length 0 (Nat.zero_add _)
def sgnQ (q:Rat):Int:=if q=0 then 0 else if q.num<0 then -1 else 1
theorem qdY (q:Rat):sgnQ q=0↔q=0:=by
 unfold sgnQ
 split
 ·rename_i h;exact ⟨fun _=>h,fun _=>rfl⟩
 ·rename_i h
  split
  ·exact ⟨fun e=>by omega,fun e=>absurd e h⟩
  ·exact ⟨fun e=>by omega,fun e=>absurd e h⟩
theorem sign_ev {L:Nat} {q:Rat} {r:Bool×List Int×List Int} (h:Rp L q r):Ev (fun k=>qa9.f k r) (sgnQ q):=by
 unfold sgnQ
 by_cases hq:q=0
 ·rw [if_pos hq]
  exact Ev.pos ((qbC h).2 hq) (Ev.now _)
 ·rw [if_neg hq]
  refine Ev.neg (fun e=>hq ((qbC h).1 e)) ?_
  by_cases hn:q.num<0
  ·rw [if_pos hn]
   exact Ev.pos (by rw [h.sgn];simpa using hn) (Ev.now _)
  ·rw [if_neg hn]
   exact Ev.neg (by rw [h.sgn];simpa using hn) (Ev.now _)
theorem dl_i64 {n:Nat} (h:n≤9223372036854775808):dl n≤3:=qbT (by show (n:Int)<1000000000*(1000000000*(1000000000*1));omega)
theorem qeL {a:Int} (h0:-9223372036854775807≤a) (h1:a≤9223372036854775807):EvP (fun k=>qbh.f k a) (Rp 3 (a:Rat)):=by
 have hl:=dl_i64 (n:=a.natAbs) (by omega)
 have h1':dl 1≤3:=by rw [dl_one];omega
 have fin:∀b:Bool,b=decide (a<0)→Rp 3 (a:Rat) (b,dig a.natAbs,dig 1):=fun b hb=>⟨by rw [Rat.num_intCast];exact hb,by rw [Rat.num_intCast],Or.inl (by rw [Rat.den_intCast]),by rw [Rat.num_intCast];exact hl,by rw [Rat.den_intCast];exact h1'⟩
 refine EvP.ite (fun h=>?_) (fun h=>?_)
 ·have h:a<0:=h
  rw [w64 (x:=0 - a) (by omega) (by omega),show 0 - a=((a.natAbs:Nat):Int) by omega]
  exact EvP.bindE (of_ev (by omega)) (EvP.bindE of1 (EvP.ret (fin true (by simp [h]))))
 ·have h:¬a<0:=h
  have e:a=((a.natAbs:Nat):Int):=by omega
  rw [show qbf.f=qbf.f from rfl]
  have o:=of_ev (n:=a.natAbs) (by omega)
  rw [←e] at o
  exact EvP.bindE o (EvP.bindE of1 (EvP.ret (fin false (by simp [h]))))
theorem ratOf_ev {n:Int} (h0:-9223372036854775808≤n) (h1:n≤9223372036854775807):Ev (fun k=>qd1.f k n 1) (if Fit (n:Rat) then (ofBytes (outL (n:Rat)),0) else (ByteArray.empty,2)):=by
 have hl:=dl_i64 (n:=n.natAbs) (by omega)
 have d1:=dl_one
 have S:Ev (fun k=>qcm.f k n) (dig n.natAbs):=by
  refine Ev.ite (fun h=>?_) (fun h=>?_)
  ·have h:0≤n:=h
   have o:=of_ev (n:=n.natAbs) (by omega)
   rw [show ((n.natAbs:Nat):Int)=n by omega] at o
   exact Ev.bind o (Ev.now _)
  ·have h:¬0≤n:=h
   rw [w64 (x:=n+1) (by omega) (by omega),w64 (x:=0 - (n+1)) (by omega) (by omega)]
   have o:=of_ev (n:=n.natAbs - 1) (by omega)
   rw [show ((n.natAbs - 1:Nat):Int)=0 - (n+1) by omega] at o
   have hl':=dl_i64 (n:=n.natAbs - 1) (by omega)
   have a:=add_ev (m:=n.natAbs - 1) (n:=1) (by unfold dl at hl';omega) (by unfold dl at d1;omega)
   rw [show n.natAbs - 1+1=n.natAbs by omega] at a
   exact Ev.bind o (Ev.bind of1 (Ev.bind a (Ev.now _)))
 have S1:Ev (fun k=>qcm.f k 1) (dig 1):=Ev.pos (by decide) (Ev.bind of1 (Ev.now _))
 refine EvP.ev (EvP.neg (by decide) (EvP.bindE S (EvP.bindE S1 (EvP.bind (low_ev (L:=3) (by omega) hl (by omega) (by omega)) (fun r hr=>?_)))))
 have e:mkRat (sg (!decide (decide (n<0)=decide ((1:Int)<0))) n.natAbs) 1=(n:Rat):=by
  rw [Rat.mkRat_one]
  have:(!decide (decide (n<0)=decide ((1:Int)<0)))=decide (n<0):=by
   by_cases h:n<0<;>simp [h]
  rw [this,qfl]
 rw [e] at hr
 exact EvP.bindE (told_ev hr (by omega)) (EvP.ret rfl)
theorem qeg {L:Nat} (h:1≤L):Rp L 0 (false,[],[]):=⟨rfl,qbr.symm,Or.inr ⟨rfl,rfl⟩,by show dl 0≤L;unfold dl;rw [qbr];exact Nat.zero_le _,by show dl 1≤L;rw [dl_one];omega⟩
theorem rp_pos {L:Nat} {q:Rat} {r:Bool×List Int×List Int} (h:Rp L q r):1≤L:=Nat.le_trans (dl_pos q.den_nz) h.ld
theorem sg_mul (x y:Int):sg (!decide (decide (x<0)=decide (y<0))) (x.natAbs*y.natAbs)=x*y:=by
 conv=>rhs;rw [←qfl x,←qfl y]
 unfold sg
 by_cases hx:x<0<;>by_cases hy:y<0<;>simp [hx,hy,Int.natCast_mul,Int.neg_mul,Int.mul_neg]
theorem qeq {L M:Nat} {p q:Rat} {a b:Bool×List Int×List Int} (ha:Rp L p a) (hb:Rp M q b) (hL:L+M≤20000000000):EvP (fun k=>qa5.f k a b) (Rp (L+M) (p*q)):=by
 have hpos:=rp_pos ha
 by_cases hp:p=0
 ·refine EvP.pos ((qbC ha).2 hp) (EvP.ret ?_)
  rw [hp,Rat.zero_mul]
  exact qeg (by omega)
 ·refine EvP.neg (fun e=>hp ((qbC ha).1 e)) ?_
  by_cases hq:q=0
  ·refine EvP.pos ((qbC hb).2 hq) (EvP.ret ?_)
   rw [hq,Rat.mul_zero]
   exact qeg (by omega)
  ·refine EvP.neg (fun e=>hq ((qbC hb).1 e)) ?_
   have a1:=ha.ln
   have a2:=ha.ld
   have b1:=hb.ln
   have b2:=hb.ld
   have l1:=qeO p.num.natAbs q.num.natAbs
   have l3:=qeO p.den q.den
   have hd:0<p.den*q.den:=Nat.mul_pos p.den_pos q.den_pos
   have c1:(dig q.den).length≤M:=b2
   have c2:(dig p.den).length≤L:=a2
   have c3:(dig p.num.natAbs).length≤L:=a1
   have c4:(dig q.num.natAbs).length≤M:=b1
   have M1:=qd9 (m:=p.num.natAbs) (n:=q.num.natAbs) (by omega) (by omega)
   have M2:=qd9 (m:=p.den) (n:=q.den) (by omega) (by omega)
   have ex:=sg_mul p.num q.num
   rw [ha.num,hb.num,ha.sgn,hb.sgn,Rat.mul_def',←ex]
   refine EvP.bindE M1 (EvP.bindE (qck ha) (EvP.bindE (qck hb) (EvP.bindE M2 (EvP.bind (low_ev hd (by omega) (by omega) (by omega)) (fun r hr=>EvP.ret hr)))))
theorem div_mk (p q:Rat) (hq:q≠0):p / q=mkRat (sg (!decide (decide (p.num<0)=decide (q.num<0))) (p.num.natAbs*q.den)) (p.den*q.num.natAbs):=by
 have hqn:q.num≠0:=fun e=>hq (Rat.num_eq_zero.1 e)
 have hpd:=p.den_nz
 have hqd:=q.den_nz
 have c1:((p.den:Int):Rat)≠0:=fun e=>hpd (by exact_mod_cast e)
 have c2:((q.den:Int):Rat)≠0:=fun e=>hqd (by exact_mod_cast e)
 have c3:((q.num:Int):Rat)≠0:=fun e=>hqn (by exact_mod_cast e)
 have ep:p=((p.num:Int):Rat) / ((p.den:Int):Rat):=by
  rw [Rat.intCast_natCast,←Rat.mkRat_eq_div,Rat.mkRat_self]
 have eq:q=((q.num:Int):Rat) / ((q.den:Int):Rat):=by
  rw [Rat.intCast_natCast,←Rat.mkRat_eq_div,Rat.mkRat_self]
 rw [Rat.mkRat_eq_div,←Rat.intCast_natCast,Int.natCast_mul,Rat.intCast_mul]
 by_cases h:q.num<0
 ·have e1:((q.num.natAbs:Nat):Int)=-q.num:=by omega
  have e2:sg (!decide (decide (p.num<0)=decide (q.num<0))) (p.num.natAbs*q.den)=-(p.num*(q.den:Int)):=by
   conv=>rhs;rw [←qfl p.num]
   unfold sg
   by_cases hx:p.num<0<;>simp [hx,h,Int.natCast_mul,Int.neg_mul]
  rw [e1,e2,Rat.intCast_neg,Rat.intCast_neg,Rat.intCast_mul]
  conv=>lhs;rw [ep,eq]
  generalize ((p.num:Int):Rat)=a at*
  generalize ((p.den:Int):Rat)=b at*
  generalize ((q.num:Int):Rat)=c at*
  generalize ((q.den:Int):Rat)=d at*
  grind
 ·have e1:((q.num.natAbs:Nat):Int)=q.num:=by omega
  have e2:sg (!decide (decide (p.num<0)=decide (q.num<0))) (p.num.natAbs*q.den)=p.num*(q.den:Int):=by
   conv=>rhs;rw [←qfl p.num]
   unfold sg
   by_cases hx:p.num<0<;>simp [hx,h,Int.natCast_mul,Int.neg_mul]
  rw [e1,e2,Rat.intCast_mul]
  conv=>lhs;rw [ep,eq]
  generalize ((p.num:Int):Rat)=a at*
  generalize ((p.den:Int):Rat)=b at*
  generalize ((q.num:Int):Rat)=c at*
  generalize ((q.den:Int):Rat)=d at*
  grind
theorem quoQ_ev {L M:Nat} {p q:Rat} {a b:Bool×List Int×List Int} (ha:Rp L p a) (hb:Rp M q b) (hL:L+M≤20000000000):EvP (fun k=>qbw.f k a b) (Rp (L+M) (p / q)):=by
 have hpos:=rp_pos ha
 by_cases hp:p=0
 ·refine EvP.pos ((qbC ha).2 hp) (EvP.ret ?_)
  rw [hp,Rat.div_def,Rat.zero_mul]
  exact qeg (by omega)
 ·refine EvP.neg (fun e=>hp ((qbC ha).1 e)) ?_
  by_cases hq:q=0
  ·refine EvP.pos ((qbC hb).2 hq) (EvP.ret ?_)
   have:p / q=0:=by rw [hq];grind
   rw [this]
   exact qeg (by omega)
  ·refine EvP.neg (fun e=>hq ((qbC hb).1 e)) ?_
   have a1:=ha.ln
   have a2:=ha.ld
   have b1:=hb.ln
   have b2:=hb.ld
   have hqn:q.num≠0:=fun e=>hq (Rat.num_eq_zero.1 e)
   have l1:=qeO p.num.natAbs q.den
   have l3:=qeO p.den q.num.natAbs
   have hd:0<p.den*q.num.natAbs:=Nat.mul_pos p.den_pos (by omega)
   have c1:(dig q.den).length≤M:=b2
   have c2:(dig p.den).length≤L:=a2
   have c3:(dig p.num.natAbs).length≤L:=a1
   have c4:(dig q.num.natAbs).length≤M:=b1
   have M1:=qd9 (m:=p.num.natAbs) (n:=q.den) (by omega) (by omega)
   have M2:=qd9 (m:=p.den) (n:=q.num.natAbs) (by omega) (by omega)
   rw [ha.num,hb.num,ha.sgn,hb.sgn,div_mk p q hq]
   refine EvP.bindE (qck hb) (EvP.bindE M1 (EvP.bindE (qck ha) (EvP.bindE M2 (EvP.bind (low_ev hd (by omega) (by omega) (by omega)) (fun r hr=>EvP.ret hr)))))
theorem body_inj {p q:Rat} (h:bodyL p=bodyL q):p.num.natAbs=q.num.natAbs∧p.den=q.den:=by
 obtain ⟨a1,_,_⟩:=qbJ p.num.natAbs
 obtain ⟨b1,_,_⟩:=qbJ q.num.natAbs
 unfold bodyL at h
 by_cases hp:p.den=1
 ·by_cases hq:q.den=1
  ·rw [if_pos hp,if_pos hq,List.append_nil,List.append_nil] at h
   exact ⟨qfb h,by rw [hp,hq]⟩
  ·rw [if_pos hp,if_neg hq,List.append_nil] at h
   exact absurd (by rw [h];simp) (ds_no a1 (show (47:Int)<48 by omega))
 ·by_cases hq:q.den=1
  ·rw [if_neg hp,if_pos hq,List.append_nil] at h
   exact absurd (by rw [←h];simp) (ds_no b1 (show (47:Int)<48 by omega))
  ·rw [if_neg hp,if_neg hq] at h
   obtain ⟨e1,e2⟩:=qej h (ds_no a1 (by omega)) (ds_no b1 (by omega))
   exact ⟨qfb e1,qfb e2⟩
theorem body_head (q:Rat):(bodyL q).head?≠some 45:=by
 obtain ⟨n1,_,n3⟩:=qbJ q.num.natAbs
 unfold bodyL
 cases ht:txtN q.num.natAbs with
 |nil=>exact absurd ht n3
 |cons x t=>
  rw [List.cons_append,List.head?_cons]
  intro e
  have:=n1 x (by rw [ht];simp)
  have:=Option.some.inj e
  omega
theorem outL_inj {p q:Rat} (h:outL p=outL q):p=q:=by
 have ep:outL p=(if p.num<0 then [45] else [])++bodyL p:=rfl
 have eq:outL q=(if q.num<0 then [45] else [])++bodyL q:=rfl
 rw [ep,eq] at h
 by_cases hp:p.num<0
 ·by_cases hq:q.num<0
  ·rw [if_pos hp,if_pos hq] at h
   obtain ⟨e1,e2⟩:=body_inj (List.append_cancel_left h)
   exact Rat.ext (by omega) e2
  ·rw [if_pos hp,if_neg hq] at h
   exact absurd (by rw [←List.nil_append (bodyL q),←h];rfl) (body_head q)
 ·by_cases hq:q.num<0
  ·rw [if_neg hp,if_pos hq] at h
   exact absurd (by rw [←List.nil_append (bodyL p),h];rfl) (body_head p)
  ·rw [if_neg hp,if_neg hq] at h
   obtain ⟨e1,e2⟩:=body_inj (List.append_cancel_left h)
   exact Rat.ext (by omega) e2
theorem outOk_uniq {p:ByteArray} {a b:Rat} (h:p=ofBytes (outL a)) (k:OutOk p b):a=b:=by
 have:=congrArg qaD (h.symm.trans k.1)
 rw [qa7 (qdi a),qa7 (qdi b)] at this
 exact outL_inj this
theorem fit_int {n:Int} (h0:-9223372036854775808≤n) (h1:n≤9223372036854775807):Fit (n:Rat):=by
 unfold Fit
 rw [Rat.num_intCast,Rat.den_intCast,qe9]
 have:=qfa n.natAbs
 have:=dl_i64 (n:=n.natAbs) (by omega)
 exact ⟨by omega,by simp⟩
end Go.Proofs.YtfobeapcmgjhbaaGreatDoor.VE
