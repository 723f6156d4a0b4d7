/- Texts behind the law RightsFit, part 10 (no statement is proved here). -/
import Derived.Test.YtfobeapcmgjhbaaGreatDoorKRightsFit9
namespace Go.Proofs.YtfobeapcmgjhbaaGreatDoor.VE
open Go Go.RowKit
set_option linter.unusedVariables false
attribute [local irreducible] wrap64
attribute [local irreducible] rd
def dl (n:Nat):Nat:=(dig n).length
theorem qeU (m n:Nat):dl (m*n)≤dl m+dl n:=by
 refine qb4 ?_
 have h1:=qdO m
 have h2:=qdO n
 rw [qdw,Int.natCast_mul]
 have:=Int.mul_le_mul (show (m:Int)+1≤Bp (dig m).length by omega) (show (n:Int)+1≤Bp (dig n).length by omega) (by omega) qdQ
 rw [Int.add_mul,Int.mul_add] at this
 unfold dl
 omega
theorem dl_add {m n L:Nat} (hm:dl m≤L) (hn:dl n≤L):dl (m+n)≤L+1:=by
 refine qb4 ?_
 have h1:=qdO m
 have h2:=qdO n
 have h3:=qeK hm
 have h4:=qeK hn
 unfold dl at h3 h4
 rw [show Bp (L+1)=1000000000*Bp L from rfl]
 omega
theorem qdb {m n:Nat} (h:m≤n):dl m≤dl n:=qca h
theorem dl_pos {n:Nat} (h:n≠0):1≤dl n:=by unfold dl;rw [qcM h,List.length_cons];omega
theorem dl_one:dl 1=1:=by unfold dl;rw [qcM (by omega),show 1 / 1000000000=0 from rfl,qbt];rfl
def sg (b:Bool) (m:Nat):Int:=if b=true then -(m:Int) else (m:Int)
theorem sg_abs (b:Bool) (m:Nat):(sg b m).natAbs=m:=by unfold sg;split<;>omega
theorem qfi (n:Int):sg (decide (n<0)) n.natAbs=n:=by
 unfold sg
 by_cases h:n<0
 ·rw [if_pos (by simpa using h)];omega
 ·rw [if_neg (by simpa using h)];omega
structure Rp (L:Nat) (q:Rat) (r:Bool×List Int×List Int):Prop where
 sgn:r.1=decide (q.num<0)
 num:r.2.1=dig q.num.natAbs
 den:r.2.2=dig q.den∨r.2.2=[]∧q.den=1
 ln:dl q.num.natAbs≤L
 ld:dl q.den≤L
theorem Rp.up {L M:Nat} {q:Rat} {r:Bool×List Int×List Int} (h:Rp L q r) (hm:L≤M):Rp M q r:=⟨h.sgn,h.num,h.den,Nat.le_trans h.ln hm,Nat.le_trans h.ld hm⟩
theorem of1:Ev (fun k=>qbk.f k 1) (dig 1):=of_ev (n:=1) (by omega)
theorem qcs {L:Nat} {q:Rat} {r:Bool×List Int×List Int} (h:Rp L q r):Ev (fun k=>qaY.f k r) (dig q.den):=by
 rcases h.den with e|⟨e,e1⟩
 ·have:=dl_pos q.den_nz
  unfold dl at this
  rw [←e] at this ⊢
  exact Ev.neg (by omega) (Ev.now _)
 ·rw [e1]
  exact Ev.pos (by rw [e];rfl) (Ev.bind of1 (Ev.now _))
theorem qbI {L:Nat} {q:Rat} {r:Bool×List Int×List Int} (h:Rp L q r):(r.2.1.length:Int)=0↔q=0:=by
 rw [h.num,←Rat.num_eq_zero]
 constructor
 ·intro e
  have:=dig_nil.1 (List.eq_nil_of_length_eq_zero (show (dig q.num.natAbs).length=0 by omega))
  omega
 ·intro e
  rw [e]
  show ((dig 0).length:Int)=0
  rw [qbt];rfl
theorem low_ev {b:Bool} {m d L:Nat} (hd:0<d) (hm:dl m≤L) (hdl:dl d≤L) (hL:L≤100000000000):EvP (fun k=>qbN.f k b (dig m) (dig d)) (Rp L (mkRat (sg b m) d)):=by
 have h1:=dl_pos (show d≠0 by omega)
 by_cases h:m=0
 ·subst h
  refine EvP.pos (by rw [qbt];rfl) (EvP.ret ?_)
  have e:mkRat (sg b 0) d=0:=by
   rw [show sg b 0=0 by unfold sg;split<;>rfl]
   exact Rat.zero_mkRat d
  rw [e]
  exact ⟨rfl,qbt.symm,Or.inr ⟨rfl,rfl⟩,by show dl 0≤L;unfold dl;rw [qbt];exact Nat.zero_le _,by show dl 1≤L;rw [dl_one];omega⟩
 ·have hl:=dl_pos h
  have hg:0<Nat.gcd m d:=Nat.gcd_pos_of_pos_right m hd
  have hgd:=Nat.gcd_dvd_left m d
  have hgd2:=Nat.gcd_dvd_right m d
  have hnum:(mkRat (sg b m) d).num=sg b (m / Nat.gcd m d):=by
   rw [Rat.num_mkRat,if_neg (by omega),sg_abs,Nat.gcd_comm d m]
   unfold sg
   split
   ·rw [Int.neg_ediv_of_dvd (Int.natCast_dvd_natCast.2 hgd)];rfl
   ·rfl
  have hden:(mkRat (sg b m) d).den=d / Nat.gcd m d:=by
   rw [Rat.den_mkRat,if_neg (by omega),sg_abs,Nat.gcd_comm d m]
  have hmg:0<m / Nat.gcd m d:=Nat.div_pos (Nat.le_of_dvd (by omega) hgd) hg
  have fin:Rp L (mkRat (sg b m) d) (b,dig (m / Nat.gcd m d),dig (d / Nat.gcd m d)):=by
   refine ⟨?_,by rw [hnum,sg_abs],Or.inl (by rw [hden]),by rw [hnum,sg_abs];exact Nat.le_trans (qdb (Nat.div_le_self _ _)) hm,by rw [hden];exact Nat.le_trans (qdb (Nat.div_le_self _ _)) hdl⟩
   rw [hnum]
   unfold sg
   cases b
   ·simp;omega
   ·simp;omega
  have hgl:dl (Nat.gcd m d)≤L:=Nat.le_trans (qdb (Nat.le_of_dvd (by omega) hgd)) hm
  unfold dl at hl hgl hm hdl
  refine EvP.neg (by omega) (EvP.bindE (gcd_ev (by omega) (by omega)) (EvP.bindE of1 (EvP.bindE (cmp_ev (by omega)) ?_)))
  by_cases h2:1<Nat.gcd m d
  ·rw [cmpI_gt (by omega)]
   exact EvP.pos (by omega) (EvP.bindE (div_ev hg (by omega) (by omega)) (EvP.bindE (div_ev hg (by omega) (by omega)) (EvP.ret fin)))
  ·have h3:Nat.gcd m d=1:=by omega
   rw [h3,Nat.div_one,Nat.div_one] at fin
   rw [h3,show ((1:Nat):Int)=1 from rfl,cmpI_eq]
   exact EvP.neg (by omega) (EvP.ret fin)
theorem qeJ {L M:Nat} {p q:Rat} {a b:Bool×List Int×List Int} (ha:Rp L p a) (hb:Rp M q b) (hL:L+M≤20000000000):EvP (fun k=>qbg.f k a b) (Rp (L+M+1) (p+q)):=by
 by_cases hp:p=0
 ·refine EvP.pos ((qbI ha).2 hp) (EvP.ret ?_)
  rw [hp,Rat.zero_add]
  exact hb.up (by omega)
 ·refine EvP.neg (fun e=>hp ((qbI ha).1 e)) ?_
  by_cases hq:q=0
  ·refine EvP.pos ((qbI hb).2 hq) (EvP.ret ?_)
   rw [hq,Rat.add_zero]
   exact ha.up (by omega)
  ·refine EvP.neg (fun e=>hq ((qbI hb).1 e)) ?_
   have a1:=ha.ln
   have a2:=ha.ld
   have b1:=hb.ln
   have b2:=hb.ld
   have l1:=qeU p.num.natAbs q.den
   have l2:=qeU q.num.natAbs p.den
   have l3:=qeU p.den q.den
   have hd:0<p.den*q.den:=Nat.mul_pos p.den_pos q.den_pos
   rw [ha.num,hb.num,ha.sgn,hb.sgn,Rat.add_def']
   have hs:=qfi p.num
   have ht:=qfi q.num
   have ex:(p.num*(q.den:Int)+q.num*(p.den:Int))=sg (decide (p.num<0)) (p.num.natAbs*q.den)+sg (decide (q.num<0)) (q.num.natAbs*p.den):=by
    conv=>lhs;rw [←hs,←ht]
    unfold sg
    split<;>split<;>simp [Int.natCast_mul,Int.neg_mul]
   rw [ex]
   have c1:(dig q.den).length≤M:=b2
   have c2:(dig p.den).length≤L:=a2
   have c3:(dig p.num.natAbs).length≤L:=a1
   have c4:(dig q.num.natAbs).length≤M:=b1
   have M1:=qeg (m:=p.num.natAbs) (n:=q.den) (by omega) (by omega)
   have M2:=qeg (m:=q.num.natAbs) (n:=p.den) (by omega) (by omega)
   clear ex hs ht
   generalize p.num.natAbs*q.den=m at M1 l1 ⊢
   generalize q.num.natAbs*p.den=n at M2 l2 ⊢
   have l4:=dl_add (L:=L+M) (m:=m) (n:=n) (by omega) (by omega)
   have c5:(dig m).length≤L+M:=by unfold dl at l1 a1 b2;omega
   have c6:(dig n).length≤L+M:=by unfold dl at l2 b1 a2;omega
   have c7:dl (p.den*q.den)≤L+M+1:=by omega
   refine EvP.bindE (qcs hb) (EvP.bindE M1 (EvP.bindE (qcs ha) (EvP.bindE M2 (EvP.bindE (qcs ha) (EvP.bindE (qcs hb) (EvP.bindE (qeg (by omega) (by omega)) ?_))))))
   have sub_low:∀(c:Bool) (x y:Nat),y≤x→(dig x).length≤L+M→EvP (fun k=>(qaS.f k (dig x) (dig y)).bind fun r=>(qbN.f k c r (dig (p.den*q.den))).bind fun r'=>some r') (Rp (L+M+1) (mkRat (sg c (x - y)) (p.den*q.den))):=by
    intro c x y hxy hx
    exact EvP.bindE (sub_ev hxy (by omega)) (EvP.bind (low_ev hd (Nat.le_trans (qdb (Nat.sub_le _ _)) (show dl x≤L+M+1 from Nat.le_succ_of_le hx)) c7 (by omega)) (fun r hr=>EvP.ret hr))
   refine EvP.ite (fun h=>?_) (fun h=>?_)
   ·have h:decide (p.num<0)=decide (q.num<0):=h
    rw [←h,show sg (decide (p.num<0)) m+sg (decide (p.num<0)) n=sg (decide (p.num<0)) (m+n) by unfold sg;split<;>omega]
    exact EvP.bindE (add_ev (by omega) (by omega)) (EvP.bind (low_ev hd l4 c7 (by omega)) (fun r hr=>EvP.ret hr))
   ·have h:¬decide (p.num<0)=decide (q.num<0):=h
    refine EvP.bindE (cmp_ev (by omega)) (EvP.ite (fun h'=>?_) (fun h'=>?_))
    ·have hle:n≤m:=by
      apply Classical.byContradiction
      intro hc
      have h':0≤cmpI (m:Int) n:=h'
      rw [cmpI_lt (by omega)] at h'
      omega
     have e:sg (decide (p.num<0)) m+sg (decide (q.num<0)) n=sg (decide (p.num<0)) (m - n):=by
      generalize decide (p.num<0)=u at h ⊢
      generalize decide (q.num<0)=w at h ⊢
      cases u<;>cases w<;>simp [sg] at h ⊢<;>omega
     rw [e]
     exact sub_low _ m n hle c5
    ·have hle:m≤n:=by
      apply Classical.byContradiction
      intro hc
      have h':¬0≤cmpI (m:Int) n:=h'
      rw [cmpI_gt (by omega)] at h'
      omega
     have e:sg (decide (p.num<0)) m+sg (decide (q.num<0)) n=sg (decide (q.num<0)) (n - m):=by
      generalize decide (p.num<0)=u at h ⊢
      generalize decide (q.num<0)=w at h ⊢
      cases u<;>cases w<;>simp [sg] at h ⊢<;>omega
     rw [e]
     exact sub_low _ n m hle c6
theorem negQ_ev {L:Nat} {q:Rat} {b:Bool×List Int×List Int} (hb:Rp L q b):EvP (fun k=>qcx.f k b) (Rp L (-q)):=by
 by_cases hq:q=0
 ·refine EvP.pos ((qbI hb).2 hq) (EvP.ret ?_)
  rw [hq] at hb ⊢
  exact hb
 ·refine EvP.neg (fun e=>hq ((qbI hb).1 e)) (EvP.ret ⟨?_,?_,?_,?_,?_⟩)
  ·rw [Rat.neg_num]
   show (!decide (b.1=true))=_
   rw [hb.sgn]
   have:q.num≠0:=fun e=>hq (Rat.num_eq_zero.1 e)
   by_cases h:q.num<0
   ·simp [h];omega
   ·simp [h];omega
  ·rw [Rat.neg_num,Int.natAbs_neg];exact hb.num
  ·rw [Rat.neg_den];exact hb.den
  ·rw [Rat.neg_num,Int.natAbs_neg];exact hb.ln
  ·rw [Rat.neg_den];exact hb.ld
theorem qc0 {L M:Nat} {p q:Rat} {a b:Bool×List Int×List Int} (ha:Rp L p a) (hb:Rp M q b) (hL:L+M≤20000000000):EvP (fun k=>qaR.f k a b) (Rp (L+M+1) (p - q)):=by
 rw [Rat.sub_eq_add_neg]
 exact EvP.bind (negQ_ev hb) (fun r hr=>EvP.bind (qeJ ha hr hL) (fun r hr=>EvP.ret hr))
theorem Bp_ten:∀n,Bp n=((10 ^ (9*n):Nat):Int)
 |0=>rfl
 |n+1=>by
  show 1000000000*Bp n=_
  rw [Bp_ten n,show 9*(n+1)=9*n+9 by omega,Nat.pow_add,Int.natCast_mul,Int.mul_comm]
  rfl
theorem txt_len (n:Nat):(txtN n).length≤9*dl n+1:=by
 unfold txtN
 split
 ·simp
 ·obtain ⟨h1,h2,h3⟩:=decL_ok n
  obtain ⟨x,t,e,hx⟩:=h3 (by assumption)
  have h4:=qdO n
  rw [Bp_ten] at h4
  have h5:n<10 ^ (9*dl n):=by unfold dl;omega
  rw [e,vB_cons] at h2
  rw [e,List.length_cons]
  have h6:10 ^ t.length≤(x - 48).toNat*10 ^ t.length:=Nat.le_mul_of_pos_left _ (by omega)
  have h7:10 ^ t.length<10 ^ (9*dl n):=by omega
  have:=(Nat.pow_lt_pow_iff_right (by omega:1<10)).1 h7
  omega
theorem len_txt (n:Nat):dl n≤(txtN n).length:=by
 obtain ⟨h1,h2,h3⟩:=qbQ n
 refine qb4 ?_
 have h4:=vB_lt _ h1
 rw [h2] at h4
 have h5:10 ^ (txtN n).length≤10 ^ (9*(txtN n).length):=Nat.pow_le_pow_right (by omega) (by omega)
 rw [Bp_ten]
 omega
def Fit (q:Rat):Prop:=(txtN q.num.natAbs).length≤2000∧(txtN q.den).length≤2000
instance (q:Rat):Decidable (Fit q):=inferInstanceAs (Decidable (_∧_))
theorem txt_one:txtN 1=[49]:=by
 unfold txtN
 rw [if_neg (by omega),qe6 (by omega),show 1 / 10=0 from rfl,qcN];rfl
theorem qfa {m n:Nat} (h:txtN m=txtN n):m=n:=by
 rw [←(qbQ m).2.1,h,(qbQ n).2.1]
theorem fits_ev {L:Nat} {q:Rat} {r:Bool×List Int×List Int} (h:Rp L q r) (hL:L≤90000000000):Ev (fun k=>qbL.f k r) (if Fit q then 0 else 2):=by
 have h1:=h.ln
 have h2:=h.ld
 have D:Ev (fun k=>qbD.f k r.2.2) ((txtN q.den).length:Int):=by
  rcases h.den with e|⟨e,e1⟩
  ·rw [e];exact qfJ (by unfold dl at h2;omega)
  ·have:=qfJ (n:=0) (by rw [qbt];simp)
   rw [qbt] at this
   rw [e,e1,txt_one]
   exact this
 refine Ev.bind (a:=((txtN q.num.natAbs).length:Int)) (by rw [h.num];exact qfJ (by unfold dl at h1;omega)) (Ev.ite (fun hc=>?_) (fun hc=>Ev.bind D (Ev.ite (fun hd=>?_) (fun hd=>?_))))
 ·have hc:2000<((txtN q.num.natAbs).length:Int):=hc
  rw [if_neg (fun hf=>by have:=hf.1;omega)]
  exact Ev.now _
 ·have hd:2000<((txtN q.den).length:Int):=hd
  rw [if_neg (fun hf=>by have:=hf.2;omega)]
  exact Ev.now _
 ·have hc:¬2000<((txtN q.num.natAbs).length:Int):=hc
  have hd:¬2000<((txtN q.den).length:Int):=hd
  rw [if_pos ⟨by omega,by omega⟩]
  exact Ev.now _
def outL (q:Rat):List Int:=(if q.num<0 then [45] else [])++(txtN q.num.natAbs++(if q.den=1 then [] else 47::txtN q.den))
theorem qef (q:Rat):∀x∈outL q,0≤x∧x<256:=by
 intro x hx
 have h1:=(qbQ q.num.natAbs).1
 have h2:=(qbQ q.den).1
 unfold outL at hx
 rw [List.mem_append,List.mem_append] at hx
 rcases hx with hx|hx|hx
 ·split at hx
  ·rw [List.mem_singleton.1 hx];omega
  ·cases hx
 ·have:=h1 x hx;omega
 ·split at hx
  ·cases hx
  ·rcases List.mem_cons.1 hx with rfl|hx
   ·omega
   ·have:=h2 x hx;omega
theorem of_app {a b:List Int} (ha:∀x∈a,0≤x∧x<256) (hb:∀x∈b,0≤x∧x<256):ofBytes a++ofBytes b=ofBytes (a++b):=qcr (by
 rw [bytesL_append,qbj ha,qbj hb,qbj (fun x hx=>(List.mem_append.1 hx).elim (ha x) (hb x))])
theorem qdX {a:List Int} (ha:∀x∈a,0≤x∧x<256):(ofBytes a).size=a.length:=by rw [←qbG,qbj ha]
theorem one_byte {c:Int} (h:0≤c∧c<256):∀x∈[c],0≤x∧x<256:=fun x hx=>by rw [List.mem_singleton.1 hx];exact h
theorem out_ev {L:Nat} {q:Rat} {r:Bool×List Int×List Int} (h:Rp L q r) (hL:L≤90000000000):Ev (fun k=>qbB.f k r) (ofBytes (outL q)):=by
 by_cases hq:q=0
 ·refine Ev.pos ((qbI h).2 hq) ?_
  rw [hq]
  exact Ev.now _
 ·have h1:=h.ln
  have h2:=h.ld
  have n1:=(qbQ q.num.natAbs).1.byte
  have n2:=(qbQ q.den).1.byte
  have s1:=qdX n1
  have s2:=qdX n2
  have t1:=txt_len q.num.natAbs
  have t2:=txt_len q.den
  have eq1:ofBytes (txtN q.den)=ByteArray.mk #[49]↔q.den=1:=by
   rw [show ByteArray.mk #[49]=ofBytes [49] from rfl,←txt_one]
   constructor
   ·intro e
    have:=congrArg qaK e
    rw [qbj n2,qbj (qbQ 1).1.byte] at this
    exact qfa this
   ·intro e;rw [e]
  have a45:∀l:List Int,(∀x∈l,0≤x∧x<256)→ByteArray.mk #[45]++ofBytes l=ofBytes (45::l):=fun l hl=>of_app (a:=[45]) (one_byte (by omega)) hl
  have a47:∀l:List Int,(∀x∈l,0≤x∧x<256)→ByteArray.mk #[47]++ofBytes l=ofBytes (47::l):=fun l hl=>of_app (a:=[47]) (one_byte (by omega)) hl
  have b47:∀x∈(47::txtN q.den),0≤x∧x<256:=fun x hx=>(List.mem_cons.1 hx).elim (fun e=>by omega) (n2 x)
  have b45:∀x∈(45::txtN q.num.natAbs),0≤x∧x<256:=fun x hx=>(List.mem_cons.1 hx).elim (fun e=>by omega) (n1 x)
  have z45:(ByteArray.mk #[45]).size=1:=rfl
  have z47:(ByteArray.mk #[47]).size=1:=rfl
  have s3:=qdX b47
  have s4:=qdX b45
  rw [List.length_cons] at s3 s4
  refine Ev.neg (fun e=>hq ((qbI h).1 e)) (Ev.bind (a:=ofBytes (txtN q.num.natAbs)) (by rw [h.num];exact text_ev (by unfold dl at h1;omega)) (Ev.ite (fun hs=>Ev.pos (by omega) (Ev.bind (qcs h) (Ev.bind (text_ev (by unfold dl at h2;omega)) ?_))) (fun hs=>(Ev.bind (qcs h) (Ev.bind (text_ev (by unfold dl at h2;omega)) ?_)))))
  ·have hs:q.num<0:=by
    have hs:r.1=true:=hs
    rw [h.sgn] at hs
    simpa using hs
   rw [a45 _ n1,a47 _ n2]
   unfold outL
   rw [if_pos hs]
   refine Ev.ite (fun hd=>?_) (fun hd=>Ev.pos (by omega) (Ev.pos (by omega) ?_))
   ·rw [if_pos (eq1.1 hd),List.append_nil]
    exact Ev.now _
   ·rw [if_neg (fun e=>hd (eq1.2 e)),of_app b45 b47]
    exact Ev.now _
  ·have hs:¬q.num<0:=by
    have hs:¬r.1=true:=hs
    rw [h.sgn] at hs
    simpa using hs
   rw [a47 _ n2]
   unfold outL
   rw [if_neg hs,List.nil_append]
   refine Ev.ite (fun hd=>?_) (fun hd=>Ev.pos (by omega) (Ev.pos (by omega) ?_))
   ·rw [if_pos (eq1.1 hd),List.append_nil]
    exact Ev.now _
   ·rw [if_neg (fun e=>hd (eq1.2 e)),of_app n1 b47]
    exact Ev.now _
theorem told_ev {L:Nat} {q:Rat} {r:Bool×List Int×List Int} (h:Rp L q r) (hL:L≤90000000000):Ev (fun k=>qcO.f k r) (if Fit q then (ofBytes (outL q),0) else (ByteArray.empty,2)):=by
 refine Ev.bind (fits_ev h hL) ?_
 by_cases hf:Fit q
 ·rw [if_pos hf,if_pos hf]
  exact Ev.pos rfl (Ev.bind (out_ev h hL) (Ev.now _))
 ·rw [if_neg hf,if_neg hf]
  exact Ev.neg (by decide) (Ev.now _)
theorem ixb (l:List UInt8) (c:UInt8):(c∉l∧Lib.indexByte l c=-1)∨∃a b,l=a++c::b∧c∉a∧Lib.indexByte l c=(a.length:Int):=by
 induction l with
 |nil=>exact Or.inl ⟨by simp,rfl⟩
 |cons x t ih=>
  by_cases hx:x=c
  ·subst hx
   exact Or.inr ⟨[],t,rfl,by simp,by simp [Lib.indexByte]⟩
  ·rcases ih with ⟨h1,h2⟩|⟨a,b,h1,h2,h3⟩
   ·left
    refine ⟨by simp [h1,Ne.symm hx],?_⟩
    simp [Lib.indexByte,hx,h2]
   ·right
    refine ⟨x::a,b,by rw [h1];rfl,by simp [h2,Ne.symm hx],?_⟩
    have h4:¬(Lib.indexByte t c=-1):=by omega
    simp only [Lib.indexByte,List.length_cons]
    rw [if_neg (by simpa using hx),if_neg (by simpa using h4),h3]
    omega
theorem idx47 (s:ByteArray):((47:Int)∉qaK s∧idxB s 47=-1)∨∃a b,qaK s=a++47::b∧(47:Int)∉a∧idxB s 47=(a.length:Int):=by
 have hmem:∀l:List UInt8,(47:UInt8)∉l→(47:Int)∉l.map fun b=>(b.toNat:Int):=by
  intro l h hm
  obtain ⟨b,hb,e⟩:=List.mem_map.1 hm
  have:b=47:=UInt8.toNat_inj.1 (by show b.toNat=47;omega)
  exact h (this▸hb)
 rcases ixb s.data.toList 47 with ⟨h1,h2⟩|⟨a,b,h1,h2,h3⟩
 ·exact Or.inl ⟨hmem _ h1,h2⟩
 ·refine Or.inr ⟨a.map fun b=>(b.toNat:Int),b.map fun b=>(b.toNat:Int),?_,hmem _ h2,?_⟩
  ·unfold qaK
   rw [h1,List.map_append,List.map_cons];rfl
  ·rw [List.length_map];exact h3
theorem qeq {c:Int}:∀{a b a' b':List Int},a++c::b=a'++c::b'→c∉a→c∉a'→a=a'∧b=b'
 |[],b,[],b',h,_,_=>by simpa using h
 |[],b,y::a',b',h,_,h2=>by
  rw [List.nil_append,List.cons_append,List.cons.injEq] at h
  exact absurd (by rw [h.1];simp) h2
 |x::a,b,[],b',h,h1,_=>by
  rw [List.nil_append,List.cons_append,List.cons.injEq] at h
  exact absurd (by rw [h.1];simp) h1
 |x::a,b,y::a',b',h,h1,h2=>by
  rw [List.cons_append,List.cons_append,List.cons.injEq] at h
  obtain ⟨e1,e2⟩:=qeq h.2 (fun hm=>h1 (by simp [hm])) (fun hm=>h2 (by simp [hm]))
  exact ⟨by rw [h.1,e1],e2⟩
theorem qfP {s:ByteArray} {a b:List Int} (h:qaK s=a++b):(∀x∈a,0≤x∧x<256)∧(∀x∈b,0≤x∧x<256):=
 ⟨fun x hx=>qeE s x (by rw [h];simp [hx]),fun x hx=>qeE s x (by rw [h];simp [hx])⟩
theorem pre_ev (s:ByteArray):Ev (fun k=>stringslite_HasPrefix.f k s (ByteArray.mk #[45])) (decide ((qaK s).head?=some 45)):=by
 have hl:=qbG s
 have z:((ByteArray.mk #[45]).size:Int)=1:=rfl
 refine Ev.ite (fun h=>Ev.pos h (Ev.pos (by decide) ?_)) (fun h=>?_)
 ·have h:((ByteArray.mk #[45]).size:Int)≤(s.size:Int):=h
  have e:(s.extract (Int.toNat 0) (Int.toNat ((ByteArray.mk #[45]).size:Int))=ByteArray.mk #[45])↔((qaK s).head?=some 45):=by
   have e1:qaK (s.extract (Int.toNat 0) (Int.toNat ((ByteArray.mk #[45]).size:Int)))=(qaK s).take 1:=by
    rw [qbV];rfl
   cases hb:qaK s with
   |nil=>rw [hb] at hl;simp at hl;omega
   |cons x t=>
    rw [hb] at e1
    constructor
    ·intro e2
     rw [e2] at e1
     have e1:[(45:Int)]=[x]:=e1
     rw [List.head?_cons]
     exact congrArg some (List.cons.inj e1).1.symm
    ·intro e2
     rw [List.head?_cons,Option.some.injEq] at e2
     refine qcr ?_
     rw [e1,e2];rfl
  rw [show decide ((qaK s).head?=some 45)=decide (s.extract (Int.toNat 0) (Int.toNat ((ByteArray.mk #[45]).size:Int))=ByteArray.mk #[45]) by simp only [e]]
  exact Ev.now _
 ·have h:¬((ByteArray.mk #[45]).size:Int)≤(s.size:Int):=h
  have e:qaK s=[]:=List.eq_nil_of_length_eq_zero (by omega)
  rw [e]
  exact Ev.now _
theorem cutp_neg {s:ByteArray} {t:List Int} (h:qaK s=45::t):Ev (fun k=>strings_CutPrefix.f k s (ByteArray.mk #[45])) (ofBytes t,true):=by
 have hl:=qbG s
 have hp:=pre_ev s
 rw [h,List.head?_cons,decide_eq_true rfl] at hp
 rw [h,List.length_cons] at hl
 have e:s.extract (Int.toNat ((ByteArray.mk #[45]).size:Int)) (Int.toNat (s.size:Int))=ofBytes t:=by
  refine qcr ?_
  rw [qbV,h,qbj (qfP (a:=[45]) h).2,show Int.toNat (s.size:Int)=s.size from rfl,List.take_of_length_le (by rw [List.length_cons];omega)];rfl
 refine Ev.bind (a:=(ofBytes t,true)) (Ev.bind hp (Ev.pos rfl (Ev.pos (by decide) (Ev.pos (by show (1:Int)≤_;omega) ?_)))) (Ev.now _)
 rw [e]
 exact Ev.now _
theorem cutp_pos {s:ByteArray} (h:(qaK s).head?≠some 45):Ev (fun k=>strings_CutPrefix.f k s (ByteArray.mk #[45])) (s,false):=by
 have hp:=pre_ev s
 rw [decide_eq_false h] at hp
 exact Ev.bind (a:=(s,false)) (Ev.bind hp (Ev.neg (by decide) (Ev.now _))) (Ev.now _)
theorem idx_ev (s:ByteArray):Ev (fun k=>stringslite_Index.f k s (ByteArray.mk #[47])) (idxB s 47):=by
 refine Ev.neg (by decide) (Ev.ite (fun h=>?_) (fun h=>Ev.pos (by decide) (Ev.pos (by decide) (Ev.pos (by decide) (Ev.bind (a:=idxB s 47) (Ev.now _) (Ev.now _))))))
 have h:ByteArray.mk #[47]=s:=h
 rw [←h]
 exact Ev.now _
theorem cut_yes {s:ByteArray} {a b:List Int} (h:qaK s=a++47::b) (ha:(47:Int)∉a) (hb:s.size≤9000000000000000):Ev (fun k=>strings_Cut.f k s (ByteArray.mk #[47])) (ofBytes a,ofBytes b,true):=by
 have hl:=qbG s
 have hi:idxB s 47=(a.length:Int):=by
  rcases idx47 s with ⟨h1,_⟩|⟨a',b',h1,h2,h3⟩
  ·exact absurd (by rw [h];simp) h1
  ·rw [h] at h1
   rw [h3,(qeq h1 ha h2).1]
 have hx:=idx_ev s
 rw [hi] at hx
 have bb:=(qfP (a:=a++[47]) (b:=b) (by rw [h];simp)).2
 have ba:=(qfP h).1
 rw [h,List.length_append,List.length_cons] at hl
 have z:((ByteArray.mk #[47]).size:Int)=1:=rfl
 have e1:s.extract (Int.toNat 0) (Int.toNat (a.length:Int))=ofBytes a:=by
  refine qcr ?_
  rw [qbV,h,qbj ba,show Int.toNat (a.length:Int)=a.length from rfl,List.take_left];rfl
 have e2:s.extract (Int.toNat ((a.length:Int)+1)) (Int.toNat (s.size:Int))=ofBytes b:=by
  refine qcr ?_
  rw [qbV,h,qbj bb,show Int.toNat (s.size:Int)=s.size from rfl,show Int.toNat ((a.length:Int)+1)=a.length+1 from rfl,List.take_of_length_le (by rw [List.length_append,List.length_cons];omega),←List.drop_drop,List.drop_left];rfl
 refine Ev.bind (a:=(ofBytes a,ofBytes b,true)) (Ev.bind hx ?_) (Ev.now _)
 rw [z,w64 (x:=(a.length:Int)+1) (by omega) (by omega),e1,e2]
 exact Ev.pos (by omega) (Ev.pos (by omega) (Ev.pos (by omega) (Ev.pos (by omega) (Ev.pos (by omega) (Ev.now _)))))
theorem cut_no {s:ByteArray} (h:(47:Int)∉qaK s):Ev (fun k=>strings_Cut.f k s (ByteArray.mk #[47])) (s,ByteArray.empty,false):=by
 have hi:idxB s 47=-1:=by
  rcases idx47 s with ⟨_,h2⟩|⟨a',b',h1,_,_⟩
  ·exact h2
  ·exact absurd (by rw [h1];simp) h
 have hx:=idx_ev s
 rw [hi] at hx
 exact Ev.bind (a:=(s,ByteArray.empty,false)) (Ev.bind hx (Ev.neg (by omega) (Ev.now _))) (Ev.now _)
def OutOk (p:ByteArray) (q:Rat):Prop:=p=ofBytes (outL q)∧Fit q
def bodyL (q:Rat):List Int:=txtN q.num.natAbs++(if q.den=1 then [] else 47::txtN q.den)
theorem body_byte (q:Rat):∀x∈bodyL q,0≤x∧x<256:=fun x hx=>qef q x (by unfold outL;unfold bodyL at hx;exact List.mem_append_right _ hx)
theorem ds_no {l:List Int} (h:Ds l) {c:Int} (hc:c<48):c∉l:=fun hm=>by have:=h c hm;omega
theorem parts_ev (q:Rat) (hf:Fit q):Ev (fun k=>strings_CutPrefix.f k (ofBytes (outL q)) (ByteArray.mk #[45])) (ofBytes (bodyL q),decide (q.num<0))∧
  Ev (fun k=>strings_Cut.f k (ofBytes (bodyL q)) (ByteArray.mk #[47])) (ofBytes (txtN q.num.natAbs),(if q.den=1 then ByteArray.empty else ofBytes (txtN q.den)),decide (q.den≠1)):=by
 have hob:=qbj (qef q)
 have hbb:=qbj (body_byte q)
 obtain ⟨n1,n2,n3⟩:=qbQ q.num.natAbs
 constructor
 ·by_cases h:q.num<0
  ·rw [decide_eq_true h]
   refine cutp_neg ?_
   rw [hob];unfold outL;rw [if_pos h];rfl
  ·have e:outL q=bodyL q:=by unfold outL bodyL;rw [if_neg h];rfl
   rw [decide_eq_false h,e]
   refine cutp_pos ?_
   rw [hbb]
   unfold bodyL
   cases ht:txtN q.num.natAbs with
   |nil=>exact absurd ht n3
   |cons x t=>
    rw [List.cons_append,List.head?_cons]
    intro e
    have:=n1 x (by rw [ht];simp)
    have:=Option.some.inj e
    omega
 ·by_cases h:q.den=1
  ·have e:bodyL q=txtN q.num.natAbs:=by unfold bodyL;rw [if_pos h,List.append_nil]
   rw [if_pos h,e,show decide (q.den≠1)=false by simp [h]]
   refine cut_no ?_
   rw [qbj n1.byte]
   exact ds_no n1 (by omega)
  ·have e:bodyL q=txtN q.num.natAbs++47::txtN q.den:=by unfold bodyL;rw [if_neg h]
   rw [if_neg h,show decide (q.den≠1)=true by simp [h]]
   refine cut_yes (by rw [hbb,e]) (ds_no n1 (by omega)) ?_
   rw [qdX (body_byte q),e,List.length_append,List.length_cons]
   have:=hf.1
   have:=hf.2
   omega
theorem qer {n:Nat} (h:(txtN n).length≤2000):dl n≤2000:=Nat.le_trans (len_txt n) h
theorem qeY {n:Nat} (h:(txtN n).length≤2000):Ev (fun k=>qaO.f k (ofBytes (txtN n))) (dig n):=by
 obtain ⟨n1,n2,_⟩:=qbQ n
 have:=read_ev (s:=ofBytes (txtN n)) (by rw [qbj n1.byte];exact n1) (by rw [qdX n1.byte];omega)
 rw [qbj n1.byte,n2] at this
 exact this
theorem chk_txt {n:Nat} (h:(txtN n).length≤2000):Ev (fun k=>qbi.f k (ofBytes (txtN n))) 0:=by
 obtain ⟨r,hr,_,h1⟩:=check_ev (s:=ofBytes (txtN n)) (by rw [qdX (qbQ n).1.byte];omega)
 rw [←h1.2 (decOk_of h)]
 exact hr
theorem in_ev {p:ByteArray} {q:Rat} (h:OutOk p q):EvP (fun k=>qcd.f k p) (Rp 2000 q):=by
 obtain ⟨rfl,hf⟩:=h
 obtain ⟨h1,h2⟩:=parts_ev q hf
 refine EvP.bindE h1 (EvP.bindE h2 (EvP.bindE (qeY hf.1) (EvP.bindE of1 ?_)))
 by_cases hd:q.den=1
 ·refine EvP.neg (by simp [hd]) (EvP.ret ⟨rfl,rfl,Or.inl (by rw [hd]),qer hf.1,qer hf.2⟩)
 ·rw [if_neg hd]
  exact EvP.pos (by simp [hd]) (EvP.bindE (qeY hf.2) (EvP.ret ⟨rfl,rfl,Or.inl rfl,qer hf.1,qer hf.2⟩))
theorem qdC {m n:Nat} (h:ofBytes (txtN m)=ofBytes (txtN n)):m=n:=by
 have:=congrArg qaK h
 rw [qbj (qbQ m).1.byte,qbj (qbQ n).1.byte] at this
 exact qfa this
theorem b48:ByteArray.mk #[48]=ofBytes (txtN 0):=rfl
theorem b49:ByteArray.mk #[49]=ofBytes (txtN 1):=by rw [txt_one];rfl
theorem ratCheck_ok {p:ByteArray} {q:Rat} (h:OutOk p q):Ev (fun k=>qbu.f k p) 0:=by
 obtain ⟨rfl,hf⟩:=h
 obtain ⟨h1,h2⟩:=parts_ev q hf
 have g:Ev (fun k=>(qaO.f k (ofBytes (txtN q.num.natAbs))).bind fun r5=>(qaO.f k (ofBytes (txtN q.den))).bind fun r6=>(qbc.f k r5 r6).bind fun r7=>(qbk.f k 1).bind fun r8=>(qaW.f k r7 r8).bind fun r9=>if r9=0 then some 0 else some 3) (0:Int):=by
  have a1:=qer hf.1
  have a2:=qer hf.2
  unfold dl at a1 a2
  refine Ev.bind (qeY hf.1) (Ev.bind (qeY hf.2) (Ev.bind (gcd_ev (by omega) (by omega)) (Ev.bind of1 (Ev.bind (cmp_ev ?_) ?_))))
  ·rw [q.reduced];show (dig 1).length≤_;have:=dl_one;unfold dl at this;omega
  ·rw [q.reduced,show ((1:Nat):Int)=1 from rfl,cmpI_eq]
   exact Ev.pos rfl (Ev.now _)
 refine Ev.bind h1 (Ev.bind h2 (Ev.bind (chk_txt hf.1) ?_))
 by_cases hd:q.den=1
 ·rw [if_pos hd,show decide (q.den≠1)=false by simp [hd]]
  refine Ev.neg (by simp) (Ev.step (fun k=>qbu.l6_eq k _ _ _ _ _ _) (Ev.neg (by simp) (Ev.neg (by simp) (Ev.ite (fun hn=>Ev.neg ?_ (Ev.pos rfl (Ev.pos rfl (Ev.neg (by simp) (Ev.now _))))) (fun hn=>Ev.pos rfl (Ev.pos rfl (Ev.neg (by simp) (Ev.now _))))))))
  intro e
  have hn:decide (q.num<0)=true:=hn
  have hn:=of_decide_eq_true hn
  rw [b48] at e
  have:=qdC e
  omega
 ·rw [if_neg hd,show decide (q.den≠1)=true by simp [hd]]
  have c0:¬ofBytes (txtN q.den)=ByteArray.mk #[48]:=fun e=>q.den_nz (qdC (e.trans b48))
  have c1:¬ofBytes (txtN q.den)=ByteArray.mk #[49]:=fun e=>hd (qdC (e.trans b49))
  refine Ev.pos rfl (Ev.bind (chk_txt hf.2) (Ev.step (fun k=>qbu.l6_eq k _ _ _ _ _ _) (Ev.neg (by decide) (Ev.neg (by decide) (Ev.ite (fun hn=>Ev.neg ?_ (Ev.pos rfl (Ev.pos rfl (Ev.pos rfl (Ev.neg c0 (Ev.neg c1 g)))))) (fun hn=>Ev.pos rfl (Ev.pos rfl (Ev.pos rfl (Ev.neg c0 (Ev.neg c1 g))))))))))
  intro e
  have hn:decide (q.num<0)=true:=hn
  have hn:=of_decide_eq_true hn
  have:=qdC (e.trans b48)
  omega
theorem qdt (xs:List ByteArray) (hb:xs.length≤140737488355328) (hs:∀x∈xs,∃q,OutOk x q):∀(m j:Nat),j+m=xs.length→Ev (fun k=>qa7.l2 k xs (xs.length:Int) (j:Int)) 0
 |0,j,hj=>Ev.step (fun k=>qa7.l2_eq k _ _ _) (Ev.neg (by omega) (Ev.now _))
 |m+1,j,hj=>by
  obtain ⟨q,hq⟩:=hs _ (rStr_mem (xs:=xs) (i:=(j:Int)) (by omega) (by omega))
  refine Ev.step (fun k=>qa7.l2_eq k _ _ _) (Ev.pos (by omega) (Ev.pos (by omega) (Ev.pos (by omega) (Ev.bind (ratCheck_ok hq) (Ev.pos rfl ?_)))))
  rw [w64 (by omega) (by omega)]
  exact qdt xs hb hs m (j+1) (by omega)
theorem checkAll_ok {xs:List ByteArray} (hb:xs.length≤140737488355328) (hs:∀x∈xs,∃q,OutOk x q):Ev (fun k=>qa7.f k xs) 0:=qdt xs hb hs xs.length 0 (Nat.zero_add _)
theorem two_ok {a b:ByteArray} {p q:Rat} (ha:OutOk a p) (hb:OutOk b q):∀x∈[a,b],∃q,OutOk x q:=by
 intro x hx
 simp only [List.mem_cons,List.not_mem_nil,or_false] at hx
 rcases hx with rfl|rfl
 ·exact ⟨_,ha⟩
 ·exact ⟨_,hb⟩
def sgnQ (q:Rat):Int:=if q=0 then 0 else if q.num<0 then -1 else 1
theorem qc8 (q:Rat):q.num<0↔q<0:=by
 have:=@Rat.num_nonneg q
 constructor
 ·intro h
  refine Rat.not_le.1 (fun hc=>?_)
  have:=this.2 hc
  omega
 ·intro h
  apply Classical.byContradiction
  intro hc
  have:=this.1 (by omega)
  exact Rat.not_le.2 h this
theorem sgnQ_neg (q:Rat):sgnQ q<0↔q<0:=by
 unfold sgnQ
 split
 ·rename_i h;subst h;simp
 ·split
  ·rename_i h;simp only [(qc8 q).1 h];simp
  ·rename_i h
   constructor
   ·intro e;omega
   ·intro e;exact absurd ((qc8 q).2 e) h
theorem qd7 (q:Rat):sgnQ q=0↔q=0:=by
 unfold sgnQ
 split
 ·rename_i h;exact ⟨fun _=>h,fun _=>rfl⟩
 ·rename_i h
  split
  ·exact ⟨fun e=>by omega,fun e=>absurd e h⟩
  ·exact ⟨fun e=>by omega,fun e=>absurd e h⟩
theorem sgnQ_pos (q:Rat):0<sgnQ q↔0<q:=by
 have h1:=sgnQ_neg q
 have h2:=qd7 q
 constructor
 ·intro h
  have a1:¬q<0:=fun e=>by have:=h1.2 e;omega
  have a2:q≠0:=fun e=>by have:=h2.2 e;omega
  grind
 ·intro h
  have a1:¬sgnQ q<0:=fun e=>by have:=h1.1 e;grind
  have a2:sgnQ q≠0:=fun e=>by have:=h2.1 e;grind
  omega
theorem sign_ev {L:Nat} {q:Rat} {r:Bool×List Int×List Int} (h:Rp L q r):Ev (fun k=>qbe.f k r) (sgnQ q):=by
 unfold sgnQ
 by_cases hq:q=0
 ·rw [if_pos hq]
  exact Ev.pos ((qbI h).2 hq) (Ev.now _)
 ·rw [if_neg hq]
  refine Ev.neg (fun e=>hq ((qbI h).1 e)) ?_
  by_cases hn:q.num<0
  ·rw [if_pos hn]
   exact Ev.pos (by rw [h.sgn];simpa using hn) (Ev.now _)
  ·rw [if_neg hn]
   exact Ev.neg (by rw [h.sgn];simpa using hn) (Ev.now _)
theorem cmpQ_ev {L M:Nat} {p q:Rat} {a b:Bool×List Int×List Int} (ha:Rp L p a) (hb:Rp M q b) (hL:L+M≤20000000000):Ev (fun k=>qbR.f k a b) (sgnQ (p - q)):=
 EvP.ev (EvP.bind (qc0 ha hb hL) (fun _ hr=>EvP.bindE (sign_ev hr) (EvP.ret rfl)))
theorem dl_i64 {n:Nat} (h:n≤9223372036854775808):dl n≤3:=qb4 (by show (n:Int)<1000000000*(1000000000*(1000000000*1));omega)
theorem qeR {a:Int} (h0:-9223372036854775807≤a) (h1:a≤9223372036854775807):EvP (fun k=>qbl.f k a) (Rp 3 (a:Rat)):=by
 have hl:=dl_i64 (n:=a.natAbs) (by omega)
 have h1':dl 1≤3:=by rw [dl_one];omega
 have fin:∀b:Bool,b=decide (a<0)→Rp 3 (a:Rat) (b,dig a.natAbs,dig 1):=fun b hb=>⟨by rw [Rat.num_intCast];exact hb,by rw [Rat.num_intCast],Or.inl (by rw [Rat.den_intCast]),by rw [Rat.num_intCast];exact hl,by rw [Rat.den_intCast];exact h1'⟩
 refine EvP.ite (fun h=>?_) (fun h=>?_)
 ·have h:a<0:=h
  rw [w64 (x:=0 - a) (by omega) (by omega),show 0 - a=((a.natAbs:Nat):Int) by omega]
  exact EvP.bindE (of_ev (by omega)) (EvP.bindE of1 (EvP.ret (fin true (by simp [h]))))
 ·have h:¬a<0:=h
  have e:a=((a.natAbs:Nat):Int):=by omega
  rw [show qbk.f=qbk.f from rfl]
  have o:=of_ev (n:=a.natAbs) (by omega)
  rw [←e] at o
  exact EvP.bindE o (EvP.bindE of1 (EvP.ret (fin false (by simp [h]))))
theorem qgq {a b:ByteArray} {p q:Rat} (ha:OutOk a p) (hb:OutOk b q):Ev (fun k=>qbH.f k a b) (sgnQ (p - q),0):=
 EvP.ev (EvP.bindE (checkAll_ok (by simp) (two_ok ha hb)) (EvP.pos rfl (EvP.bind (in_ev ha) (fun x hx=>EvP.bind (in_ev hb) (fun y hy=>EvP.bindE (cmpQ_ev hx hy (by omega)) (EvP.ret rfl))))))
theorem ratOf_ev {n:Int} (h0:-9223372036854775808≤n) (h1:n≤9223372036854775807):Ev (fun k=>qdm.f k n 1) (if Fit (n:Rat) then (ofBytes (outL (n:Rat)),0) else (ByteArray.empty,2)):=by
 have hl:=dl_i64 (n:=n.natAbs) (by omega)
 have d1:=dl_one
 have S:Ev (fun k=>qcu.f k n) (dig n.natAbs):=by
  refine Ev.ite (fun h=>?_) (fun h=>?_)
  ·have h:0≤n:=h
   have o:=of_ev (n:=n.natAbs) (by omega)
   rw [show ((n.natAbs:Nat):Int)=n by omega] at o
   exact Ev.bind o (Ev.now _)
  ·have h:¬0≤n:=h
   rw [w64 (x:=n+1) (by omega) (by omega),w64 (x:=0 - (n+1)) (by omega) (by omega)]
   have o:=of_ev (n:=n.natAbs - 1) (by omega)
   rw [show ((n.natAbs - 1:Nat):Int)=0 - (n+1) by omega] at o
   have hl':=dl_i64 (n:=n.natAbs - 1) (by omega)
   have a:=add_ev (m:=n.natAbs - 1) (n:=1) (by unfold dl at hl';omega) (by unfold dl at d1;omega)
   rw [show n.natAbs - 1+1=n.natAbs by omega] at a
   exact Ev.bind o (Ev.bind of1 (Ev.bind a (Ev.now _)))
 have S1:Ev (fun k=>qcu.f k 1) (dig 1):=Ev.pos (by decide) (Ev.bind of1 (Ev.now _))
 refine EvP.ev (EvP.neg (by decide) (EvP.bindE S (EvP.bindE S1 (EvP.bind (low_ev (L:=3) (by omega) hl (by omega) (by omega)) (fun r hr=>?_)))))
 have e:mkRat (sg (!decide (decide (n<0)=decide ((1:Int)<0))) n.natAbs) 1=(n:Rat):=by
  rw [Rat.mkRat_one]
  have:(!decide (decide (n<0)=decide ((1:Int)<0)))=decide (n<0):=by
   by_cases h:n<0<;>simp [h]
  rw [this,qfi]
 rw [e] at hr
 exact EvP.bindE (told_ev hr (by omega)) (EvP.ret rfl)
theorem qen {L:Nat} (h:1≤L):Rp L 0 (false,[],[]):=⟨rfl,qbt.symm,Or.inr ⟨rfl,rfl⟩,by show dl 0≤L;unfold dl;rw [qbt];exact Nat.zero_le _,by show dl 1≤L;rw [dl_one];omega⟩
theorem rp_pos {L:Nat} {q:Rat} {r:Bool×List Int×List Int} (h:Rp L q r):1≤L:=Nat.le_trans (dl_pos q.den_nz) h.ld
theorem sg_mul (x y:Int):sg (!decide (decide (x<0)=decide (y<0))) (x.natAbs*y.natAbs)=x*y:=by
 conv=>rhs;rw [←qfi x,←qfi y]
 unfold sg
 by_cases hx:x<0<;>by_cases hy:y<0<;>simp [hx,hy,Int.natCast_mul,Int.neg_mul,Int.mul_neg]
theorem qfx {L M:Nat} {p q:Rat} {a b:Bool×List Int×List Int} (ha:Rp L p a) (hb:Rp M q b) (hL:L+M≤20000000000):EvP (fun k=>qa9.f k a b) (Rp (L+M) (p*q)):=by
 have hpos:=rp_pos ha
 by_cases hp:p=0
 ·refine EvP.pos ((qbI ha).2 hp) (EvP.ret ?_)
  rw [hp,Rat.zero_mul]
  exact qen (by omega)
 ·refine EvP.neg (fun e=>hp ((qbI ha).1 e)) ?_
  by_cases hq:q=0
  ·refine EvP.pos ((qbI hb).2 hq) (EvP.ret ?_)
   rw [hq,Rat.mul_zero]
   exact qen (by omega)
  ·refine EvP.neg (fun e=>hq ((qbI hb).1 e)) ?_
   have a1:=ha.ln
   have a2:=ha.ld
   have b1:=hb.ln
   have b2:=hb.ld
   have l1:=qeU p.num.natAbs q.num.natAbs
   have l3:=qeU p.den q.den
   have hd:0<p.den*q.den:=Nat.mul_pos p.den_pos q.den_pos
   have c1:(dig q.den).length≤M:=b2
   have c2:(dig p.den).length≤L:=a2
   have c3:(dig p.num.natAbs).length≤L:=a1
   have c4:(dig q.num.natAbs).length≤M:=b1
   have M1:=qeg (m:=p.num.natAbs) (n:=q.num.natAbs) (by omega) (by omega)
   have M2:=qeg (m:=p.den) (n:=q.den) (by omega) (by omega)
   have ex:=sg_mul p.num q.num
   rw [ha.num,hb.num,ha.sgn,hb.sgn,Rat.mul_def',←ex]
   refine EvP.bindE M1 (EvP.bindE (qcs ha) (EvP.bindE (qcs hb) (EvP.bindE M2 (EvP.bind (low_ev hd (by omega) (by omega) (by omega)) (fun r hr=>EvP.ret hr)))))
theorem div_mk (p q:Rat) (hq:q≠0):p / q=mkRat (sg (!decide (decide (p.num<0)=decide (q.num<0))) (p.num.natAbs*q.den)) (p.den*q.num.natAbs):=by
 have hqn:q.num≠0:=fun e=>hq (Rat.num_eq_zero.1 e)
 have hpd:=p.den_nz
 have hqd:=q.den_nz
 have c1:((p.den:Int):Rat)≠0:=fun e=>hpd (by exact_mod_cast e)
 have c2:((q.den:Int):Rat)≠0:=fun e=>hqd (by exact_mod_cast e)
 have c3:((q.num:Int):Rat)≠0:=fun e=>hqn (by exact_mod_cast e)
 have ep:p=((p.num:Int):Rat) / ((p.den:Int):Rat):=by
  rw [Rat.intCast_natCast,←Rat.mkRat_eq_div,Rat.mkRat_self]
 have eq:q=((q.num:Int):Rat) / ((q.den:Int):Rat):=by
  rw [Rat.intCast_natCast,←Rat.mkRat_eq_div,Rat.mkRat_self]
 rw [Rat.mkRat_eq_div,←Rat.intCast_natCast,Int.natCast_mul,Rat.intCast_mul]
 by_cases h:q.num<0
 ·have e1:((q.num.natAbs:Nat):Int)=-q.num:=by omega
  have e2:sg (!decide (decide (p.num<0)=decide (q.num<0))) (p.num.natAbs*q.den)=-(p.num*(q.den:Int)):=by
   conv=>rhs;rw [←qfi p.num]
   unfold sg
   by_cases hx:p.num<0<;>simp [hx,h,Int.natCast_mul,Int.neg_mul]
  rw [e1,e2,Rat.intCast_neg,Rat.intCast_neg,Rat.intCast_mul]
  conv=>lhs;rw [ep,eq]
  generalize ((p.num:Int):Rat)=a at*
  generalize ((p.den:Int):Rat)=b at*
  generalize ((q.num:Int):Rat)=c at*
  generalize ((q.den:Int):Rat)=d at*
  grind
 ·have e1:((q.num.natAbs:Nat):Int)=q.num:=by omega
  have e2:sg (!decide (decide (p.num<0)=decide (q.num<0))) (p.num.natAbs*q.den)=p.num*(q.den:Int):=by
   conv=>rhs;rw [←qfi p.num]
   unfold sg
   by_cases hx:p.num<0<;>simp [hx,h,Int.natCast_mul,Int.neg_mul]
  rw [e1,e2,Rat.intCast_mul]
  conv=>lhs;rw [ep,eq]
  generalize ((p.num:Int):Rat)=a at*
  generalize ((p.den:Int):Rat)=b at*
  generalize ((q.num:Int):Rat)=c at*
  generalize ((q.den:Int):Rat)=d at*
  grind
theorem quoQ_ev {L M:Nat} {p q:Rat} {a b:Bool×List Int×List Int} (ha:Rp L p a) (hb:Rp M q b) (hL:L+M≤20000000000):EvP (fun k=>qbA.f k a b) (Rp (L+M) (p / q)):=by
 have hpos:=rp_pos ha
 by_cases hp:p=0
 ·refine EvP.pos ((qbI ha).2 hp) (EvP.ret ?_)
  rw [hp,Rat.div_def,Rat.zero_mul]
  exact qen (by omega)
 ·refine EvP.neg (fun e=>hp ((qbI ha).1 e)) ?_
  by_cases hq:q=0
  ·refine EvP.pos ((qbI hb).2 hq) (EvP.ret ?_)
   have:p / q=0:=by rw [hq];grind
   rw [this]
   exact qen (by omega)
  ·refine EvP.neg (fun e=>hq ((qbI hb).1 e)) ?_
   have a1:=ha.ln
   have a2:=ha.ld
   have b1:=hb.ln
   have b2:=hb.ld
   have hqn:q.num≠0:=fun e=>hq (Rat.num_eq_zero.1 e)
   have l1:=qeU p.num.natAbs q.den
   have l3:=qeU p.den q.num.natAbs
   have hd:0<p.den*q.num.natAbs:=Nat.mul_pos p.den_pos (by omega)
   have c1:(dig q.den).length≤M:=b2
   have c2:(dig p.den).length≤L:=a2
   have c3:(dig p.num.natAbs).length≤L:=a1
   have c4:(dig q.num.natAbs).length≤M:=b1
   have M1:=qeg (m:=p.num.natAbs) (n:=q.den) (by omega) (by omega)
   have M2:=qeg (m:=p.den) (n:=q.num.natAbs) (by omega) (by omega)
   rw [ha.num,hb.num,ha.sgn,hb.sgn,div_mk p q hq]
   refine EvP.bindE (qcs hb) (EvP.bindE M1 (EvP.bindE (qcs ha) (EvP.bindE M2 (EvP.bind (low_ev hd (by omega) (by omega) (by omega)) (fun r hr=>EvP.ret hr)))))
theorem body_inj {p q:Rat} (h:bodyL p=bodyL q):p.num.natAbs=q.num.natAbs∧p.den=q.den:=by
 obtain ⟨a1,_,_⟩:=qbQ p.num.natAbs
 obtain ⟨b1,_,_⟩:=qbQ q.num.natAbs
 unfold bodyL at h
 by_cases hp:p.den=1
 ·by_cases hq:q.den=1
  ·rw [if_pos hp,if_pos hq,List.append_nil,List.append_nil] at h
   exact ⟨qfa h,by rw [hp,hq]⟩
  ·rw [if_pos hp,if_neg hq,List.append_nil] at h
   exact absurd (by rw [h];simp) (ds_no a1 (show (47:Int)<48 by omega))
 ·by_cases hq:q.den=1
  ·rw [if_neg hp,if_pos hq,List.append_nil] at h
   exact absurd (by rw [←h];simp) (ds_no b1 (show (47:Int)<48 by omega))
  ·rw [if_neg hp,if_neg hq] at h
   obtain ⟨e1,e2⟩:=qeq h (ds_no a1 (by omega)) (ds_no b1 (by omega))
   exact ⟨qfa e1,qfa e2⟩
theorem body_head (q:Rat):(bodyL q).head?≠some 45:=by
 obtain ⟨n1,_,n3⟩:=qbQ q.num.natAbs
 unfold bodyL
 cases ht:txtN q.num.natAbs with
 |nil=>exact absurd ht n3
 |cons x t=>
  rw [List.cons_append,List.head?_cons]
  intro e
  have:=n1 x (by rw [ht];simp)
  have:=Option.some.inj e
  omega
theorem outL_inj {p q:Rat} (h:outL p=outL q):p=q:=by
 have ep:outL p=(if p.num<0 then [45] else [])++bodyL p:=rfl
 have eq:outL q=(if q.num<0 then [45] else [])++bodyL q:=rfl
 rw [ep,eq] at h
 by_cases hp:p.num<0
 ·by_cases hq:q.num<0
  ·rw [if_pos hp,if_pos hq] at h
   obtain ⟨e1,e2⟩:=body_inj (List.append_cancel_left h)
   exact Rat.ext (by omega) e2
  ·rw [if_pos hp,if_neg hq] at h
   exact absurd (by rw [←List.nil_append (bodyL q),←h];rfl) (body_head q)
 ·by_cases hq:q.num<0
  ·rw [if_neg hp,if_pos hq] at h
   exact absurd (by rw [←List.nil_append (bodyL p),h];rfl) (body_head p)
  ·rw [if_neg hp,if_neg hq] at h
   obtain ⟨e1,e2⟩:=body_inj (List.append_cancel_left h)
   exact Rat.ext (by omega) e2
theorem outOk_uniq {p:ByteArray} {a b:Rat} (h:p=ofBytes (outL a)) (k:OutOk p b):a=b:=by
 have:=congrArg qaK (h.symm.trans k.1)
 rw [qbj (qef a),qbj (qef b)] at this
 exact outL_inj this
theorem fit_int {n:Int} (h0:-9223372036854775808≤n) (h1:n≤9223372036854775807):Fit (n:Rat):=by
 unfold Fit
 rw [Rat.num_intCast,Rat.den_intCast,txt_one]
 have:=txt_len n.natAbs
 have:=dl_i64 (n:=n.natAbs) (by omega)
 exact ⟨by omega,by simp⟩
end Go.Proofs.YtfobeapcmgjhbaaGreatDoor.VE
