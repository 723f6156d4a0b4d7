/- Texts behind the law NetdispatchFlows, part 5 (no statement is proved here). -/
import Derived.Test.YtfobeapcmgjhbaaGreatDoorKNetdispatchFlows4
namespace Go.Proofs.YtfobeapcmgjhbaaGreatDoor.VE
open Go Go.RowKit
set_option linter.unusedVariables false
attribute [local irreducible] wrap64
theorem w32 {x:Int} (h1:0≤x) (h2:x<4294967296):IntKind.wrap .u32 x=x:=by
 unfold IntKind.wrap
 simp [IntKind.bits,IntKind.signed]
 omega
theorem w64u {x:Int} (h1:0≤x) (h2:x<18446744073709551616):IntKind.wrap .u64 x=x:=by
 unfold IntKind.wrap
 simp [IntKind.bits,IntKind.signed]
 omega
def Bp:Nat→Int
 |0=>1
 |n+1=>1000000000*Bp n
theorem qcT:∀n,1≤Bp n
 |0=>Int.le_refl _
 |n+1=>by
  have:=qcT n
  show 1≤1000000000*Bp n
  omega
theorem qdp:∀(m n:Nat),Bp (m+n)=Bp m*Bp n
 |0,n=>by rw [Nat.zero_add];show _=1*_;omega
 |m+1,n=>by
  rw [show m+1+n=(m+n)+1 by omega]
  show 1000000000*Bp (m+n)=1000000000*Bp m*Bp n
  rw [qdp m n,Int.mul_assoc]
theorem qeC {m n:Nat} (h:m≤n):Bp m≤Bp n:=by
 obtain ⟨k,rfl⟩:∃k,n=m+k:=⟨n - m,by omega⟩
 rw [qdp]
 have h1:=qcT m
 have:=Int.mul_le_mul_of_nonneg_left (qcT k) (show 0≤Bp m by omega)
 omega
def vL:List Int→Int
 |[]=>0
 |d::ds=>d+1000000000*vL ds
def Dig (ds:List Int):Prop:=∀d∈ds,0≤d∧d<1000000000
theorem Dig.cons {d:Int} {ds:List Int} (h:Dig (d::ds)):(0≤d∧d<1000000000)∧Dig ds:=⟨h d (by simp),fun x hx=>h x (by simp [hx])⟩
theorem Dig.mk {d:Int} {ds:List Int} (h:0≤d∧d<1000000000) (k:Dig ds):Dig (d::ds):=fun x hx=>by
 rcases List.mem_cons.1 hx with rfl|hx
 ·exact h
 ·exact k x hx
theorem Dig.append {a b:List Int} (h:Dig a) (k:Dig b):Dig (a++b):=fun x hx=>(List.mem_append.1 hx).elim (h x) (k x)
theorem Dig.take {a:List Int} (h:Dig a) (n:Nat):Dig (a.take n):=fun x hx=>h x (List.mem_of_mem_take hx)
theorem Dig.drop {a:List Int} (h:Dig a) (n:Nat):Dig (a.drop n):=fun x hx=>h x (List.mem_of_mem_drop hx)
theorem Dig.set {a:List Int} (h:Dig a) (n:Nat) {v:Int} (hv:0≤v∧v<1000000000):Dig (a.set n v):=fun x hx=>by
 rcases List.mem_or_eq_of_mem_set hx with hx|rfl
 ·exact h x hx
 ·exact hv
theorem qcr:∀(ds:List Int),Dig ds→0≤vL ds∧vL ds<Bp ds.length
 |[],_=>⟨Int.le_refl _,by show (0:Int)<1;omega⟩
 |d::ds,h=>by
  have:=qcr ds h.cons.2
  have:=h.cons.1
  rw [List.length_cons]
  show 0≤d+1000000000*vL ds∧d+1000000000*vL ds<1000000000*Bp ds.length
  omega
theorem qb4:∀(a b:List Int),vL (a++b)=vL a+Bp a.length*vL b
 |[],b=>by show vL b=0+1*vL b;omega
 |d::a,b=>by
  show d+1000000000*vL (a++b)=d+1000000000*vL a+1000000000*Bp a.length*vL b
  rw [qb4 a b,Int.mul_add,Int.mul_assoc];omega
theorem qdW (c:List Int) (i:Nat) (h:i≤c.length):vL c=vL (c.take i)+Bp i*vL (c.drop i):=by
 have:=qb4 (c.take i) (c.drop i)
 rw [List.take_append_drop,List.length_take,Nat.min_eq_left h] at this
 exact this
theorem qdr:∀n,vL (List.replicate n 0)=0
 |0=>rfl
 |n+1=>by
  rw [List.replicate_succ]
  show 0+1000000000*vL (List.replicate n 0)=0
  rw [qdr n];rfl
theorem Dig.zeros (n:Nat):Dig (List.replicate n 0):=fun x hx=>by
 rw [List.eq_of_mem_replicate hx];omega
theorem qeD:∀(c:List Int) (j:Nat) (x v:Int),c[j]?=some x→vL (c.set j v)=vL c+Bp j*(v - x)
 |[],j,x,v,h=>by simp at h
 |d::c,0,x,v,h=>by
  simp only [List.getElem?_cons_zero,Option.some.injEq] at h
  subst h
  show v+1000000000*vL c=d+1000000000*vL c+1*(v - d)
  omega
 |d::c,j+1,x,v,h=>by
  have:=qeD c j x v (by simpa using h)
  show d+1000000000*vL (c.set j v)=d+1000000000*vL c+1000000000*Bp j*(v - x)
  rw [this,Int.mul_add,Int.mul_assoc];omega
def dig (n:Nat):List Int:=if n=0 then [] else ((n % 1000000000:Nat):Int)::dig (n / 1000000000)
termination_by n
decreasing_by omega
theorem qbr:dig 0=[]:=by rw [dig];rfl
theorem qcD {n:Nat} (h:n≠0):dig n=((n % 1000000000:Nat):Int)::dig (n / 1000000000):=by
 conv=>lhs;rw [dig]
 rw [if_neg h]
theorem dig_ok (n:Nat):Dig (dig n)∧vL (dig n)=(n:Int):=by
 induction n using Nat.strongRecOn with
 |ind n ih=>
  by_cases h:n=0
  ·subst h;rw [qbr];exact ⟨(fun x hx=>by cases hx),rfl⟩
  ·obtain ⟨h1,h2⟩:=ih (n / 1000000000) (by omega)
   rw [qcD h]
   refine ⟨Dig.mk (by omega) h1,?_⟩
   show ((n % 1000000000:Nat):Int)+1000000000*vL (dig (n / 1000000000))=n
   rw [h2];omega
theorem qbZ (n:Nat):Dig (dig n):=(dig_ok n).1
theorem qcc (n:Nat):vL (dig n)=(n:Int):=(dig_ok n).2
theorem dig_nil {n:Nat}:dig n=[]↔n=0:=by
 constructor
 ·intro h
  have:=qcc n
  rw [h] at this
  have:(0:Int)=n:=this
  omega
 ·rintro rfl;exact qbr
theorem canon:∀(c:List Int),Dig c→(c=[]∨Bp (c.length - 1)≤vL c)→c=dig (vL c).toNat
 |[],_,_=>qbr.symm
 |d::c,h,hz=>by
  have hz:Bp c.length≤d+1000000000*vL c:=by
   rcases hz with hz|hz
   ·cases hz
   ·exact hz
  obtain ⟨h1,h2⟩:=h.cons
  have hr:=qcr c h2
  have hp:=qcT c.length
  have hc:c=[]∨Bp (c.length - 1)≤vL c:=by
   cases c with
   |nil=>exact Or.inl rfl
   |cons e c=>
    right
    have:Bp ((e::c).length)=1000000000*Bp c.length:=rfl
    rw [this] at hz
    simp only [List.length_cons,Nat.add_sub_cancel]
    omega
  have ih:=canon c h2 hc
  have hv:0≤vL c:=hr.1
  show d::c=dig (d+1000000000*vL c).toNat
  rw [qcD (by omega)]
  have e1:((((d+1000000000*vL c).toNat % 1000000000:Nat)):Int)=d:=by omega
  have e2:(d+1000000000*vL c).toNat / 1000000000=(vL c).toNat:=by omega
  rw [e1,e2,←ih]
theorem canon_eq {c:List Int} {n:Nat} (h:Dig c) (hv:vL c=(n:Int)) (hz:c=[]∨Bp (c.length - 1)≤vL c):c=dig n:=by
 have:=canon c h hz
 rw [hv] at this
 simpa using this
theorem dig_top (n:Nat):dig n=[]∨Bp ((dig n).length - 1)≤(n:Int):=by
 induction n using Nat.strongRecOn with
 |ind n ih=>
  by_cases h:n=0
  ·subst h;exact Or.inl qbr
  ·right
   have ihn:=ih (n / 1000000000) (by omega)
   rw [qcD h]
   simp only [List.length_cons,Nat.add_sub_cancel]
   rcases ihn with ihn|ihn
   ·rw [ihn]
    show (1:Int)≤n
    omega
   ·cases hd:dig (n / 1000000000) with
    |nil=>show (1:Int)≤n;omega
    |cons e l=>
     rw [hd] at ihn
     simp only [List.length_cons,Nat.add_sub_cancel] at ihn
     show 1000000000*Bp l.length≤(n:Int)
     omega
theorem qdH (n:Nat):(n:Int)<Bp (dig n).length:=by
 have:=qcr _ (qbZ n)
 rw [qcc] at this
 exact this.2
theorem qbT {m:Nat} {L:Nat} (h:(m:Int)<Bp L):(dig m).length≤L:=by
 rcases dig_top m with h1|h1
 ·rw [h1];exact Nat.zero_le _
 ·apply Classical.byContradiction
  intro hc
  have:=qeC (show L≤(dig m).length - 1 by omega)
  omega
theorem qb3 {m n:Nat} (h:m≤n):(dig m).length≤(dig n).length:=qbT (by have:=qdH n;omega)
theorem trim_run:∀(n:Nat) (c:List Int),c.length=n→c.length≤8000000000000→Dig c→Ev (fun k=>qaE.l1 k c) (dig (vL c).toNat)
 |0,c,hl,_,_=>by
  rw [List.eq_nil_of_length_eq_zero hl]
  show Ev _ (dig 0)
  rw [qbr]
  exact Ev.step (fun k=>qaE.l1_eq k _) (Ev.neg (by simp) (Ev.now _))
 |n+1,c,hl,hb,hd=>by
  have w1:wrap64 ((c.length:Int) - 1)=(n:Int):=by rw [w64 (by omega) (by omega)];omega
  have hlt:(n:Int)<(c.length:Int):=by omega
  have hg:=qdg (xs:=c) (i:=(n:Int)) (by omega) hlt
  rw [show ((n:Int)).toNat=n by omega] at hg
  have hsp:c=c.take n++[rU32 c (n:Int)]:=by
   have h1:=List.take_append_drop n c
   rw [List.drop_eq_getElem_cons (by omega),List.drop_eq_nil_of_le (by omega)] at h1
   rw [List.getElem?_eq_getElem (by omega)] at hg
   rw [←Option.some.inj hg]
   exact h1.symm
  have hx:=hd _ (rU32_mem (xs:=c) (i:=(n:Int)) (by omega) hlt)
  have hvs:=qb4 (c.take n) [rU32 c (n:Int)]
  rw [←hsp,List.length_take,Nat.min_eq_left (by omega)] at hvs
  have hv1:vL [rU32 c (n:Int)]=rU32 c (n:Int):=by show _+1000000000*0=_;omega
  rw [hv1] at hvs
  refine Ev.step (fun k=>qaE.l1_eq k _) ?_
  rw [w1]
  refine Ev.pos (by omega) (Ev.pos (by omega) (Ev.pos hlt (Ev.ite (fun hz=>Ev.pos (by omega) (Ev.pos (by omega) ?_)) (fun hz=>?_))))
  ·have hz:rU32 c (n:Int)=0:=hz
   rw [hz,Int.mul_zero,Int.add_zero] at hvs
   rw [hvs,show Int.toNat (n:Int) - Int.toNat 0=n by omega]
   exact trim_run n (c.take n) (by rw [List.length_take];omega) (by rw [List.length_take];omega) (hd.take n)
  ·have hz:¬rU32 c (n:Int)=0:=hz
   have hr:=qcr _ (hd.take n)
   have hp:=qcT n
   have hm:=Int.mul_le_mul_of_nonneg_left (show 1≤rU32 c (n:Int) by omega) (show 0≤Bp n by omega)
   have e:=canon c hd (Or.inr (by rw [hl,Nat.add_sub_cancel];omega))
   rw [←e]
   exact Ev.now _
theorem qc0 {c:List Int} (hb:c.length≤8000000000000) (hd:Dig c) {n:Nat} (hv:vL c=(n:Int)):Ev (fun k=>qaE.f k c) (dig n):=by
 have:=trim_run c.length c rfl hb hd
 rw [hv,show ((n:Int)).toNat=n by omega] at this
 exact this
theorem of_run:∀(d:Nat) (n:Nat) (acc:List Int),n≤d→n≤9223372036854775807→acc.length+(dig n).length≤100→Ev (fun k=>qbf.l2 k (n:Int) acc) (acc++dig n)
 |d,n,acc,hd,hb,hl=>by
  induction d using Nat.strongRecOn generalizing n acc with
  |ind d ih=>
   by_cases h:n=0
   ·subst h
    rw [qbr,List.append_nil]
    exact Ev.step (fun k=>qbf.l2_eq k _ _) (Ev.neg (by omega) (Ev.now _))
   ·rw [qcD h] at hl ⊢
    rw [List.length_cons] at hl
    have e1:Int.tmod (n:Int) 1000000000=((n % 1000000000:Nat):Int):=rfl
    have e2:Int.tdiv (n:Int) 1000000000=((n / 1000000000:Nat):Int):=rfl
    refine Ev.step (fun k=>qbf.l2_eq k _ _) (Ev.pos (by omega) (Ev.pos (by omega) (Ev.pos (by rw [List.length_singleton];omega) (Ev.pos (by omega) ?_))))
    rw [e1,e2,w32 (by omega) (by omega),w64 (by omega) (by omega)]
    have:=ih (n / 1000000000) (by omega) (n / 1000000000) (acc++[((n % 1000000000:Nat):Int)]) (Nat.le_refl _) (by omega) (by rw [List.length_append,List.length_singleton];omega)
    rw [List.append_assoc,List.singleton_append] at this
    exact this
theorem of_ev {n:Nat} (hb:n≤9223372036854775807):Ev (fun k=>qbf.f k (n:Int)) (dig n):=by
 have h3:(dig n).length≤3:=qbT (by show (n:Int)<1000000000*(1000000000*(1000000000*1));omega)
 have:=of_run n n [] (Nat.le_refl _) hb (by simp;omega)
 exact this
theorem tm (x:Int) (h:0≤x):Int.tmod x 1000000000=x % 1000000000:=Int.tmod_eq_emod_of_nonneg h
theorem td (x:Int) (h:0≤x):Int.tdiv x 1000000000=x / 1000000000:=Int.tdiv_eq_ediv_of_nonneg h
theorem take_one {c:List Int} {j:Nat} (h:j<c.length):c.take (j+1)=c.take j++[rU32 c (j:Int)]:=by
 have hg:=qdg (xs:=c) (i:=(j:Int)) (by omega) (by omega)
 rw [show ((j:Int)).toNat=j by omega,List.getElem?_eq_getElem h] at hg
 rw [←Option.some.inj hg,List.take_append_getElem h]
theorem qf9 (x:Int):vL [x]=x:=by show x+1000000000*0=x;omega
theorem qbI {c:List Int} {j:Nat} (h:j<c.length):vL (c.take (j+1))=vL (c.take j)+Bp j*rU32 c (j:Int):=by
 rw [take_one h,qb4,qf9,List.length_take,Nat.min_eq_left (by omega)]
theorem qdX {c:List Int} {j:Nat} (h:c.length≤j):vL (c.take (j+1))=vL (c.take j):=by
 rw [List.take_of_length_le (by omega),List.take_of_length_le h]
theorem Dig.at {c:List Int} (h:Dig c) {j:Nat} (hj:j<c.length):0≤rU32 c (j:Int)∧rU32 c (j:Int)<1000000000:=h _ (rU32_mem (xs:=c) (i:=(j:Int)) (by omega) (by omega))
theorem Dig.qdM {c:List Int} (h:Dig c) {j:Nat} (hj:j≤c.length):0≤vL (c.take j)∧vL (c.take j)<Bp j:=by
 have:=qcr _ (h.take j)
 rwa [List.length_take,Nat.min_eq_left hj] at this
def cmpI (x y:Int):Int:=if x<y then -1 else if y<x then 1 else 0
theorem cmpI_lt {x y:Int} (h:x<y):cmpI x y=-1:=by unfold cmpI;rw [if_pos h]
theorem cmpI_gt {x y:Int} (h:y<x):cmpI x y=1:=by unfold cmpI;rw [if_neg (by omega),if_pos h]
theorem cmpI_eq (x:Int):cmpI x x=0:=by unfold cmpI;rw [if_neg (by omega),if_neg (by omega)]
theorem cmpI_add {x y:Int} (z:Int):cmpI (x+z) (y+z)=cmpI x y:=by unfold cmpI;simp
theorem cmp_run (c e:List Int) (hc:Dig c) (he:Dig e) (hl:c.length=e.length) (hb:c.length≤1000000000000):∀(i:Nat),i≤c.length→Ev (fun k=>qaQ.l6 k c e ((i:Int) - 1)) (cmpI (vL (c.take i)) (vL (e.take i)))
 |0,_=>by
  rw [List.take_zero,List.take_zero,cmpI_eq]
  exact Ev.step (fun k=>qaQ.l6_eq k _ _ _) (Ev.neg (by omega) (Ev.now _))
 |i+1,hi=>by
  have ih:=cmp_run c e hc he hl hb i (by omega)
  have e1:((i+1:Nat):Int) - 1=(i:Int):=by omega
  rw [e1]
  have hx:=hc.at (show i<c.length by omega)
  have hy:=he.at (show i<e.length by omega)
  have hp:=qcT i
  have r1:=hc.qdM (show i≤c.length by omega)
  have r2:=he.qdM (show i≤e.length by omega)
  rw [qbI (show i<c.length by omega),qbI (show i<e.length by omega)]
  refine Ev.step (fun k=>qaQ.l6_eq k _ _ _) (Ev.pos (by omega) (Ev.pos (by omega) (Ev.pos (by omega) (Ev.pos (by omega) (Ev.pos (by omega) (Ev.ite (fun h=>?_) (fun h=>Ev.pos (by omega) (Ev.pos (by omega) (Ev.pos (by omega) (Ev.pos (by omega) (Ev.ite (fun h'=>?_) (fun h'=>?_))))))))))))
  ·have h:rU32 c (i:Int)<rU32 e (i:Int):=h
   have:=Int.mul_le_mul_of_nonneg_left (show rU32 c (i:Int)+1≤rU32 e (i:Int) by omega) (show 0≤Bp i by omega)
   rw [Int.mul_add] at this
   rw [cmpI_lt (by omega)]
   exact Ev.now _
  ·have h':rU32 e (i:Int)<rU32 c (i:Int):=h'
   have:=Int.mul_le_mul_of_nonneg_left (show rU32 e (i:Int)+1≤rU32 c (i:Int) by omega) (show 0≤Bp i by omega)
   rw [Int.mul_add] at this
   rw [cmpI_gt (by omega)]
   exact Ev.now _
  ·have h:¬rU32 c (i:Int)<rU32 e (i:Int):=h
   have h':¬rU32 e (i:Int)<rU32 c (i:Int):=h'
   rw [show rU32 c (i:Int)=rU32 e (i:Int) by omega,cmpI_add,w64 (by omega) (by omega)]
   exact ih
theorem qe2 {n:Nat} (h:n≠0):Bp ((dig n).length - 1)≤(n:Int):=(dig_top n).resolve_left (fun h'=>h (dig_nil.1 h'))
theorem cmp_ev {m n:Nat} (hb:(dig m).length≤1000000000000):Ev (fun k=>qaQ.f k (dig m) (dig n)) (cmpI m n):=by
 have h1:=qdH m
 have h2:=qdH n
 refine Ev.ite (fun h=>?_) (fun h=>Ev.ite (fun h'=>?_) (fun h'=>?_))
 ·have hl:(dig m).length=(dig n).length:=by omega
  have:=cmp_run (dig m) (dig n) (qbZ m) (qbZ n) hl hb (dig m).length (Nat.le_refl _)
  rw [w64 (by omega) (by omega)]
  rw [List.take_length,hl,List.take_length,qcc,qcc] at this
  rw [hl]
  exact this
 ·have h0:n≠0:=fun h0=>by subst h0;rw [qbr,List.length_nil] at h';omega
  have:=qe2 h0
  have:=qeC (show (dig m).length≤(dig n).length - 1 by omega)
  rw [cmpI_lt (by omega)]
  exact Ev.now _
 ·have h0:m≠0:=fun h0=>by subst h0;rw [qbr,List.length_nil] at h h';omega
  have:=qe2 h0
  have:=qeC (show (dig n).length≤(dig m).length - 1 by omega)
  rw [cmpI_gt (by omega)]
  exact Ev.now _
theorem add_run (c e:List Int) (hc:Dig c) (he:Dig e) (hle:e.length≤c.length) (hb:c.length≤1000000000000):∀(m j:Nat) (out:List Int) (cy:Int),j+m=c.length→out.length=j→Dig out→0≤cy→cy≤1→vL out+Bp j*cy=vL (c.take j)+vL (e.take j)→
  EvP (fun k=>qaF.l6 k e cy c (c.length:Int) (j:Int) out) (fun r=>Dig r∧vL r=vL c+vL e∧(r.length=c.length∨r.length=c.length+1∧Bp c.length≤vL r))
 |0,j,out,cy,hj,ho,hd,h0,h1,hv=>by
  rw [List.take_of_length_le (by omega),List.take_of_length_le (by omega)] at hv
  refine EvP.step (fun k=>qaF.l6_eq k _ _ _ _ _ _) (EvP.neg (by omega) (EvP.ite (fun h=>EvP.pos (by rw [List.length_singleton];omega) ?_) (fun h=>?_)))
  ·have e1:cy=1:=by omega
   subst e1
   have hr:=qcr _ hd
   refine EvP.ret ⟨hd.append (Dig.mk (by omega) (fun x hx=>by cases hx)),?_,Or.inr ⟨?_,?_⟩⟩
   ·rw [qb4,qf9,ho];exact hv
   ·rw [List.length_append,List.length_singleton];omega
   ·rw [qb4,qf9,ho,show c.length=j by omega];omega
  ·have e1:cy=0:=by omega
   subst e1
   exact EvP.ret ⟨hd,by omega,Or.inl (by omega)⟩
 |m+1,j,out,cy,hj,ho,hd,h0,h1,hv=>by
  have hx:=hc.at (show j<c.length by omega)
  have hp:=qcT j
  have next:=fun (s:Int) (hs0:0≤s) (hs1:s<2000000000) (hs:vL (c.take (j+1))+vL (e.take (j+1))=vL out+Bp j*s)=>add_run c e hc he hle hb m (j+1) (out++[s % 1000000000]) (s / 1000000000) (by omega) (by rw [List.length_append,List.length_singleton,ho]) (hd.append (Dig.mk (by omega) (fun x hx=>by cases hx))) (by omega) (by omega) (by
   rw [hs,qb4,qf9,ho]
   show _+Bp j*(s % 1000000000)+1000000000*Bp j*(s / 1000000000)=_
   have e1:s=s % 1000000000+1000000000*(s / 1000000000):=by omega
   conv=>rhs;rw [e1,Int.mul_add]
   rw [←Int.mul_assoc,Int.mul_comm (Bp j) 1000000000];omega)
  refine EvP.step (fun k=>qaF.l6_eq k _ _ _ _ _ _) (EvP.pos (by omega) (EvP.pos (by omega) (EvP.pos (by omega) (EvP.ite (fun h=>EvP.pos (by omega) (EvP.pos (by omega) (EvP.pos (by omega) (EvP.pos (by omega) (EvP.pos (by rw [List.length_singleton];omega) ?_))))) (fun h=>EvP.pos (by omega) (EvP.pos (by omega) (EvP.pos (by rw [List.length_singleton];omega) ?_)))))))
  ·have hy:=he.at (show j<e.length by omega)
   have:=next (rU32 c (j:Int)+cy+rU32 e (j:Int)) (by omega) (by omega) (by
    rw [qbI (show j<c.length by omega),qbI (show j<e.length by omega),Int.mul_add,Int.mul_add];omega)
   rw [w32 (x:=rU32 c (j:Int)+cy) (by omega) (by omega),w32 (x:=rU32 c (j:Int)+cy+rU32 e (j:Int)) (by omega) (by omega),tm _ (by omega),td _ (by omega),w32 (by omega) (by omega),w64 (by omega) (by omega)]
   exact this
  ·have:=next (rU32 c (j:Int)+cy) (by omega) (by omega) (by
    rw [qbI (show j<c.length by omega),qdX (c:=e) (by omega),Int.mul_add];omega)
   rw [w32 (x:=rU32 c (j:Int)+cy) (by omega) (by omega),tm _ (by omega),td _ (by omega),w32 (by omega) (by omega),w64 (by omega) (by omega)]
   exact this
theorem add_to {m n:Nat} (hle:(dig n).length≤(dig m).length) (hb:(dig m).length≤1000000000000):Ev (fun k=>qaF.l3 k (dig m) (dig n)) (dig (m+n)):=by
 obtain ⟨r,hr,h1,h2,h3⟩:=add_run (dig m) (dig n) (qbZ m) (qbZ n) hle hb (dig m).length 0 [] 0 (by omega) rfl (fun x hx=>by cases hx) (by omega) (by omega) rfl
 rw [qcc,qcc] at h2
 have e:r=dig (m+n):=canon_eq h1 (by rw [h2];omega) (by
  rcases h3 with h3|⟨h3,h4⟩
  ·rcases dig_top m with h5|h5
   ·left;rw [h5] at h3;exact List.eq_nil_of_length_eq_zero h3
   ·right;rw [h3];omega
  ·right;rw [h3,Nat.add_sub_cancel];exact h4)
 rw [←e]
 refine Ev.step (fun k=>qaF.l3_eq k _ _) ?_
 rw [w64 (by omega) (by omega)]
 exact Ev.pos (by omega) (Ev.pos (by omega) (Ev.pos (by omega) (Ev.pos (by omega) hr)))
theorem add_ev {m n:Nat} (hm:(dig m).length≤1000000000000) (hn:(dig n).length≤1000000000000):Ev (fun k=>qaF.f k (dig m) (dig n)) (dig (m+n)):=by
 refine Ev.step (fun k=>qaF.l0_eq k _ _) (Ev.ite (fun h=>?_) (fun h=>?_))
 ·rw [Nat.add_comm]
  exact add_to (by omega) hn
 ·exact add_to (by omega) hm
theorem set_tail {c:List Int} {j:Nat} {v:Int} (h:∀t,j≤t→t<c.length→c[t]?=some 0):∀t,j+1≤t→t<(c.set j v).length→(c.set j v)[t]?=some 0:=by
 intro t h1 h2
 rw [List.length_set] at h2
 rw [List.getElem?_set,if_neg (by omega)]
 exact h t (by omega) h2
theorem sub_run (c e:List Int) (hc:Dig c) (he:Dig e) (hle:e.length≤c.length) (hb:c.length≤1000000000000) (hve:vL e≤vL c):∀(m j:Nat) (out:List Int) (br:Int),j+m=c.length→out.length=c.length→Dig out→0≤br→br≤1→(∀t,j≤t→t<out.length→out[t]?=some 0)→vL out - Bp j*br=vL (c.take j) - vL (e.take j)→
  Ev (fun k=>qaP.l4 k c e br (c.length:Int) (j:Int) out) (dig (vL c - vL e).toNat)
 |0,j,out,br,hj,ho,hd,h0,h1,hz,hv=>by
  rw [List.take_of_length_le (by omega),List.take_of_length_le (by omega)] at hv
  refine Ev.step (fun k=>qaP.l4_eq k _ _ _ _ _ _) (Ev.neg (by omega) (Ev.bind (a:=dig (vL c - vL e).toNat) (qc0 (by omega) hd ?_) (Ev.now _)))
  have hr:=qcr _ hd
  rw [ho,show c.length=j by omega] at hr
  rcases (show br=0∨br=1 by omega) with rfl|rfl
  ·omega
  ·omega
 |m+1,j,out,br,hj,ho,hd,h0,h1,hz,hv=>by
  have hx:=hc.at (show j<c.length by omega)
  have hp:=qcT j
  have next:=fun (s b:Int) (hs0:0≤s) (hs1:s<1000000000) (hb0:0≤b) (hb1:b≤1) (hs:vL (c.take (j+1)) - vL (e.take (j+1))=vL out+Bp j*(s - 1000000000*b))=>sub_run c e hc he hle hb hve m (j+1) (out.set j s) b (by omega) (by rw [List.length_set,ho]) (hd.set j ⟨hs0,hs1⟩) hb0 hb1 (set_tail hz) (by
   rw [hs,qeD out j 0 s (hz j (Nat.le_refl _) (by omega))]
   show vL out+Bp j*(s - 0) - 1000000000*Bp j*b=_
   rw [Int.mul_sub,Int.mul_sub,←Int.mul_assoc,Int.mul_comm (Bp j) 1000000000];omega)
  have ej:((j:Int)).toNat=j:=by omega
  refine Ev.step (fun k=>qaP.l4_eq k _ _ _ _ _ _) (Ev.pos (by omega) (Ev.pos (by omega) (Ev.pos (by omega) (Ev.ite (fun h=>Ev.pos (by omega) (Ev.pos (by omega) ?_)) (fun h=>?_)))))
  ·have hy:=he.at (show j<e.length by omega)
   have vc:=qbI (show j<c.length by omega)
   have ve:=qbI (show j<e.length by omega)
   rw [w64 (x:=rU32 c (j:Int)) (by omega) (by omega),w64 (x:=rU32 c (j:Int) - br) (by omega) (by omega),w64 (x:=rU32 e (j:Int)) (by omega) (by omega),w64 (x:=rU32 c (j:Int) - br - rU32 e (j:Int)) (by omega) (by omega),w64 (x:=(j:Int)+1) (by omega) (by omega)]
   refine Ev.ite (fun h'=>Ev.pos (by omega) (Ev.pos (by omega) ?_)) (fun h'=>Ev.pos (by omega) (Ev.pos (by omega) ?_))
   ·have h':rU32 c (j:Int) - br - rU32 e (j:Int)<0:=h'
    rw [w64 (by omega) (by omega),w32 (by omega) (by omega),ej]
    exact next (rU32 c (j:Int) - br - rU32 e (j:Int)+1000000000) 1 (by omega) (by omega) (by omega) (by omega) (by
     rw [vc,ve,show rU32 c (j:Int) - br - rU32 e (j:Int)+1000000000 - 1000000000*1=rU32 c (j:Int) - br - rU32 e (j:Int) by omega,Int.mul_sub,Int.mul_sub];omega)
   ·have h':¬rU32 c (j:Int) - br - rU32 e (j:Int)<0:=h'
    rw [w32 (by omega) (by omega),ej]
    exact next (rU32 c (j:Int) - br - rU32 e (j:Int)) 0 (by omega) (by omega) (by omega) (by omega) (by
     rw [vc,ve,show rU32 c (j:Int) - br - rU32 e (j:Int) - 1000000000*0=rU32 c (j:Int) - br - rU32 e (j:Int) by omega,Int.mul_sub,Int.mul_sub];omega)
  ·have vc:=qbI (show j<c.length by omega)
   have ve:=qdX (c:=e) (j:=j) (by omega)
   rw [w64 (x:=rU32 c (j:Int)) (by omega) (by omega),w64 (x:=rU32 c (j:Int) - br) (by omega) (by omega),w64 (x:=(j:Int)+1) (by omega) (by omega)]
   refine Ev.ite (fun h'=>Ev.pos (by omega) (Ev.pos (by omega) ?_)) (fun h'=>Ev.pos (by omega) (Ev.pos (by omega) ?_))
   ·have h':rU32 c (j:Int) - br<0:=h'
    rw [w64 (by omega) (by omega),w32 (by omega) (by omega),ej]
    exact next (rU32 c (j:Int) - br+1000000000) 1 (by omega) (by omega) (by omega) (by omega) (by
     rw [vc,ve,show rU32 c (j:Int) - br+1000000000 - 1000000000*1=rU32 c (j:Int) - br by omega,Int.mul_sub];omega)
   ·have h':¬rU32 c (j:Int) - br<0:=h'
    rw [w32 (by omega) (by omega),ej]
    exact next (rU32 c (j:Int) - br) 0 (by omega) (by omega) (by omega) (by omega) (by
     rw [vc,ve,show rU32 c (j:Int) - br - 1000000000*0=rU32 c (j:Int) - br by omega,Int.mul_sub];omega)
theorem qeR (n:Nat):∀t,0≤t→t<(List.replicate n (0:Int)).length→(List.replicate n (0:Int))[t]?=some 0:=by
 intro t _ h
 rw [List.getElem?_eq_getElem h,List.getElem_replicate]
theorem sub_ev {m n:Nat} (h:n≤m) (hb:(dig m).length≤1000000000000):Ev (fun k=>qaP.f k (dig m) (dig n)) (dig (m - n)):=by
 have:=sub_run (dig m) (dig n) (qbZ m) (qbZ n) (qb3 h) hb (by rw [qcc,qcc];omega) (dig m).length 0 (List.replicate (dig m).length 0) 0 (by omega) (by simp) (Dig.zeros _) (by omega) (by omega) (qeR _) (by rw [qdr];rfl)
 rw [qcc,qcc,show ((m:Int) - n).toNat=m - n by omega] at this
 refine Ev.step (fun k=>qaP.l0_eq k _ _) (Ev.pos (by omega) (Ev.pos (by omega) (Ev.pos (by omega) ?_)))
 rw [show ((dig m).length:Int).toNat=(dig m).length by omega]
 exact this
theorem qdJ {n:Nat}:0≤Bp n:=by have:=qcT n;omega
theorem dig_prod {x y a b:Int} (hx:0≤x∧x<1000000000) (hy:0≤y∧y<1000000000) (ha:0≤a∧a<1000000000) (hb:0≤b∧b<1000000000):0≤x*y∧x*y≤999999998000000001∧0≤x*y+a+b∧x*y+a+b<1000000000000000000∧0≤(x*y+a+b) / 1000000000∧(x*y+a+b) / 1000000000<1000000000:=by
 have h1:0≤x*y:=Int.mul_nonneg hx.1 hy.1
 have h2:x*y≤999999999*999999999:=Int.mul_le_mul (by omega) (by omega) hy.1 (by omega)
 omega
theorem zero_set {c:List Int} {j:Nat} {v:Int} {a:Nat} (hj:j<a) (h:∀t,a≤t→t<c.length→c[t]?=some 0):∀t,a≤t→t<(c.set j v).length→(c.set j v)[t]?=some 0:=by
 intro t h1 h2
 rw [List.length_set] at h2
 rw [List.getElem?_set,if_neg (by omega)]
 exact h t h1 h2
theorem mul_in (c e:List Int) (he:Dig e) (i:Nat) (x:Int) (hx:0≤x∧x<1000000000) (n L:Nat) (hn:n=i+e.length+1) (hnl:n≤L) (hL:L<4000000000000) (A:Int) (hle:e.length≤1000000000000) (hi:i<1000000000000) (N:Int) (j0:Int) (R:List Int→Prop)
  (K:∀out,Dig out→out.length=L→(∀t,n≤t→t<out.length→out[t]?=some 0)→vL out=A+Bp i*x*vL e→EvP (fun k=>qaw.l3 k e c N (wrap64 (j0+1)) out) R) :
  ∀(m j:Nat) (cy:Int) (out:List Int),j+m=e.length→Dig out→out.length=L→(∀t,i+e.length≤t→t<out.length→out[t]?=some 0)→0≤cy→cy<1000000000→vL out+Bp (i+j)*cy=A+Bp i*x*vL (e.take j)→
  EvP (fun k=>qaw.l7 k e (i:Int) x cy c N j0 e (e.length:Int) (j:Int) out) R
 |0,j,cy,out,hj,hd,hl,hz,h0,h1,hv=>by
  rw [List.take_of_length_le (by omega)] at hv
  have e1:j=e.length:=by omega
  subst e1
  refine EvP.step (fun k=>qaw.l7_eq k _ _ _ _ _ _ _ _ _ _ _) (EvP.neg (by omega) ?_)
  rw [w64 (x:=(i:Int)+(e.length:Int)) (by omega) (by omega),w32 (x:=cy) (by omega) (by omega)]
  refine EvP.pos (by omega) (EvP.pos (by omega) ?_)
  rw [show ((i:Int)+(e.length:Int)).toNat=i+e.length by omega]
  refine K _ (hd.set _ ⟨h0,h1⟩) (by rw [List.length_set];exact hl) (zero_set (by omega) (fun t h1 h2=>hz t (by omega) h2)) ?_
  rw [qeD out (i+e.length) 0 cy (hz _ (Nat.le_refl _) (by omega)),Int.sub_zero]
  exact hv
 |m+1,j,cy,out,hj,hd,hl,hz,h0,h1,hv=>by
  have hy:=he.at (show j<e.length by omega)
  have ho:=hd.at (show i+j<out.length by omega)
  have hp:=qcT (i+j)
  have ep:=dig_prod hx hy ho ⟨h0,h1⟩
  refine EvP.step (fun k=>qaw.l7_eq k _ _ _ _ _ _ _ _ _ _ _) (EvP.pos (by omega) (EvP.pos (by omega) (EvP.pos (by omega) ?_)))
  rw [w64 (x:=(i:Int)+(j:Int)) (by omega) (by omega),show (i:Int)+(j:Int)=((i+j:Nat):Int) by omega,w64u (x:=x) (by omega) (by omega),w64u (x:=rU32 e (j:Int)) (by omega) (by omega),w64u (x:=rU32 out ((i+j:Nat):Int)) (by omega) (by omega),
   w64u (x:=x*rU32 e (j:Int)) (by omega) (by omega),w64u (x:=x*rU32 e (j:Int)+rU32 out ((i+j:Nat):Int)) (by omega) (by omega),w64u (x:=x*rU32 e (j:Int)+rU32 out ((i+j:Nat):Int)+cy) (by omega) (by omega),tm _ (by omega),td _ (by omega),w64u (by omega) (by omega),w32 (by omega) (by omega),w64 (x:=(j:Int)+1) (by omega) (by omega),show (((i+j:Nat):Int)).toNat=i+j by omega]
  refine EvP.pos (by omega) (EvP.pos (by omega) (EvP.pos (by omega) (EvP.pos (by omega) (EvP.pos (by omega) (EvP.pos (by omega) ?_)))))
  have hg:=qdg (xs:=out) (i:=((i+j:Nat):Int)) (by omega) (by omega)
  rw [show (((i+j:Nat):Int)).toNat=i+j by omega] at hg
  refine mul_in c e he i x hx n L hn hnl hL A hle hi N j0 R K m (j+1) _ _ (by omega) (hd.set _ (by omega)) (by rw [List.length_set];exact hl) (zero_set (by omega) hz) ep.2.2.2.2.1 ep.2.2.2.2.2 ?_
  rw [qeD out (i+j) _ _ hg,qbI (show j<e.length by omega)]
  have e2:x*rU32 e (j:Int)+rU32 out ((i+j:Nat):Int)+cy=(x*rU32 e (j:Int)+rU32 out ((i+j:Nat):Int)+cy) % 1000000000+1000000000*((x*rU32 e (j:Int)+rU32 out ((i+j:Nat):Int)+cy) / 1000000000):=by omega
  generalize (x*rU32 e (j:Int)+rU32 out ((i+j:Nat):Int)+cy) % 1000000000=s at e2 ⊢
  generalize (x*rU32 e (j:Int)+rU32 out ((i+j:Nat):Int)+cy) / 1000000000=q at e2 ⊢
  have e3:Bp (i+(j+1))=1000000000*Bp (i+j):=rfl
  have e4:Bp (i+j)=Bp i*Bp j:=qdp i j
  rw [e3,e4]
  rw [e4] at hv
  generalize vL out=vo at hv ⊢
  generalize vL (e.take j)=ve at hv ⊢
  generalize rU32 e (j:Int)=y at e2 ⊢
  generalize rU32 out ((i+j:Nat):Int)=o at e2 ⊢
  generalize Bp i=p at hv ⊢
  generalize Bp j=r at hv ⊢
  grind
theorem mul_out (c e:List Int) (hc:Dig c) (he:Dig e) (hbc:c.length<1000000000000) (hbe:e.length<1000000000000) {P:Nat} (hP:(P:Int)=vL c*vL e):∀(m i:Nat) (out:List Int),i+m=c.length→Dig out→out.length=c.length+e.length→(∀t,i+e.length≤t→t<out.length→out[t]?=some 0)→vL out=vL (c.take i)*vL e→EvP (fun k=>qaw.l3 k e c (c.length:Int) (i:Int) out) (fun r=>r=dig P)
 |0,i,out,hi,hd,hl,hz,hv=>by
  rw [List.take_of_length_le (by omega),←hP] at hv
  exact EvP.step (fun k=>qaw.l3_eq k _ _ _ _ _) (EvP.neg (by omega) (EvP.bindE (qc0 (by omega) hd hv) (EvP.ret rfl)))
 |m+1,i,out,hi,hd,hl,hz,hv=>by
  have hx:=hc.at (show i<c.length by omega)
  refine EvP.step (fun k=>qaw.l3_eq k _ _ _ _ _) (EvP.pos (by omega) (EvP.pos (by omega) (EvP.pos (by omega) ?_)))
  refine mul_in c e he i _ hx (i+e.length+1) (c.length+e.length) rfl (by omega) (by omega) (vL (c.take i)*vL e) (by omega) (by omega) _ _ _ (fun out' hd' hl' hz' hv'=>?_) e.length 0 0 out (by omega) hd hl hz (by omega) (by omega) (by rw [hv];show _+Bp (i+0)*0=_+Bp i*_*0;omega)
  rw [w64 (x:=(i:Int)+1) (by omega) (by omega)]
  exact mul_out c e hc he hbc hbe hP m (i+1) out' (by omega) hd' hl' (fun t h1 h2=>hz' t (by omega) h2) (by rw [hv',qbI (show i<c.length by omega),Int.add_mul])
theorem qd9 {m n:Nat} (hm:(dig m).length<1000000000000) (hn:(dig n).length<1000000000000):Ev (fun k=>qaw.f k (dig m) (dig n)) (dig (m*n)):=by
 have:=mul_out (dig m) (dig n) (qbZ m) (qbZ n) hm hn (P:=m*n) (by rw [qcc,qcc,Int.natCast_mul]) (dig m).length 0 (List.replicate ((dig m).length+(dig n).length) 0) (by omega) (Dig.zeros _) (by simp) (fun t h1 h2=>qeR _ t (by omega) h2) (by rw [qdr,List.take_zero];show 0=0*_;omega)
 refine Ev.step (fun k=>qaw.l0_eq k _ _) ?_
 rw [w64 (by omega) (by omega)]
 refine Ev.pos (by omega) (Ev.pos (by omega) (Ev.pos (by omega) ?_))
 rw [show (((dig m).length:Int)+((dig n).length:Int)).toNat=(dig m).length+(dig n).length by omega]
 exact EvP.ev this
theorem qdK {c:List Int} {j:Nat} {v:Int} (h:∀t,t<j+1→c[t]?=some 0):∀t,t<j→(c.set j v)[t]?=some 0:=by
 intro t h1
 rw [List.getElem?_set,if_neg (by omega)]
 exact h t (by omega)
theorem short_run (c:List Int) (hc:Dig c) (hb:c.length≤1000000000000) (d:Nat) (hd:0<d∧d<1000000000) (M:Nat) (hM:vL c=(M:Int)):∀(i:Nat) (rem:Int) (out:List Int),i≤c.length→Dig out→out.length=c.length→(∀t,t<i→out[t]?=some 0)→0≤rem→rem<d→vL c=d*vL out+Bp i*rem+vL (c.take i)→
  Ev (fun k=>qaK.l4 k c (d:Int) rem ((i:Int) - 1) out) (dig (M / d),dig (M % d))
 |0,rem,out,hi,ho,hl,hz,h0,h1,hv=>by
  rw [List.take_zero,hM] at hv
  have hv:(M:Int)=d*vL out+1*rem+0:=hv
  have hr:=qcr _ ho
  obtain ⟨q,hq⟩:∃q:Nat,vL out=q:=⟨(vL out).toNat,by omega⟩
  obtain ⟨r,rfl⟩:∃r:Nat,rem=r:=⟨rem.toNat,by omega⟩
  rw [hq] at hv
  have hv':M=d*q+r:=by
   have:((d*q+r:Nat):Int)=d*q+r:=by rw [Int.natCast_add,Int.natCast_mul]
   omega
  have e1:M / d=q:=by
   rw [hv',Nat.mul_add_div hd.1,Nat.div_eq_of_lt (by omega),Nat.add_zero]
  have e2:M % d=r:=by
   rw [hv',Nat.mul_add_mod,Nat.mod_eq_of_lt (by omega)]
  refine Ev.step (fun k=>qaK.l4_eq k _ _ _ _ _) (Ev.neg (by omega) ?_)
  rw [w32 (x:=(r:Int)) (by omega) (by omega),e1,e2]
  exact Ev.bind (qc0 (by omega) ho hq) (Ev.bind (qc0 (by simp) (Dig.mk (by omega) (fun x hx=>by cases hx)) (qf9 _)) (Ev.now _))
 |i+1,rem,out,hi,ho,hl,hz,h0,h1,hv=>by
  have hx:=hc.at (show i<c.length by omega)
  have e1:((i+1:Nat):Int) - 1=(i:Int):=by omega
  rw [e1]
  refine Ev.step (fun k=>qaK.l4_eq k _ _ _ _ _) ?_
  have hd0:(0:Int)<d:=by omega
  have hs:0≤rem*1000000000+rU32 c (i:Int):=by omega
  have hmod:=Int.emod_add_mul_ediv (rem*1000000000+rU32 c (i:Int)) d
  have hm0:=Int.emod_nonneg (rem*1000000000+rU32 c (i:Int)) (show (d:Int)≠0 by omega)
  have hm1:=Int.emod_lt_of_pos (rem*1000000000+rU32 c (i:Int)) hd0
  have hq0:=Int.ediv_nonneg hs (show (0:Int)≤d by omega)
  have hq1:(rem*1000000000+rU32 c (i:Int)) / d<1000000000:=Int.ediv_lt_of_lt_mul hd0 (by
   have:=Int.mul_le_mul_of_nonneg_left (show rem+1≤d by omega) (show (0:Int)≤1000000000 by omega)
   omega)
  rw [w64u (x:=(d:Int)) (by omega) (by omega),w64u (x:=rem*1000000000) (by omega) (by omega),w64u (x:=rU32 c (i:Int)) (by omega) (by omega),w64u (x:=rem*1000000000+rU32 c (i:Int)) (by omega) (by omega),
   Int.tmod_eq_emod_of_nonneg hs,Int.tdiv_eq_ediv_of_nonneg hs,w64u (x:=(rem*1000000000+rU32 c (i:Int)) / d) (by omega) (by omega),w32 (by omega) (by omega),w64 (by omega) (by omega),show ((i:Int)).toNat=i by omega]
  refine Ev.pos (by omega) (Ev.pos (by omega) (Ev.pos (by omega) (Ev.pos (by omega) (Ev.pos (by omega) (Ev.pos (by omega) (Ev.pos (by omega) ?_))))))
  refine short_run c hc hb d hd M hM i _ _ (by omega) (ho.set _ ⟨hq0,hq1⟩) (by rw [List.length_set,hl]) (qdK hz) hm0 hm1 ?_
  rw [qeD out i 0 _ (hz i (by omega)),Int.sub_zero,hv,qbI (show i<c.length by omega),show Bp (i+1)=1000000000*Bp i from rfl]
  generalize (rem*1000000000+rU32 c (i:Int)) / d=q at hmod ⊢
  generalize (rem*1000000000+rU32 c (i:Int)) % d=s at hmod ⊢
  generalize rU32 c (i:Int)=x at hmod ⊢
  generalize vL out=vo
  generalize vL (c.take i)=vc
  generalize Bp i=p
  generalize (d:Int)=d at hmod ⊢
  grind
theorem short_ev {m:Nat} {d:Nat} (hd:0<d∧d<1000000000) (hb:(dig m).length≤1000000000000):Ev (fun k=>qaK.f k (dig m) (d:Int)) (dig (m / d),dig (m % d)):=by
 have:=short_run (dig m) (qbZ m) hb d hd m (qcc m) (dig m).length 0 (List.replicate (dig m).length 0) (Nat.le_refl _) (Dig.zeros _) (by simp) (fun t h=>qeR _ t (by omega) (by simpa using h)) (by omega) (by omega) (by rw [qdr,List.take_length];omega)
 refine Ev.step (fun k=>qaK.l0_eq k _ _) (Ev.pos (by omega) (Ev.pos (by omega) (Ev.pos (by omega) ?_)))
 rw [w64 (by omega) (by omega),show (((dig m).length:Int)).toNat=(dig m).length by omega]
 exact this
theorem drop_set {c:List Int} {j a:Nat} {v:Int} (h:j<a):(c.set j v).drop a=c.drop a:=by
 rw [List.drop_set,if_pos h]
def MinusP (y:List Int) (q:Int) (off L:Nat) (D:List Int) (V0:Int) (r:Bool×List Int):Prop:=
 ∃br:Int,0≤br∧br≤1∧r.1=decide (0<br)∧Dig r.2∧r.2.length=L∧r.2.drop (off+y.length+1)=D∧vL r.2=V0 - Bp off*(q*vL y)+Bp (off+y.length+1)*br
theorem minus_run (y:List Int) (hy:Dig y) (q:Int) (hq:0≤q∧q<1000000000) (off L:Nat) (hL:off+y.length+1≤L) (hb:L≤8000000000000) (D:List Int) (V0:Int):∀(m i:Nat) (br cy:Int) (out:List Int),i+m=y.length+1→Dig out→out.length=L→out.drop (off+y.length+1)=D→0≤br→br≤1→0≤cy→cy≤q→(m=0→cy=0)→vL out=V0 - Bp off*(q*vL (y.take i))+Bp (off+i)*(br+cy)→
  EvP (fun k=>qaz.l4 k y (off:Int) q br cy (i:Int) out) (MinusP y q off L D V0)
 |0,i,br,cy,out,hi,hd,hl,hD,h0,h1,c0,c1,cz,hv=>by
  have e1:cy=0:=cz rfl
  subst e1
  have e2:i=y.length+1:=by omega
  subst e2
  rw [List.take_of_length_le (by omega),Int.add_zero] at hv
  exact EvP.step (fun k=>qaz.l4_eq k _ _ _ _ _ _ _) (EvP.neg (by omega) (EvP.ret ⟨br,h0,h1,rfl,hd,hl,hD,hv⟩))
 |m+1,i,br,cy,out,hi,hd,hl,hD,h0,h1,c0,c1,cz,hv=>by
  have ho:=hd.at (show off+i<out.length by omega)
  have hg:=qdg (xs:=out) (i:=((off+i:Nat):Int)) (by omega) (by omega)
  rw [show (((off+i:Nat):Int)).toNat=off+i by omega] at hg
  have nine:∀cy':Int,0≤cy'→cy'<1000000000000000000→cy' / 1000000000≤q→(m=0→cy' / 1000000000=0)→vL out=V0 - Bp off*(q*vL (y.take (i+1)))+Bp (off+i)*(br+cy')→
    EvP (fun k=>qaz.l9 k y (off:Int) q br (i:Int) cy' out) (MinusP y q off L D V0):=by
   intro cy' d0 d1 d2 d3 d4
   refine EvP.step (fun k=>qaz.l9_eq k _ _ _ _ _ _ _) ?_
   rw [w64 (x:=(off:Int)+(i:Int)) (by omega) (by omega),show (off:Int)+(i:Int)=((off+i:Nat):Int) by omega,tm _ d0,td _ d0,w64 (x:=rU32 out ((off+i:Nat):Int)) (by omega) (by omega),w64 (x:=cy' % 1000000000) (by omega) (by omega),w64 (x:=rU32 out ((off+i:Nat):Int) - cy' % 1000000000) (by omega) (by omega),
    w64 (x:=rU32 out ((off+i:Nat):Int) - cy' % 1000000000 - br) (by omega) (by omega),w64u (x:=cy' / 1000000000) (by omega) (by omega),w64 (x:=(i:Int)+1) (by omega) (by omega),show (((off+i:Nat):Int)).toNat=off+i by omega]
   have next:=fun (s b:Int) (hs0:0≤s) (hs1:s<1000000000) (hb0:0≤b) (hb1:b≤1) (hs:s=rU32 out ((off+i:Nat):Int) - cy' % 1000000000 - br+1000000000*b)=>minus_run y hy q hq off L hL hb D V0 m (i+1) b (cy' / 1000000000) (out.set (off+i) s) (by omega) (hd.set _ ⟨hs0,hs1⟩) (by rw [List.length_set,hl]) (by rw [drop_set (by omega),hD]) hb0 hb1 (by omega) d2 d3 (by
     rw [qeD out (off+i) _ _ hg,d4,hs,show Bp (off+(i+1))=1000000000*Bp (off+i) from rfl]
     have e2:cy'=cy' % 1000000000+1000000000*(cy' / 1000000000):=by omega
     generalize cy' % 1000000000=s at e2 ⊢
     generalize cy' / 1000000000=t at e2 ⊢
     generalize Bp (off+i)=p
     generalize Bp off*(q*vL (y.take (i+1)))=z
     generalize rU32 out ((off+i:Nat):Int)=x
     grind)
   refine EvP.pos (by omega) (EvP.pos (by omega) (EvP.pos (by omega) (EvP.pos (by omega) (EvP.ite (fun h=>EvP.pos (by omega) (EvP.pos (by omega) ?_)) (fun h=>EvP.pos (by omega) (EvP.pos (by omega) ?_))))))
   ·have h:rU32 out ((off+i:Nat):Int) - cy' % 1000000000 - br<0:=h
    rw [w64 (by omega) (by omega),w32 (by omega) (by omega)]
    exact next _ 1 (by omega) (by omega) (by omega) (by omega) (by omega)
   ·have h:¬rU32 out ((off+i:Nat):Int) - cy' % 1000000000 - br<0:=h
    rw [w32 (by omega) (by omega)]
    exact next _ 0 (by omega) (by omega) (by omega) (by omega) (by omega)
  refine EvP.step (fun k=>qaz.l4_eq k _ _ _ _ _ _ _) (EvP.pos (by omega) (EvP.ite (fun h=>EvP.pos (by omega) (EvP.pos (by omega) ?_)) (fun h=>?_)))
  ·have hx:=hy.at (show i<y.length by omega)
   have ep:=dig_prod hq hx ⟨c0,by omega⟩ ⟨Int.le_refl 0,by omega⟩
   rw [w64u (x:=rU32 y (i:Int)) (by omega) (by omega),w64u (x:=q*rU32 y (i:Int)) (by omega) (by omega),w64u (x:=cy+q*rU32 y (i:Int)) (by omega) (by omega)]
   refine nine _ (by omega) (by omega) ?_ (by omega) ?_
   ·have:=Int.mul_le_mul_of_nonneg_left (show rU32 y (i:Int)≤999999999 by omega) hq.1
    omega
   ·rw [hv,qbI (show i<y.length by omega),qdp]
    generalize vL (y.take i)=a
    generalize rU32 y (i:Int)=x
    generalize Bp i=p
    generalize Bp off=r
    grind
  ·have e1:i=y.length:=by omega
   refine nine cy (by omega) (by omega) (by omega) (by omega) ?_
   rw [hv,qdX (c:=y) (by omega)]
theorem minus_ev {y:List Int} (hy:Dig y) {q:Int} (hq:0≤q∧q<1000000000) {off:Nat} {u:List Int} (hu:Dig u) (hL:off+y.length+1≤u.length) (hb:u.length≤8000000000000) :
  EvP (fun k=>qaz.f k y (off:Int) q u) (MinusP y q off u.length (u.drop (off+y.length+1)) (vL u)):=
 minus_run y hy q hq off u.length hL hb _ _ (y.length+1) 0 0 0 u (by omega) hu rfl rfl (by omega) (by omega) (by omega) hq.1 (by omega) (by rw [List.take_zero];show _=_ - Bp off*(q*0)+_*0;rw [Int.mul_zero];omega)
def PlusP (y:List Int) (off L:Nat) (D:List Int) (V0:Int) (r:List Int):Prop:=
 ∃br:Int,0≤br∧br≤1∧Dig r∧r.length=L∧r.drop (off+y.length+1)=D∧vL r=V0+Bp off*vL y - Bp (off+y.length+1)*br
theorem plus_run (y:List Int) (hy:Dig y) (off L:Nat) (hL:off+y.length+1≤L) (hb:L≤8000000000000) (D:List Int) (V0:Int):∀(m i:Nat) (br:Int) (out:List Int),i+m=y.length+1→Dig out→out.length=L→out.drop (off+y.length+1)=D→0≤br→br≤1→vL out=V0+Bp off*vL (y.take i) - Bp (off+i)*br→
  EvP (fun k=>qaV.l2 k y (off:Int) br (i:Int) out) (PlusP y off L D V0)
 |0,i,br,out,hi,hd,hl,hD,h0,h1,hv=>by
  have e2:i=y.length+1:=by omega
  subst e2
  rw [List.take_of_length_le (by omega)] at hv
  exact EvP.step (fun k=>qaV.l2_eq k _ _ _ _ _) (EvP.neg (by omega) (EvP.ret ⟨br,h0,h1,hd,hl,hD,hv⟩))
 |m+1,i,br,out,hi,hd,hl,hD,h0,h1,hv=>by
  have ho:=hd.at (show off+i<out.length by omega)
  have hg:=qdg (xs:=out) (i:=((off+i:Nat):Int)) (by omega) (by omega)
  rw [show (((off+i:Nat):Int)).toNat=off+i by omega] at hg
  have next:=fun (s:Int) (hs0:0≤s) (hs1:s<2000000000) (hs:vL out=V0+Bp off*vL (y.take (i+1))+Bp (off+i)*(rU32 out ((off+i:Nat):Int) - s))=>plus_run y hy off L hL hb D V0 m (i+1) (s / 1000000000) (out.set (off+i) (s % 1000000000)) (by omega) (hd.set _ (by omega)) (by rw [List.length_set,hl]) (by rw [drop_set (by omega),hD]) (by omega) (by omega) (by
    rw [qeD out (off+i) _ _ hg,hs,show Bp (off+(i+1))=1000000000*Bp (off+i) from rfl]
    have e2:s=s % 1000000000+1000000000*(s / 1000000000):=by omega
    generalize s % 1000000000=a at e2 ⊢
    generalize s / 1000000000=t at e2 ⊢
    generalize Bp (off+i)=p
    generalize Bp off*vL (y.take (i+1))=z
    generalize rU32 out ((off+i:Nat):Int)=x
    grind)
  refine EvP.step (fun k=>qaV.l2_eq k _ _ _ _ _) ?_
  rw [w64 (x:=(off:Int)+(i:Int)) (by omega) (by omega),show (off:Int)+(i:Int)=((off+i:Nat):Int) by omega,w64 (x:=(i:Int)+1) (by omega) (by omega),w32 (x:=rU32 out ((off+i:Nat):Int)+br) (by omega) (by omega),show (((off+i:Nat):Int)).toNat=off+i by omega]
  refine EvP.pos (by omega) (EvP.pos (by omega) (EvP.pos (by omega) (EvP.ite (fun h=>EvP.pos (by omega) (EvP.pos (by omega) (EvP.pos (by omega) (EvP.pos (by omega) (EvP.pos (by omega) (EvP.pos (by omega) ?_)))))) (fun h=>EvP.pos (by omega) (EvP.pos (by omega) (EvP.pos (by omega) (EvP.pos (by omega) ?_)))))))
  ·have hx:=hy.at (show i<y.length by omega)
   rw [w32 (x:=rU32 out ((off+i:Nat):Int)+br+rU32 y (i:Int)) (by omega) (by omega),tm _ (by omega),td _ (by omega),w32 (by omega) (by omega)]
   refine next _ (by omega) (by omega) ?_
   rw [hv,qbI (show i<y.length by omega),qdp]
   generalize vL (y.take i)=a
   generalize rU32 y (i:Int)=x
   generalize Bp i=p
   generalize Bp off=r
   grind
  ·rw [tm _ (by omega),td _ (by omega),w32 (by omega) (by omega)]
   refine next _ (by omega) (by omega) ?_
   rw [hv,qdX (c:=y) (by omega)]
   grind
theorem plus_ev {y:List Int} (hy:Dig y) {off:Nat} {u:List Int} (hu:Dig u) (hL:off+y.length+1≤u.length) (hb:u.length≤8000000000000) :
  EvP (fun k=>qaV.f k y (off:Int) u) (PlusP y off u.length (u.drop (off+y.length+1)) (vL u)):=
 plus_run y hy off u.length hL hb _ _ (y.length+1) 0 0 u (by omega) hu rfl rfl (by omega) (by omega) (by rw [List.take_zero];show _=_+Bp off*0 - _*0;omega)
structure KN (U V s p w w' ut ub u3 v1 v2:Int):Prop where
 hs:1≤s
 hp:1≤p
 hU:U=w+s*p*(u3+1000000000*(ut*1000000000+ub))
 hw:0≤w∧w<s*p
 hV:V=w'+p*(v2+1000000000*v1)
 hw':0≤w'∧w'<p
 h1:1≤v1∧v1<1000000000
 h2:0≤v2∧v2<1000000000
 h3:0≤u3∧u3<1000000000
 hb:0≤ub∧ub<1000000000
 ht:0≤ut∧ut<1000000000
 hlt:U<V*(1000000000*s)
theorem qeZ {a b:Int} (ha:1≤a) (hb:1≤b):1≤a*b:=by
 have:=Int.mul_le_mul_of_nonneg_left hb (show 0≤a by omega)
 omega
theorem KN.T2lt {U V s p w w' ut ub u3 v1 v2:Int} (h:KN U V s p w w' ut ub u3 v1 v2):ut*1000000000+ub<(v1+1)*1000000000:=by
 obtain ⟨hs,hp,hU,hw,hV,hw',h1,h2,h3,hb,ht,hlt⟩:=h
 apply Classical.byContradiction
 intro hc
 have hsp:=qeZ hs hp
 have a1:=Int.mul_le_mul_of_nonneg_left (show (v1+1)*1000000000≤ut*1000000000+ub by omega) (show 0≤s*p*1000000000 by omega)
 have a2:=Int.mul_le_mul_of_nonneg_left (show v2+1≤1000000000 by omega) (show 0≤p by omega)
 have a3:V≤p*1000000000*(v1+1):=by grind
 have a4:=Int.mul_le_mul_of_nonneg_left a3 (show 0≤1000000000*s by omega)
 have a5:0≤s*p*u3:=Int.mul_nonneg (by omega) h3.1
 grind
theorem KN.hi0 {U V s p w w' ut ub u3 v1 v2 q r:Int} (h:KN U V s p w w' ut ub u3 v1 v2) (hq:q*v1+r=ut*1000000000+ub) (hq0:0≤q) (hr:r<v1):U<(q+1)*(V*s):=by
 obtain ⟨hs,hp,hU,hw,hV,hw',h1,h2,h3,hb,ht,hlt⟩:=h
 have hsp:=qeZ hs hp
 have a1:ut*1000000000+ub+1≤(q+1)*v1:=by rw [Int.add_mul];omega
 have a2:=Int.mul_le_mul_of_nonneg_left a1 (show 0≤s*p*1000000000 by omega)
 have a3:=Int.mul_le_mul_of_nonneg_left (show u3+1≤1000000000 by omega) (show 0≤s*p by omega)
 have a4:p*1000000000*v1≤V:=by
  have:0≤p*v2:=Int.mul_nonneg (by omega) h2.1
  grind
 have a5:=Int.mul_le_mul_of_nonneg_left a4 (show 0≤s by omega)
 have a6:=Int.mul_le_mul_of_nonneg_left a5 (show 0≤q+1 by omega)
 grind
theorem KN.hiB {U V s p w w' ut ub u3 v1 v2 q:Int} (h:KN U V s p w w' ut ub u3 v1 v2) (hq:1000000000≤q):U<q*(V*s):=by
 obtain ⟨hs,hp,hU,hw,hV,hw',h1,h2,h3,hb,ht,hlt⟩:=h
 have a0:0≤V:=by
  have:=Int.mul_nonneg (show 0≤p by omega) (show 0≤v2+1000000000*v1 by omega)
  omega
 have a1:=Int.mul_le_mul_of_nonneg_right hq (show 0≤V*s from Int.mul_nonneg a0 (by omega))
 grind
theorem KN.hiT {U V s p w w' ut ub u3 v1 v2 q r:Int} (h:KN U V s p w w' ut ub u3 v1 v2) (hq:q*v1+r=ut*1000000000+ub) (hq0:0≤q) (ht:r*1000000000+u3<q*v2):U<q*(V*s):=by
 obtain ⟨hs,hp,hU,hw,hV,hw',h1,h2,h3,hb,_,hlt⟩:=h
 have hsp:=qeZ hs hp
 have a1:u3+1000000000*(ut*1000000000+ub)+1≤q*(v2+1000000000*v1):=by
  rw [←hq];grind
 have a2:=Int.mul_le_mul_of_nonneg_left a1 (show 0≤s*p by omega)
 have a3:p*(v2+1000000000*v1)≤V:=by omega
 have a4:=Int.mul_le_mul_of_nonneg_left a3 (show 0≤s by omega)
 have a5:=Int.mul_le_mul_of_nonneg_left a4 hq0
 grind
theorem KN.lo {U V s p w w' ut ub u3 v1 v2 q:Int} (h:KN U V s p w w' ut ub u3 v1 v2) (hq0:0≤q) (hq:q≤1000000000) (hl:q*(v2+1000000000*v1)≤u3+1000000000*(ut*1000000000+ub)):s*(q*V)≤U+s*V:=by
 obtain ⟨hs,hp,hU,hw,hV,hw',h1,h2,h3,hb,_,hlt⟩:=h
 have hsp:=qeZ hs hp
 have a1:=Int.mul_le_mul_of_nonneg_left hl (show 0≤s*p by omega)
 have a2:=Int.mul_le_mul hq (show w'≤p by omega) hw'.1 (by omega)
 have a3:=Int.mul_le_mul_of_nonneg_left a2 (show 0≤s by omega)
 have a4:=Int.mul_le_mul_of_nonneg_left h1.1 (show 0≤p*1000000000 by omega)
 have a5:0≤p*v2:=Int.mul_nonneg (by omega) h2.1
 have a6:1000000000*p≤V:=by clear a1 a2 a3 hl hlt hU;grind
 have a7:=Int.mul_le_mul_of_nonneg_left a6 (show 0≤s by omega)
 have e1:s*(q*V)=s*p*(q*(v2+1000000000*v1))+s*(q*w'):=by rw [hV];clear a1 a2 a3 a4 a5 a6 a7 hl hlt hU hV hw hw';grind
 omega
theorem KN.big {U V s p w w' ut ub u3 v1 v2 q r:Int} (h:KN U V s p w w' ut ub u3 v1 v2) (hq:q*v1+r=ut*1000000000+ub) (hq0:0≤q) (hr:1000000000≤r):q<1000000000∧q*(v2+1000000000*v1)≤u3+1000000000*(ut*1000000000+ub):=by
 have ht:=h.T2lt
 obtain ⟨hs,hp,hU,hw,hV,hw',h1,h2,h3,hb,_,hlt⟩:=h
 have a0:q<1000000000:=by
  apply Classical.byContradiction
  intro hc
  have:=Int.mul_le_mul_of_nonneg_right (show 1000000000≤q by omega) (show 0≤v1 by omega)
  grind
 have a1:q*v2≤1000000000*1000000000:=Int.mul_le_mul (by omega) (by omega) h2.1 (by omega)
 refine ⟨a0,?_⟩
 rw [←hq]
 grind
theorem KN.fit {U V s p w w' ut ub u3 v1 v2 q r:Int} (h:KN U V s p w w' ut ub u3 v1 v2) (hq:q*v1+r=ut*1000000000+ub) (ht:¬r*1000000000+u3<q*v2):q*(v2+1000000000*v1)≤u3+1000000000*(ut*1000000000+ub):=by
 rw [←hq]
 grind
theorem qga {c:List Int} (h:Dig c) {a:Nat} (ha:a≤c.length) (hz:vL (c.drop a)=0):vL c<Bp a:=by
 have:=qdW c a ha
 rw [hz,Int.mul_zero,Int.add_zero] at this
 rw [this]
 exact (h.qdM ha).2
theorem qeE {c:List Int} (h:Dig c) {a:Nat} (ha:a≤c.length) (hz:vL c<Bp a):vL (c.drop a)=0:=by
 have h1:=qdW c a ha
 have h2:=(h.qdM ha).1
 have h3:=(qcr _ (h.drop a)).1
 apply Classical.byContradiction
 intro hc
 have:=Int.mul_le_mul_of_nonneg_left (show 1≤vL (c.drop a) by omega) (qdJ (n:=a))
 omega
structure DivI (v:List Int) (U0:Int) (L J j:Nat) (u q:List Int):Prop where
 du:Dig u
 lu:u.length=L
 dq:Dig q
 lq:q.length=J
 jq:j≤J
 zq:∀t,t<j→q[t]?=some 0
 eq:U0=vL v*vL q+vL u
 lt:vL u<vL v*Bp j
theorem div_fix {v:List Int} (hv:Dig v) (hV:0<vL v) {L J:Nat} (hJ:J+v.length=L) (hb:L≤8000000000000) (f:Int) (U0:Int) (j:Nat) (R:List Int×List Int→Prop)
  (K:∀u q,DivI v U0 L J j u q→EvP (fun k=>qan.l12 k f (v.length:Int) ((j:Int) - 1) u v q) R)
  (u q:List Int) (I:DivI v U0 L J (j+1) u q) (qh:Int) (h0:0≤qh) (h1:qh<1000000000) (hi:vL u<(qh+1)*(vL v*Bp j)) (lo:Bp j*(qh*vL v)≤vL u+Bp j*vL v) :
  EvP (fun k=>(qaz.f k v (j:Int) qh u).bind fun r=>if r.1=true then
   (qaV.f k v (j:Int) r.2).bind fun r'=>if 0≤(j:Int) then (if (j:Int)<(q.length:Int) then qan.l12 k f (v.length:Int) (wrap64 ((j:Int) - 1)) r' v (q.set ((j:Int)).toNat (IntKind.wrap .u32 (IntKind.wrap .u64 (qh - 1)))) else none) else none
   else if 0≤(j:Int) then (if (j:Int)<(q.length:Int) then qan.l12 k f (v.length:Int) (wrap64 ((j:Int) - 1)) r.2 v (q.set ((j:Int)).toNat (IntKind.wrap .u32 qh)) else none) else none) R:=by
 obtain ⟨du,lu,dq,lq,jq,zq,eq,lt⟩:=I
 have hr:=qcr v hv
 have hs:=qcT j
 have ur:=qcr u du
 have hlen:j+v.length+1≤u.length:=by omega
 have hB:vL u<Bp (j+v.length+1):=by
  have a1:=Int.mul_le_mul_of_nonneg_right (show vL v≤Bp v.length by omega) (qdJ (n:=j+1))
  rw [←qdp,show v.length+(j+1)=j+v.length+1 by omega] at a1
  omega
 have hz:=qeE du hlen hB
 rw [w64 (x:=(j:Int) - 1) (by omega) (by omega),show ((j:Int)).toNat=j by omega]
 refine EvP.bind (minus_ev hv ⟨h0,h1⟩ du hlen (by omega)) ?_
 rintro ⟨b,u1⟩ ⟨br,b0,b1,hbr,d1,l1,D1,e1⟩
 simp only at hbr d1 l1 D1 e1
 have u1r:=qcr u1 d1
 have hz1:vL (u1.drop (j+v.length+1))=0:=by rw [D1,hz]
 have u1lt:=qga d1 (by omega) hz1
 subst hbr
 dsimp only
 have eset:=fun (x:Int)=>qeD q j 0 x (zq j (by omega))
 rcases (show br=0∨br=1 by omega) with rfl|rfl
 ·refine EvP.neg (by simp) (EvP.pos (by omega) (EvP.pos (by omega) ?_))
  rw [w32 (x:=qh) (by omega) (by omega)]
  rw [Int.mul_zero,Int.add_zero] at e1
  refine K _ _ ⟨d1,by omega,dq.set _ ⟨h0,h1⟩,by rw [List.length_set,lq],by omega,qdK zq,?_,?_⟩
  ·rw [eset,e1,eq];grind
  ·rw [e1];grind
 ·rw [Int.mul_one] at e1
  refine EvP.pos (by simp) (EvP.bind (plus_ev hv d1 (by omega) (by omega)) ?_)
  rintro u2 ⟨c,c0,c1,d2,l2,D2,e2⟩
  have u2r:=qcr u2 d2
  have u2lt:=qga d2 (by omega) (show vL (u2.drop (j+v.length+1))=0 by rw [D2,hz1])
  have hq1:1≤qh:=by
   apply Classical.byContradiction
   intro hc
   have:qh=0:=by omega
   subst this
   rw [Int.zero_mul,Int.mul_zero] at e1
   omega
  have hsV:0≤Bp j*vL v:=Int.mul_nonneg (by omega) hr.1
  refine EvP.pos (by omega) (EvP.pos (by omega) ?_)
  rw [w64u (x:=qh - 1) (by omega) (by omega),w32 (x:=qh - 1) (by omega) (by omega)]
  have c2:c=1:=by
   rcases (show c=0∨c=1 by omega) with rfl|rfl
   ·rw [Int.mul_zero] at e2;omega
   ·rfl
  subst c2
  refine K _ _ ⟨d2,by omega,dq.set _ (by omega),by rw [List.length_set,lq],by omega,qdK zq,?_,?_⟩
  ·rw [eset,e2,e1,eq];grind
  ·rw [e2,e1];grind
end Go.Proofs.YtfobeapcmgjhbaaGreatDoor.VE
