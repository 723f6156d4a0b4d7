/- Texts behind the law NetdispatchFlows, part 7 (no statement is proved here). -/
import Derived.Test.YtfobeapcmgjhbaaGreatDoorKNetdispatchFlows6
namespace Go.Proofs.YtfobeapcmgjhbaaGreatDoor.VE
open Go Go.RowKit
set_option linter.unusedVariables false
attribute [local irreducible] wrap64
theorem top_pos {n:Nat} (h:n≠0) {a:Nat} (ha:(dig n).length=a+1):1≤rU32 (dig n) (a:Int):=by
 have h1:=qe2 h
 rw [ha,Nat.add_sub_cancel] at h1
 have h2:=qdW (dig n) (dig n).length (Nat.le_refl _)
 rw [List.drop_length,show vL []=0 from rfl,Int.mul_zero,Int.add_zero,ha,qbI (by omega),qcc] at h2
 have h3:=(qbZ n).qdM (show a≤(dig n).length by omega)
 apply Classical.byContradiction
 intro hc
 have h4:=Int.mul_le_mul_of_nonneg_left (show rU32 (dig n) (a:Int)≤0 by omega) (qdJ (n:=a))
 rw [Int.mul_zero] at h4
 omega
theorem div7 {x y f:Nat} (hf:0<f∧f<1000000000) (hy:0<y) (hyx:y≤x) {n':Nat} (hn:(dig (y*f)).length=n'+2) (hb:(dig x).length≤100000000000):∀(d t:Nat),(dig x).length+1≤(dig (x*f)).length+t+1+d→(dig (x*f)).length+t+1≤(dig x).length+2→EvP (fun k=>qan.l7 k (dig x) (f:Int) (dig (x*f)++List.replicate (t+1) 0) (dig (y*f))) (fun r=>r=(dig (x / y),dig (x % y)))
 |d,t,hd,ht=>by
  have hl:(dig (x*f)++List.replicate (t+1) 0).length=(dig (x*f)).length+t+1:=by rw [List.length_append,List.length_replicate];omega
  refine EvP.step (fun k=>qan.l7_eq k _ _ _ _) ?_
  rw [hl]
  refine EvP.ite (fun h=>EvP.pos (by rw [List.length_singleton];omega) ?_) (fun h=>?_)
  ·rw [List.append_assoc,show ([0]:List Int)=List.replicate 1 0 from rfl,List.replicate_append_replicate]
   cases d with
   |zero=>omega
   |succ d=>exact div7 hf hy hyx hn hb d (t+1) (by omega) (by omega)
  ·have hle:(dig (y*f)).length≤(dig (x*f)).length:=qb3 (Nat.mul_le_mul_right f hyx)
   obtain ⟨J,hJ⟩:∃J,J+(dig (y*f)).length=(dig (x*f)).length+t+1:=⟨(dig (x*f)).length+t+1 - (dig (y*f)).length,by omega⟩
   have hJe:wrap64 (((dig (x*f)).length+t+1:Nat) - ((dig (y*f)).length:Int))=(J:Int):=by rw [w64 (by omega) (by omega)];omega
   rw [hJe]
   clear hJe
   refine EvP.pos (by omega) (EvP.pos (by omega) (EvP.pos (by omega) ?_))
   have hy0:y*f≠0:=by have:=Nat.mul_pos hy hf.1;omega
   rw [w64 (by omega) (by omega),show ((J:Int)).toNat=J by omega]
   have vu:vL (dig (x*f)++List.replicate (t+1) 0)=((x*f:Nat):Int):=by rw [qb4,qcc,qdr,Int.mul_zero,Int.add_zero]
   have hlt:((x*f:Nat):Int)<vL (dig (y*f))*Bp J:=by
    rw [qcc]
    have h1:=qdH (x*f)
    have h2:=qe2 hy0
    have h3:=Int.mul_le_mul_of_nonneg_right h2 (qdJ (n:=J))
    rw [←qdp] at h3
    have h4:=qeC (show (dig (x*f)).length≤(dig (y*f)).length - 1+J by omega)
    omega
   have:=div12 (qbZ (y*f)) hn (top_pos hy0 hn) hJ (by omega) hf (U:=x*f) (V:=y*f) (qcc _) J (dig (x*f)++List.replicate (t+1) 0) (List.replicate J 0)
    ⟨(qbZ _).append (Dig.zeros _),hl,Dig.zeros _,List.length_replicate,Nat.le_refl _,fun t ht=>qeR _ t (by omega) (by rw [List.length_replicate];exact ht),by rw [qdr,Int.mul_zero,Int.zero_add,vu],by rw [vu];exact hlt⟩
   rw [Nat.mul_div_mul_right x y hf.1,Nat.mul_mod_mul_right,Nat.mul_div_cancel _ hf.1] at this
   exact this
theorem div_ev {x y:Nat} (hy:0<y) (hb:(dig x).length≤100000000000) (hb':(dig y).length≤100000000000):Ev (fun k=>qan.f k (dig x) (dig y)) (dig (x / y),dig (x % y)):=by
 refine Ev.step (fun k=>qan.l0_eq k _ _) (Ev.bind (cmp_ev (by omega)) ?_)
 by_cases hc:x<y
 ·rw [cmpI_lt (by omega),Nat.div_eq_of_lt hc,Nat.mod_eq_of_lt hc,qbr]
  exact Ev.pos (by omega) (Ev.now _)
 have h0:¬cmpI (x:Int) y<0:=by unfold cmpI;split<;>first|omega|(split<;>omega)
 refine Ev.neg h0 (Ev.ite (fun h=>Ev.pos (by omega) (Ev.pos (by omega) ?_)) (fun h=>?_))
 ·have hp:=qcD (show y≠0 by omega)
  have hl:(dig (y / 1000000000)).length=0:=by
   rw [hp,List.length_cons] at h;omega
  have hz:=dig_nil.1 (List.eq_nil_of_length_eq_zero hl)
  have e:dig y=[(y:Int)]:=by
   rw [hp,hz,qbr,Nat.mod_eq_of_lt (by omega)]
  rw [e,show rU32 [(y:Int)] 0=(y:Int) from rfl]
  exact Ev.bind (short_ev ⟨hy,by omega⟩ (by omega)) (Ev.now _)
 ·have hp:=qcD (show y≠0 by omega)
  obtain ⟨a,ha⟩:∃a,(dig y).length=a+2:=by
   rw [hp] at h ⊢
   rw [List.length_cons] at h ⊢
   exact ⟨(dig (y / 1000000000)).length - 1,by omega⟩
  have ht:=top_pos (show y≠0 by omega) (show (dig y).length=(a+1)+1 by omega)
  have ht2:=((qbZ y).at (show a+1<(dig y).length by omega)).2
  rw [wi1 ha (by omega)]
  generalize rU32 (dig y) ((a+1:Nat):Int)=top at ht ht2 ⊢
  obtain ⟨t,rfl⟩:∃t:Nat,top=(t:Int):=⟨top.toNat,by omega⟩
  rw [w64u (x:=(t:Int)) (by omega) (by omega),w64u (x:=(t:Int)+1) (by omega) (by omega),show Int.tdiv 1000000000 ((t:Int)+1)=((1000000000 / (t+1):Nat):Int) from rfl]
  have hf:0<1000000000 / (t+1)∧1000000000 / (t+1)<1000000000:=by
   constructor
   ·exact Nat.div_pos (by omega) (by omega)
   ·exact Nat.div_lt_self (by omega) (by omega)
  generalize 1000000000 / (t+1)=f at hf ⊢
  rw [w64u (x:=(f:Int)) (by omega) (by omega),w32 (x:=(f:Int)) (by omega) (by omega)]
  have hfd:dig f=[(f:Int)]:=by
   rw [qcD (by omega),Nat.div_eq_of_lt hf.2,qbr,Nat.mod_eq_of_lt hf.2]
  have hfl:(dig f).length=1:=by rw [hfd];rfl
  rw [←hfd]
  have up:∀z:Nat,(dig (z*f)).length≤(dig z).length+1:=by
   intro z
   refine qbT ?_
   have h1:=qdH z
   have h2:=Int.mul_le_mul (show (z:Int)≤Bp (dig z).length by omega) (show (f:Int)≤1000000000 by omega) (by omega) qdJ
   have h3:(z:Int)*f<Bp (dig z).length*1000000000:=by
    have:=Int.mul_le_mul (show (z:Int)+1≤Bp (dig z).length by omega) (show (f:Int)≤1000000000 by omega) (by omega) qdJ
    rw [Int.add_mul] at this
    omega
   rw [Int.natCast_mul,show Bp ((dig z).length+1)=1000000000*Bp (dig z).length from rfl]
   omega
  have ux:=up x
  have uy:=up y
  have yl:(dig y).length≤(dig (y*f)).length:=qb3 (Nat.le_mul_of_pos_right y hf.1)
  have xl:(dig x).length≤(dig (x*f)).length:=qb3 (Nat.le_mul_of_pos_right x hf.1)
  refine Ev.pos (by omega) (Ev.pos (by omega) (Ev.pos (by omega) (Ev.bind (qd9 (by omega) (by omega)) (Ev.pos (by rw [List.length_singleton];omega) (Ev.bind (qd9 (by omega) (by omega)) ?_)))))
  obtain ⟨n',hn⟩:∃n',(dig (y*f)).length=n'+2:=⟨(dig (y*f)).length - 2,by omega⟩
  have:=div7 hf hy (show y≤x by omega) hn hb 1 0 (by omega) (by omega)
  exact EvP.ev this
theorem gcd_run:∀(n m:Nat),(dig m).length≤100000000000→(dig n).length≤100000000000→Ev (fun k=>qa8.l1 k (dig m) (dig n)) (dig (Nat.gcd m n)):=by
 intro n
 induction n using Nat.strongRecOn with
 |ind n ih=>
  intro m hm hn
  refine Ev.step (fun k=>qa8.l1_eq k _ _) ?_
  by_cases h:n=0
  ·subst h
   rw [Nat.gcd_zero_right]
   exact Ev.neg (by rw [qbr,List.length_nil];omega) (Ev.now _)
  ·have h1:0<(dig n).length:=by rw [qcD h,List.length_cons];omega
   refine Ev.pos (by omega) (Ev.bind (div_ev (by omega) hm hn) ?_)
   have:=ih (m % n) (Nat.mod_lt _ (by omega)) n hn (by have:=qb3 (show m % n≤m from Nat.mod_le _ _);omega)
   rw [Nat.gcd_comm,←Nat.gcd_rec,Nat.gcd_comm] at this
   exact this
theorem gcd_ev {m n:Nat} (hm:(dig m).length≤100000000000) (hn:(dig n).length≤100000000000):Ev (fun k=>qa8.f k (dig m) (dig n)) (dig (Nat.gcd m n)):=gcd_run n m hm hn
theorem qba (s:ByteArray):(qaD s).length=s.size:=by
 unfold qaD
 rw [List.length_map];rfl
theorem qcj {a b:ByteArray} (h:qaD a=qaD b):a=b:=by
 unfold qaD at h
 have h1:a.data.toList=b.data.toList:=by
  refine List.map_inj_right (f:=fun b:UInt8=>(b.toNat:Int)) (fun x y hxy=>?_) |>.1 h
  exact UInt8.toNat_inj.1 (by exact_mod_cast hxy)
 cases a;cases b
 simp only [ByteArray.mk.injEq]
 exact Array.toList_inj.1 h1
theorem bytesL_append (a b:ByteArray):qaD (a++b)=qaD a++qaD b:=by
 unfold qaD
 rw [ByteArray.data_append,Array.toList_append,List.map_append]
theorem qbN (s:ByteArray) (i j:Nat):qaD (s.extract i j)=((qaD s).take j).drop i:=by
 unfold qaD
 rw [ByteArray.data_extract,Array.toList_extract,List.extract_eq_take_drop,List.map_take,List.map_drop,List.drop_take]
theorem qa7 {l:List Int} (h:∀x∈l,0≤x∧x<256):qaD (ofBytes l)=l:=by
 unfold qaD ofBytes
 simp only [List.map_map]
 conv=>rhs;rw [←List.map_id l]
 refine List.map_congr_left (fun x hx=>?_)
 have:=h x hx
 simp only [Function.comp,id,UInt8.toNat_ofNat']
 omega
theorem qex (s:ByteArray):∀x∈qaD s,0≤x∧x<256:=by
 intro x hx
 unfold qaD at hx
 obtain ⟨b,_,rfl⟩:=List.mem_map.1 hx
 have:=b.toNat_lt
 omega
theorem qd8 (s:ByteArray):ofBytes (qaD s)=s:=qcj (qa7 (qex s))
theorem bt_at (s:ByteArray) {i:Nat} (h:i<s.size):(qaD s)[i]?=some (bt s (i:Int)):=by
 have h1:i<s.data.toList.length:=h
 unfold qaD bt
 rw [List.getElem?_map,List.getElem?_eq_getElem h1]
 simp only [Int.toNat_natCast,h,dite_true]
 rfl
theorem qey {s:ByteArray}:qaD s=[]↔s=ByteArray.empty:=by
 constructor
 ·intro h;exact qcj h
 ·rintro rfl;rfl
theorem snocInd {α:Type} {P:List α→Prop} (h0:P []) (h1:∀t x,P t→P (t++[x])) (l:List α):P l:=by
 rw [←List.reverse_reverse l]
 induction l.reverse with
 |nil=>exact h0
 |cons x t ih=>rw [List.reverse_cons];exact h1 _ _ ih
def Ds (l:List Int):Prop:=∀x∈l,48≤x∧x≤57
theorem Ds.byte {l:List Int} (h:Ds l):∀x∈l,0≤x∧x<256:=fun x hx=>by have:=h x hx;omega
theorem Ds.app {a b:List Int} (h:Ds a) (k:Ds b):Ds (a++b):=fun x hx=>(List.mem_append.1 hx).elim (h x) (k x)
theorem Ds.one {x:Int} (h:48≤x∧x≤57):Ds [x]:=fun y hy=>by rw [List.mem_singleton.1 hy];exact h
theorem Ds.nil:Ds []:=fun x hx=>by cases hx
theorem Ds.take {a:List Int} (h:Ds a) (n:Nat):Ds (a.take n):=fun x hx=>h x (List.mem_of_mem_take hx)
theorem Ds.drop {a:List Int} (h:Ds a) (n:Nat):Ds (a.drop n):=fun x hx=>h x (List.mem_of_mem_drop hx)
def vB (l:List Int):Nat:=l.foldl (fun a x=>10*a+(x - 48).toNat) 0
theorem qei (l:List Int) (x:Int):vB (l++[x])=10*vB l+(x - 48).toNat:=by
 unfold vB
 rw [List.foldl_append];rfl
theorem vB_app (a b:List Int):vB (a++b)=vB a*10 ^ b.length+vB b:=by
 induction b using snocInd with
 |h0=>simp [vB]
 |h1 t x ih=>
  rw [←List.append_assoc,qei,qei,ih,List.length_append,List.length_singleton,Nat.pow_succ]
  grind
theorem vB_cons (x:Int) (t:List Int):vB (x::t)=(x - 48).toNat*10 ^ t.length+vB t:=by
 have:=vB_app [x] t
 rw [List.singleton_append] at this
 rw [this]
 show (10*0+(x - 48).toNat)*_+_=_
 rw [Nat.mul_zero,Nat.zero_add]
theorem vB_lt (l:List Int) (h:Ds l):vB l<10 ^ l.length:=by
 induction l using snocInd with
 |h0=>show 0<1;omega
 |h1 t x ih=>
  have h1:=ih (fun y hy=>h y (by simp [hy]))
  have h2:=h x (by simp)
  rw [qei,List.length_append,List.length_singleton,Nat.pow_succ]
  omega
def decL (n:Nat):List Int:=if n=0 then [] else decL (n / 10)++[48+((n % 10:Nat):Int)]
termination_by n
decreasing_by omega
theorem qcE:decL 0=[]:=by rw [decL];rfl
theorem qe4 {n:Nat} (h:n≠0):decL n=decL (n / 10)++[48+((n % 10:Nat):Int)]:=by
 conv=>lhs;rw [decL]
 rw [if_neg h]
theorem decL_ok (n:Nat):Ds (decL n)∧vB (decL n)=n∧(n≠0→∃x t,decL n=x::t∧49≤x):=by
 induction n using Nat.strongRecOn with
 |ind n ih=>
  by_cases h:n=0
  ·subst h;rw [qcE];exact ⟨Ds.nil,rfl,fun h=>absurd rfl h⟩
  ·obtain ⟨h1,h2,h3⟩:=ih (n / 10) (by omega)
   rw [qe4 h]
   refine ⟨h1.app (Ds.one (by omega)),by rw [qei,h2];omega,fun _=>?_⟩
   by_cases h0:n / 10=0
   ·rw [h0,qcE]
    exact ⟨_,[],rfl,by omega⟩
   ·obtain ⟨x,t,e,hx⟩:=h3 h0
    rw [e]
    exact ⟨x,t++[48+((n % 10:Nat):Int)],rfl,hx⟩
theorem dec_canon (l:List Int) (h:Ds l) (h0:l.head?≠some 48):l=decL (vB l):=by
 induction l using snocInd with
 |h0=>exact qcE.symm
 |h1 t x ih=>
  have hx:=h x (by simp)
  rw [qei]
  cases t with
  |nil=>
   have hx0:x≠48:=fun e=>h0 (by rw [e];rfl)
   rw [show vB []=0 from rfl,qe4 (by omega),show (10*0+(x - 48).toNat) / 10=0 by omega,qcE]
   congr 2
   omega
  |cons y t=>
   have e:=ih (fun z hz=>h z (by simp only [List.mem_append];exact Or.inl hz)) h0
   have hv:vB (y::t)≠0:=fun hv=>by rw [hv,qcE] at e;cases e
   rw [qe4 (by omega),show (10*vB (y::t)+(x - 48).toNat) / 10=vB (y::t) by omega,←e]
   congr 2
   omega
def txtN (n:Nat):List Int:=if n=0 then [48] else decL n
theorem qbJ (n:Nat):Ds (txtN n)∧vB (txtN n)=n∧txtN n≠[]:=by
 unfold txtN
 split
 ·subst n;exact ⟨Ds.one (by omega),rfl,by simp⟩
 ·obtain ⟨h1,h2,h3⟩:=decL_ok n
  obtain ⟨x,t,e,_⟩:=h3 (by assumption)
  exact ⟨h1,h2,by rw [e];simp⟩
theorem txt_canon {l:List Int} (h:Ds l) (h1:l≠[]) (h0:l.head?=some 48→l.length=1):l=txtN (vB l):=by
 by_cases hz:l.head?=some 48
 ·have:=h0 hz
  obtain ⟨x,rfl⟩:=List.length_eq_one_iff.1 this
  rw [List.head?_cons,Option.some.injEq] at hz
  subst hz
  rfl
 ·have e:=dec_canon l h hz
  unfold txtN
  rw [if_neg]
  ·exact e
  ·intro hv
   rw [hv,qcE] at e
   exact h1 e
theorem w8 {x:Int} (h1:0≤x) (h2:x<256):IntKind.wrap .u8 x=x:=by
 unfold IntKind.wrap
 simp [IntKind.bits,IntKind.signed]
 omega
theorem trimL_run:∀(n:Nat) (s:ByteArray),s.size=n→Ev (fun k=>strings_trimLeftByte.l1 k s 48) (ofBytes ((qaD s).dropWhile (fun x=>decide (x=48))))
 |0,s,h=>by
  have e:qaD s=[]:=List.eq_nil_of_length_eq_zero (by rw [qba,h])
  rw [e,List.dropWhile_nil,show s=ofBytes [] by rw [←e,qd8]]
  exact Ev.step (fun k=>strings_trimLeftByte.l1_eq k _ _) (Ev.neg (by decide) (Ev.now _))
 |n+1,s,h=>by
  have hl:=qba s
  have h0:=bt_at s (i:=0) (by omega)
  cases hb:qaD s with
  |nil=>rw [hb] at hl;simp at hl;omega
  |cons x t=>
   rw [hb,List.getElem?_cons_zero,Option.some.injEq] at h0
   have h0:bt s 0=x:=h0.symm
   refine Ev.step (fun k=>strings_trimLeftByte.l1_eq k _ _) (Ev.pos (by omega) (Ev.pos (by omega) (Ev.pos (by omega) (Ev.ite (fun hc=>Ev.pos (by omega) (Ev.pos (by omega) ?_)) (fun hc=>?_)))))
   ·have hc:bt s 0=48:=hc
    have e:qaD (s.extract (Int.toNat 1) (Int.toNat (s.size:Int)))=t:=by
     rw [qbN,hb,show Int.toNat (s.size:Int)=s.size from rfl,List.take_of_length_le (by rw [←hb,hl];omega)];rfl
    have:=trimL_run n (s.extract (Int.toNat 1) (Int.toNat (s.size:Int))) (by rw [←qba,e];rw [hb,List.length_cons] at hl;omega)
    rw [e] at this
    rw [List.dropWhile_cons_of_pos (by simp;omega)]
    exact this
   ·have hc:¬bt s 0=48:=hc
    rw [List.dropWhile_cons_of_neg (by simp;omega),←hb,qd8]
    exact Ev.now _
theorem trimLeft_ev {s:ByteArray} (h:s≠ByteArray.empty):Ev (fun k=>qbk.f k s (ByteArray.mk #[48])) (ofBytes ((qaD s).dropWhile (fun x=>decide (x=48)))):=
 Ev.neg h (Ev.neg (by decide) (Ev.pos (by decide) (Ev.pos (by decide) (Ev.pos (by decide) (Ev.pos (by decide) (Ev.pos (by decide) (Ev.pos (by decide) (Ev.bind (trimL_run s.size s rfl) (Ev.now _)))))))))
theorem vB_drop0 (l:List Int):vB (l.dropWhile (fun x=>decide (x=48)))=vB l:=by
 induction l with
 |nil=>rfl
 |cons x t ih=>
  by_cases h:x=48
  ·rw [List.dropWhile_cons_of_pos (by simpa using h),ih,vB_cons,h];simp
  ·rw [List.dropWhile_cons_of_neg (by simpa using h)]
theorem drop0_dec {l:List Int} (h:Ds l):l.dropWhile (fun x=>decide (x=48))=decL (vB l):=by
 rw [←vB_drop0]
 refine dec_canon _ (fun x hx=>h x (List.dropWhile_sublist _ |>.mem hx)) ?_
 intro hh
 induction l with
 |nil=>simp at hh
 |cons x t ih=>
  by_cases hx:x=48
  ·rw [List.dropWhile_cons_of_pos (by simpa using hx)] at hh
   exact ih (fun y hy=>h y (by simp [hy])) hh
  ·rw [List.dropWhile_cons_of_neg (by simpa using hx),List.head?_cons,Option.some.injEq] at hh
   exact hx hh
theorem drop_set_cons {l:List Int} {i:Nat} (h:i<l.length) (v:Int):(l.set i v).drop i=v::l.drop (i+1):=by
 rw [List.drop_eq_getElem_cons (by rw [List.length_set];exact h),List.getElem_set_self,List.drop_set,if_pos (by omega)]
theorem blk_run (c:List Int) (x4:Int) (out:List Int) (hb:out.length≤9000000000000) (d0:Nat) (R:ByteArray→Prop) (K:∀b,Ds b→b.length=9→vB b=d0→EvP (fun k=>qax.l5 k c (wrap64 (x4 - 1)) (out++b)) R):∀(i y:Nat) (xo:List Int),i≤9→xo.length=9→Ds (xo.drop i)→y<10 ^ i→y*10 ^ (9 - i)+vB (xo.drop i)=d0→
  EvP (fun k=>qax.l10 k c x4 (y:Int) ((i:Int) - 1) out xo) R
 |0,y,xo,hi,hl,hd,hy,hv=>by
  have:y=0:=by simpa using hy
  subst this
  rw [Nat.zero_mul,Nat.zero_add,List.drop_zero] at hv
  rw [List.drop_zero] at hd
  exact EvP.step (fun k=>qax.qeK k _ _ _ _ _ _) (EvP.neg (by omega) (EvP.pos hl (EvP.pos (by omega) (K xo hd hl hv))))
 |i+1,y,xo,hi,hl,hd,hy,hv=>by
  have hy9:y<10 ^ 9:=Nat.lt_of_lt_of_le hy (Nat.pow_le_pow_right (by omega) hi)
  have e1:Int.tmod (y:Int) 10=((y % 10:Nat):Int):=rfl
  have e2:Int.tdiv (y:Int) 10=((y / 10:Nat):Int):=rfl
  refine EvP.step (fun k=>qax.qeK k _ _ _ _ _ _) ?_
  rw [show ((i+1:Nat):Int) - 1=(i:Int) by omega,e1,e2,w32 (x:=((y / 10:Nat):Int)) (by omega) (by omega),w32 (x:=48+((y % 10:Nat):Int)) (by omega) (by omega),w8 (by omega) (by omega),w64 (x:=(i:Int) - 1) (by omega) (by omega),show ((i:Int)).toNat=i from rfl]
  refine EvP.pos (by omega) (EvP.pos (by omega) (EvP.pos (by omega) (EvP.pos (by omega) (EvP.pos (by omega) (EvP.pos (by omega) ?_)))))
  have ed:=drop_set_cons (show i<xo.length by omega) (48+((y % 10:Nat):Int))
  refine blk_run c x4 out hb d0 R K i (y / 10) _ (by omega) (by rw [List.length_set,hl]) (by rw [ed];exact fun x hx=>(List.mem_cons.1 hx).elim (fun e=>by omega) (hd x)) (by rw [Nat.pow_succ] at hy;omega) ?_
  rw [ed,vB_cons,List.length_drop,hl,←hv,show 9 - i=(9 - (i+1))+1 by omega,Nat.pow_succ,show (48+((y % 10:Nat):Int) - 48).toNat=y % 10 by omega]
  have e3:y=10*(y / 10)+y % 10:=by omega
  generalize 10 ^ (9 - (i+1))=p
  conv=>rhs;rw [e3]
  grind
theorem text_run (c:List Int) (hc:Dig c) (hb:c.length≤900000000000) {N:Nat} (hN:N≠0) (hv:vL c=(N:Int)):∀(j:Nat) (out:List Int),j≤c.length→Ds out→out.length+9*j=9*c.length→(vB out:Int)=vL (c.drop j)→EvP (fun k=>qax.l5 k c ((j:Int) - 1) out) (fun r=>r=ofBytes (decL N))
 |0,out,hj,hd,hl,ho=>by
  rw [List.drop_zero,hv] at ho
  have ho:vB out=N:=by omega
  have hne:ofBytes out≠ByteArray.empty:=fun e=>by
   have:=qey.2 e
   rw [qa7 hd.byte] at this
   subst this
   exact hN ho.symm
  have:=trimLeft_ev hne
  rw [qa7 hd.byte,drop0_dec hd,ho] at this
  exact EvP.step (fun k=>qax.l5_eq k _ _ _) (EvP.neg (by omega) (EvP.bindE this (EvP.ret rfl)))
 |j+1,out,hj,hd,hl,ho=>by
  have hx:=hc.at (show j<c.length by omega)
  rw [show ((j+1:Nat):Int) - 1=(j:Int) by omega]
  refine EvP.step (fun k=>qax.l5_eq k _ _ _) (EvP.pos (by omega) (EvP.pos (by omega) (EvP.pos (by omega) ?_)))
  have hdr:=rU32_drop (xs:=c) (i:=(j:Int)) (by omega) (by omega)
  rw [show ((j:Int)).toNat=j from rfl,show ((j:Int)+1).toNat=j+1 from rfl] at hdr
  have hvd:vL (c.drop j)=rU32 c (j:Int)+1000000000*vL (c.drop (j+1)):=by rw [hdr];rfl
  generalize rU32 c (j:Int)=x at hx hvd ⊢
  obtain ⟨d,rfl⟩:∃d:Nat,x=(d:Int):=⟨x.toNat,by omega⟩
  refine blk_run c (j:Int) out (by omega) d _ (fun b hbd hbl hbv=>?_) 9 d [0,0,0,0,0,0,0,0,0] (by omega) rfl Ds.nil (by omega) (by simp [vB])
  rw [w64 (by omega) (by omega)]
  refine text_run c hc hb hN hv j (out++b) (by omega) (hd.app hbd) (by rw [List.length_append];omega) ?_
  rw [hvd,vB_app,hbl,hbv,←ho]
  omega
theorem text_ev {n:Nat} (hb:(dig n).length≤900000000000):Ev (fun k=>qax.f k (dig n)) (ofBytes (txtN n)):=by
 refine Ev.step (fun k=>qax.l0_eq k _) ?_
 by_cases h:n=0
 ·subst h
  exact Ev.pos (by rw [qbr];rfl) (Ev.now _)
 ·have hl:0<(dig n).length:=by rw [qcD h,List.length_cons];omega
  rw [w64 (x:=9*((dig n).length:Int)) (by omega) (by omega),w64 (x:=((dig n).length:Int) - 1) (by omega) (by omega)]
  have:=text_run (dig n) (qbZ n) hb h (qcc n) (dig n).length [] (Nat.le_refl _) Ds.nil (by simp) (by rw [List.drop_length];rfl)
  unfold txtN
  rw [if_neg h]
  exact Ev.neg (by omega) (Ev.pos (by omega) (Ev.pos (by omega) (Ev.pos (by omega) (Ev.pos (by omega) (EvP.ev this)))))
theorem qfO {n:Nat} (hb:(dig n).length≤900000000000):Ev (fun k=>qbz.f k (dig n)) ((txtN n).length:Int):=by
 refine Ev.bind (text_ev hb) ?_
 rw [←qba,qa7 (qbJ n).1.byte]
 exact Ev.now _
theorem qeh {l:List Int} (h:Ds l) (hl:l.length≤9) (j:Nat):vB (l.take j)<1000000000:=by
 have h1:=vB_lt _ (h.take j)
 have h2:10 ^ (l.take j).length≤10 ^ 9:=Nat.pow_le_pow_right (by omega) (by rw [List.length_take];omega)
 have:(10:Nat) ^ 9=1000000000:=rfl
 omega
theorem take_oneB {c:List Int} {j:Nat} (h:j<c.length):c.take (j+1)=c.take j++[rU8 c (j:Int)]:=by
 have hg:=rU8_some (xs:=c) (i:=(j:Int)) (by omega) (by omega)
 rw [show ((j:Int)).toNat=j from rfl,List.getElem?_eq_getElem h] at hg
 rw [←Option.some.inj hg,List.take_append_getElem h]
theorem read7 (s:ByteArray) (x4:Int) (ch:List Int) (hc:Ds ch) (hl:ch.length≤9) (acc:List Int) (hacc:acc.length≤9000000000000) (R:List Int→Prop) (K:EvP (fun k=>qaJ.l3 k s (wrap64 (x4 - 9)) (acc++[(vB ch:Int)])) R):∀(m j:Nat),j+m=ch.length→EvP (fun k=>qaJ.l7 k s x4 ((vB (ch.take j):Nat):Int) ch (ch.length:Int) (j:Int) acc) R
 |0,j,hj=>by
  rw [List.take_of_length_le (by omega)]
  exact EvP.step (fun k=>qaJ.l7_eq k _ _ _ _ _ _ _) (EvP.neg (by omega) (EvP.pos (by rw [List.length_singleton];omega) K))
 |m+1,j,hj=>by
  have hx:=hc _ (rU8_mem (xs:=ch) (i:=(j:Int)) (by omega) (by omega))
  have h1:=qeh hc hl j
  have ih:=read7 s x4 ch hc hl acc hacc R K m (j+1) (by omega)
  have h2:=qeh hc hl (j+1)
  rw [take_oneB (show j<ch.length by omega),qei] at ih h2
  have e1:((10*vB (ch.take j)+(rU8 ch (j:Int) - 48).toNat:Nat):Int)=(vB (ch.take j):Int)*10+(rU8 ch (j:Int) - 48):=by omega
  refine EvP.step (fun k=>qaJ.l7_eq k _ _ _ _ _ _ _) (EvP.pos (by omega) (EvP.pos (by omega) (EvP.pos (by omega) ?_)))
  rw [e1] at ih
  rw [w8 (x:=rU8 ch (j:Int) - 48) (by omega) (by omega),w32 (x:=rU8 ch (j:Int) - 48) (by omega) (by omega),w32 (x:=(vB (ch.take j):Int)*10) (by omega) (by omega),w32 (x:=(vB (ch.take j):Int)*10+(rU8 ch (j:Int) - 48)) (by omega) (by omega),w64 (x:=(j:Int)+1) (by omega) (by omega)]
  exact ih
theorem read_run (s:ByteArray) {l:List Int} (hs:qaD s=l) (hl:Ds l) (hb:l.length≤900000000000):∀(d:Nat) (x4:Int) (acc:List Int),x4.toNat≤d→x4≤l.length→-9≤x4→Dig acc→(acc.length:Int)+x4≤l.length→((vB l:Nat):Int)=vB (l.take x4.toNat)*Bp acc.length+vL acc→EvP (fun k=>qaJ.l3 k s x4 acc) (fun r=>r=dig (vB l))
 |0,x4,acc,hd,h1,h2,ha,hL,hv=>by
  rw [show x4.toNat=0 by omega,List.take_zero] at hv
  have hv:((vB l:Nat):Int)=0*Bp acc.length+vL acc:=hv
  exact EvP.step (fun k=>qaJ.l3_eq k _ _ _) (EvP.neg (by omega) (EvP.bindE (qc0 (by omega) ha (n:=vB l) (by omega)) (EvP.ret rfl)))
 |d+1,x4,acc,hd,h1,h2,ha,hL,hv=>by
  have hsz:s.size=l.length:=by rw [←qba,hs]
  by_cases h0:x4≤0
  ·rw [show x4.toNat=0 by omega,List.take_zero] at hv
   have hv:((vB l:Nat):Int)=0*Bp acc.length+vL acc:=hv
   exact EvP.step (fun k=>qaJ.l3_eq k _ _ _) (EvP.neg (by omega) (EvP.bindE (qc0 (by omega) ha (n:=vB l) (by omega)) (EvP.ret rfl)))
  ·have hm:=mx_ge 0 (wrap64 (x4 - 9))
   rw [w64 (x:=x4 - 9) (by omega) (by omega)] at hm
   refine EvP.step (fun k=>qaJ.l3_eq k _ _ _) ?_
   rw [w64 (x:=x4 - 9) (by omega) (by omega)]
   generalize mx 0 (x4 - 9)=q at hm ⊢
   refine EvP.pos (by omega) (EvP.pos (by omega) (EvP.pos (by omega) (EvP.pos (by omega) ?_)))
   rw [qbN,hs]
   have hcl:((l.take x4.toNat).drop q.toNat).length=x4.toNat - q.toNat:=by rw [List.length_drop,List.length_take];omega
   have hch:Ds ((l.take x4.toNat).drop q.toNat):=(hl.take _).drop _
   have hsplit:l.take x4.toNat=l.take q.toNat++(l.take x4.toNat).drop q.toNat:=by
    conv=>lhs;rw [←List.take_append_drop q.toNat (l.take x4.toNat)]
    rw [List.take_take,Nat.min_eq_left (by omega)]
   have hvs:=vB_app (l.take q.toNat) ((l.take x4.toNat).drop q.toNat)
   rw [←hsplit,hcl] at hvs
   have hvc:=qeh hch (by omega) 9
   rw [List.take_of_length_le (by omega)] at hvc
   refine read7 s x4 _ hch (by omega) acc (by omega) _ ?_ _ 0 (Nat.zero_add _)
   rw [w64 (by omega) (by omega)]
   refine read_run s hs hl hb d (x4 - 9) _ (by omega) (by omega) (by omega) (ha.append (Dig.mk (by omega) (fun x hx=>by cases hx))) (by rw [List.length_append,List.length_singleton];omega) ?_
   rw [qb4,qf9,List.length_append,List.length_singleton,show Bp (acc.length+1)=1000000000*Bp acc.length from rfl,hv,hvs,show (x4 - 9).toNat=q.toNat by omega]
   by_cases h9:9≤x4
   ·rw [show x4.toNat - q.toNat=9 by omega,show (10:Nat) ^ 9=1000000000 from rfl]
    grind
   ·rw [show q.toNat=0 by omega,List.take_zero,show vB []=0 from rfl]
    grind
theorem read_ev {s:ByteArray} (hl:Ds (qaD s)) (hb:s.size≤900000000000):Ev (fun k=>qaJ.f k s) (dig (vB (qaD s))):=by
 have hz:=qba s
 refine EvP.ev (read_run s rfl hl (by omega) s.size (s.size:Int) [] (by omega) (by omega) (by omega) (fun x hx=>by cases hx) (by rw [List.length_nil];omega) ?_)
 rw [show ((s.size:Int)).toNat=s.size from rfl,List.take_of_length_le (by omega)]
 show _=_*(1:Int)+0
 omega
def DecOk (s:ByteArray):Prop:=Ds (qaD s)∧qaD s=txtN (vB (qaD s))∧s.size≤2000
theorem chk_run (s:ByteArray) (l:List Int) (hb:l.length≤140737488355328):∀(m j:Nat),j+m=l.length→EvP (fun k=>qbg.l4 k s l (l.length:Int) (j:Int)) (fun r=>(r=5∨r=2∨r=0)∧(r=0↔Ds (l.drop j)∧s.size≤2000))
 |0,j,hj=>by
  rw [List.drop_eq_nil_of_le (by omega)]
  refine EvP.step (fun k=>qbg.l4_eq k _ _ _ _) (EvP.neg (by omega) (EvP.ite (fun h=>EvP.ret ⟨by simp,?_⟩) (fun h=>EvP.ret ⟨by simp,?_⟩)))
  ·exact ⟨fun e=>by omega,fun e=>by omega⟩
  ·exact ⟨fun _=>⟨Ds.nil,by omega⟩,fun _=>rfl⟩
 |m+1,j,hj=>by
  have hdr:=rU8_drop (xs:=l) (i:=(j:Int)) (by omega) (by omega)
  rw [show ((j:Int)).toNat=j from rfl,show ((j:Int)+1).toNat=j+1 from rfl] at hdr
  have ih:=chk_run s l hb m (j+1) (by omega)
  rw [hdr]
  refine EvP.step (fun k=>qbg.l4_eq k _ _ _ _) ?_
  rw [w64 (x:=(j:Int)+1) (by omega) (by omega)]
  generalize rU8 l (j:Int)=x
  refine EvP.pos (by omega) (EvP.pos (by omega) (EvP.pos (by omega) (EvP.ite (fun h=>EvP.ret ⟨by simp,fun e=>by omega,fun e=>?_⟩) (fun h=>EvP.ite (fun h'=>EvP.ret ⟨by simp,fun e=>by omega,fun e=>?_⟩) (fun h'=>ih.mono ?_)))))
  ·have:=e.1 x (by simp);omega
  ·have:=e.1 x (by simp);omega
  ·rintro r ⟨g1,g2⟩
   refine ⟨g1,g2.trans ⟨fun e=>⟨fun y hy=>?_,e.2⟩,fun e=>⟨fun y hy=>e.1 y (by simp [hy]),e.2⟩⟩⟩
   rcases List.mem_cons.1 hy with rfl|hy
   ·omega
   ·exact e.1 y hy
theorem qe5 {s:ByteArray} (hb:s.size≤140737488355328):EvP (fun k=>qbg.f k s) (fun r=>(r=5∨r=2∨r=0)∧(r=0↔DecOk s)):=by
 have hz:=qba s
 have main:((qaD s).head?=some 48→(qaD s).length=1)→qaD s≠[]→EvP (fun k=>qbg.l4 k s (qaD s) ((qaD s).length:Int) 0) (fun r=>(r=5∨r=2∨r=0)∧(r=0↔DecOk s)):=by
  intro h1 h2
  refine (chk_run s (qaD s) (by omega) _ 0 (Nat.zero_add _)).mono ?_
  rintro r ⟨g1,g2⟩
  rw [List.drop_zero] at g2
  exact ⟨g1,g2.trans ⟨fun e=>⟨e.1,txt_canon e.1 h2 h1,e.2⟩,fun e=>⟨e.1,e.2.2⟩⟩⟩
 by_cases he:s=ByteArray.empty
 ·refine EvP.pos he (EvP.ret ⟨by simp,fun e=>by omega,fun e=>?_⟩)
  have:=(qbJ (vB (qaD s))).2.2
  rw [←e.2.1] at this
  exact absurd (qey.2 he) this
 ·have hn:qaD s≠[]:=fun e=>he (qey.1 e)
  have hl:0<s.size:=by
   rw [←hz];exact List.length_pos_iff.2 hn
  have h0:=bt_at s (i:=0) hl
  have hh:(qaD s).head?=some (bt s 0):=by rw [List.head?_eq_getElem?];exact h0
  refine EvP.neg he (EvP.pos (by omega) (EvP.pos (by omega) (EvP.ite (fun h=>EvP.ite (fun h'=>EvP.ret ⟨by simp,fun e=>by omega,fun e=>?_⟩) (fun h'=>main (fun _=>by omega) hn)) (fun h=>main (fun e=>?_) hn))))
  ·exfalso
   have h:bt s 0=48:=h
   have e1:=e.2.1
   unfold txtN at e1
   split at e1
   ·have:(qaD s).length=1:=by rw [e1];rfl
    omega
   ·obtain ⟨x,t,e2,hx⟩:=(decL_ok (vB (qaD s))).2.2 (by assumption)
    rw [e1,e2,List.head?_cons,Option.some.injEq] at hh
    omega
  ·have h:¬bt s 0=48:=h
   rw [hh,Option.some.injEq] at e
   omega
theorem decOk_of {n:Nat} (h:(txtN n).length≤2000):DecOk (ofBytes (txtN n)):=by
 obtain ⟨h1,h2,h3⟩:=qbJ n
 unfold DecOk
 rw [←qba,qa7 h1.byte,h2]
 exact ⟨h1,rfl,h⟩
end Go.Proofs.YtfobeapcmgjhbaaGreatDoor.VE
