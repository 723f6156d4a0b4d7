/- Texts behind the law NetdispatchFlows, part 8 (no statement is proved here). -/
import Derived.Test.YtfobeapcmgjhbaaGreatDoorKNetdispatchFlows7
namespace Go.Proofs.YtfobeapcmgjhbaaGreatDoor.VE
open Go Go.RowKit
set_option linter.unusedVariables false
attribute [local irreducible] wrap64
abbrev SwT:=ByteArray×ByteArray×ByteArray×Bool×Bool
abbrev BrT:=ByteArray×ByteArray×ByteArray×Int×Int×Int×Int×Int×Int
abbrev GnT:=ByteArray×ByteArray×Int×Int×Int
abbrev LdT:=ByteArray×ByteArray×Int
abbrev NetT:=List ByteArray×List SwT×List BrT×List GnT×List LdT×List GnT
def ixF:List ByteArray→ByteArray→Nat→Int
 |[],_,_=>-1
 |x::l,s,j=>if s=x then (j:Int) else ixF l s (j+1)
theorem ixF_or:∀(l:List ByteArray) (s:ByteArray) (j:Nat),(s∉l∧ixF l s j=-1)∨∃i:Nat,ixF l s j=(i:Int)∧j≤i∧i<j+l.length∧l[i - j]?=some s
 |[],s,j=>Or.inl ⟨by simp,rfl⟩
 |x::l,s,j=>by
  unfold ixF
  by_cases h:s=x
  ·rw [if_pos h]
   exact Or.inr ⟨j,rfl,Nat.le_refl _,by rw [List.length_cons];omega,by rw [Nat.sub_self,h];rfl⟩
  ·rw [if_neg h]
   rcases ixF_or l s (j+1) with ⟨h1,h2⟩|⟨i,h1,h2,h3,h4⟩
   ·exact Or.inl ⟨by simp [h,h1],h2⟩
   ·refine Or.inr ⟨i,h1,by omega,by rw [List.length_cons];omega,?_⟩
    rw [show i - j=(i - (j+1))+1 by omega,List.getElem?_cons_succ]
    exact h4
def idxS (l:List ByteArray) (s:ByteArray):Int:=ixF l s 0
theorem qbO {l:List ByteArray} {s:ByteArray} (h:s∈l):0≤idxS l s∧idxS l s<l.length:=by
 unfold idxS
 rcases ixF_or l s 0 with ⟨h1,_⟩|⟨i,h1,_,h3,_⟩
 ·exact absurd h h1
 ·rw [h1];omega
theorem idxS_neg {l:List ByteArray} {s:ByteArray} (h:s∉l):idxS l s=-1:=by
 unfold idxS
 rcases ixF_or l s 0 with ⟨_,h2⟩|⟨i,_,_,_,h4⟩
 ·exact h2
 ·exact absurd (List.mem_of_getElem? h4) h
instance memDec (s:ByteArray) (l:List ByteArray):Decidable (s∈l):=
 if h:0≤idxS l s then isTrue (Classical.byContradiction fun hn=>by rw [idxS_neg hn] at h;omega) else isFalse (fun hm=>h (qbO hm).1)
theorem nix_run (l:List ByteArray) (s:ByteArray) (hb:l.length≤1000000000):∀(m j:Nat),j+m=l.length→Ev (fun k=>slices_Index_string.l2 k l s (l.length:Int) (j:Int)) (ixF (l.drop j) s j)
 |0,j,hj=>by
  rw [List.drop_eq_nil_of_le (by omega)]
  exact Ev.step (fun k=>slices_Index_string.l2_eq k _ _ _ _) (Ev.neg (by omega) (Ev.now _))
 |m+1,j,hj=>by
  have hdr:=qfu (xs:=l) (i:=(j:Int)) (by omega) (by omega)
  rw [show ((j:Int)).toNat=j from rfl,show ((j:Int)+1).toNat=j+1 from rfl] at hdr
  rw [hdr]
  unfold ixF
  refine Ev.step (fun k=>slices_Index_string.l2_eq k _ _ _ _) (Ev.pos (by omega) (Ev.pos (by omega) (Ev.pos (by omega) ?_)))
  by_cases h:s=rStr l (j:Int)
  ·rw [if_pos h]
   exact Ev.pos h (Ev.now _)
  ·rw [if_neg h]
   refine Ev.neg h ?_
   rw [w64 (by omega) (by omega)]
   exact nix_run l s hb m (j+1) (by omega)
theorem qeJ (l:List ByteArray) (s:ByteArray) (hb:l.length≤1000000000):Ev (fun k=>slices_Index_string.f k l s) (idxS l s):=nix_run l s hb l.length 0 (Nat.zero_add _)
theorem nhas_ev (l:List ByteArray) (s:ByteArray) (hb:l.length≤1000000000):Ev (fun k=>slices_Contains_string.f k l s) (decide (s∈l)):=by
 have e:decide (s∈l)=decide (0≤idxS l s):=by
  by_cases h:s∈l
  ·simp [h,(qbO h).1]
  ·simp [h,idxS_neg h]
 rw [e]
 exact Ev.bind (qeJ l s hb) (Ev.now _)
theorem name_run (s:ByteArray) (hb:s.size≤140737488355328):∀(m j:Nat),j+m=(qaD s).length→EvP (fun k=>qaI.l2 k s (qaD s) ((qaD s).length:Int) (j:Int)) (fun _=>True)
 |0,j,hj=>EvP.step (fun k=>qaI.l2_eq k _ _ _ _) (EvP.neg (by omega) (EvP.ite (fun _=>EvP.ret trivial) (fun _=>EvP.ret trivial)))
 |m+1,j,hj=>by
  have hl:=qba s
  have ih:=name_run s hb m (j+1) (by omega)
  refine EvP.step (fun k=>qaI.l2_eq k _ _ _ _) (EvP.pos (by omega) (EvP.pos (by omega) (EvP.pos (by omega) ?_)))
  rw [w64 (x:=(j:Int)+1) (by omega) (by omega)]
  have rest:EvP (fun k=>if (j:Int)=0 then some false else if rU8 (qaD s) (j:Int)<48 then some false else if 57<rU8 (qaD s) (j:Int) then some false else qaI.l2 k s (qaD s) ((qaD s).length:Int) ((j:Int)+1)) (fun _=>True):=
   EvP.ite (fun _=>EvP.ret trivial) (fun _=>EvP.ite (fun _=>EvP.ret trivial) (fun _=>EvP.ite (fun _=>EvP.ret trivial) (fun _=>ih)))
  exact EvP.ite (fun _=>EvP.ite (fun _=>ih) (fun _=>rest)) (fun _=>rest)
theorem name_ex {s:ByteArray} (hb:s.size≤140737488355328):EvP (fun k=>qaI.f k s) (fun _=>True):=name_run s hb _ 0 (Nat.zero_add _)
theorem qbB (a b c:Int):Ev (fun k=>qau.f k a b c) (decide (b≤a∧a≤c)):=by
 by_cases h:b≤a
 ·rw [show decide (b≤a∧a≤c)=decide (a≤c) by simp [h]]
  exact Ev.pos h (Ev.now _)
 ·rw [show decide (b≤a∧a≤c)=false by simp [h]]
  exact Ev.neg h (Ev.now _)
theorem add_ex {s:ByteArray} (hs:s.size≤140737488355328) {met:List ByteArray} (hm:met.length≤100000):EvP (fun k=>qaS.f k s met) (fun r=>r.2.length≤met.length+1):=by
 refine EvP.bind (name_ex hs) (fun b _=>EvP.ite (fun _=>EvP.bindE (nhas_ev met s (by omega)) (EvP.ite (fun _=>EvP.ret (by show met.length≤_;omega)) (fun _=>EvP.pos (by rw [List.length_singleton];omega) (EvP.ret (by show (met++[s]).length≤_;rw [List.length_append,List.length_singleton];omega))))) (fun _=>EvP.ret (by show met.length≤_;omega)))
theorem ends_run (n:NetT) (hn:n.1.length≤1000) (l:List ByteArray) (hl:l.length≤1000):∀(m j:Nat),j+m=l.length→EvP (fun k=>qaY.l2 k l (l.length:Int) (j:Int) n.1 n.2.1 n.2.2.1 n.2.2.2.1 n.2.2.2.2.1 n.2.2.2.2.2) (fun r=>r=0→∀x∈l.drop j,x∈n.1)
 |0,j,hj=>by
  rw [List.drop_eq_nil_of_le (by omega)]
  exact EvP.step (fun k=>qaY.l2_eq k _ _ _ _ _ _ _ _ _) (EvP.neg (by omega) (EvP.ret (fun _ x hx=>by cases hx)))
 |m+1,j,hj=>by
  have hdr:=qfu (xs:=l) (i:=(j:Int)) (by omega) (by omega)
  rw [show ((j:Int)).toNat=j from rfl,show ((j:Int)+1).toNat=j+1 from rfl] at hdr
  have ih:=ends_run n hn l hl m (j+1) (by omega)
  rw [hdr]
  refine EvP.step (fun k=>qaY.l2_eq k _ _ _ _ _ _ _ _ _) (EvP.pos (by omega) (EvP.pos (by omega) (EvP.pos (by omega) (EvP.bindE (nhas_ev n.1 _ (by omega)) (EvP.ite (fun h=>?_) (fun _=>EvP.ret (fun e=>absurd e (by decide))))))))
  have h:=of_decide_eq_true h
  rw [w64 (by omega) (by omega)]
  refine ih.mono (fun r hr e x hx=>?_)
  rcases List.mem_cons.1 hx with rfl|hx
  ·exact h
  ·exact hr e x hx
theorem qdl (n:NetT) (hn:n.1.length≤1000) {s:ByteArray} (hs:s.size≤140737488355328) (l:List ByteArray) (hl:l.length≤1000) {met:List ByteArray} (hm:met.length≤100000) :
  EvP (fun k=>qaN.f k n s l met) (fun r=>r.2.length≤met.length+1∧(r.1=0→∀x∈l,x∈n.1)):=by
 refine EvP.bind (add_ex hs hm) (fun r hr=>EvP.ite (fun e=>EvP.bind (ends_run n hn l hl l.length 0 (Nat.zero_add _)) (fun r2 hr2=>EvP.ret ⟨hr,hr2⟩)) (fun e=>EvP.ret ⟨hr,fun e'=>absurd e' e⟩))
structure NetSz (n:NetT):Prop where
 nd:∀x∈n.1,x.size≤140737488355328
 sw:∀x∈n.2.1,x.1.size≤140737488355328
 br:∀x∈n.2.2.1,x.1.size≤140737488355328
 gn:∀x∈n.2.2.2.1,x.1.size≤140737488355328
 ld:∀x∈n.2.2.2.2.1,x.1.size≤140737488355328
 st:∀x∈n.2.2.2.2.2,x.1.size≤140737488355328
def BrOk (b:BrT):Prop:=1≤b.2.2.2.1∧b.2.2.2.1≤10000∧500≤b.2.2.2.2.1∧b.2.2.2.2.1≤1500∧-1000≤b.2.2.2.2.2.1∧b.2.2.2.2.2.1≤1000∧0≤b.2.2.2.2.2.2.1∧b.2.2.2.2.2.2.1≤100000
structure NetOk (n:NetT):Prop where
 sz:NetSz n
 l0:n.1.length≤24
 l1:n.2.1.length≤32
 l2:n.2.2.1.length≤24
 l3:n.2.2.2.1.length≤10
 l4:n.2.2.2.2.1.length≤12
 l5:n.2.2.2.2.2.length≤4
 sw:∀x∈n.2.1,x.2.1∈n.1∧x.2.2.1∈n.1
 br:∀x∈n.2.2.1,x.2.1∈n.1∧x.2.2.1∈n.1∧BrOk x
 gn:∀x∈n.2.2.2.1,x.2.1∈n.1∧0≤x.2.2.1∧x.2.2.1≤x.2.2.2.1∧x.2.2.2.1≤100000
 ld:∀x∈n.2.2.2.2.1,x.2.1∈n.1∧0≤x.2.2∧x.2.2≤100000
theorem src20 (n:NetT) (hz:NetSz n) (hn:n.1.length≤24) (hl:n.2.2.2.2.2.length≤4):∀(m j:Nat) (met:List ByteArray),j+m=n.2.2.2.2.2.length→met.length+m≤10000→
  EvP (fun k=>qah.l20 k n.2.2.2.2.2 (n.2.2.2.2.2.length:Int) (j:Int) n.1 n.2.1 n.2.2.1 n.2.2.2.1 n.2.2.2.2.1 n.2.2.2.2.2 met) (fun _=>True)
 |0,j,met,hj,hm=>EvP.step (fun k=>qah.qfC k _ _ _ _ _ _ _ _ _ _) (EvP.neg (by omega) (EvP.ret trivial))
 |m+1,j,met,hj,hm=>by
  have hx:=hz.st _ (rY13_mem (xs:=n.2.2.2.2.2) (i:=(j:Int)) (by omega) (by omega))
  refine EvP.step (fun k=>qah.qfC k _ _ _ _ _ _ _ _ _ _) (EvP.pos (by omega) (EvP.pos (by omega) (EvP.pos (by omega) (EvP.bind (qdl n (by omega) hx _ (by simp) (by omega)) (fun r hr=>EvP.ite (fun _=>EvP.bindE (qbB _ _ _) (EvP.ite (fun _=>EvP.bindE (qbB _ _ _) (EvP.ite (fun _=>EvP.bindE (qbB _ _ _) (EvP.ite (fun _=>?_) (fun _=>EvP.ret trivial))) (fun _=>EvP.ret trivial))) (fun _=>EvP.ret trivial))) (fun _=>EvP.ret trivial))))))
  rw [w64 (by omega) (by omega)]
  exact src20 n hz hn hl m (j+1) r.2 (by omega) (by have:=hr.1;omega)
theorem ne4 {Q:Prop} (e:(4:Int)=0):Q:=absurd e (by decide)
theorem src11 (n:NetT) (hz:NetSz n) (hn:n.1.length≤24) (hl:n.2.2.2.2.2.length≤4) (hl4:n.2.2.2.2.1.length≤12):∀(m j:Nat) (met:List ByteArray),j+m=n.2.2.2.2.1.length→met.length+m≤5000→
  EvP (fun k=>qah.l11 k n.2.2.2.2.1 (n.2.2.2.2.1.length:Int) (j:Int) n.1 n.2.1 n.2.2.1 n.2.2.2.1 n.2.2.2.2.1 n.2.2.2.2.2 met) (fun r=>r.1=0→∀x∈n.2.2.2.2.1.drop j,x.2.1∈n.1∧0≤x.2.2∧x.2.2≤100000)
 |0,j,met,hj,hm=>by
  rw [List.drop_eq_nil_of_le (by omega)]
  exact EvP.step (fun k=>qah.l11_eq k _ _ _ _ _ _ _ _ _ _) (EvP.neg (by omega) ((src20 n hz hn hl n.2.2.2.2.2.length 0 met (Nat.zero_add _) (by omega)).mono (fun r _ _ x hx=>by cases hx)))
 |m+1,j,met,hj,hm=>by
  have hx:=hz.ld _ (rY15_mem (xs:=n.2.2.2.2.1) (i:=(j:Int)) (by omega) (by omega))
  have hdr:=rY15_drop (xs:=n.2.2.2.2.1) (i:=(j:Int)) (by omega) (by omega)
  rw [show ((j:Int)).toNat=j from rfl,show ((j:Int)+1).toNat=j+1 from rfl] at hdr
  rw [hdr]
  refine EvP.step (fun k=>qah.l11_eq k _ _ _ _ _ _ _ _ _ _) (EvP.pos (by omega) (EvP.pos (by omega) (EvP.pos (by omega) (EvP.bind (qdl n (by omega) hx _ (by simp) (by omega)) (fun r hr=>EvP.ite (fun e=>EvP.bindE (qbB _ _ _) (EvP.ite (fun h=>?_) (fun _=>EvP.ret (fun e=>ne4 e)))) (fun e=>EvP.ret (fun e'=>absurd e' e)))))))
  have h:=of_decide_eq_true h
  rw [w64 (by omega) (by omega)]
  refine (src11 n hz hn hl hl4 m (j+1) r.2 (by omega) (by have:=hr.1;omega)).mono (fun r' hr' e' x hx=>?_)
  rcases List.mem_cons.1 hx with rfl|hx
  ·exact ⟨hr.2 e _ (by simp),h⟩
  ·exact hr' e' x hx
theorem src2 (n:NetT) (hz:NetSz n) (hn:n.1.length≤24) (hl:n.2.2.2.2.2.length≤4) (hl4:n.2.2.2.2.1.length≤12) (hl3:n.2.2.2.1.length≤10):∀(m j:Nat) (met:List ByteArray),j+m=n.2.2.2.1.length→met.length+m≤2000→
  EvP (fun k=>qah.l2 k n.2.2.2.1 (n.2.2.2.1.length:Int) (j:Int) n.1 n.2.1 n.2.2.1 n.2.2.2.1 n.2.2.2.2.1 n.2.2.2.2.2 met) (fun r=>r.1=0→(∀x∈n.2.2.2.1.drop j,x.2.1∈n.1∧0≤x.2.2.1∧x.2.2.1≤x.2.2.2.1∧x.2.2.2.1≤100000)∧∀x∈n.2.2.2.2.1,x.2.1∈n.1∧0≤x.2.2∧x.2.2≤100000)
 |0,j,met,hj,hm=>by
  rw [List.drop_eq_nil_of_le (by omega)]
  exact EvP.step (fun k=>qah.l2_eq k _ _ _ _ _ _ _ _ _ _) (EvP.neg (by omega) ((src11 n hz hn hl hl4 n.2.2.2.2.1.length 0 met (Nat.zero_add _) (by omega)).mono (fun r hr e=>⟨fun x hx=>(by cases hx),hr e⟩)))
 |m+1,j,met,hj,hm=>by
  have hx:=hz.gn _ (rY13_mem (xs:=n.2.2.2.1) (i:=(j:Int)) (by omega) (by omega))
  have hdr:=rY13_drop (xs:=n.2.2.2.1) (i:=(j:Int)) (by omega) (by omega)
  rw [show ((j:Int)).toNat=j from rfl,show ((j:Int)+1).toNat=j+1 from rfl] at hdr
  rw [hdr]
  refine EvP.step (fun k=>qah.l2_eq k _ _ _ _ _ _ _ _ _ _) (EvP.pos (by omega) (EvP.pos (by omega) (EvP.pos (by omega) (EvP.bind (qdl n (by omega) hx _ (by simp) (by omega)) (fun r hr=>EvP.ite (fun e=>EvP.bindE (qbB _ _ _) (EvP.ite (fun h1=>EvP.bindE (qbB _ _ _) (EvP.ite (fun h2=>EvP.bindE (qbB _ _ _) (EvP.ite (fun _=>?_) (fun _=>EvP.ret (fun e=>ne4 e)))) (fun _=>EvP.ret (fun e=>ne4 e)))) (fun _=>EvP.ret (fun e=>ne4 e)))) (fun e=>EvP.ret (fun e'=>absurd e' e)))))))
  have h1:=of_decide_eq_true h1
  have h2:=of_decide_eq_true h2
  rw [w64 (by omega) (by omega)]
  refine (src2 n hz hn hl hl4 hl3 m (j+1) r.2 (by omega) (by have:=hr.1;omega)).mono (fun r' hr' e'=>⟨fun x hx=>?_,(hr' e').2⟩)
  rcases List.mem_cons.1 hx with rfl|hx
  ·exact ⟨hr.2 e _ (by simp),h1.1,h2.1,h2.2⟩
  ·exact (hr' e').1 x hx
theorem branch_ex (b:BrT):EvP (fun k=>qbn.f k b) (fun r=>r=0→BrOk b):=by
 refine EvP.bindE (qbB _ _ _) (EvP.ite (fun h1=>EvP.bindE (qbB _ _ _) (EvP.ite (fun h2=>EvP.bindE (qbB _ _ _) (EvP.ite (fun h3=>EvP.bindE (qbB _ _ _) (EvP.ite (fun h4=>EvP.bindE (qbB _ _ _) (EvP.ite (fun _=>EvP.bindE (qbB _ _ _) (EvP.ite (fun _=>EvP.ret (fun _=>?_)) (fun _=>EvP.ret (fun e=>absurd e (by decide))))) (fun _=>EvP.ret (fun e=>absurd e (by decide))))) (fun _=>EvP.ret (fun e=>absurd e (by decide))))) (fun _=>EvP.ret (fun e=>absurd e (by decide))))) (fun _=>EvP.ret (fun e=>absurd e (by decide))))) (fun _=>EvP.ret (fun e=>absurd e (by decide))))
 have h1:=of_decide_eq_true h1
 have h2:=of_decide_eq_true h2
 have h3:=of_decide_eq_true h3
 have h4:=of_decide_eq_true h4
 exact ⟨h1.1,h1.2,h2.1,h2.2,h3.1,h3.2,h4.1,h4.2⟩
def SwP (n:NetT) (x:SwT):Prop:=x.2.1∈n.1∧x.2.2.1∈n.1
def BrP (n:NetT) (x:BrT):Prop:=x.2.1∈n.1∧x.2.2.1∈n.1∧BrOk x
def GnP (n:NetT) (x:GnT):Prop:=x.2.1∈n.1∧0≤x.2.2.1∧x.2.2.1≤x.2.2.2.1∧x.2.2.2.1≤100000
def LdP (n:NetT) (x:LdT):Prop:=x.2.1∈n.1∧0≤x.2.2∧x.2.2≤100000
theorem chk22 (n:NetT) (hz:NetSz n) (hn:n.1.length≤24) (hl:n.2.2.2.2.2.length≤4) (hl4:n.2.2.2.2.1.length≤12) (hl3:n.2.2.2.1.length≤10) (hl2:n.2.2.1.length≤24):∀(m j:Nat) (met:List ByteArray),j+m=n.2.2.1.length→met.length+m≤1000→
  EvP (fun k=>qaf.l22 k n.2.2.1 (n.2.2.1.length:Int) (j:Int) n.1 n.2.1 n.2.2.1 n.2.2.2.1 n.2.2.2.2.1 n.2.2.2.2.2 met) (fun r=>r=0→(∀x∈n.2.2.1.drop j,BrP n x)∧(∀x∈n.2.2.2.1,GnP n x)∧∀x∈n.2.2.2.2.1,LdP n x)
 |0,j,met,hj,hm=>by
  rw [List.drop_eq_nil_of_le (by omega)]
  exact EvP.step (fun k=>qaf.l22_eq k _ _ _ _ _ _ _ _ _ _) (EvP.neg (by omega) (EvP.bind (src2 n hz hn hl hl4 hl3 n.2.2.2.1.length 0 met (Nat.zero_add _) (by omega)) (fun r hr=>EvP.ret (fun e=>⟨fun x hx=>(by cases hx),(hr e).1,(hr e).2⟩))))
 |m+1,j,met,hj,hm=>by
  have hx:=hz.br _ (qeV (xs:=n.2.2.1) (i:=(j:Int)) (by omega) (by omega))
  have hdr:=rY11_drop (xs:=n.2.2.1) (i:=(j:Int)) (by omega) (by omega)
  rw [show ((j:Int)).toNat=j from rfl,show ((j:Int)+1).toNat=j+1 from rfl] at hdr
  rw [hdr]
  refine EvP.step (fun k=>qaf.l22_eq k _ _ _ _ _ _ _ _ _ _) (EvP.pos (by omega) (EvP.pos (by omega) (EvP.pos (by omega) (EvP.bind (qdl n (by omega) hx _ (by simp) (by omega)) (fun r hr=>EvP.ite (fun e=>EvP.ite (fun _=>EvP.ret (fun e=>absurd e (by decide))) (fun _=>EvP.bind (branch_ex _) (fun r5 h5=>EvP.ite (fun e5=>?_) (fun e5=>EvP.ret (fun e=>absurd e e5))))) (fun e=>EvP.ret (fun e'=>absurd e' e)))))))
  rw [w64 (by omega) (by omega)]
  refine (chk22 n hz hn hl hl4 hl3 hl2 m (j+1) r.2 (by omega) (by have:=hr.1;omega)).mono (fun r' hr' e'=>⟨fun x hx=>?_,(hr' e').2⟩)
  rcases List.mem_cons.1 hx with rfl|hx
  ·exact ⟨hr.2 e _ (by simp),hr.2 e _ (by simp),h5 e5⟩
  ·exact (hr' e').1 x hx
theorem chk13 (n:NetT) (hz:NetSz n) (hn:n.1.length≤24) (hl:n.2.2.2.2.2.length≤4) (hl4:n.2.2.2.2.1.length≤12) (hl3:n.2.2.2.1.length≤10) (hl2:n.2.2.1.length≤24) (hl1:n.2.1.length≤32):∀(m j:Nat) (met:List ByteArray),j+m=n.2.1.length→met.length+m≤500→
  EvP (fun k=>qaf.l13 k n.2.1 (n.2.1.length:Int) (j:Int) n.1 n.2.1 n.2.2.1 n.2.2.2.1 n.2.2.2.2.1 n.2.2.2.2.2 met) (fun r=>r=0→(∀x∈n.2.1.drop j,SwP n x)∧(∀x∈n.2.2.1,BrP n x)∧(∀x∈n.2.2.2.1,GnP n x)∧∀x∈n.2.2.2.2.1,LdP n x)
 |0,j,met,hj,hm=>by
  rw [List.drop_eq_nil_of_le (by omega)]
  exact EvP.step (fun k=>qaf.l13_eq k _ _ _ _ _ _ _ _ _ _) (EvP.neg (by omega) ((chk22 n hz hn hl hl4 hl3 hl2 n.2.2.1.length 0 met (Nat.zero_add _) (by omega)).mono (fun r hr e=>⟨fun x hx=>(by cases hx),hr e⟩)))
 |m+1,j,met,hj,hm=>by
  have hx:=hz.sw _ (rY3_mem (xs:=n.2.1) (i:=(j:Int)) (by omega) (by omega))
  have hdr:=rY3_drop (xs:=n.2.1) (i:=(j:Int)) (by omega) (by omega)
  rw [show ((j:Int)).toNat=j from rfl,show ((j:Int)+1).toNat=j+1 from rfl] at hdr
  rw [hdr]
  refine EvP.step (fun k=>qaf.l13_eq k _ _ _ _ _ _ _ _ _ _) (EvP.pos (by omega) (EvP.pos (by omega) (EvP.pos (by omega) (EvP.bind (qdl n (by omega) hx _ (by simp) (by omega)) (fun r hr=>EvP.ite (fun e=>EvP.ite (fun _=>EvP.ret (fun e=>absurd e (by decide))) (fun _=>?_)) (fun e=>EvP.ret (fun e'=>absurd e' e)))))))
  rw [w64 (by omega) (by omega)]
  refine (chk13 n hz hn hl hl4 hl3 hl2 hl1 m (j+1) r.2 (by omega) (by have:=hr.1;omega)).mono (fun r' hr' e'=>⟨fun x hx=>?_,(hr' e').2⟩)
  rcases List.mem_cons.1 hx with rfl|hx
  ·exact ⟨hr.2 e _ (by simp),hr.2 e _ (by simp)⟩
  ·exact (hr' e').1 x hx
theorem chk6 (n:NetT) (hz:NetSz n) (hn:n.1.length≤24) (hl:n.2.2.2.2.2.length≤4) (hl4:n.2.2.2.2.1.length≤12) (hl3:n.2.2.2.1.length≤10) (hl2:n.2.2.1.length≤24) (hl1:n.2.1.length≤32):∀(m j:Nat) (met:List ByteArray),j+m=n.1.length→met.length+m≤200→
  EvP (fun k=>qaf.l6 k n.1 (n.1.length:Int) (j:Int) n.1 n.2.1 n.2.2.1 n.2.2.2.1 n.2.2.2.2.1 n.2.2.2.2.2 met) (fun r=>r=0→(∀x∈n.2.1,SwP n x)∧(∀x∈n.2.2.1,BrP n x)∧(∀x∈n.2.2.2.1,GnP n x)∧∀x∈n.2.2.2.2.1,LdP n x)
 |0,j,met,hj,hm=>EvP.step (fun k=>qaf.l6_eq k _ _ _ _ _ _ _ _ _ _) (EvP.neg (by omega) (chk13 n hz hn hl hl4 hl3 hl2 hl1 n.2.1.length 0 met (Nat.zero_add _) (by omega)))
 |m+1,j,met,hj,hm=>by
  have hx:=hz.nd _ (qeW (xs:=n.1) (i:=(j:Int)) (by omega) (by omega))
  refine EvP.step (fun k=>qaf.l6_eq k _ _ _ _ _ _ _ _ _ _) (EvP.pos (by omega) (EvP.pos (by omega) (EvP.pos (by omega) (EvP.bind (add_ex hx (by omega)) (fun r hr=>EvP.ite (fun e=>?_) (fun e=>EvP.ret (fun e'=>absurd e' e)))))))
  rw [w64 (by omega) (by omega)]
  exact chk6 n hz hn hl hl4 hl3 hl2 hl1 m (j+1) r.2 (by omega) (by omega)
theorem netCheck_ex (n:NetT) (hz:NetSz n):EvP (fun k=>qaf.f k n) (fun r=>r=0→NetOk n):=by
 have key:n.1.length≤24→n.2.1.length≤32→n.2.2.1.length≤24→n.2.2.2.1.length≤10→n.2.2.2.2.1.length≤12→n.2.2.2.2.2.length≤4→EvP (fun k=>qaf.l6 k n.1 (n.1.length:Int) 0 n.1 n.2.1 n.2.2.1 n.2.2.2.1 n.2.2.2.2.1 n.2.2.2.2.2 []) (fun r=>r=0→NetOk n):=fun h0 h1 h2 h3 h4 h5=>
  (chk6 n hz h0 h5 h4 h3 h2 h1 n.1.length 0 [] (Nat.zero_add _) (by simp;omega)).mono (fun r hr e=>⟨hz,h0,h1,h2,h3,h4,h5,(hr e).1,(hr e).2.1,(hr e).2.2.1,(hr e).2.2.2⟩)
 refine EvP.bind (P:=fun r=>r=0→n.1.length≤24∧n.2.1.length≤32∧n.2.2.1.length≤24∧n.2.2.2.1.length≤10∧n.2.2.2.2.1.length≤12∧n.2.2.2.2.2.length≤4) ?_ (fun r hr=>EvP.ite (fun e=>?_) (fun e=>EvP.ret (fun e'=>absurd e' e)))
 ·have no:∀{Q:Prop},(2:Int)=0→Q:=fun e=>absurd e (by decide)
  refine EvP.ite (fun _=>EvP.ret no) (fun c0=>EvP.ite (fun _=>EvP.ret no) (fun c1=>EvP.ite (fun _=>EvP.ret no) (fun c2=>EvP.ite (fun _=>EvP.ret no) (fun c3=>EvP.ite (fun _=>EvP.ret no) (fun c4=>EvP.ite (fun _=>EvP.ret no) (fun c5=>EvP.ret (fun _=>?_)))))))
  have c0:¬24<(n.1.length:Int):=c0
  have c1:¬32<(n.2.1.length:Int):=c1
  have c2:¬24<(n.2.2.1.length:Int):=c2
  have c3:¬10<(n.2.2.2.1.length:Int):=c3
  have c4:¬12<(n.2.2.2.2.1.length:Int):=c4
  have c5:¬4<(n.2.2.2.2.2.length:Int):=c5
  exact ⟨by omega,by omega,by omega,by omega,by omega,by omega⟩
 ·obtain ⟨h0,h1,h2,h3,h4,h5⟩:=hr e
  exact key h0 h1 h2 h3 h4 h5
theorem node_ev {n:NetT} (h:NetOk n) (hc:Ev (fun k=>qaf.f k n) 0) (s:ByteArray):Ev (fun k=>qbE.f k n s) (if s∈n.1 then (idxS n.1 s,0) else (0,6)):=by
 have hl:=h.l0
 refine Ev.bind hc (Ev.pos rfl (Ev.bind (qeJ n.1 s (by omega)) ?_))
 by_cases hm:s∈n.1
 ·have:=(qbO hm).1
  rw [if_pos hm]
  exact Ev.neg (by omega) (Ev.now _)
 ·have:=idxS_neg hm
  rw [if_neg hm]
  exact Ev.pos (by omega) (Ev.now _)
end Go.Proofs.YtfobeapcmgjhbaaGreatDoor.VE
