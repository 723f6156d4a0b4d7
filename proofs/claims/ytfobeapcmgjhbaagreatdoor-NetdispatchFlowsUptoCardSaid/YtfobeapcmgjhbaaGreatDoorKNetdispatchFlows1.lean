/- Texts behind the law NetdispatchFlows, part 1 (no statement is proved here). -/
import Derived.Lib.ConvBytes
import Derived.Laws.IdiomStrings
import Derived.Laws.StandIn
import Derived.Test.YtfobeapcmgjhbaaGreatDoorKNetdispatchFlows0
namespace Go.Proofs.YtfobeapcmgjhbaaGreatDoor.VE
open Go Go.RowKit
section
variable {P:Program} {C:Ctx} {G:Gh} {O:Nat→Obj} {w w':World}
theorem pkP_some {m:Option (Nat×Nat)} {cp:Nat} {p:Nat×Nat×Nat} (h:pkP m cp=some p):m=some (p.1,p.2.1)∧cp=p.2.2∧0<cp:=by
 cases m with
 |none=>cases h
 |some q=>
  obtain ⟨b,o⟩:=q
  unfold pkP at h
  by_cases hc:cp=0
  ·simp only [hc,if_true] at h;cases h
  ·simp only [if_neg hc] at h
   cases h
   exact ⟨rfl,rfl,Nat.pos_of_ne_zero hc⟩
theorem Core.row_m (h:Core C G O w) {d:Nat} {e:TypeId} {t:Ty} {xs:List t.T} {fz:Bool} (hd:O d=.row e t xs fz):G.m d=none→G.cp d=0:=by
 intro hm
 rcases (h.row hd).2 with ⟨q,_⟩|⟨b,o,arr,t',h1,_⟩
 ·exact q
 ·rw [hm] at h1;cases h1
theorem HdI.of_row {d sz n off len:Nat} {v:Value} (hmc:G.m d=none→G.cp d=0) (h:HdR G d sz n off len v):HdI (pkP (G.m d) (G.cp d)) sz n off len v:=by
 obtain ⟨h1,A,c,rfl,h2,h3,h4⟩:=h
 refine ⟨h1,A,c,rfl,h2,?_,fun hc=>?_⟩
 ·rw [h3]
  rcases Nat.eq_zero_or_pos (G.cp d) with hc|hc
  ·rw [hc,pkP_zero];rfl
  ·cases hm:G.m d with
   |none=>exact absurd (hmc hm) (by omega)
   |some q=>
    obtain ⟨b,o⟩:=q
    rw [pkP_mk hc];rfl
 ·obtain ⟨b,o,hm,hA⟩:=h4 hc
  exact ⟨b,o,G.cp d,by rw [hm,pkP_mk (by omega)],hA⟩
theorem Core.innerRow (h:Core C G O w) {d:Nat} {e:TypeId} {t:Ty} {xs:List t.T} (hd:O d=.row e t xs false):qdo C G w t xs (pkP (G.m d) (G.cp d)):=by
 obtain ⟨h0,h1⟩:=h.row hd
 rcases h1 with ⟨h1,h2⟩|⟨b,o,arr,t',h1,h2,h3,h4,h5,_,h7⟩
 ·rw [h2]
  show xs.length=0
  omega
 ·rw [h1]
  rcases Nat.eq_zero_or_pos (G.cp d) with hc|hc
  ·rw [hc,pkP_zero]
   show xs.length=0
   omega
  ·rw [pkP_mk hc]
   exact ⟨h0,hc,arr,t',h2,h3,h4,h5,h7 rfl⟩
theorem Core.qee (h:Core C G O w) {d v b o:Nat} {e e2:TypeId} {t:Ty} {xss:List (List t.T)} {pd:Pend} (hd:O d=.deep v e e2 t xss pd) (hm:G.m d=some (b,o)) {arr arr':Array Value} {te:TypeId} (hb:blk w b arr te) (hw:Put w w' b arr' te) (hsz:arr'.size=arr.size)
  {v':Nat} {xss':List (List t.T)} {pd':Pend} {S:Nat→Option (Nat×Nat×Nat)} (hl:xss'.length=xss.length) (hv:v<v'∨v'=v∧S=G.sub d v∧∀i:Nat,(xss[i]?).map List.length=(xss'[i]?).map List.length)
  (hD:DeepR C G w t xss' pd' S b o arr') {O2:Nat→Obj} (d2:Nat)
  (hO2:O2=O∨∃e3 ys i,d2≠d∧O d2=.row e3 t ys false∧O2=upd O d2 (.fwd d v' i t ys.length)∧0≤i∧(xss'[i.toNat]?).map List.length=some ys.length∧S i.toNat=pkP (G.m d2) (G.cp d2))
  (hS:∀j p,j<xss.length→pd'.own j→S j=some p→(∃j' q,j'<xss.length∧pd.own j'∧G.sub d v j'=some (p.1,q))∨(d2≠d∧(O d2).live=true∧(O2 d2).live=false∧∃q,G.m d2=some (p.1,q))) :
  Core C {G with sub:=upd G.sub d (upd (G.sub d) v' S)} (upd O2 d (.deep v' e e2 t xss' pd')) w'∧Ext G O w {G with sub:=upd G.sub d (upd (G.sub d) v' S)} (upd O2 d (.deep v' e e2 t xss' pd')) w':=by
 have hlv:(O d).live=true:=by rw [hd];rfl
 obtain ⟨hcp,hdp⟩:=h.deep hd
 obtain ⟨b0,o0,arr0,te0,k1,k2,k3,k4,k5,_⟩:∃b o arr e,G.m d=some (b,o)∧blk w b arr e∧o+G.cp d≤arr.size∧own C b∧¬G.F b∧DeepR C G w t xss pd (G.sub d v) b o arr:=by
  rcases hdp with ⟨_,q⟩|q
  ·rw [hm] at q;cases q
  ·exact q
 rw [hm] at k1
 cases k1
 have ea:arr0=arr:=by
  have:some (Go.Obj.cells arr0 te0 (0,0))=some (Go.Obj.cells arr te (0,0)):=k2.symm.trans hb
  simp at this
  exact this.1
 subst ea
 have hO2':∀k,O2 k=O k∨(k=d2∧k≠d∧(O2 k).live=false∧∃e3 ys i,O k=.row e3 t ys false∧O2 k=.fwd d v' i t ys.length∧0≤i∧(xss'[i.toNat]?).map List.length=some ys.length∧S i.toNat=pkP (G.m k) (G.cp k)):=by
  intro k
  rcases hO2 with rfl|⟨e3,ys,i,q1,q2,rfl,q3⟩
  ·exact Or.inl rfl
  ·by_cases hk:k=d2
   ·subst hk
    refine Or.inr ⟨rfl,q1,?_,e3,ys,i,q2,?_,q3⟩
    ·rw [qad];rfl
    ·rw [qad]
   ·exact Or.inl (upd_ne _ _ hk)
 have hsub:(upd G.sub d (upd (G.sub d) v' S) d v')=S:=by rw [qad,qad]
 have ex:Ext G O w {G with sub:=upd G.sub d (upd (G.sub d) v' S)} (upd O2 d (.deep v' e e2 t xss' pd')) w':=by
  refine ⟨fun _ h=>h,fun k hk=>hw.old k (by rintro rfl;exact k5 hk),fun k hk=>?_⟩
  by_cases hkd:k=d
  ·subst hkd
   rw [qad,hd]
   refine ⟨by simp,⟨rfl,rfl,hl.symm,?_⟩,fun _=>⟨rfl,rfl,rfl,fun u hu _=>?_⟩⟩
   ·rcases hv with hv|⟨hv,_,hi⟩
    ·exact Or.inl hv
    ·exact Or.inr ⟨hv.symm,hi⟩
   ·show upd G.sub k (upd (G.sub k) v' S) k u=G.sub k u
    rw [qad]
    by_cases huv:u=v'
    ·subst huv
     rw [qad]
     have hu:u≤v:=hu
     rcases hv with hv|⟨rfl,hv,_⟩
     ·omega
     ·exact hv
    ·rw [upd_ne _ _ huv]
  ·rw [upd_ne _ _ hkd]
   have hs:upd G.sub d (upd (G.sub d) v' S) k=G.sub k:=upd_ne _ _ hkd
   rcases hO2' k with h2|⟨_,_,_,e3,ys,i,q2,q3,_⟩
   ·rw [h2]
    exact ⟨hk,Sim.refl _,fun _=>⟨rfl,rfl,rfl,fun u _ _=>by show upd G.sub d (upd (G.sub d) v' S) k u=_;rw [hs]⟩⟩
   ·rw [q2,q3]
    exact ⟨by simp,⟨rfl,rfl⟩,fun _=>⟨rfl,rfl,rfl,fun u _ _=>by show upd G.sub d (upd (G.sub d) v' S) k u=_;rw [hs]⟩⟩
 refine ⟨h.step ex (fun k=>k=d∨O2 k≠O k) (fun k hk=>?_) (fun k b1 hk hl' hB=>?_) ?_ ?_ (fun b hb=>Or.inl hb) (hw.keeps k4) ?_,ex⟩
 ·obtain ⟨n1,n2⟩:=not_or.1 hk
  have n2:O2 k=O k:=Classical.not_not.1 n2
  exact ⟨by rw [upd_ne _ _ n1];exact n2,rfl,rfl,rfl,upd_ne _ _ n1⟩
 ·obtain ⟨n1,_⟩:=not_or.1 hk
  exact ⟨hw.old b1 (h.injB k d b1 b n1 hl' hlv hB (Or.inl ⟨o,hm⟩)),id⟩
 ·intro k hk
  by_cases hkd:k=d
  ·subst hkd
   unfold ObjR
   rw [qad]
   refine ⟨by rw [hl];exact hcp,Or.inr ⟨b,o,arr',te,hm,hw.new,by show o+G.cp k≤arr'.size;rw [hsz];exact k3,k4,k5,?_⟩⟩
   show DeepR C _ w' t xss' pd' (upd G.sub k (upd (G.sub k) v' S) k v') b o arr'
   rw [hsub]
   exact DeepR.mono (G:=G) (C:=C) (w:=w) (fun _ h=>h) ex.Fw (fun j p hj ho hp=>⟨hw.old p.1 (hD.ne j p hj ho hp),id,id⟩) hD
  ·rcases hk with hk|hk
   ·exact absurd hk hkd
   ·rcases hO2' k with h2|⟨_,_,_,e3,ys,i,q2,q3,q4,q5,q6⟩
    ·exact absurd h2 hk
    ·unfold ObjR
     rw [upd_ne _ _ hkd,q3]
     show qbu (upd O2 d (.deep v' e e2 t xss' pd') d) v' (fun t' L=>t'=t∧0≤i∧L i.toNat=some ys.length∧upd G.sub d (upd (G.sub d) v' S) d v' i.toNat=pkP (G.m k) (G.cp k))
     rw [qad,hsub]
     exact Or.inr ⟨rfl,rfl,q4,q5,q6⟩
 ·intro k d' b1 b' hne hk hl1 hl' hB hB'
  by_cases hkd:k=d
  ·subst hkd
   have hO':O2 d'=O d':=by
    rcases hO2' d' with h2|⟨_,_,h2,_⟩
    ·exact h2
    ·rw [upd_ne _ _ (Ne.symm hne)] at hl'
     rw [h2] at hl';cases hl'
   rw [upd_ne _ _ (Ne.symm hne),hO'] at hl' hB'
   have hBd':Bl G (O d') d' b':=hB'.old rfl (upd_ne _ _ (Ne.symm hne))
   rw [qad] at hB
   rcases hB with ⟨p,hp⟩|⟨j,p,hj,ho,hs⟩
   ·exact h.injB k d' b1 b' hne hlv hl' (Or.inl ⟨p,hp⟩) hBd'
   ·have hs:upd G.sub k (upd (G.sub k) v' S) k v' j=some (b1,p):=hs
    rw [hsub] at hs
    rcases hS j (b1,p) (by rw [←hl];exact hj) ho hs with ⟨j',q,r1,r2,r3⟩|⟨r1,r2,r3,q,r4⟩
    ·exact h.injB k d' b1 b' hne hlv hl' (by rw [hd];exact Or.inr ⟨j',q,r1,r2,r3⟩) hBd'
    ·have hd2:d2≠d':=by
      rintro rfl
      rw [hO'] at r3
      rw [r3] at hl';cases hl'
     exact h.injB d2 d' b1 b' hd2 r2 hl' (Or.inl ⟨q,r4⟩) hBd'
  ·rcases hk with hk|hk
   ·exact absurd hk hkd
   ·rcases hO2' k with h2|⟨_,_,h2,_⟩
    ·exact absurd h2 hk
    ·rw [upd_ne _ _ hkd,h2] at hl1
     cases hl1
 ·intro k _ hk hn hlv'
  by_cases hkd:k=d
  ·subst hkd
   refine ⟨hlv,rfl,rfl,?_⟩
   rw [qad,hd]
   exact hl
  ·rcases hk with hk|hk
   ·exact absurd hk hkd
   ·rcases hO2' k with h2|⟨_,_,h2,_⟩
    ·exact absurd h2 hk
    ·rw [upd_ne _ _ hkd,h2] at hlv'
     cases hlv'
theorem Put.refl {b:Nat} {arr:Array Value} {e:TypeId} (hb:blk w b arr e):Put w w b arr e:=⟨hb,fun _ _=>rfl,rfl,rfl,rfl,rfl⟩
theorem qdz (h:Core C G O w) {d v:Nat} {i:Int} {e e2:TypeId} {t:Ty} {xss:List (List t.T)} {pd:Pend} (hd:O d=.deep v e e2 t xss pd) {a:Value} (ha:LfR G O w (.oe d i 0) a) {ti:TypeId} {A:Option Addr} {n c:Nat} (hc:P.cellsOf ti=1) (hi:(P.info? ti).isSome=true) :
  ∃b o arr arr' te w',G.m d=some (b,o)∧blk w b arr te∧Put w w' b arr' te∧arr'.size=arr.size∧0≤i∧i.toNat<xss.length∧DeepR C G w t xss pd (G.sub d v) b o arr∧(Instr.storeAt ti a (.slice A n c)).run P w=.ok () w'∧arr'[o+i.toNat]?=some (.slice A n c)∧∀(j:Nat) u,j≠i.toNat→arr[o+j]?=some u→arr'[o+j]?=some u:=by
 have k:OnRow (O d) (fun t n=>0≤i∧i<(n:Int)∧∃b o,G.m d=some (b,o)∧a=.pointer (some ⟨b,o+i.toNat*t.sz+0,none⟩)):=ha.2
 rw [hd] at k
 obtain ⟨h0,h1,b,o,hm,rfl⟩:=k
 have hil:i.toNat<xss.length:=by omega
 obtain ⟨hcp,hdp⟩:=h.deep hd
 rcases hdp with ⟨_,q⟩|⟨b',o',arr,te,k1,k2,k3,k4,k5,k6⟩
 ·rw [hm] at q;cases q
 ·rw [hm] at k1
  cases k1
  have hfit:o+i.toNat*1+0+1≤arr.size:=by omega
  have hst:=qcz (P:=P) (w:=w) (t:=ti) (b:=b) (o:=o+i.toNat*1+0) (v:=.slice A n c) k2 hfit (fun u hu=>by
   have:u=.slice A n c:=by simpa [Value.cells] using hu
   rw [this];rfl) (Option.isSome_iff_exists.1 hi) (by rw [hc];rfl)
  have hfit':o+i.toNat*1+0+[Value.slice A n c].length≤arr.toList.length:=by simpa using hfit
  have hget:=fun q=>qcU arr.toList [Value.slice A n c] (o+i.toNat*1+0) q hfit'
  simp only [List.length_singleton] at hget
  refine ⟨b,o,arr,_,te,_,hm,k2,qbS k2,?_,h0,hil,k6,hst,?_,fun j u hj hu=>?_⟩
  ·simp [Value.cells]
   omega
  ·show ((arr.toList.take (o+i.toNat*1+0)++[Value.slice A n c]++arr.toList.drop (o+i.toNat*1+0+1)).toArray)[o+i.toNat]?=_
   simp only [List.getElem?_toArray]
   rw [hget,if_neg (by omega),if_pos (by omega)]
   simp
  ·show ((arr.toList.take (o+i.toNat*1+0)++[Value.slice A n c]++arr.toList.drop (o+i.toNat*1+0+1)).toArray)[o+j]?=_
   simp only [List.getElem?_toArray]
   rw [hget]
   rcases Nat.lt_or_ge j i.toNat with h9|h9
   ·rw [if_pos (by omega),Array.getElem?_toList];exact hu
   ·rw [if_neg (by omega),if_neg (by omega),Array.getElem?_toList];exact hu
theorem take_ok (h:Core C G O w) {d d2 v:Nat} {i:Int} {e e2 e3:TypeId} {t:Ty} {xss:List (List t.T)} {ys:List t.T} {pd:Pend} (hpd:∀j,j≠i.toNat→pd.own j∧pd.hd j=some j) (hd:O d=.deep v e e2 t xss pd) (hd2:O d2=.row e3 t ys false) (hne:d≠d2) {a u:Value} (ha:LfR G O w (.oe d i 0) a) (hu:LfR G O w (.o d2) u) {ti:TypeId} (hc:P.cellsOf ti=1) (hi:(P.info? ti).isSome=true) :
  ∃w',(Instr.storeAt ti a u).run P w=.ok () w'∧∃G',Core C G' (upds O [(d2,.fwd d (v+1) i t ys.length),(d,.deep (v+1) e e2 t (xss.set i.toNat ys) .ok)]) w'∧Ext G O w G' (upds O [(d2,.fwd d (v+1) i t ys.length),(d,.deep (v+1) e e2 t (xss.set i.toNat ys) .ok)]) w':=by
 have hhd:=qdd hd2 hu
 obtain ⟨A,c,rfl⟩:∃A c,u=.slice A ys.length c:=by
  obtain ⟨_,A,c,rfl,_⟩:=hhd
  exact ⟨A,c,rfl⟩
 obtain ⟨b,o,arr,arr',te,w',hm,hb,hw,hsz,h0,hil,k6,hst,hgi,hgn⟩:=qdz h hd ha (A:=A) (n:=ys.length) (c:=c) hc hi
 have hS:∀S:Nat→Option (Nat×Nat×Nat),S=(fun j=>if j=i.toNat then pkP (G.m d2) (G.cp d2) else G.sub d v j)→∃G',Core C G' (upds O [(d2,.fwd d (v+1) i t ys.length),(d,.deep (v+1) e e2 t (xss.set i.toNat ys) .ok)]) w'∧Ext G O w G' (upds O [(d2,.fwd d (v+1) i t ys.length),(d,.deep (v+1) e e2 t (xss.set i.toNat ys) .ok)]) w':=by
  intro S hS
  have hSi:S i.toNat=pkP (G.m d2) (G.cp d2):=by rw [hS];simp
  have hSo:∀j,j≠i.toNat→S j=G.sub d v j:=fun j hj=>by rw [hS];simp [hj]
  have hl:(O d).live=true:=by rw [hd];rfl
  have hl2:(O d2).live=true:=by rw [hd2];rfl
  have hset:∀(j:Nat) x,(xss.set i.toNat ys)[j]?=some x→j=i.toNat∧x=ys∨j≠i.toNat∧xss[j]?=some x:=by
   intro j x hj
   by_cases hji:i.toNat=j
   ·subst hji
    rw [List.getElem?_set_self hil] at hj
    cases hj;exact Or.inl ⟨rfl,rfl⟩
   ·rw [List.getElem?_set_ne hji] at hj
    exact Or.inr ⟨Ne.symm hji,hj⟩
  have hne2:∀p,pkP (G.m d2) (G.cp d2)=some p→∀b1,Bl G (O d) d b1→p.1≠b1:=fun p hp b1 hB1=>h.injB d2 d p.1 b1 (Ne.symm hne) hl2 hl (Or.inl ⟨p.2.1,(pkP_some hp).1⟩) hB1
  have hsubB:∀j p,j<xss.length→j≠i.toNat→G.sub d v j=some p→Bl G (O d) d p.1:=fun j p hj hji hp=>by
   rw [hd]
   exact Or.inr ⟨j,p.2,hj,(hpd j hji).1,hp⟩
  have k:=h.qee hd hm hb hw hsz (v':=v+1) (xss':=xss.set i.toNat ys) (pd':=.ok) (S:=S) (by rw [List.length_set]) (Or.inl (Nat.lt_succ_self v)) ⟨fun j x hj hx=>?_,fun j y hj _=>?_,fun j p hj _ hp=>?_,fun j j' p p' hjj hj hj' _ _ hp hp'=>?_⟩ (O2:=upd O d2 (.fwd d (v+1) i t ys.length)) d2 (Or.inr ⟨e3,ys,i,Ne.symm hne,hd2,rfl,h0,by rw [List.getElem?_set_self hil];rfl,hSi⟩) (fun j p hj _ hp=>?_)
  ·exact ⟨_,k.1,k.2⟩
  ·obtain rfl:j=x:=Option.some.inj hx
   rw [List.length_set] at hj ⊢
   refine ⟨hj,?_⟩
   by_cases hji:j=i.toNat
   ·subst hji
    refine ⟨_,hgi,fun y hy=>?_⟩
    rw [List.getElem?_set_self hil] at hy
    cases hy
    rw [hSi]
    exact HdI.of_row (h.row_m hd2) hhd
   ·obtain ⟨_,u,q1,q2⟩:=k6.cells j j hj (hpd j hji).2
    refine ⟨u,hgn j u hji q1,fun y hy=>?_⟩
    rw [List.getElem?_set_ne (Ne.symm hji)] at hy
    rw [hSo j hji]
    exact q2 y hy
  ·rcases hset j y hj with ⟨rfl,rfl⟩|⟨hji,hj0⟩
   ·rw [hSi];exact h.innerRow hd2
   ·rw [hSo j hji];exact k6.inner j y hj0 (hpd j hji).1
  ·rw [List.length_set] at hj
   by_cases hji:j=i.toNat
   ·subst hji
    rw [hSi] at hp
    exact hne2 p hp b (Or.inl ⟨o,hm⟩)
   ·rw [hSo j hji] at hp
    exact k6.ne j p hj (hpd j hji).1 hp
  ·rw [List.length_set] at hj hj'
   by_cases hji:j=i.toNat
   ·by_cases hji':j'=i.toNat
    ·exact absurd (hji.trans hji'.symm) hjj
    ·rw [hji,hSi] at hp
     rw [hSo j' hji'] at hp'
     exact hne2 p hp _ (hsubB j' p' hj' hji' hp')
   ·rw [hSo j hji] at hp
    by_cases hji':j'=i.toNat
    ·rw [hji',hSi] at hp'
     exact Ne.symm (hne2 p' hp' _ (hsubB j p hj hji hp))
    ·rw [hSo j' hji'] at hp'
     exact k6.sep j j' p p' hjj hj hj' (hpd j hji).1 (hpd j' hji').1 hp hp'
  ·by_cases hji:j=i.toNat
   ·rw [hji,hSi] at hp
    exact Or.inr ⟨Ne.symm hne,hl2,by rw [qad];rfl,p.2.1,(pkP_some hp).1⟩
   ·rw [hSo j hji] at hp
    exact Or.inl ⟨j,p.2,hj,(hpd j hji).1,hp⟩
 exact ⟨w',hst,hS _ rfl⟩
theorem sw_ok (h:Core C G O w) {d v:Nat} {i j:Int} {e e2:TypeId} {t:Ty} {xss:List (List t.T)} (hd:O d=.deep v e e2 t xss .ok) {a u:Value} (ha:LfR G O w (.oe d i 0) a) (hu:LfR G O w (.oh d v j) u) {ti:TypeId} (hc:P.cellsOf ti=1) (hi:(P.info? ti).isSome=true) :
  ∃w',(Instr.storeAt ti a u).run P w=.ok () w'∧∃G',Core C G' (upds O [(d,.deep v e e2 t xss (.sw i j))]) w'∧Ext G O w G' (upds O [(d,.deep v e e2 t xss (.sw i j))]) w':=by
 obtain ⟨g0,y,hy,hhd⟩:=oh_at hd hu
 obtain ⟨A,c,rfl⟩:∃A c,u=.slice A y.length c:=by
  obtain ⟨_,A,c,rfl,_⟩:=hhd
  exact ⟨A,c,rfl⟩
 obtain ⟨b,o,arr,arr',te,w',hm,hb,hw,hsz,h0,hil,k6,hst,hgi,hgn⟩:=qdz h hd ha (A:=A) (n:=y.length) (c:=c) hc hi
 have hjl:=(List.getElem?_eq_some_iff.1 hy).1
 have k:=h.qee hd hm hb hw hsz (v':=v) (xss':=xss) (pd':=.sw i j) (S:=G.sub d v) rfl (Or.inr ⟨rfl,rfl,fun _=>rfl⟩) ⟨fun k x hk hx=>?_,fun k y hk _=>k6.inner k y hk trivial,fun k p hk _ hp=>k6.ne k p hk trivial hp,fun k k' p p' hn hk hk' _ _ hp hp'=>k6.sep k k' p p' hn hk hk' trivial trivial hp hp'⟩ d (Or.inl rfl) (fun k p hk _ hp=>Or.inl ⟨k,p.2,hk,trivial,hp⟩)
 ·exact ⟨w',hst,_,k.1,k.2⟩
 ·have hx:(if k=i.toNat then j.toNat else k)=x:=Option.some.inj hx
  by_cases hki:k=i.toNat
  ·rw [if_pos hki] at hx
   subst hx
   refine ⟨hjl,_,by rw [hki];exact hgi,fun z hz=>?_⟩
   rw [hy] at hz
   cases hz
   exact hhd
  ·rw [if_neg hki] at hx
   subst hx
   obtain ⟨_,u,q1,q2⟩:=k6.cells k k hk rfl
   exact ⟨hk,u,hgn k u hki q1,q2⟩
theorem swap_ok (h:Core C G O w) {d v:Nat} {a b:Int} {e e2:TypeId} {t:Ty} {xss:List (List t.T)} (hd:O d=.deep v e e2 t xss (.sw a b)) {q u:Value} (ha:LfR G O w (.oe d b 0) q) (hu:LfR G O w (.oh d v a) u) {ti:TypeId} (hc:P.cellsOf ti=1) (hi:(P.info? ti).isSome=true) :
  ∃w',(Instr.storeAt ti q u).run P w=.ok () w'∧∃G',Core C G' (upds O [(d,.deep (v+1) e e2 t ((xss.set a.toNat (rd (.list e2 t) xss b)).set b.toNat (rd (.list e2 t) xss a)) .ok)]) w'∧Ext G O w G' (upds O [(d,.deep (v+1) e e2 t ((xss.set a.toNat (rd (.list e2 t) xss b)).set b.toNat (rd (.list e2 t) xss a)) .ok)]) w':=by
 obtain ⟨g0,y,hy,hhd⟩:=oh_at hd hu
 obtain ⟨A,c,rfl⟩:∃A c,u=.slice A y.length c:=by
  obtain ⟨_,A,c,rfl,_⟩:=hhd
  exact ⟨A,c,rfl⟩
 obtain ⟨b0,o,arr,arr',te,w',hm,hb,hw,hsz,h0,hbl,k6,hst,hgi,hgn⟩:=qdz h hd ha (A:=A) (n:=y.length) (c:=c) hc hi
 have hal:=(List.getElem?_eq_some_iff.1 hy).1
 have hra:rd (.list e2 t) xss a=y:=rdAt (t:=.list e2 t) hy
 have hrb:rd (.list e2 t) xss b=xss[b.toNat]:=rdAt (t:=.list e2 t) (List.getElem?_eq_getElem hbl)
 have main:∀(π:Nat→Nat) (zss:List (List t.T)),π=(fun k=>if k=b.toNat then a.toNat else if k=a.toNat then b.toNat else k)→zss=(xss.set a.toNat (rd (.list e2 t) xss b)).set b.toNat (rd (.list e2 t) xss a)→∃G',Core C G' (upds O [(d,.deep (v+1) e e2 t zss .ok)]) w'∧Ext G O w G' (upds O [(d,.deep (v+1) e e2 t zss .ok)]) w':=by
  intro π zss hπ hz
  have hzl:zss.length=xss.length:=by rw [hz];simp
  have πb:π b.toNat=a.toNat:=by rw [hπ];simp
  have πa:a.toNat≠b.toNat→π a.toNat=b.toNat:=fun hn=>by rw [hπ];simp [hn]
  have πo:∀k,k≠a.toNat→k≠b.toNat→π k=k:=fun k h1 h2=>by rw [hπ];simp [h1,h2]
  have πl:∀k,k<xss.length→π k<xss.length:=by
   intro k hk
   by_cases h1:k=b.toNat
   ·rw [h1,πb];exact hal
   ·by_cases h2:k=a.toNat
    ·rw [h2,πa (by rw [←h2];exact h1)];exact hbl
    ·rw [πo k h2 h1];exact hk
  have πi:∀k k',k≠k'→π k≠π k':=by
   intro k k' hn
   rw [hπ]
   show (if k=b.toNat then a.toNat else if k=a.toNat then b.toNat else k)≠(if k'=b.toNat then a.toNat else if k'=a.toNat then b.toNat else k')
   split<;>split<;>(try split)<;>(try split)<;>omega
  have hget:∀k:Nat,k<xss.length→zss[k]?=xss[π k]?:=by
   intro k hk
   rw [hz,hra,hrb]
   by_cases h1:k=b.toNat
   ·rw [h1,πb,List.getElem?_set_self (by rw [List.length_set];exact hbl),hy]
   ·rw [List.getElem?_set_ne (Ne.symm h1)]
    by_cases h2:k=a.toNat
    ·rw [h2,πa (by rw [←h2];exact h1),List.getElem?_set_self hal,List.getElem?_eq_getElem hbl]
    ·rw [List.getElem?_set_ne (Ne.symm h2),πo k h2 h1]
  have k:=h.qee hd hm hb hw hsz (v':=v+1) (xss':=zss) (pd':=.ok) (S:=fun k=>G.sub d v (π k)) hzl (Or.inl (Nat.lt_succ_self v)) ⟨fun k x hk hx=>?_,fun k y hk _=>?_,fun k p hk _ hp=>?_,fun k k' p p' hn hk hk' _ _ hp hp'=>?_⟩ d (Or.inl rfl) (fun k p hk _ hp=>?_)
  ·exact ⟨_,k.1,k.2⟩
  ·obtain rfl:k=x:=Option.some.inj hx
   refine ⟨hk,?_⟩
   rw [hzl] at hk
   by_cases h1:k=b.toNat
   ·refine ⟨_,by rw [h1];exact hgi,fun z hz'=>?_⟩
    rw [hget k hk,h1,πb,hy] at hz'
    cases hz'
    show HdI (G.sub d v (π k)) _ _ _ _ _
    rw [h1,πb]
    exact hhd
   ·obtain ⟨_,u,q1,q2⟩:=k6.cells k (π k) hk (by
     show some (if k=a.toNat then b.toNat else k)=some (π k)
     by_cases h2:k=a.toNat
     ·rw [if_pos h2,h2,πa (by rw [←h2];exact h1)]
     ·rw [if_neg h2,πo k h2 h1])
    refine ⟨u,hgn k u h1 q1,fun z hz'=>?_⟩
    rw [hget k hk] at hz'
    exact q2 z hz'
  ·have hk':k<xss.length:=by rw [←hzl];exact (List.getElem?_eq_some_iff.1 hk).1
   rw [hget k hk'] at hk
   exact k6.inner (π k) y hk trivial
  ·rw [hzl] at hk
   exact k6.ne (π k) p (πl k hk) trivial hp
  ·rw [hzl] at hk hk'
   exact k6.sep (π k) (π k') p p' (πi k k' hn) (πl k hk) (πl k' hk') trivial trivial hp hp'
  ·exact Or.inl ⟨π k,p.2,πl k hk,trivial,hp⟩
 obtain ⟨G',m1,m2⟩:=main _ _ rfl rfl
 exact ⟨w',hst,G',m1,m2⟩
theorem reslice_ok (h:Core C G O w) {d v off len:Nat} {i:Int} {e e2:TypeId} {t:Ty} {xss:List (List t.T)} (hd:O d=.deep v e e2 t xss .ok) {a u:Value} (ha:LfR G O w (.oe d i 0) a) (hu:LfR G O w (.ohs d v i off len) u) {ti:TypeId} (hc:P.cellsOf ti=1) (hi:(P.info? ti).isSome=true) :
  ∃w',(Instr.storeAt ti a u).run P w=.ok () w'∧∃G',Core C G' (upds O [(d,.deep (v+1) e e2 t (xss.set i.toNat (((rd (.list e2 t) xss i:List t.T).drop off).take len)) .ok)]) w'∧Ext G O w G' (upds O [(d,.deep (v+1) e e2 t (xss.set i.toNat (((rd (.list e2 t) xss i:List t.T).drop off).take len)) .ok)]) w':=by
 obtain ⟨g0,y,hy,f1,A,c,rfl,f2,f3,f4⟩:=ohs_at hd hu
 obtain ⟨b,o,arr,arr',te,w',hm,hb,hw,hsz,h0,hil,k6,hst,hgi,hgn⟩:=qdz h hd ha (A:=A) (n:=len) (c:=c) hc hi
 have hrd:rd (.list e2 t) xss i=y:=rdAt (t:=.list e2 t) hy
 rw [hrd]
 have hlen:((y.drop off).take len).length=len:=by rw [List.length_take,List.length_drop];omega
 have main:∀(N:Option (Nat×Nat×Nat)) (S:Nat→Option (Nat×Nat×Nat)),N=(if 0<c then (G.sub d v i.toNat).map fun p=>(p.1,p.2.1+off*t.sz,c) else none)→S=(fun j=>if j=i.toNat then N else G.sub d v j)→∃G',Core C G' (upds O [(d,.deep (v+1) e e2 t (xss.set i.toNat ((y.drop off).take len)) .ok)]) w'∧Ext G O w G' (upds O [(d,.deep (v+1) e e2 t (xss.set i.toNat ((y.drop off).take len)) .ok)]) w':=by
  intro N S hN hS
  have hSi:S i.toNat=N:=by rw [hS];simp
  have hSo:∀j,j≠i.toNat→S j=G.sub d v j:=fun j hj=>by rw [hS];simp [hj]
  have hNs:∀p,N=some p→∃q,G.sub d v i.toNat=some (p.1,q):=by
   intro p hp
   rw [hN] at hp
   split at hp
   ·cases hq:G.sub d v i.toNat with
    |none=>rw [hq] at hp;cases hp
    |some q=>rw [hq] at hp;cases hp;exact ⟨q.2,rfl⟩
   ·cases hp
  have hold:∀j p,S j=some p→∃q,G.sub d v j=some (p.1,q):=by
   intro j p hp
   by_cases hji:j=i.toNat
   ·rw [hji,hSi] at hp
    rw [hji];exact hNs p hp
   ·rw [hSo j hji] at hp
    exact ⟨p.2,hp⟩
  have k:=h.qee hd hm hb hw hsz (v':=v+1) (xss':=xss.set i.toNat ((y.drop off).take len)) (pd':=.ok) (S:=S) (by rw [List.length_set]) (Or.inl (Nat.lt_succ_self v)) ⟨fun j x hj hx=>?_,fun j z hj _=>?_,fun j p hj _ hp=>?_,fun j j' p p' hjj hj hj' _ _ hp hp'=>?_⟩ d (Or.inl rfl) (fun j p hj _ hp=>?_)
  ·exact ⟨_,k.1,k.2⟩
  ·obtain rfl:j=x:=Option.some.inj hx
   rw [List.length_set] at hj ⊢
   refine ⟨hj,?_⟩
   by_cases hji:j=i.toNat
   ·refine ⟨_,by rw [hji];exact hgi,fun z hz=>?_⟩
    rw [hji,List.getElem?_set_self hil] at hz
    cases hz
    rw [hji,hSi,hlen]
    refine ⟨by omega,A,c,rfl,f2,?_,fun hc0=>?_⟩
    ·rw [hN]
     by_cases hc0:0<c
     ·obtain ⟨b1,o1,k1,r1,_⟩:=f4 hc0
      rw [if_pos hc0,r1]
      show 0+c=c
      omega
     ·rw [if_neg hc0]
      show 0+c=0
      omega
    ·obtain ⟨b1,o1,k1,r1,r2⟩:=f4 hc0
     refine ⟨b1,o1+off*t.sz,c,by rw [hN,if_pos hc0,r1];rfl,by rw [r2];simp⟩
   ·obtain ⟨_,u,q1,q2⟩:=k6.cells j j hj rfl
    refine ⟨u,hgn j u hji q1,fun z hz=>?_⟩
    rw [List.getElem?_set_ne (Ne.symm hji)] at hz
    rw [hSo j hji]
    exact q2 z hz
  ·by_cases hji:j=i.toNat
   ·subst hji
    rw [List.getElem?_set_self hil] at hj
    cases hj
    rw [hSi]
    have hin:=k6.inner i.toNat y hy trivial
    by_cases hc0:0<c
    ·obtain ⟨b1,o1,k1,r1,r2⟩:=f4 hc0
     rw [r1] at hin
     obtain ⟨q1,q2,arr2,e3,q3,q4,q5,q6,q7⟩:=hin
     rw [hN,if_pos hc0,r1]
     rw [r1] at f3
     have f3:off+c=k1:=f3
     refine ⟨by rw [hlen];exact f2,hc0,arr2,e3,q3,?_,fun j x hj=>?_,q6,q7⟩
     ·have:off*t.sz+c*t.sz=k1*t.sz:=by rw [←Nat.add_mul,f3]
      show o1+off*t.sz+c*t.sz≤arr2.size
      omega
     ·have hj':y[off+j]?=some x:=by
       rw [List.getElem?_take] at hj
       split at hj
       ·rw [List.getElem?_drop] at hj;exact hj
       ·cases hj
      obtain ⟨ce,c1,c2,c3⟩:=q5 _ x hj'
      refine ⟨ce,c1,c2,fun m u hu=>?_⟩
      have:=c3 m u hu
      rw [Nat.add_mul] at this
      rw [←this]
      show arr2[o1+off*t.sz+(j*t.sz+m)]?=_
      congr 1
      omega
    ·rw [hN,if_neg hc0]
     show ((y.drop off).take len).length=0
     rw [hlen];omega
   ·rw [List.getElem?_set_ne (Ne.symm hji)] at hj
    rw [hSo j hji]
    exact k6.inner j z hj trivial
  ·rw [List.length_set] at hj
   obtain ⟨q,hq⟩:=hold j p hp
   exact k6.ne j (p.1,q) hj trivial hq
  ·rw [List.length_set] at hj hj'
   obtain ⟨q,hq⟩:=hold j p hp
   obtain ⟨q',hq'⟩:=hold j' p' hp'
   exact k6.sep j j' (p.1,q) (p'.1,q') hjj hj hj' trivial trivial hq hq'
  ·obtain ⟨q,hq⟩:=hold j p hp
   exact Or.inl ⟨j,q,hj,trivial,hq⟩
 obtain ⟨G',m1,m2⟩:=main _ _ rfl rfl
 exact ⟨w',hst,G',m1,m2⟩
theorem takeL_ok (h:Core C G O w) {t:TypeId} {x:Option Lf} {y:SV} {cs:List Chk} {e:Eff} (he:takeL P t O x y=some (cs,e)) (hc:AllP cs) {a v:Value} (ha:LR G O w x a) (hv:SVR G O w y v) :
  ∃w',(Instr.storeAt t a v).run P w=.ok () w'∧∃G',Core C G' (upds O e.wr) w'∧Ext G O w G' (upds O e.wr) w'∧e.sv=.u:=by
 have fin:∀{wr:List (Nat×Obj)} {r:List Nat},(∃w',(Instr.storeAt t a v).run P w=.ok () w'∧∃G',Core C G' (upds O wr) w'∧Ext G O w G' (upds O wr) w')→e=⟨.u,r,wr⟩→∃w',(Instr.storeAt t a v).run P w=.ok () w'∧∃G',Core C G' (upds O e.wr) w'∧Ext G O w G' (upds O e.wr) w'∧e.sv=.u:=by
  rintro wr r ⟨w',h1,G',h2,h3⟩ rfl
  exact ⟨w',h1,G',h2,h3,rfl⟩
 unfold takeL at he
 split at he
 ·rename_i d i d2
  split at he
  ·rename_i u e' e2 T xss pd te T2 ys hd hd2
   by_cases hT:T2=T
   ·rw [dif_pos hT] at he
    subst hT
    by_cases hq:d≠d2∧P.cellsOf t=1∧(P.info? t).isSome=true
    ·rw [if_pos hq] at he
     obtain ⟨hne,hcell,hinf⟩:=hq
     split at he
     ·cases he
      exact fin (take_ok (pd:=.ok) h (fun _ _=>⟨trivial,rfl⟩) hd hd2 hne (ha _ rfl) hv hcell hinf) rfl
     ·rename_i a'
      cases he
      have hai:a'=i:=hc.cons.1
      subst hai
      exact fin (take_ok (pd:=.ho a') h (fun j hj=>⟨hj,if_neg hj⟩) hd hd2 hne (ha _ rfl) hv hcell hinf) rfl
     ·cases he
    ·rw [if_neg hq] at he;cases he
   ·rw [dif_neg hT] at he;cases he
  ·cases he
 ·rename_i d i d2 v2 j
  split at he
  ·rename_i u e' e2 T xss pd hd
   by_cases hq:d=d2∧u=v2∧P.cellsOf t=1∧(P.info? t).isSome=true
   ·rw [if_pos hq] at he
    obtain ⟨rfl,rfl,hcell,hinf⟩:=hq
    split at he
    ·cases he
     exact fin (sw_ok h hd (ha _ rfl) hv hcell hinf) rfl
    ·rename_i a' b'
     cases he
     have h1:a'=j:=hc.cons.1
     have h2:b'=i:=hc.cons.2.cons.1
     subst h1 h2
     exact fin (swap_ok h hd (ha _ rfl) hv hcell hinf) rfl
    ·cases he
   ·rw [if_neg hq] at he;cases he
  ·cases he
 ·rename_i d i d2 v2 j off len
  split at he
  ·rename_i u e' e2 T xss hd
   by_cases hq:d=d2∧u=v2∧P.cellsOf t=1∧(P.info? t).isSome=true
   ·rw [if_pos hq] at he
    obtain ⟨rfl,rfl,hcell,hinf⟩:=hq
    cases he
    have h1:j=i:=hc.cons.1
    subst h1
    exact fin (reslice_ok h hd (ha _ rfl) hv hcell hinf) rfl
   ·rw [if_neg hq] at he;cases he
  ·cases he
 ·cases he
end
end Go.Proofs.YtfobeapcmgjhbaaGreatDoor.VE
namespace Go.Proofs.YtfobeapcmgjhbaaGreatDoor.VE
open Go Go.RowKit
section
variable {P:Program} {C:Ctx} {G:Gh} {O:Nat→Obj} {w w':World}
theorem Core.newF (h:Core C G O w) (hold:∀b,b<w.heap.size→w'.heap[b]?=w.heap[b]?) (hs:w'.heap.size=w.heap.size+1) (ho:w'.os=w.os) (ht:w'.tape=w.tape) (hp:w'.output=w.output) :
  Core C {G with F:=fun b=>G.F b∨b=w.heap.size} O w'∧Ext G O w {G with F:=fun b=>G.F b∨b=w.heap.size} O w':=by
 have x:Ext G O w {G with F:=fun b=>G.F b∨b=w.heap.size} O w':=⟨fun _ h=>Or.inl h,fun b hb=>hold b (h.F1 b hb),fun _ h=>⟨h,Sim.refl _,fun _=>⟨rfl,rfl,rfl,fun _ _ _=>rfl⟩⟩⟩
 refine ⟨h.step x (fun _=>False) (fun _ _=>⟨rfl,rfl,rfl,rfl,rfl⟩) (fun d b _ hl hb=>?_) (fun _ h=>h.elim) (fun _ _ _ _ _ h=>h.elim) (fun b hb=>?_)
  ⟨ho,ht,hp,by rw [hs];omega,fun b hb _=>hold b (Nat.lt_of_lt_of_le hb h.size)⟩ (fun _ _ h=>h.elim),x⟩
 ·have:=(h.qbR hl hb).1
  refine ⟨hold b this,fun hF=>?_⟩
  rcases hF with hF|hF
  ·exact hF
  ·omega
 ·rcases hb with hb|rfl
  ·exact Or.inl hb
  ·exact Or.inr ⟨by rw [hs];omega,Or.inl h.size⟩
theorem isU8_ok {e:TypeId} (h:isU8 P e=true):P.underlying e=some (.int .u8):=by
 unfold isU8 at h
 split at h
 ·assumption
 ·cases h
theorem toBytes_ok (h:Core C G O w) {s t e:TypeId} (hs:P.underlying s=some .string) (ht:P.underlying t=some (.slice e)) (he:P.underlying e=some (.int .u8)) {x:Option Lf} {cs:List Chk} {ef:Eff} (hx:toBytesL e x=some (cs,ef)) {a:Value} (ha:LR G O w x a):Does P C G O w (convert s t a) ef:=by
 unfold toBytesL at hx
 split at hx
 ·rename_i str
  cases hx
  obtain rfl:=ha.str
  have hrun:=Lib.run_convert_string_bytes w s t e str hs ht he
  have hb:=Lib.bytesWorld_size w e str
  have hold:=fun b hb=>Lib.bytesWorld_at_old w e str b hb
  have hcell:=fun j hj=>Lib.bytesWorld_cell w e str j hj
  have hos:(Lib.bytesWorld w e str).os=w.os∧(Lib.bytesWorld w e str).tape=w.tape∧(Lib.bytesWorld w e str).output=w.output:=by
   unfold Lib.bytesWorld World.freeze
   rw [if_neg (by decide)]
   exact ⟨rfl,rfl,rfl⟩
  obtain ⟨k1,k2⟩:=h.newF hold hb hos.1 hos.2.1 hos.2.2
  have hcap:str.size≤grownCap w str.size 0 e:=by
   unfold grownCap
   show str.size≤str.size+_
   omega
  have hlen:(qaD str).length=str.size:=by
   unfold qaD
   rw [List.length_map]
   show str.data.toList.length=str.data.size
   simp
  refine ⟨_,_,hrun,_,k1,k2,rfl,?_⟩
  refine ⟨some ⟨w.heap.size,0,none⟩,_,by rw [hlen],by rw [hlen];exact hcap,fun _=>⟨w.heap.size,0,rfl,Or.inr rfl,fun j y hj=>?_⟩⟩
  have hj2:j<str.size:=by
   rw [←hlen]
   exact (List.getElem?_eq_some_iff.1 hj).1
  refine ⟨[.int .u8 y],rfl,rfl,fun i u hu=>?_⟩
  cases i with
  |succ i=>simp at hu
  |zero=>
   simp only [List.getElem?_cons_zero,Option.some.injEq] at hu
   subst hu
   have:=hcell j hj2
   rw [show (0:Nat)+(j*(Ty.int IntKind.u8).sz+0)=j by simp [Ty.sz]]
   rw [this]
   unfold qaD at hj
   rw [List.getElem?_map] at hj
   have hjl:j<str.data.toList.length:=by
    show j<str.data.toList.length
    have:str.data.toList.length=str.size:=Array.length_toList
    omega
   rw [List.getElem?_eq_getElem hjl] at hj
   have hj:=Option.some.inj hj
   rw [List.getD_eq_getElem?_getD,List.getElem?_eq_getElem hjl]
   show some (Value.int .u8 ((str.data.toList[j].toNat:Nat):Int))=_
   rw [←hj]
 ·cases hx
theorem byte_back (xs:List Int):(xs.foldl (fun r n=>r.push (UInt8.ofNat n.toNat)) ByteArray.empty)=ofBytes xs:=by
 have:∀(l:List Int) (r:ByteArray),l.foldl (fun r n=>r.push (UInt8.ofNat n.toNat)) r=⟨r.data++(l.map fun n=>UInt8.ofNat n.toNat).toArray⟩:=by
  intro l
  induction l with
  |nil=>intro r;simp
  |cons n l ih=>
   intro r
   rw [List.foldl_cons,ih]
   simp [ByteArray.push]
 rw [this]
 unfold ofBytes
 have he0:ByteArray.empty.data=#[]:=rfl
 rw [he0]
 simp
theorem qfn {s t e:TypeId} (hs:P.underlying s=some (.slice e)) (he:P.underlying e=some (.int .u8)) (ht:P.underlying t=some .string) {A:Option Addr} {c:Nat} {xs:List Int}
  (hA:0<xs.length→∃b o,A=some ⟨b,o,none⟩∧∀j y,xs[j]?=some y→w.cell? ⟨b,o+j,none⟩=some (.int .u8 y)):(convert s t (.slice A xs.length c)).run P w=.ok (.string (ofBytes xs)) w:=by
 rw [run_convert_bytes_string w s t e A xs.length c hs he ht]
 cases A with
 |none=>
  have hz:xs=[]:=by
   cases xs with
   |nil=>rfl
   |cons y ys=>obtain ⟨b,o,h,_⟩:=hA (by simp);cases h
  subst hz
  rfl
 |some q=>
  have hl:(loadCells q xs.length).run P w=.ok ((xs.map (Value.int .u8)).toArray) w:=by
   have:=run_loadCells_list (P:=P) w q (xs.map (Value.int .u8)) (fun j v hj=>by
    rw [List.getElem?_map] at hj
    cases hx:xs[j]? with
    |none=>rw [hx] at hj;cases hj
    |some y=>
     rw [hx] at hj
     have hj:=Option.some.inj hj
     have hpos:0<xs.length:=by
      have:=(List.getElem?_eq_some_iff.1 hx).1
      omega
     obtain ⟨b,o,hq,hc⟩:=hA hpos
     cases hq
     rw [qcb,hc j y hx,hj])
   simpa using this
  rw [run_bytesToString w q xs.length c xs (by simpa using hl),byte_back]
theorem toStr_ok (h:Core C G O w) {s t e:TypeId} (hs:P.underlying s=some (.slice e)) (ht:P.underlying t=some .string) (he:P.underlying e=some (.int .u8)) {x:Option Lf} {cs:List Chk} {ef:Eff} (hx:toStrL O x=some (cs,ef)) {a:Value} (ha:LR G O w x a):Does P C G O w (convert s t a) ef:=by
 unfold toStrL at hx
 split at hx
 ·cases hx
  obtain rfl:a=.slice none 0 0:=(ha _ rfl).2
  refine Does.pure h (v:=.string ByteArray.empty) ?_ (qgl _)
  have:=qfn (P:=P) (w:=w) hs he ht (A:=none) (c:=0) (xs:=[]) (fun h=>by simp at h)
  exact this
 ·rename_i e' xs
  cases hx
  obtain ⟨A,c,k1,k2,k3⟩:=(show Rep G.F w (.list e' (.int .u8)) xs [a] from (ha _ rfl).2)
  obtain rfl:a=.slice A (List.length xs) c:=by simpa using k1
  refine Does.pure h (v:=.string (ofBytes xs)) ?_ (qgl _)
  refine qfn hs he ht (xs:=xs) (fun hn=>?_)
  obtain ⟨b,o,hA,_,hc⟩:=k3 hn
  refine ⟨b,o,hA,fun j y hj=>?_⟩
  obtain ⟨ce,c1,c2,c3⟩:=hc j y hj
  have c2:ce=[.int .u8 y]:=c2
  have:=c3 0 (.int .u8 y) (by rw [c2];rfl)
  simpa [Ty.sz] using this
 ·rename_i d
  split at hx
  ·rename_i e' xs fz hd
   cases hx
   obtain ⟨k1,A,c,rfl,k2,k3,k4⟩:=qdd hd (ha _ rfl)
   refine Does.pure h (v:=.string (ofBytes xs)) ?_ (qgl _)
   refine qfn hs he ht (xs:=xs) (fun hn=>?_)
   obtain ⟨b,o,hm,hA⟩:=k4 (by omega)
   have hob:=h.ob d
   unfold ObjR at hob
   rw [hd] at hob
   obtain ⟨q0,q⟩:=hob
   rcases q with ⟨q1,q2⟩|⟨b',o',arr,t',q1,q2,q3,q4,_⟩
   ·rw [hm] at q2;cases q2
   ·rw [hm] at q1
    cases q1
    refine ⟨b,o,by rw [hA];simp,fun j y hj=>?_⟩
    obtain ⟨ce,c1,c2,c3⟩:=q4 j y hj
    have c2:ce=[.int .u8 y]:=c2
    have:=c3 0 (.int .u8 y) (by rw [c2];rfl)
    rw [q2.cell]
    simpa [Ty.sz] using this
  ·cases hx
 ·cases hx
theorem convX_ok (h:Core C G O w) {s t:TypeId} {x:Option Lf} {cs:List Chk} {e:Eff} (he:convX P O s t x=some (cs,e)) {a:Value} (ha:LR G O w x a):Does P C G O w (convert s t a) e:=by
 unfold convX at he
 split at he
 ·rename_i el h1 h2
  split at he
  ·rename_i hu
   exact toBytes_ok h h1 h2 (isU8_ok hu) he ha
  ·cases he
 ·rename_i el h1 h2
  split at he
  ·rename_i hu
   exact toStr_ok h h1 h2 (isU8_ok hu) he ha
  ·cases he
 ·exact convL_ok h he ha
theorem lfb_ap (d:Nat) (v:Value):LfB G O w (.ap d) v=OnRow (O d) (fun _ n=>0<n∧n=G.cp d∧∃b o,G.m d=some (b,o)∧v=.pointer (some ⟨b,o,none⟩)):=rfl
theorem allocL_ok (h:Core C G O w) {d:Nat} {t:TypeId} {z:List Lf} (hz:zeroL P t=some z) {cs:List Chk} {e:Eff} (he:qgu P d O t z=some (cs,e)):Does P C G O w (Instr.alloc t true (.tuple #[])) e:=by
 unfold qgu at he
 split at he
 ·rename_i n el hu
  split at he
  ·rename_i T hT hd
   split at he
   ·rename_i hc
    obtain ⟨hn,hsz,hlen⟩:=hc
    split at he
    ·rename_i xs hch
     cases he
     obtain ⟨i,zv,hi,hzv,hrun,hzr⟩:=qbV (w:=w) (G:=G) (O:=O) hz
     obtain ⟨hxl,hxr⟩:=qcX h rfl (F:=G.F) (fun _ h=>h) hch hzr (fun _ h=>by cases h)
     have hzl:zv.cells.size=z.length:=by rw [hzr.length];simp
     have hw:=qcu (w:=w) zv.cells t
     have hF:∀b,G.F b→(w.alloc (.cells zv.cells t)).heap[b]?=w.heap[b]?:=fun b hb=>hw.old (h.F1 b hb)
     have hr:RowAt G.F w T xs zv.cells 0:=by
      intro j y hj
      have hjn:j<n:=by
       rw [←hxl]
       exact (List.getElem?_eq_some_iff.1 hj).1
      have hrep:=hxr j y hj
      refine ⟨_,hrep.len,hrep,fun i' u hu'=>?_⟩
      rw [List.getElem?_take] at hu'
      split at hu'
      ·rw [List.getElem?_drop] at hu'
       rw [Nat.zero_add,←Array.getElem?_toList]
       exact hu'
      ·cases hu'
     have hk:=h.make hd hw (.row el T xs false) (some (w.heap.size,0)) n (Or.inr rfl) (by
      unfold ObjR
      rw [qad]
      refine ⟨by show xs.length≤upd G.cp d n d;rw [qad,hxl];exact Nat.le_refl _,Or.inr ⟨w.heap.size,0,zv.cells,t,qad _ _ _,hw.new,by show 0+upd G.cp d n d*T.sz≤zv.cells.size;rw [qad,hzl,hlen];omega,hr.mono (fun _ h=>h) hF,Or.inl h.size,fun h=>(by cases h),fun _ hF=>Nat.lt_irrefl _ (h.F1 _ hF)⟩⟩)
     refine ⟨.pointer (some ⟨w.heap.size,0,none⟩),w.alloc (.cells zv.cells t),by simp [Instr.alloc,hrun,newVar,qek],_,hk.1,hk.2,rfl,?_⟩
     show LfB _ (upd O d (.row el T xs false)) _ (.ap d) _
     rw [lfb_ap,qad]
     refine ⟨by rw [hxl];exact hn,by show xs.length=upd G.cp d n d;rw [qad,hxl],w.heap.size,0,qad _ _ _,rfl⟩
    ·cases he
   ·cases he
  ·cases he
 ·exact alloc_ok h hz he
theorem apv {d:Nat} {v:Value} (hv:LfR G O w (.ap d) v):OnRow (O d) (fun _ n=>0<n∧n=G.cp d∧∃b o,G.m d=some (b,o)∧v=.pointer (some ⟨b,o,none⟩)):=hv.2
theorem indexArrL_ok (h:Core C G O w) {t el:TypeId} {n:Nat} {x y:Option Lf} {cs:List Chk} {e:Eff} (ht:P.underlying t=some (.array n el)) (he:qcO n (P.cellsOf el) O x y=some (cs,e)) (hc:AllP cs) {a b:Value} (ha:LR G O w x a) (hb:LR G O w y b):Does P C G O w (Instr.indexAt t a b) e:=by
 unfold qcO at he
 split at he
 ·rename_i k i d
  obtain rfl:=hb.int
  split at he
  ·rename_i e' T xs fz hd
   by_cases hz:T.sz=P.cellsOf el∧P.cellsOf el≠0
   ·rw [if_pos hz] at he
    cases he
    have h0:(0:Int)≤i:=hc.cons.1
    have h1:(i:Int)<(n:Int):=hc.cons.2.cons.1
    have h2:(i:Int)<(xs.length:Int):=hc.cons.2.cons.2.cons.1
    have k:=apv (ha _ rfl)
    rw [hd] at k
    obtain ⟨q1,q2,b,o,q3,rfl⟩:=k
    obtain ⟨j,hj,hjs⟩:=qcH hz.2
    refine Does.pure h (v:=.pointer (some ⟨b,o+i.toNat*P.cellsOf el,none⟩)) ?_ ⟨rfl,?_⟩
    ·simp [Instr.indexAt,asIntOf,run_underlying ht,Instr.sureAddr,h0,h1,sizeOf,hj,typeInfo,hjs,qcb]
    ·rw [qdF,hd]
     exact ⟨h0,h2,b,o,q3,by rw [hz.1,Nat.add_zero]⟩
   ·rw [if_neg hz] at he
    cases he
  ·cases he
 ·cases he
theorem sliceArrL_ok (h:Core C G O w) {t el:TypeId} {n:Nat} {x:Option Lf} {lo hi:Option Int} {cs:List Chk} {e:Eff} (ht:P.underlying t=some (.array n el)) (he:qcK n (P.cellsOf el) O x lo hi=some (cs,e)) (hc:AllP cs) {a:Value} {vlo vhi:Option Value} (ha:LR G O w x a) (hl:BndR lo vlo) (hh:BndR hi vhi):Does P C G O w (Instr.sliceAt t a vlo vhi none) e:=by
 unfold qcK at he
 split at he
 ·rename_i d
  cases vlo with
  |some v=>exact hl.elim
  |none=>
  cases vhi with
  |some v=>exact hh.elim
  |none=>
  split at he
  ·rename_i e' T xs fz hd
   by_cases hz:T.sz=P.cellsOf el∧P.cellsOf el≠0
   ·rw [if_pos hz] at he
    cases he
    have h1:xs.length=n:=hc.cons.1
    have k:=apv (ha _ rfl)
    rw [hd] at k
    obtain ⟨q1,q2,b,o,q3,rfl⟩:=k
    obtain ⟨j,hj,hjs⟩:=qcH hz.2
    refine Does.pure h (v:=.slice (some ⟨b,o,none⟩) n n) ?_ ⟨rfl,?_⟩
    ·simp [Instr.sliceAt,run_underlying ht,Instr.sureAddr,sizeOf,hj,typeInfo,Instr.sliceBounds,qcb]
    ·rw [lfb_o,hd]
     exact ⟨by omega,some ⟨b,o,none⟩,n,by rw [h1],by omega,by omega,fun _=>⟨b,o,q3,by simp⟩⟩
   ·rw [if_neg hz] at he
    cases he
  ·cases he
 ·cases he
theorem find_idx {fn:Func} (h:(fn.name== "internal/bytealg.IndexByteString")=true):Extern.find fn=some Extern.BytealgIndexByte.indexByte:=by
 have h:fn.name= "internal/bytealg.IndexByteString":=by simpa using h
 cases fn
 simp only at h
 subst h
 exact rfl
theorem externL_ok (h:Core C G O w) {f:FuncId} {xs:List (Option Lf)} {cs:List Chk} {e:Eff} (he:externL P f xs=some (cs,e)) {vs:List Value} (hv:All2 (LR G O w) xs vs) :
  ∃v,(callFunc f vs.toArray).run P w=.ok (.value v) w∧StepR C G O w e v w:=by
 unfold externL at he
 split at he
 ·rename_i fn hfn
  split at he
  ·rename_i hc
   obtain ⟨h1,h2,h3⟩:=hc
   split at he
   ·rename_i s c
    cases he
    obtain ⟨a,l1,rfl,ha,hl1⟩:=hv.cons_inv
    obtain ⟨b,l2,rfl,hb,hl2⟩:=hl1.cons_inv
    obtain rfl:=hl2.qbm
    obtain rfl:=ha.str
    obtain rfl:=hb.int
    have hn:(fn.name== "runtime.NumGoroutine")=false:=by
     have:fn.name= "internal/bytealg.IndexByteString":=by simpa using h1
     rw [this]
     decide
    have h3':Extern.findNext fn=none:=by simpa using h3
    refine ⟨.int .i64 (idxB s c),?_,StepR.pure h (qbK _ _)⟩
    rw [run_callFunc_indexByte hfn hn h2 h3' (find_idx h1)]
    have:=Lib.run_indexByteString (P:=P) s c w
    show ((Extern.BytealgIndexByte.indexByte #[.string s,.int .u8 c]).run P w).andThen _=_
    rw [this]
    rfl
   ·cases he
  ·cases he
 ·cases he
end
end Go.Proofs.YtfobeapcmgjhbaaGreatDoor.VE
namespace Go.Proofs.YtfobeapcmgjhbaaGreatDoor.VE
open Go Go.RowKit
section
variable {P:Program} {C:Ctx} {G:Gh} {O:Nat→Obj} {w w':World}
theorem buildX_ok (h:Core C G O w) {t:TypeId} {ps:List (Nat×List Lf)} {cs:List Chk} {e:Eff} (he:buildX P t ps=some (cs,e)) {qs:Array (Nat×Value)} (hq:All2 (fun p q=>p.1=q.1∧All2 (LfR G O w) p.2 q.2.cells.toList) ps qs.toList):Does P C G O w (Instr.build t qs) e:=by
 unfold buildX at he
 split at he
 ·rename_i n el z hu hz
  unfold buildAL at he
  by_cases hs:(P.info? el).isSome=true
  ·rw [if_pos hs] at he
   split at he
   ·rename_i c hf
    cases he
    obtain ⟨i,zv,hi,hzv,hrun,hzr⟩:=qbV (w:=w) (G:=G) (O:=O) hz
    obtain ⟨vo,k1,k2⟩:=qgq hq hzr hf
    refine Does.pure h (v:=.agg vo) ?_ ⟨vo,rfl,k2⟩
    obtain ⟨j,hj⟩:=Option.isSome_iff_exists.1 hs
    have hcell:P.cellsOf el=j.size:=by unfold Program.cellsOf;rw [hj];rfl
    rw [hcell] at k1
    simp [Instr.build,hrun,run_underlying hu,sizeOf,typeInfo,hj,k1]
   ·cases he
  ·rw [if_neg hs] at he;cases he
 ·exact buildL_ok h he hq
theorem indexArrV_ok (h:Core C G O w) {t el:TypeId} {n:Nat} {x:SV} {y:Option Lf} {cs:List Chk} {e:Eff} (ht:P.underlying t=some (.array n el)) (he:qcN P n el O x y=some (cs,e)) (hc:AllP cs) {a b:Value} (ha:SVR G O w x a) (hb:LR G O w y b):Does P C G O w (Instr.index t a b) e:=by
 unfold qcN at he
 split at he
 ·rename_i ls k i
  obtain rfl:=hb.int
  obtain ⟨vs,rfl,hv⟩:=ha
  split at he
  ·rename_i T hT
   by_cases hz:T.sz=P.cellsOf el∧T.sz≠0∧ls.length=n*T.sz
   ·rw [if_pos hz] at he
    obtain ⟨hz1,hz2,hz3⟩:=hz
    split at he
    ·rename_i xs hch
     cases e1:cutSV P el (leaves T (rd T xs i)) 0 with
     |none=>rw [e1] at he;cases he
     |some sv=>
      rw [e1] at he
      cases he
      have h0:(0:Int)≤i:=hc.cons.1
      have h1:(i:Int)<(n:Int):=hc.cons.2.cons.1
      obtain ⟨hxl,hxr⟩:=qcX h rfl (F:=G.F) (fun _ h=>h) hch hv (fun _ h=>by cases h)
      have hil:i.toNat<xs.length:=by rw [hxl];exact lt_nat i n h0 h1
      have hrd:rd T xs i=xs[i.toNat]:=by
       unfold rd
       rw [List.getD_eq_getElem?_getD,List.getElem?_eq_getElem hil]
       rfl
      have hrep:=hxr i.toNat _ (List.getElem?_eq_getElem hil)
      rw [←hrd] at hrep
      obtain ⟨l,hl,hn,hs⟩:=cutSV_ok e1 (qcn (G:=G) (O:=O) (w:=w) hrep)
      have hzc:P.cellsOf el≠0:=by rw [←hz1];exact hz2
      obtain ⟨inf,hi,hsz⟩:=qcH hzc
      have hl':l=(vs.toList.drop (i.toNat*P.cellsOf el)).take (P.cellsOf el):=by
       rw [hl,List.drop_zero,List.take_take,←hz1,Nat.min_self]
      rcases hs with ⟨ha,hs⟩|⟨ha,v,rfl,hs⟩
      ·refine Does.pure h ?_ hs
       simp only [Instr.index,asIntOf,Sem.run_bind,run_underlying ht,Result.andThen_ok,Sem.run_pure,part,(qdT ha).2,if_true,sizeOf,typeInfo,run_program,hi,h0,h1,and_self,hsz]
       rw [hl']
       congr 2
       apply Array.ext'
       simp [List.extract_eq_take_drop]
      ·refine Does.pure h ?_ hs
       simp only [Instr.index,asIntOf,Sem.run_bind,run_underlying ht,Result.andThen_ok,Sem.run_pure,part,(qdT ha).2,sizeOf,typeInfo,run_program,hi,h0,h1,and_self,if_true,hsz]
       have:vs[i.toNat*P.cellsOf el]?=some v:=by
        have e2:((vs.toList.drop (i.toNat*P.cellsOf el)).take (P.cellsOf el))[0]?=some v:=by rw [←hl'];rfl
        rw [List.getElem?_take] at e2
        split at e2
        ·rw [List.getElem?_drop] at e2
         simpa using e2
        ·cases e2
       simp [this]
    ·cases he
   ·rw [if_neg hz] at he;cases he
  ·cases he
 ·cases he
theorem storeArr_ok (h:Core C G O w) {t:TypeId} {x:Option Lf} {y:SV} {cs:List Chk} {e:Eff} (he:qbW P t O x y=some (cs,e)) (hc:AllP cs) {a v:Value} (ha:LR G O w x a) (hv:SVR G O w y v) :
  ∃w',(Instr.storeAt t a v).run P w=.ok () w'∧∃G',Core C G' (upds O e.wr) w'∧Ext G O w G' (upds O e.wr) w'∧e.sv=.u:=by
 unfold qbW at he
 split at he
 ·rename_i d ls n el hls hu
  have hvs:=qfS hv hls
  split at he
  ·rename_i e' T xs hd
   by_cases hn:T.sz≠0∧ls.length=P.cellsOf t∧ls.length=n*T.sz∧(P.info? t).isSome=true
   ·rw [if_pos hn] at he
    obtain ⟨hz,hn1,hn2,hn3⟩:=hn
    have hi:=Option.isSome_iff_exists.1 hn3
    have hsz:v.cells.size=P.cellsOf t:=by rw [←hn1,hvs.length];simp
    split at he
    ·rename_i ys ds hch
     split at he
     ·cases he
     ·rename_i hnd
      split at he
      ·rename_i fz hfz
       cases he
       have hxn:xs.length=n:=hc.cons.1
       have hds:d∉ds:=fun hm=>hnd (by simpa using hm)
       obtain ⟨h1,x1⟩:=qdy h hfz
       have hd1:upds O fz d=.row e' T xs false:=by rw [qcw hfz d hds];exact hd
       have k:=apv (ha _ rfl)
       rw [hd] at k
       obtain ⟨q1,q2,b,o,hm,rfl⟩:=k
       rcases (h1.row hd1).2 with ⟨_,q⟩|⟨b',o',arr,t',k1,hb,k3,k4,k5,_,k7⟩
       ·exact absurd (hm.symm.trans q) (by simp)
       ·have:b'=b∧o'=o:=by
         have:some (b',o')=some (b,o):=k1.symm.trans hm
         simpa using this
        obtain ⟨rfl,rfl⟩:=this
        have hF:=k7 rfl
        have hvl:v.cells.toList.length=ls.length:=hvs.length.symm
        have hvl':v.cells.size=ls.length:=by rw [←hvl];simp
        have hcpn:G.cp d=n:=by rw [←q2,hxn]
        have k3':o'+G.cp d*T.sz≤arr.size:=k3
        have hfit:o'+v.cells.size≤arr.size:=by rw [hvl',hn2];rw [hcpn] at k3';exact k3'
        obtain ⟨hyl,hyr⟩:=qcX h rfl (F:=FzF G ds) (fun _ h=>Or.inl h) hch hvs (fun k hk b o hm=>Or.inr ⟨k,hk,o,hm⟩)
        refine ⟨_,qcz hb hfit (ones hvs) hi hsz,{G with F:=FzF G ds},?_⟩
        have hput:=qbS (new:=(arr.toList.take o'++v.cells.toList++arr.toList.drop (o'+v.cells.toList.length)).toArray) hb
        have hfit':o'+v.cells.toList.length≤arr.toList.length:=by simpa using hfit
        have hget:=qcU arr.toList v.cells.toList o'
        have hk:=h1.write (d:=d) (by rw [hd1];rfl) hm hF hput (.row e' T ys false) (by rw [hd1];exact ⟨rfl,by rw [hyl,hxn]⟩)
         (by rw [hd1];show ys.length=xs.length;rw [hyl,hxn]) rfl (fun ex=>by
          unfold ObjR
          rw [qad]
          refine ⟨by show ys.length≤G.cp d;rw [hyl,hcpn];exact Nat.le_refl _,Or.inr ⟨b',o',_,_,hm,hput.new,?_,?_,k5,fun hz=>(by cases hz),fun _=>hF⟩⟩
          ·simp only [List.size_toArray,List.length_append,List.length_take,List.length_drop,Array.length_toList]
           have k3'':o'+G.cp d*T.sz≤arr.size:=k3'
           show o'+G.cp d*T.sz≤_
           omega
          ·intro j z hj
           have hjl:j<n:=by rw [←hyl];exact (List.getElem?_eq_some_iff.1 hj).1
           have hr:=hyr j z hj
           refine ⟨_,hr.len,hr.mono (fun _ h=>h) ex.Fw,fun i u hu=>?_⟩
           have hil:i<T.sz:=by
            have:=(List.getElem?_eq_some_iff.1 hu).1
            rw [hr.len] at this
            exact this
           rw [List.getElem?_take,if_pos hil,List.getElem?_drop] at hu
           simp only [List.getElem?_toArray]
           have hm2:(j+1)*T.sz≤n*T.sz:=Nat.mul_le_mul_right _ (by omega)
           rw [Nat.add_mul,Nat.one_mul] at hm2
           rw [hget _ hfit',if_neg (by omega),if_pos (by rw [hvl,hn2];omega)]
           rw [show o'+(j*T.sz+i) - o'=j*T.sz+i by omega]
           exact hu)
        refine ⟨?_,?_,rfl⟩
        ·show Core C _ (upds O (fz++[(d,.row e' T ys false)])) _
         rw [qaZ];exact hk.1
        ·show Ext G O w _ (upds O (fz++[(d,.row e' T ys false)])) _
         rw [qaZ];exact x1.trans hk.2
      ·cases he
    ·cases he
   ·rw [if_neg hn] at he;cases he
  ·cases he
 ·cases he
theorem run_copy {dT sT ty elem:TypeId} {i:TypeInfo} (hu:P.underlying dT=some (.slice elem)) (hi:P.info? elem=some i) {n dLen dCap sLen sCap:Nat} (hn:n=Nat.min sLen dLen) {A:Option Addr} {B:Option Addr} {vs:List Value} (hvl:vs.length=n*i.size)
  (hsrc:0<n→∃q,B=some q∧∀j u,vs[j]?=some u→w.cell? (q.add j)=some u) {g o:Nat} {arr:Array Value} {e:TypeId} (hA:0<n→A=some ⟨g,o,none⟩∧blk w g arr e∧o+vs.length≤arr.size) (h1:∀v∈vs,one v=true) :
  (Builtin.copy_ #[dT,sT] ty #[.slice A dLen dCap,.slice B sLen sCap]).run P w=.ok (goInt n) (if n=0 then w else w.setRow g (arr.toList.take o++vs++arr.toList.drop (o+vs.length)).toArray):=by
 rcases Nat.eq_zero_or_pos n with h0|h0
 ·have hm:Nat.min sLen dLen=0:=by rw [←hn,h0]
  have hf:(Builtin.firstCells i.size 0 (.slice B sLen sCap)).run P w=.ok #[] w:=by
   cases B with
   |none=>rfl
   |some q=>
    have:=run_loadCells_list (P:=P) w q [] (fun j v hj=>by simp at hj)
    simpa [Builtin.firstCells] using this
  rw [if_pos h0,h0]
  cases A with
  |none=>simp [Builtin.copy_,run_underlying hu,Builtin.lenOf,sizeOf,typeInfo,hi,hm,hf]
  |some q=>simp [Builtin.copy_,run_underlying hu,Builtin.lenOf,sizeOf,typeInfo,hi,hm,hf,storeCells]
 ·obtain ⟨q,rfl,hq⟩:=hsrc h0
  obtain ⟨rfl,hb,hfit⟩:=hA h0
  have hl:=run_loadCells_list (P:=P) w q vs hq
  rw [hvl] at hl
  have hf:(Builtin.firstCells i.size n (.slice (some q) sLen sCap)).run P w=.ok vs.toArray w:=hl
  have hst:=run_put (P:=P) hb hfit h1
  rw [if_neg (by omega)]
  simp [Builtin.copy_,run_underlying hu,Builtin.lenOf,sizeOf,typeInfo,hi,←hn,hf,hst]
theorem dstOf_ok (h:Core C G O w) {T:Ty} {x:Option Lf} {d off len:Nat} {e:TypeId} {xs:List T.T} (hd:dstOf O T x=some (d,e,xs,off,len)) {v:Value} (hv:LR G O w x v):O d=.row e T xs false∧HdR G d T.sz xs.length off len v:=by
 unfold dstOf at hd
 split at hd
 ·rename_i d'
  split at hd
  ·rename_i e' T' ys ho
   by_cases ht:T'=T
   ·rw [dif_pos ht] at hd
    subst ht
    cases hd
    exact ⟨ho,qdd ho (hv _ rfl)⟩
   ·rw [dif_neg ht] at hd;cases hd
  ·cases hd
 ·rename_i d' off' len'
  split at hd
  ·rename_i e' T' ys ho
   by_cases ht:T'=T
   ·rw [dif_pos ht] at hd
    subst ht
    cases hd
    exact ⟨ho,qdZ ho (hv _ rfl)⟩
   ·rw [dif_neg ht] at hd;cases hd
  ·cases hd
 ·cases hd
theorem copyL_ok (h:Core C G O w) {t t' ty:TypeId} {x y:Option Lf} {cs:List Chk} {e:Eff} (he:copyL P t O x y=some (cs,e)) {a v:Value} (ha:LR G O w x a) (hv:LR G O w y v):Does P C G O w (Builtin.copy_ #[t,t'] ty #[a,v]) e:=by
 unfold copyL at he
 split at he
 ·rename_i el hu
  split at he
  ·rename_i T hT
   split at he
   ·rename_i d e' xs off len tv ds hd hp
    split at he
    ·rename_i ys hys
     by_cases hz:T.sz=P.cellsOf el∧T.sz≠0
     ·rw [if_pos hz] at he
      cases he
      obtain ⟨hz1,hz2⟩:=hz
      have hzc:P.cellsOf el≠0:=by rw [←hz1];exact hz2
      obtain ⟨inf,hi,hsz⟩:=qcH hzc
      obtain ⟨hod,hh⟩:=dstOf_ok h hd ha
      have hv':LfR G O w (y.getD .u) v:=by
       cases y with
       |none=>cases hp
       |some l=>exact hv l rfl
      obtain ⟨B,c',rfl,hc',hel⟩:=qdO h hv' hp hys
      obtain ⟨g1,A,c,rfl,g2,g3,g4⟩:=hh
      have hmin:min len (List.length ys)=Nat.min (List.length ys) len:=by rw [Nat.min_comm]
      generalize hm:min len (List.length ys)=m at hmin ⊢
      have hml:m≤len:=by omega
      have hmy:m≤List.length ys:=by omega
      have hyt:((ys:List T.T).take m).length=m:=by rw [List.length_take];omega
      obtain ⟨vs,v1,v2,v3,v4⟩:∃vs:List Value,vs.length=m*T.sz∧(0<m→∃q,B=some q∧∀j u,vs[j]?=some u→w.cell? (q.add j)=some u)∧(∀v∈vs,one v=true)∧∀j (z:T.T),((ys:List T.T).take m)[j]?=some z→∃ce,ce.length=T.sz∧Rep G.F w T z ce∧∀i u,ce[i]?=some u→vs[j*T.sz+i]?=some u:=by
       rcases Nat.eq_zero_or_pos m with hn|hn
       ·exact ⟨[],by rw [hn];simp,(fun h=>absurd hn (by omega)),(fun v h=>by cases h),(fun j z hj=>by rw [hn] at hj;simp at hj)⟩
       ·obtain ⟨g,o,rfl,hE⟩:=hel (by omega)
        have hE':qfZ G.F w T ((ys:List T.T).take m) g o:=fun j z hj=>by
         rw [List.getElem?_take] at hj
         split at hj
         ·exact hE j z hj
         ·cases hj
        obtain ⟨vs,q1,q2,q3,q4⟩:=qev hE'
        exact ⟨vs,by rw [q1,hyt],fun _=>⟨_,rfl,fun j u hj=>by rw [qcb];exact q2 j u hj⟩,q3,q4⟩
      rcases Nat.eq_zero_or_pos m with hm0|hm0
      ·have hrun:=run_copy (P:=P) (w:=w) (dT:=t) (sT:=t') (ty:=ty) hu hi (n:=m) (dLen:=len) (dCap:=c) (sLen:=List.length ys) (sCap:=c') hmin (A:=A) (B:=B) (vs:=vs) (by rw [hsz,←hz1];exact v1) v2 (g:=0) (o:=0) (arr:=#[]) (e:=0) (fun hp=>absurd hm0 (by omega)) v3
       rw [if_pos hm0] at hrun
       have hxs:xs.take off++(ys:List T.T).take m++xs.drop (off+m)=xs:=by rw [hm0];simp
       rw [hxs]
       refine ⟨_,w,hrun,G,?_,?_,rfl,rfl⟩
       ·show Core C G (upd O d (.row e' T xs false)) w
        rw [show upd O d (.row e' T xs false)=O from funext fun k=>by
         by_cases hk:k=d
         ·subst hk;rw [qad,hod]
         ·rw [upd_ne _ _ hk]]
        exact h
       ·show Ext G O w G (upd O d (.row e' T xs false)) w
        rw [show upd O d (.row e' T xs false)=O from funext fun k=>by
         by_cases hk:k=d
         ·subst hk;rw [qad,hod]
         ·rw [upd_ne _ _ hk]]
        exact Ext.refl _ _ _
      ·obtain ⟨b,o,hgm,rfl⟩:=g4 (by omega)
       rcases (h.row hod).2 with ⟨_,q⟩|⟨b',o',arr,t'',k1,hb,k3,k4,k5,_,k7⟩
       ·exact absurd (hgm.symm.trans q) (by simp)
       ·have:b'=b∧o'=o:=by
         have:some (b',o')=some (b,o):=k1.symm.trans hgm
         simpa using this
        obtain ⟨rfl,rfl⟩:=this
        have hF:=k7 rfl
        have hcp:xs.length≤G.cp d:=(h.row hod).1
        have hmul:(off+m)*T.sz≤G.cp d*T.sz:=Nat.mul_le_mul_right _ (by omega)
        rw [Nat.add_mul] at hmul
        have hfit:o'+off*T.sz+vs.length≤arr.size:=by rw [v1];omega
        have hrun:=run_copy (P:=P) (w:=w) (dT:=t) (sT:=t') (ty:=ty) hu hi (n:=m) (dLen:=len) (dCap:=c) (sLen:=List.length ys) (sCap:=c') hmin (A:=some ⟨b',o'+off*T.sz,none⟩) (B:=B) (vs:=vs) (by rw [hsz,←hz1];exact v1) v2 (fun _=>⟨rfl,hb,hfit⟩) v3
        rw [if_neg (by omega)] at hrun
        have hput:=qbS (new:=(arr.toList.take (o'+off*T.sz)++vs++arr.toList.drop (o'+off*T.sz+vs.length)).toArray) hb
        have hfit':o'+off*T.sz+vs.length≤arr.toList.length:=by simpa using hfit
        have hget:=qcU arr.toList vs (o'+off*T.sz)
        have hlen:(xs.take off++(ys:List T.T).take m++xs.drop (off+m)).length=xs.length:=by
         rw [List.length_append,List.length_append,hyt,List.length_take,List.length_drop];omega
        have hk:=h.write (d:=d) (by rw [hod];rfl) hgm hF hput (.row e' T (xs.take off++(ys:List T.T).take m++xs.drop (off+m)) false) (by rw [hod];exact ⟨rfl,hlen.symm⟩)
         (by rw [hod];exact hlen) rfl (fun ex=>by
          unfold ObjR
          rw [qad]
          refine ⟨by rw [hlen];exact hcp,Or.inr ⟨b',o',_,_,hgm,hput.new,?_,?_,k5,fun hz=>(by cases hz),fun _=>hF⟩⟩
          ·simp only [List.size_toArray,List.length_append,List.length_take,List.length_drop,Array.length_toList]
           omega
          ·intro j z hj
           have hto:(xs.take off).length=off:=by rw [List.length_take];omega
           rw [List.append_assoc] at hj
           rcases Nat.lt_or_ge j off with hj1|hj1
           ·rw [List.getElem?_append_left (by omega),List.getElem?_take,if_pos hj1] at hj
            obtain ⟨ce,c1,c2,c3⟩:=k4 j z hj
            refine ⟨ce,c1,c2.mono (fun _ h=>h) ex.Fw,fun i u hu=>?_⟩
            have hil:i<T.sz:=by rw [←c1];exact (List.getElem?_eq_some_iff.1 hu).1
            have hm3:(j+1)*T.sz≤off*T.sz:=Nat.mul_le_mul_right _ (by omega)
            rw [Nat.add_mul,Nat.one_mul] at hm3
            simp only [List.getElem?_toArray]
            rw [hget _ hfit',if_pos (by omega),Array.getElem?_toList]
            exact c3 i u hu
           ·rw [List.getElem?_append_right (by omega),hto] at hj
            rcases Nat.lt_or_ge (j - off) m with hj2|hj2
            ·rw [List.getElem?_append_left (by omega)] at hj
             obtain ⟨ce,c1,c2,c3⟩:=v4 _ z hj
             refine ⟨ce,c1,c2.mono (fun _ h=>h) ex.Fw,fun i u hu=>?_⟩
             have hil:i<T.sz:=by rw [←c1];exact (List.getElem?_eq_some_iff.1 hu).1
             have hm3:(j - off+1)*T.sz≤m*T.sz:=Nat.mul_le_mul_right _ (by omega)
             rw [Nat.add_mul,Nat.one_mul] at hm3
             have hjm:j*T.sz=off*T.sz+(j - off)*T.sz:=by rw [←Nat.add_mul];congr 1;omega
             simp only [List.getElem?_toArray]
             rw [hget _ hfit',if_neg (by omega),if_pos (by rw [v1];omega),show o'+(j*T.sz+i) - (o'+off*T.sz)=(j - off)*T.sz+i by omega]
             exact c3 i u hu
            ·rw [List.getElem?_append_right (by omega),hyt,List.getElem?_drop,show off+m+(j - off - m)=j by omega] at hj
             obtain ⟨ce,c1,c2,c3⟩:=k4 j z hj
             refine ⟨ce,c1,c2.mono (fun _ h=>h) ex.Fw,fun i u hu=>?_⟩
             have hm3:(off+m)*T.sz≤j*T.sz:=Nat.mul_le_mul_right _ (by omega)
             rw [Nat.add_mul] at hm3
             simp only [List.getElem?_toArray]
             rw [hget _ hfit',if_neg (by omega),if_neg (by rw [v1];omega),Array.getElem?_toList]
             exact c3 i u hu)
        exact ⟨_,_,hrun,G,hk.1,hk.2,rfl,rfl⟩
     ·rw [if_neg hz] at he;cases he
    ·cases he
   ·cases he
  ·cases he
 ·cases he
end
end Go.Proofs.YtfobeapcmgjhbaaGreatDoor.VE
namespace Go.Proofs.YtfobeapcmgjhbaaGreatDoor.VE
open Go Go.RowKit
section
variable {P:Program} {C:Ctx} {G:Gh} {O:Nat→Obj} {w w':World}
theorem qfx {n d:Nat} {ps:List (Nat×List Lf)} (e:oneRow O n ps=some d):ps=[(0,[.o d])]∧n=1∧∃e' t xs,O d=.row e' t xs false:=by
 unfold oneRow at e
 split at e
 ·rename_i d'
  split at e
  ·rename_i e' t xs hd
   cases e
   exact ⟨rfl,rfl,e',t,xs,hd⟩
  ·cases e
 ·cases e
theorem buildOne_ok (h:Core C G O w) {t:TypeId} {n d d2:Nat} {ps:List (Nat×List Lf)} (hp:oneRow O n ps=some d2) {cs:List Chk} {e:Eff} (he:qdA P t d O d2=some (cs,e)) {qs:Array (Nat×Value)} (hq:All2 (fun p q=>p.1=q.1∧All2 (LfR G O w) p.2 q.2.cells.toList) ps qs.toList):Does P C G O w (Instr.buildSlice t n qs) e:=by
 obtain ⟨rfl,rfl,_⟩:=qfx hp
 unfold qdA at he
 split at he
 ·rename_i el hu
  split at he
  ·rename_i hz hd
   by_cases hc:P.cellsOf el=1∧d≠d2
   ·rw [if_pos hc] at he
    cases he
    obtain ⟨i,zv,hi,hzv,hrun,hzr⟩:=qbV (w:=w) (G:=G) (O:=O) hz
    have hzl:zv.cells.size=1:=by have:=hzr.length;simpa using this.symm
    have hsz:i.size=1:=by rw [←hc.1];unfold Program.cellsOf;rw [hi];rfl
    have hcells:All2 (LfR G O w) (reps 1 [.nils]) ((Array.range (1*i.size)).map (zv.cells[· % zv.cells.size]!)).toList:=by
     have:=qel zv.cells 1
     rw [hzl] at this
     rw [hsz,hzl,this]
     exact reps_R hzr 1
    obtain ⟨vo,k1,k2⟩:=qgq (pl:=fun j=>some (j*i.size,i.size)) (out:=[.o d2]) hq hcells (by
     rw [hsz]
     rfl)
    have hnew:=qfB h (v:=.agg vo) (ls:=[.o d2]) (t:=el) (d:=d) (cs:=[]) (e:=⟨.lf (.p d 0),[d],[(d,.box el [.o d2])]⟩) (by unfold qdD;rw [hd]) k2
    obtain ⟨G',q1,q2,q3⟩:=hnew
    have q3:LfR G' (upd O d (.box el [.o d2])) _ (.p d 0) _:=q3
    have q4:OnBox (upd O d (.box el [.o d2]) d) (∃b o,G'.m d=some (b,o)∧Value.pointer (some ⟨w.heap.size,0,none⟩)=.pointer (some ⟨b,o+0,none⟩)):=q3.2
    rw [qad] at q4
    obtain ⟨b,o,q5,q6⟩:=q4
    have hbo:w.heap.size=b∧0=o:=by
     simpa using q6
    obtain ⟨rfl,rfl⟩:=hbo
    have hk:=run_buildSlice (P:=P) w t el 1 qs vo i zv hu hi hzv (by rw [hsz];decide) (by rw [hsz];decide) (by rw [hsz] at k1 ⊢;exact k1)
    refine ⟨_,_,hk,G',q1,q2,rfl,?_⟩
    show OnBox (upd O d (.box el [.o d2]) d) _
    rw [qad]
    exact ⟨w.heap.size,q5,rfl⟩
   ·rw [if_neg hc] at he;cases he
  ·cases he
 ·cases he
theorem appendI_ok (h:Core C G O w) {t ty:TypeId} {d:Nat} {x y:Option Lf} {cs:List Chk} {e:Eff} (he:qcp P t d O x y=some (cs,e)) (hc:AllP cs) {a v:Value} (ha:LR G O w x a) (hv:LR G O w y v):Does P C G O w (Builtin.append_ #[t,t] ty #[a,v]) e:=by
 unfold qcp at he
 split at he
 ·rename_i el d0 u i hu
  split at he
  ·rename_i T u' e0 e2 T0 xss z hT hd hd0 hz
   by_cases hTT:T0=T
   ·rw [dif_pos hTT] at he
    subst hTT
    split at he
    ·rename_i tv ds hp
     split at he
     ·rename_i ys hys
      by_cases hcd:u=u'∧P.bytesOf el≠0∧T0.sz=P.cellsOf el∧T0.sz=z.length∧T0.sz≠0∧d≠d0∧ds.all (fun k=>k≠d0∧k≠d)=true
      ·rw [if_pos hcd] at he
       cases he
       obtain ⟨rfl,hby,hsz,hzl,hsz0,hne,hds⟩:=hcd
       obtain ⟨g0,xs,hx,f1,A,c,rfl,f2,f3,f4⟩:=oh_at hd0 (ha _ rfl)
       have hrd:rd (.list e2 T0) xss i=xs:=rdAt (t:=.list e2 T0) hx
       have hfit:((rd (.list e2 T0) xss i:List T0.T).length+List.length ys)*P.bytesOf el≤140737488355328:=hc.cons.1
       show Does P C G O w _ ⟨.lf (.o d),d::d0::ds,[(d0,.deep (u+1) e0 e2 T0 xss (.ho i)),(d,.row el T0 ((rd (.list e2 T0) xss i:List T0.T)++ys) false)]⟩
       rw [hrd] at hfit ⊢
       obtain ⟨iz,zv,hi,hzv,hrun,hzr⟩:=qbV (w:=w) (G:=G) (O:=O) hz
       have hbi:P.bytesOf el=iz.bytes:=by unfold Program.bytesOf;rw [hi];rfl
       have hci:iz.size=T0.sz:=by rw [hsz];unfold Program.cellsOf;rw [hi];rfl
       have hzs:zv.cells.size=T0.sz:=by rw [hzl,hzr.length];simp
       rw [hbi] at hfit hby
       have hv':LfR G O w (y.getD .u) v:=by
        cases y with
        |none=>cases hp
        |some l=>exact hv l rfl
       obtain ⟨A',c',rfl,hc',hel⟩:=qdO h hv' hp hys
       have hil:=(List.getElem?_eq_some_iff.1 hx).1
       obtain ⟨hcp,hdp⟩:=h.deep hd0
       rcases hdp with ⟨q,_⟩|⟨b,o,arr,te,k1,k2,k3,k4,k5,k6⟩
       ·omega
       ·have st:=h.qee hd0 k1 k2 (Put.refl k2) rfl (v':=u+1) (xss':=xss) (pd':=.ho i) (S:=G.sub d0 u) rfl (Or.inl (Nat.lt_succ_self u)) ⟨fun j x hj hx=>(by
          have hx:(if j=i.toNat then none else some j)=some x:=hx
          by_cases hji:j=i.toNat
          ·rw [if_pos hji] at hx;cases hx
          ·rw [if_neg hji] at hx
           exact k6.cells j x hj hx),fun j y hj _=>k6.inner j y hj trivial,fun j p hj _ hp=>k6.ne j p hj trivial hp,fun j j' p p' hn hj hj' _ _ hp hp'=>k6.sep j j' p p' hn hj hj' trivial trivial hp hp'⟩ d0 (Or.inl rfl) (fun j p hj _ hp=>Or.inl ⟨j,p.2,hj,trivial,hp⟩)
        obtain ⟨h1,x1⟩:=st
        have hd1:upd O d0 (.deep (u+1) e0 e2 T0 xss (.ho i)) d=.no:=by rw [upd_ne _ _ hne];exact hd
        have hin:=k6.inner i.toNat xs hx trivial
        have hBF:BaseF C {G with sub:=upd G.sub d0 (upd (G.sub d0) (u+1) (G.sub d0 u))} (upd O d0 (.deep (u+1) e0 e2 T0 xss (.ho i))) w T0 xs A c:=by
         refine ⟨f2,?_,fun hA=>?_⟩
         ·rcases Nat.eq_zero_or_pos c with hc0|hc0
          ·exact Or.inl hc0
          ·obtain ⟨b1,o1,cc,r1,rfl⟩:=f4 hc0
           rw [r1] at hin f3
           obtain ⟨q1,q2,arr1,e1,q3,q4,q5,q6,q7⟩:=hin
           have f3:0+c=cc:=f3
           refine Or.inr ⟨b1,o1,arr1,e1,by simp,q3,by rw [←f3,Nat.zero_add] at q4;exact q4,q5,q7,q6,fun k b' hl hB=>?_⟩
           by_cases hk:k=d0
           ·subst hk
            rw [qad] at hB
            rcases hB with ⟨p,hp⟩|⟨j,p,hj,ho,hp⟩
            ·have hp:G.m k=some (b',p):=hp
             rw [k1] at hp
             cases hp
             exact Ne.symm (k6.ne i.toNat _ hil trivial r1)
            ·have hp:upd G.sub k (upd (G.sub k) (u+1) (G.sub k u)) k (u+1) j=some (b',p):=hp
             rw [qad,qad] at hp
             exact k6.sep j i.toNat (b',p) _ ho hj hil trivial trivial hp r1
           ·rw [upd_ne _ _ hk] at hl hB
            exact h.injB k d0 b' b1 hk hl (by rw [hd0];rfl) (hB.old rfl (upd_ne _ _ hk)) (by rw [hd0];exact Or.inr ⟨i.toNat,(o1,cc),hil,trivial,r1⟩)
         ·rcases Nat.eq_zero_or_pos c with hc0|hc0
          ·exact hc0
          ·obtain ⟨_,_,_,_,hA'⟩:=f4 hc0
           rw [hA] at hA';cases hA'
        obtain ⟨r,w',q1,G',q2,q3,q4⟩:=qfX (ty:=ty) (ys:=ys) (c':=c') h1 hd1 hu hi hzv hby hci hzs hsz0 hfit hBF hel (d::d0::ds)
        exact ⟨r,w',q1,G',q2,x1.trans q3,q4⟩
      ·rw [if_neg hcd] at he;cases he
     ·cases he
    ·cases he
   ·rw [dif_neg hTT] at he;cases he
  ·cases he
 ·cases he
theorem Core.grow (h:Core C G O w) {d d0 d1 d2 v:Nat} {e e2 e3 eb:TypeId} {t:Ty} {xss zss:List (List t.T)} {ys:List t.T} {cb:List Lf} (hd:O d=.no) (hd0:O d0=.deep v e e2 t xss .ok) (hd1:O d1=.box eb cb) (hd2:O d2=.row e3 t ys false)
  (n01:d0≠d1) (n02:d0≠d2) (n12:d1≠d2)
  (hzl:zss.length≤xss.length) (hzg:∀j:Nat,j<zss.length→zss[j]?=xss[j]?)
  {b o c:Nat} {arr:Array Value} {te:TypeId} (hb:blk w' b arr te) (hold:∀k,k<w.heap.size→k≠b→w'.heap[k]?=w.heap[k]?) (hkeep:Keeps C.base C.W0 w w') (hbb:(∃p,G.m d0=some (b,p))∨b=w.heap.size) (hown:own C b) (hF:¬G.F b) (hcp:zss.length+1≤c) (hsz:o+c≤arr.size)
  (hcell:∀j:Nat,j<zss.length→∃u,arr[o+j]?=some u∧∀y,xss[j]?=some y→HdI (G.sub d0 v j) t.sz y.length 0 y.length u) {hdr:Value} (hlast:arr[o+zss.length]?=some hdr) (hhdr:HdR G d2 t.sz ys.length 0 ys.length hdr) {A:Option Addr} (hA:A=some ⟨b,o,none⟩) (rd:List Nat) :
  StepR C G O w ⟨.lf (.o d),rd,[(d0,.dead),(d1,.dead),(d2,.fwd d 0 (zss.length:Int) t ys.length),(d,.deep 0 e e2 t (zss++[ys]) .ok)]⟩ (.slice A (zss.length+1) c) w':=by
 have m0:d0≠d:=by rintro rfl;rw [hd] at hd0;cases hd0
 have m1:d1≠d:=by rintro rfl;rw [hd] at hd1;cases hd1
 have m2:d2≠d:=by rintro rfl;rw [hd] at hd2;cases hd2
 have l0:(O d0).live=true:=by rw [hd0];rfl
 have l2:(O d2).live=true:=by rw [hd2];rfl
 have main:∀(S:Nat→Option (Nat×Nat×Nat)) (O':Nat→Obj),S=(fun j=>if j=zss.length then pkP (G.m d2) (G.cp d2) else G.sub d0 v j)→O'=upds O [(d0,.dead),(d1,.dead),(d2,.fwd d 0 (zss.length:Int) t ys.length),(d,.deep 0 e e2 t (zss++[ys]) .ok)]→
   ∃G',Core C G' O' w'∧Ext G O w G' O' w'∧LfR G' O' w' (.o d) (.slice A (zss.length+1) c):=by
  intro S O' hS hO'
  have Sk:S zss.length=pkP (G.m d2) (G.cp d2):=by rw [hS];simp
  have So:∀j,j≠zss.length→S j=G.sub d0 v j:=fun j hj=>by rw [hS];simp [hj]
  have Od:O' d=.deep 0 e e2 t (zss++[ys]) .ok:=by rw [hO'];exact qad _ _ _
  have Od2:O' d2=.fwd d 0 (zss.length:Int) t ys.length:=by rw [hO'];show upd _ d _ d2=_;rw [upd_ne _ _ m2];exact qad _ _ _
  have Od1:O' d1=.dead:=by rw [hO'];show upd _ d _ d1=_;rw [upd_ne _ _ m1,upd_ne _ _ n12];exact qad _ _ _
  have Od0:O' d0=.dead:=by rw [hO'];show upd _ d _ d0=_;rw [upd_ne _ _ m0,upd_ne _ _ n02,upd_ne _ _ n01];exact qad _ _ _
  have Oo:∀k,k≠d→k≠d0→k≠d1→k≠d2→O' k=O k:=fun k q q0 q1 q2=>by rw [hO'];show upd _ d _ k=_;rw [upd_ne _ _ q,upd_ne _ _ q2,upd_ne _ _ q1,upd_ne _ _ q0]
  have hSin:∀j p,j<zss.length+1→S j=some p→(j<zss.length∧G.sub d0 v j=some p)∨(j=zss.length∧pkP (G.m d2) (G.cp d2)=some p):=by
   intro j p hj hp
   by_cases hjk:j=zss.length
   ·rw [hjk,Sk] at hp;exact Or.inr ⟨hjk,hp⟩
   ·rw [So j hjk] at hp;exact Or.inl ⟨by omega,hp⟩
  have hB0:∀j p,j<zss.length→G.sub d0 v j=some p→Bl G (O d0) d0 p.1:=fun j p hj hp=>by rw [hd0];exact Or.inr ⟨j,p.2,by omega,trivial,hp⟩
  have hB2:∀p,pkP (G.m d2) (G.cp d2)=some p→Bl G (O d2) d2 p.1:=fun p hp=>Or.inl ⟨p.2.1,(pkP_some hp).1⟩
  have hSlt:∀j p,j<zss.length+1→S j=some p→p.1<w.heap.size:=by
   intro j p hj hp
   rcases hSin j p hj hp with ⟨q1,q2⟩|⟨_,q2⟩
   ·exact (h.qbR l0 (hB0 j p q1 q2)).1
   ·exact (h.qbR l2 (hB2 p q2)).1
  have hSne:∀j p,j<zss.length+1→S j=some p→p.1≠b:=by
   intro j p hj hp
   rcases hbb with ⟨p0,hp0⟩|hbb
   ·rcases hSin j p hj hp with ⟨q1,q2⟩|⟨_,q2⟩
    ·rcases (h.deep hd0).2 with ⟨_,q⟩|⟨b',o',arr0,te0,k1,k2,k3,k4,k5,k6⟩
     ·rw [hp0] at q;cases q
     ·rw [hp0] at k1
      cases k1
      exact k6.ne j p (by omega) trivial q2
    ·exact h.injB d2 d0 p.1 b (Ne.symm n02) l2 l0 (hB2 p q2) (Or.inl ⟨p0,hp0⟩)
   ·have:=hSlt j p hj hp
    omega
  have hlen:(zss++[ys]).length=zss.length+1:=by simp
  have hDR:DeepR C G w t (zss++[ys]) .ok S b o arr:=by
   refine ⟨fun j x hj hx=>?_,fun j y hj _=>?_,fun j p hj _ hp=>hSne j p (by rw [←hlen];exact hj) hp,fun j j' p p' hn hj hj' _ _ hp hp'=>?_⟩
   ·obtain rfl:j=x:=Option.some.inj hx
    refine ⟨hj,?_⟩
    rw [hlen] at hj
    by_cases hjk:j=zss.length
    ·subst hjk
     refine ⟨hdr,hlast,fun y hy=>?_⟩
     rw [List.getElem?_append_right (Nat.le_refl _),Nat.sub_self] at hy
     cases hy
     rw [Sk]
     exact HdI.of_row (h.row_m hd2) hhdr
    ·obtain ⟨u,q1,q2⟩:=hcell j (by omega)
     refine ⟨u,q1,fun y hy=>?_⟩
     rw [List.getElem?_append_left (by omega),hzg j (by omega)] at hy
     rw [So j hjk]
     exact q2 y hy
   ·have hjl:j<zss.length+1:=by rw [←hlen];exact (List.getElem?_eq_some_iff.1 hj).1
    by_cases hjk:j=zss.length
    ·subst hjk
     rw [List.getElem?_append_right (Nat.le_refl _),Nat.sub_self] at hj
     cases hj
     rw [Sk]
     exact h.innerRow hd2
    ·rw [List.getElem?_append_left (by omega),hzg j (by omega)] at hj
     rw [So j hjk]
     exact h.innerR hd0 hj trivial
   ·rw [hlen] at hj hj'
    rcases hSin j p hj hp with ⟨q1,q2⟩|⟨q1,q2⟩<;>rcases hSin j' p' hj' hp' with ⟨r1,r2⟩|⟨r1,r2⟩
    ·rcases (h.deep hd0).2 with ⟨q,_⟩|⟨b',o',arr0,te0,k1,k2,k3,k4,k5,k6⟩
     ·have:=(h.deep hd0).1
      omega
     ·exact k6.sep j j' p p' hn (by omega) (by omega) trivial trivial q2 r2
    ·exact h.injB d0 d2 p.1 p'.1 n02 l0 l2 (hB0 j p q1 q2) (hB2 p' r2)
    ·exact h.injB d2 d0 p.1 p'.1 (Ne.symm n02) l2 l0 (hB2 p q2) (hB0 j' p' r1 r2)
    ·omega
  have ex:Ext G O w {G with m:=upd G.m d (some (b,o)),cp:=upd G.cp d c,sub:=upd G.sub d (fun _=>S)} O' w':=by
   refine ⟨fun _ h=>h,fun k hk=>hold k (h.F1 k hk) (by rintro rfl;exact hF hk),fun k hk=>?_⟩
   have hkd:k≠d:=by rintro rfl;exact hk hd
   have hrest:(upd G.m d (some (b,o)) k=G.m k∧upd G.cp d c k=G.cp k∧G.cap k=G.cap k∧∀u,OldV (O k) u→OldV (O' k) u→upd G.sub d (fun _=>S) k u=G.sub k u):=⟨upd_ne _ _ hkd,upd_ne _ _ hkd,rfl,fun u _ _=>by rw [upd_ne _ _ hkd]⟩
   by_cases k0:k=d0
   ·subst k0
    rw [Od0,hd0]
    exact ⟨by simp,trivial,fun hn=>absurd rfl hn⟩
   ·by_cases k1:k=d1
    ·subst k1
     rw [Od1,hd1]
     exact ⟨by simp,trivial,fun hn=>absurd rfl hn⟩
    ·by_cases k2:k=d2
     ·subst k2
      refine ⟨by rw [Od2];simp,by rw [Od2,hd2];exact ⟨rfl,rfl⟩,fun _=>hrest⟩
     ·rw [Oo k hkd k0 k1 k2] at hrest ⊢
      exact ⟨hk,Sim.refl _,fun _=>hrest⟩
  refine ⟨_,h.step ex (fun k=>k=d∨k=d0∨k=d1∨k=d2) (fun k hk=>?_) (fun k b1 hk hl hB=>?_) ?_ ?_ (fun b hb=>Or.inl hb) hkeep ?_,ex,rfl,?_⟩
  ·obtain ⟨q,q'⟩:=not_or.1 hk
   obtain ⟨q0,q'⟩:=not_or.1 q'
   obtain ⟨q1,q2⟩:=not_or.1 q'
   exact ⟨Oo k q q0 q1 q2,upd_ne _ _ q,upd_ne _ _ q,rfl,upd_ne _ _ q⟩
  ·obtain ⟨q,q'⟩:=not_or.1 hk
   obtain ⟨q0,q'⟩:=not_or.1 q'
   have hlt:=(h.qbR hl hB).1
   refine ⟨hold b1 hlt ?_,id⟩
   rcases hbb with ⟨p0,hp0⟩|hbb
   ·exact h.injB k d0 b1 b q0 hl l0 hB (Or.inl ⟨p0,hp0⟩)
   ·omega
  ·rintro k (rfl|rfl|rfl|rfl)
   ·unfold ObjR
    rw [Od]
    refine ⟨by show (zss++[ys]).length≤upd G.cp k c k;rw [qad,hlen];exact hcp,Or.inr ⟨b,o,arr,te,qad _ _ _,hb,by show o+upd G.cp k c k≤_;rw [qad];exact hsz,hown,hF,?_⟩⟩
    show DeepR C _ w' t (zss++[ys]) .ok (upd G.sub k (fun _=>S) k 0) b o arr
    rw [qad]
    exact DeepR.mono (G:=G) (C:=C) (w:=w) (fun _ h=>h) ex.Fw (fun j p hj ho hp=>⟨hold p.1 (hSlt j p (by rw [←hlen];exact hj) hp) (hDR.ne j p hj ho hp),id,id⟩) hDR
   ·unfold ObjR;rw [Od0];trivial
   ·unfold ObjR;rw [Od1];trivial
   ·unfold ObjR
    rw [Od2]
    show qbu (O' d) 0 (fun t' L=>t'=t∧0≤(zss.length:Int)∧L (zss.length:Int).toNat=some ys.length∧upd G.sub d (fun _=>S) d 0 (zss.length:Int).toNat=pkP (upd G.m d (some (b,o)) k) (upd G.cp d c k))
    rw [Od,qad,upd_ne _ _ m2,upd_ne _ _ m2]
    refine Or.inr ⟨rfl,rfl,Int.natCast_nonneg _,?_,?_⟩
    ·show ((zss++[ys])[(zss.length:Int).toNat]?).map List.length=some ys.length
     rw [Int.toNat_natCast,List.getElem?_append_right (Nat.le_refl _),Nat.sub_self]
     rfl
    ·rw [Int.toNat_natCast];exact Sk
  ·rintro k d' b1 b' hne hk hl1 hl' hB hB'
   have hk:k=d:=by
    rcases hk with rfl|rfl|rfl|rfl
    ·rfl
    ·rw [Od0] at hl1;cases hl1
    ·rw [Od1] at hl1;cases hl1
    ·rw [Od2] at hl1;cases hl1
   subst hk
   have q0:d'≠d0:=by rintro rfl;rw [Od0] at hl';cases hl'
   have q1:d'≠d1:=by rintro rfl;rw [Od1] at hl';cases hl'
   have q2:d'≠d2:=by rintro rfl;rw [Od2] at hl';cases hl'
   rw [Oo d' (Ne.symm hne) q0 q1 q2] at hl' hB'
   have hBd':Bl G (O d') d' b':=hB'.old (upd_ne _ _ (Ne.symm hne)) (upd_ne _ _ (Ne.symm hne))
   rw [Od] at hB
   rcases hB with ⟨p,hp⟩|⟨j,p,hj,ho,hp⟩
   ·have hp:upd G.m k (some (b,o)) k=some (b1,p):=hp
    rw [qad] at hp
    cases hp
    rcases hbb with ⟨p0,hp0⟩|hbb
    ·exact h.injB d0 d' b b' (Ne.symm q0) l0 hl' (Or.inl ⟨p0,hp0⟩) hBd'
    ·have:=(h.qbR hl' hBd').1
     omega
   ·have hp:upd G.sub k (fun _=>S) k 0 j=some (b1,p):=hp
    rw [qad] at hp
    rcases hSin j (b1,p) (by rw [←hlen];exact hj) hp with ⟨r1,r2⟩|⟨_,r2⟩
    ·exact h.injB d0 d' b1 b' (Ne.symm q0) l0 hl' (hB0 j _ r1 r2) hBd'
    ·exact h.injB d2 d' b1 b' (Ne.symm q2) l2 hl' (hB2 _ r2) hBd'
  ·rintro k _ hk hn hlv
   rcases hk with rfl|rfl|rfl|rfl
   ·exact absurd hd hn
   ·rw [Od0] at hlv;cases hlv
   ·rw [Od1] at hlv;cases hlv
   ·rw [Od2] at hlv;cases hlv
  ·show LfB _ O' w' (.o d) _
   rw [lfb_o,Od]
   show HdR _ d 1 (zss++[ys]).length 0 (zss++[ys]).length _
   rw [hlen]
   refine ⟨by omega,A,c,rfl,hcp,?_,fun _=>⟨b,o,qad _ _ _,by rw [hA];simp⟩⟩
   show 0+c=upd G.cp d c d
   rw [qad];omega
 obtain ⟨G',q1,q2,q3⟩:=main _ _ rfl rfl
 exact ⟨G',q1,q2,q3⟩
theorem qeQ (h:Core C G O w) {t ty el e2 e3 eb:TypeId} {d d0 d1 d2 v:Nat} {T:Ty} {xss zss:List (List T.T)} {ys:List T.T} (hu:P.underlying t=some (.slice el)) (hd:O d=.no) (hd0:O d0=.deep v el e2 T xss .ok) (hd1:O d1=.box eb [.o d2]) (hd2:O d2=.row e3 T ys false)
  (n01:d0≠d1) (n02:d0≠d2) (n12:d1≠d2) (hcell:P.cellsOf el=1) (hby:P.bytesOf el≠0) (hz:zeroL P el=some [.nils])
  (hzl:zss.length≤xss.length) (hzg:∀j:Nat,j<zss.length→zss[j]?=xss[j]?) (hfit:(zss.length+1)*P.bytesOf el≤140737488355328)
  {a u:Value} (ha:HdR G d0 1 xss.length 0 zss.length a) (hu1:LfR G O w (.sb d1 1) u) (rd:List Nat) :
  Does P C G O w (Builtin.append_ #[t,t] ty #[a,u]) ⟨.lf (.o d),rd,[(d0,.dead),(d1,.dead),(d2,.fwd d 0 (zss.length:Int) T ys.length),(d,.deep 0 el e2 T (zss++[ys]) .ok)]⟩:=by
 obtain ⟨i,zv,hi,hzv,hrun,hzr⟩:=qbV (w:=w) (G:=G) (O:=O) hz
 have hzs:zv.cells.size=1:=by simpa using hzr.length.symm
 have hbi:P.bytesOf el=i.bytes:=by unfold Program.bytesOf;rw [hi];rfl
 have hci:i.size=1:=by rw [←hcell];unfold Program.cellsOf;rw [hi];rfl
 rw [hbi] at hfit hby
 have hneed:zss.length+1≤140737488355328:=by
  have:(zss.length+1)*1≤(zss.length+1)*i.bytes:=Nat.mul_le_mul_left _ (by omega)
  omega
 have k1:OnBox (O d1) (∃b,G.m d1=some (b,0)∧u=.slice (some ⟨b,0,none⟩) 1 1):=hu1.2
 rw [hd1] at k1
 obtain ⟨b1,hm1,rfl⟩:=k1
 obtain ⟨b1',arr1,q1,q2,q3,q4,q5⟩:=h.box hd1
 rw [hm1] at q1
 cases q1
 obtain ⟨hdr,rest,hr1,hr2,hr3⟩:=q3.cons_inv
 obtain rfl:=hr3.qbm
 have hhdr:=qdd hd2 hr2
 have hone:∀v∈[hdr],one v=true:=by
  intro v hv
  rw [List.mem_singleton.1 hv];exact hr2.1
 have hcell1:∀j u,[hdr][j]?=some u→w.cell? ((⟨b1,0,none⟩:Addr).add j)=some u:=by
  intro j u hj
  rw [qcb,q2.cell,←Array.getElem?_toList,hr1,Nat.zero_add]
  exact hj
 obtain ⟨_,A,c,rfl,hlc,hcp,hA⟩:=ha
 have l0:(O d0).live=true:=by rw [hd0];rfl
 have hZ:∀n,(Builtin.zeroCells zv.cells n).size=n:=by
  intro n
  simp [Builtin.zeroCells,hzs]
 have hgc:=grownCap_ge w (zss.length+1) c el
 have hgrow:∀{w':World} {os:List Value} {arr:Array Value},Made w w' arr el→os.length=zss.length→arr.toList=os++[hdr]++(Builtin.zeroCells zv.cells (grownCap w (zss.length+1) c el - (zss.length+1))).toList→(∀j:Nat,j<zss.length→∃u,os[j]?=some u∧∀y,xss[j]?=some y→HdI (G.sub d0 v j) T.sz y.length 0 y.length u)→StepR C G O w ⟨.lf (.o d),rd,[(d0,.dead),(d1,.dead),(d2,.fwd d 0 (zss.length:Int) T ys.length),(d,.deep 0 el e2 T (zss++[ys]) .ok)]⟩ (.slice (some ⟨w.heap.size,0,none⟩) (zss.length+1) (grownCap w (zss.length+1) c el)) w':=by
  intro w' os arr hm hos harr ho
  have hsize:arr.size=arr.toList.length:=by simp
  refine h.grow hd hd0 hd1 hd2 n01 n02 n12 hzl hzg hm.new (fun k hk _=>hm.old hk) (hm.keeps h.size) (Or.inr rfl) (Or.inl h.size) (fun hF=>Nat.lt_irrefl _ (h.F1 _ hF)) hgc ?_ (fun j hj=>?_) ?_ hhdr rfl rd
  ·rw [hsize,harr]
   simp only [List.length_append,hos,List.length_singleton,Array.length_toList,hZ]
   omega
  ·obtain ⟨u,h1,h2⟩:=ho j hj
   refine ⟨u,?_,h2⟩
   rw [Nat.zero_add,←Array.getElem?_toList,harr,List.append_assoc,List.getElem?_append_left (by omega)]
   exact h1
  ·rw [Nat.zero_add,←Array.getElem?_toList,harr,List.append_assoc,List.getElem?_append_right (by omega),hos,Nat.sub_self]
   rfl
 -- the headers there are
 obtain ⟨os,o1,o2,o3⟩:∃os:List Value,os.length=zss.length∧(∀p,A=some p→∀j u,os[j]?=some u→w.cell? (p.add j)=some u)∧(∀j:Nat,j<zss.length→∃u,os[j]?=some u∧∀y,xss[j]?=some y→HdI (G.sub d0 v j) T.sz y.length 0 y.length u):=by
  rcases (h.deep hd0).2 with ⟨g1,g2⟩|⟨b,o,arr,te,k1,k2,k3,k4,k5,k6⟩
  ·have hz0:zss.length=0:=by omega
   exact ⟨[],hz0.symm,(fun p _ j u hj=>by simp at hj),fun j hj=>by omega⟩
  ·have hcp':=(h.deep hd0).1
   have hal:arr.toList.length=arr.size:=by simp
   refine ⟨(arr.toList.drop o).take zss.length,by rw [List.length_take,List.length_drop];omega,fun p hp j u hj=>?_,fun j hj=>?_⟩
   ·rcases Nat.eq_zero_or_pos c with hc0|hc0
    ·have hz0:zss.length=0:=by omega
     rw [hz0] at hj
     simp at hj
    ·obtain ⟨b',o',hm',hA'⟩:=hA hc0
     rw [k1] at hm'
     cases hm'
     rw [hp] at hA'
     cases hA'
     rw [qcb,k2.cell]
     rw [List.getElem?_take] at hj
     split at hj
     ·rw [List.getElem?_drop,Array.getElem?_toList] at hj
      rw [Nat.zero_mul,Nat.add_zero];exact hj
     ·cases hj
   ·obtain ⟨_,u,r1,r2⟩:=k6.cells j j (by omega) rfl
    refine ⟨u,?_,r2⟩
    rw [List.getElem?_take,if_pos hj,List.getElem?_drop,Array.getElem?_toList]
    exact r1
 by_cases hroom:zss.length+1≤c
 ·obtain ⟨b,o,hm,rfl⟩:=hA (by omega)
  rcases (h.deep hd0).2 with ⟨g1,g2⟩|⟨b',o',arr,te,k1,k2,k3,k4,k5,k6⟩
  ·omega
  ·rw [hm] at k1
   cases k1
   have hfit':o+0*1+zss.length*i.size+[hdr].length≤arr.size:=by
    rw [hci]
    simp
    omega
   have hr:=run_append_room (P:=P) (w:=w) (ty:=ty) (A:=some ⟨b1,0,none⟩) (c:=1) hu hi hroom (vs:=[hdr]) (by rw [hci];rfl) (fun _=>⟨_,rfl,hcell1⟩) k2 hfit' hone
   refine ⟨_,_,hr,?_⟩
   rw [hci] at hfit' ⊢
   have hput:=qbS (new:=(arr.toList.take (o+0*1+zss.length*1)++[hdr]++arr.toList.drop (o+0*1+zss.length*1+[hdr].length)).toArray) k2
   have hget:=fun q=>qcU arr.toList [hdr] (o+0*1+zss.length*1) q (by simpa using hfit')
   simp only [List.length_singleton] at hget
   refine h.grow (o:=o) hd hd0 hd1 hd2 n01 n02 n12 hzl hzg hput.new (fun k _ hk=>hput.old k hk) (hput.keeps k4) (Or.inl ⟨o,hm⟩) k4 k5 hroom ?_ (fun j hj=>?_) ?_ hhdr (by simp) rd
   ·simp
    have:arr.size=arr.toList.length:=by simp
    omega
   ·obtain ⟨_,u,r1,r2⟩:=k6.cells j j (by omega) rfl
    refine ⟨u,?_,r2⟩
    simp only [List.length_singleton,List.getElem?_toArray]
    rw [hget,if_pos (by omega),Array.getElem?_toList]
    exact r1
   ·simp only [List.length_singleton,List.getElem?_toArray]
    rw [hget,if_neg (by omega),if_pos (by omega)]
    simp
 ·cases hAA:A with
  |none=>
   have hc0:c=0:=by
    rcases Nat.eq_zero_or_pos c with hc0|hc0
    ·exact hc0
    ·obtain ⟨_,_,_,hA'⟩:=hA hc0
     rw [hAA] at hA';cases hA'
   have hz0:zss.length=0:=by omega
   have hos:os=[]:=List.eq_nil_of_length_eq_zero (by omega)
   have hr:=run_append_nil (P:=P) w t ty el i zv hu hi hzv ⟨b1,0,none⟩ 1 1 [hdr] (by rw [hci];rfl) hcell1 (by omega) (by omega) (by rw [hz0] at hfit;simp at hfit;omega)
   refine ⟨_,_,?_,hgrow (w':=w.drew.alloc (.cells ([hdr].toArray++Builtin.zeroCells zv.cells (grownCap w (zss.length+1) c el - (zss.length+1))) el)) (os:=[]) ⟨rfl,rfl,rfl,rfl⟩ hz0.symm (by simp) (fun j hj=>absurd hj (by omega))⟩
   rw [hz0,hc0]
   exact hr
  |some p=>
   have hr:=run_append_grow (P:=P) w t ty el i zv hu hi hzv p zss.length c os (by rw [hci,o1];omega) (o2 p hAA) ⟨b1,0,none⟩ 1 1 [hdr] (by rw [hci];rfl) hcell1 (by omega) (by omega) (growslice_fits (by omega) hfit)
   exact ⟨_,_,hr,hgrow (w':=w.drew.alloc (.cells (os.toArray++[hdr].toArray++Builtin.zeroCells zv.cells (grownCap w (zss.length+1) c el - (zss.length+1))) el)) (os:=os) ⟨rfl,rfl,rfl,rfl⟩ o1 (by simp) o3⟩
theorem isNils_ok {z:Option (List Lf)} (h:isNils z=true):z=some [.nils]:=by
 unfold isNils at h
 split at h
 ·rfl
 ·cases h
theorem appendD_ok (h:Core C G O w) {t ty:TypeId} {d:Nat} {x y:Option Lf} {cs:List Chk} {e:Eff} (he:qcq P t d O x y=some (cs,e)) (hc:AllP cs) {a v:Value} (ha:LR G O w x a) (hv:LR G O w y v):Does P C G O w (Builtin.append_ #[t,t] ty #[a,v]) e:=by
 unfold qcq at he
 simp only at he
 split at he
 ·rename_i d0
  split at he
  ·rename_i el hu
   split at he
   ·rename_i u e' e2 T xss hd hd0
    split at he
    ·rename_i d1
     split at he
     ·rename_i eb d2 hd1
      split at he
      ·rename_i e3 T2 ys hd2
       by_cases hT:T2=T
       ·rw [dif_pos hT] at he
        subst hT
        by_cases hq:d≠d0∧d≠d1∧d≠d2∧d0≠d1∧d0≠d2∧d1≠d2∧el=e'∧P.cellsOf el=1∧P.bytesOf el≠0∧isNils (zeroL P el)=true
        ·rw [if_pos hq] at he
         cases he
         obtain ⟨_,_,_,n01,n02,n12,rfl,h1,h2,h3⟩:=hq
         exact qeQ h hu hd hd0 hd1 hd2 n01 n02 n12 h1 h2 (isNils_ok h3) (Nat.le_refl _) (fun _ _=>rfl) hc.cons.1 (qe3 hd0 (ha _ rfl)) (hv _ rfl) _
        ·rw [if_neg hq] at he;cases he
       ·rw [dif_neg hT] at he;cases he
      ·cases he
     ·cases he
    ·cases he
   ·cases he
  ·cases he
 ·rename_i d0 n
  split at he
  ·rename_i el hu
   split at he
   ·rename_i u e' e2 T xss hd hd0
    split at he
    ·rename_i d1
     split at he
     ·rename_i eb d2 hd1
      split at he
      ·rename_i e3 T2 ys hd2
       by_cases hT:T2=T
       ·rw [dif_pos hT] at he
        subst hT
        by_cases hq:d≠d0∧d≠d1∧d≠d2∧d0≠d1∧d0≠d2∧d1≠d2∧el=e'∧P.cellsOf el=1∧P.bytesOf el≠0∧isNils (zeroL P el)=true
        ·rw [if_pos hq] at he
         cases he
         obtain ⟨_,_,_,n01,n02,n12,rfl,h1,h2,h3⟩:=hq
         have hh:=qfP hd0 (ha _ rfl)
         have hn:n≤xss.length:=by have:=hh.1;omega
         have hln:(xss.take n).length=n:=by rw [List.length_take];omega
         refine qeQ h hu hd hd0 hd1 hd2 n01 n02 n12 h1 h2 (isNils_ok h3) (by omega) (fun j hj=>?_) hc.cons.1 (by rw [hln];exact hh) (hv _ rfl) _
         rw [List.getElem?_take,if_pos (by omega)]
        ·rw [if_neg hq] at he;cases he
       ·rw [dif_neg hT] at he;cases he
      ·cases he
     ·cases he
    ·cases he
   ·cases he
  ·cases he
 ·cases he
end
end Go.Proofs.YtfobeapcmgjhbaaGreatDoor.VE
namespace Go.Proofs.YtfobeapcmgjhbaaGreatDoor.VE
open Go Go.RowKit
section
variable {P:Program} {C:Ctx} {G G':Gh} {O O':Nat→Obj} {w:World}
def Tle:TV→TV→Prop
 |.mk t x,tv=>tv=.mk t x
 |.nil,tv=>∃e t,tv=.mk (.list e t) ([]:List t.T)
theorem Tle.R {F:Nat→Prop} {a b:TV} {v:Value} (h:Tle a b) (k:TVR F w a v):TVR F w b v:=by
 cases a with
 |mk t x=>cases (show b=.mk t x from h);exact k
 |nil=>
  obtain ⟨e,t,rfl⟩:=h
  obtain rfl:v=.slice none 0 0:=k
  exact ⟨none,0,rfl,Nat.le_refl _,fun hn=>absurd hn (by simp)⟩
theorem ofTV_Tle {t:Ty} {tv:TV} {x:t.T} (e:ofTV t tv=some x):Tle tv (.mk t x):=by
 cases tv with
 |mk t' y=>
  simp only [ofTV] at e
  by_cases ht:t'=t
  ·subst ht
   simp only [dite_true,Option.some.injEq] at e
   subst e
   exact rfl
  ·rw [dif_neg ht] at e;cases e
 |nil=>
  cases t with
  |list e' t'=>cases e;exact ⟨e',t',rfl⟩
  |_=>cases e
theorem qfc:∀{ts:List Ty} {l:List TV} {x:prods ts},qfd ts l=some x→All2 Tle l (ofProds ts x)
 |[],[],_,_=>trivial
 |[],_::_,_,e=>by cases e
 |[t],[v],x,e=>⟨ofTV_Tle e,trivial⟩
 |[_],[],_,e=>by cases e
 |[_],_::_::_,_,e=>by cases e
 |_::_::_,[],_,e=>by cases e
 |t::t'::ts,v::l,x,e=>by
  unfold qfd at e
  cases e1:ofTV t v with
  |none=>rw [e1] at e;cases e
  |some a=>
   cases e2:qfd (t'::ts) l with
   |none=>rw [e1,e2] at e;cases e
   |some b=>
    rw [e1,e2] at e
    cases e
    exact ⟨ofTV_Tle e1,qfc e2⟩
def Alike:Obj→Obj→Prop
 |.row _ t xs _,.row _ t' xs' _=>t=t'∧xs.length=xs'.length
 |.box _ cs,.box _ cs'=>cs.length=cs'.length
 |.caps _,.caps _=>True
 |.dead,.dead=>True
 |.mp _,.mp _=>True
 |.deep _ _ e2 t xs _,.deep _ _ e2' t' xs' _=>e2=e2'∧t=t'∧xs.length=xs'.length∧∀i:Nat,(xs[i]?).map List.length=(xs'[i]?).map List.length
 |_,_=>False
def Obj.ver:Obj→Nat
 |.deep v _ _ _ _ _=>v
 |_=>0
structure Ren (G:Gh) (O:Nat→Obj) (G':Gh) (O':Nat→Obj) (ρ:Nat→Option (Option Nat)) (fz:List Nat):Prop where
 F:∀b,G.F b→G'.F b
 fz:∀d∈fz,∀b,Bl G (O d) d b→G'.F b
 obj:∀d d',ρ d=some (some d')→G'.m d=G.m d'∧G'.cp d=G.cp d'∧G'.cap d=G.cap d'∧Alike (O d') (O' d)∧(O' d).ver=0∧G'.sub d 0=G.sub d' (O d').ver
 nil:∀d,ρ d=some none→((∃e t,O' d=.row e t [] false)∨∃e e2 t,O' d=.deep 0 e e2 t [] .ok)∧G'.m d=none∧G'.cp d=0
theorem Ren.oh {ρ:Nat→Option (Option Nat)} {fz:List Nat} (R:Ren G O G' O' ρ fz) {d d' v:Nat} {i:Int} {e e2:TypeId} {t:Ty} {xss:List (List t.T)} (hd:ρ d=some (some d')) (hO:O d'=.deep v e e2 t xss .ok) {a:Value} (h0:0≤i) {n:Nat} (hn:(xss[i.toNat]?).map List.length=some n) (hh:HdI (G.sub d' v i.toNat) t.sz n 0 n a):LfR G' O' w (.oh d 0 i) a:=by
 refine ⟨by obtain ⟨_,_,_,rfl,_⟩:=hh;rfl,?_⟩
 obtain ⟨_,_,_,r4,r5,r6⟩:=R.obj d d' hd
 rw [hO] at r4 r6
 show qbu (O' d) 0 (fun t L=>0≤i∧∃n:Nat,L i.toNat=some n∧HdI (G'.sub d 0 i.toNat) t.sz n 0 n a)
 cases hO':O' d with
 |deep v2 e' e2' t' xs' pd'=>
  rw [hO'] at r4 r5
  obtain ⟨_,rfl,_,r7⟩:=r4
  have r5:v2=0:=r5
  refine Or.inr ⟨r5.symm,h0,n,(r7 _).symm.trans hn,?_⟩
  rw [r6]
  exact hh
 |_=>rw [hO'] at r4;exact r4.elim
theorem Alike.row {a b:Obj} {R R':Ty→Nat→Prop} (h:Alike a b) (k:OnRow a R) (hr:∀t n,R t n→R' t n):OnRow b R':=by
 cases a<;>cases b<;>simp_all [Alike,OnRow]
theorem Alike.box {a b:Obj} {R R':Prop} (h:Alike a b) (k:OnBox a R) (hr:R→R'):OnBox b R':=by
 cases a<;>cases b<;>simp_all [Alike,OnBox]
theorem Alike.map {a b:Obj} {R R':Prop} (h:Alike a b) (k:OnMap a R) (hr:R→R'):OnMap b R':=by
 cases a<;>cases b<;>simp_all [Alike,OnMap]
theorem Alike.caps {a b:Obj} {R R':Prop} (h:Alike a b) (k:qcf a R) (hr:R→R'):qcf b R':=by
 cases a<;>cases b<;>simp_all [Alike,qcf]
structure Adds {α:Type} (g g':Gr) (new:List TV) (put:List TV→Option (α×List TV)) (sem:Gh→(Nat→Obj)→α→Prop) (G:Gh) (O:Nat→Obj):Prop where
 out:g'.out=new.reverse++g.out
 ren:∀d y,look g.ren d=some y→look g'.ren d=some y
 fz:∀d∈g.fz,d∈g'.fz
 live:∀d∈g'.fz,d∈g.fz∨(O d).live=true
 put:∀new',All2 Tle new new'→∀l,∃x,put (new'++l)=some (x,l)∧∀G' O' ρ Fz,Ren G O G' O' ρ Fz→(∀d y,look g'.ren d=some y→ρ d=some y)→(∀d∈g'.fz,d∈Fz)→sem G' O' x
theorem qcC {α:Type} (l:List (Nat×α)) (k d:Nat) (v:α):look ((k,v)::l) d=if d=k then some v else look l d:=by
 show (bif Nat.beq k d then some v else look l d)=_
 by_cases h:d=k
 ·subst h
  rw [if_pos rfl]
  have:Nat.beq d d=true:=Nat.beq_refl d
  rw [this];rfl
 ·rw [if_neg h]
  have:Nat.beq k d=false:=by
   cases e:Nat.beq k d with
   |false=>rfl
   |true=>exact absurd (Nat.eq_of_beq_eq_true e).symm h
  rw [this];rfl
theorem bind_ok {g g':Gr} {d:Nat} {y:Option Nat} (e:g.bind d y=some g'):look g'.ren d=some y∧g'.out=g.out∧g'.fz=g.fz∧∀k z,look g.ren k=some z→look g'.ren k=some z:=by
 unfold Gr.bind at e
 cases e1:look g.ren d with
 |none=>
  rw [e1] at e
  cases e
  refine ⟨by rw [qcC,if_pos rfl],rfl,rfl,fun k z hk=>?_⟩
  rw [qcC]
  by_cases h:k=d
  ·subst h;rw [e1] at hk;cases hk
  ·rw [if_neg h];exact hk
 |some z=>
  rw [e1] at e
  simp only at e
  by_cases h:z=y
  ·rw [if_pos h] at e
   cases e
   subst h
   exact ⟨e1,rfl,rfl,fun k z hk=>hk⟩
  ·rw [if_neg h] at e;cases e
theorem Adds.const {α:Type} {g:Gr} {put:List TV→Option (α×List TV)} {sem:Gh→(Nat→Obj)→α→Prop} (x:α) (hp:∀l,put l=some (x,l)) (hs:∀G' O',sem G' O' x):Adds g g [] put sem G O:=
 ⟨rfl,fun _ _ h=>h,fun _ h=>h,fun _ h=>Or.inl h,fun new' h l=>by
  rw [h.qbm]
  exact ⟨x,hp l,fun G' O' _ _ _ _ _=>hs G' O'⟩⟩
theorem qdu {x:Lf} {tv:TV} {ds:List Nat} (e:pureL O x=some (tv,ds)):∀d∈ds,(O d).live=true:=by
 intro k hk
 cases x with
 |o d=>
  simp only [pureL] at e
  cases hd:O d with
  |row e' t xs fz=>
   rw [hd] at e
   cases e
   rw [List.mem_singleton.1 hk,hd];rfl
  |_=>rw [hd] at e;cases e
 |os d off len=>
  simp only [pureL] at e
  cases hd:O d with
  |row e' t xs fz=>
   rw [hd] at e
   cases e
   rw [List.mem_singleton.1 hk,hd];rfl
  |_=>rw [hd] at e;cases e
 |v t x=>cases e;cases hk
 |bl b=>cases e;cases hk
 |b p i=>cases e;cases hk
 |nb p i=>cases e;cases hk
 |nils=>cases e;cases hk
 |u=>cases e
 |q n p i=>cases e
 |np=>cases e
 |p d c=>cases e
 |e t x c=>cases e
 |oe d i c=>cases e
 |fn0 f=>cases e
 |fn f d=>cases e
 |m d=>cases e
 |oh d v i=>cases e
 |oi d v i j c=>cases e
 |ohs d v i off len=>cases e
 |sb d n=>cases e
 |ap d=>cases e
theorem qfw:∀{ls:List Lf} {vs:List TV} {ds:List Nat},qb7 O ls=some (vs,ds)→∀d∈ds,(O d).live=true
 |[],vs,ds,e=>by cases e;intro d hd;cases hd
 |x::ls,vs,ds,e=>by
  unfold qb7 at e
  cases e1:pureL O x with
  |none=>rw [e1] at e;cases e
  |some r1=>
   obtain ⟨tv,d1⟩:=r1
   cases e2:qb7 O ls with
   |none=>rw [e1,e2] at e;cases e
   |some r2=>
    obtain ⟨tvs,d2⟩:=r2
    rw [e1,e2] at e
    cases e
    intro d hd
    rcases List.mem_append.1 hd with hd|hd
    ·exact qdu e1 d hd
    ·exact qfw e2 d hd
theorem packs_live {t:Ty} {ls:List Lf} {x:t.T} {ds:List Nat} (e:packs O t ls=some (x,ds)):∀d∈ds,(O d).live=true:=by
 unfold packs at e
 cases e1:qb7 O ls with
 |none=>rw [e1] at e;cases e
 |some r1=>
  obtain ⟨vs,d1⟩:=r1
  rw [e1] at e
  simp only at e
  cases e2:ofTVs t vs with
  |none=>rw [e2] at e;cases e
  |some r2=>
   obtain ⟨y,l⟩:=r2
   rw [e2] at e
   cases l with
   |cons _ _=>cases e
   |nil=>cases e;exact qfw e1
theorem pureT_R (h:Core C G O w) {x:Lf} {v:Value} {tv:TV} {ds:List Nat} (hx:LfR G O w x v) (e:pureT O x=some (tv,ds)) {F:Nat→Prop} (hF:∀b,G.F b→F b) (hF':∀d∈ds,∀b,Bl G (O d) d b→F b):TVR F w tv v:=by
 have plain:pureL O x=some (tv,ds)→TVR F w tv v:=fun e=>pureL_R h hx e hF (fun d hd b o hm=>hF' d hd b (Or.inl ⟨o,hm⟩))
 unfold pureT at e
 split at e
 ·rename_i d
  split at e
  ·rename_i u e' e2 t xss hd
   cases e
   have hdd:=hF' d (List.mem_singleton.2 rfl)
   rw [hd] at hdd
   obtain ⟨h1,x1⟩:=qcZ h hd
   have k:OnRow (O d) (fun t n=>HdR G d t.sz n 0 n v):=hx.2
   rw [hd] at k
   have k:HdR G d 1 xss.length 0 xss.length v:=k
   have:=h1.part (qad _ _ _) (F:=F) (v:=v) (off:=0) (len:=xss.length) k (fun b hb=>hb.elim (hF b) (fun ⟨j,p,hj,hp⟩=>hdd b (Or.inr ⟨j,p,hj,trivial,hp⟩))) (fun b o hm=>hdd b (Or.inl ⟨o,hm⟩))
   rw [List.drop_zero,List.take_length] at this
   exact this
  ·exact plain e
 ·exact plain e
theorem pureTs_R (h:Core C G O w):∀{ls:List Lf} {cs:List Value} {vs:List TV} {ds:List Nat},All2 (LfR G O w) ls cs→qcA O ls=some (vs,ds)→∀{F:Nat→Prop},(∀b,G.F b→F b)→(∀d∈ds,∀b,Bl G (O d) d b→F b)→All2 (TVR F w) vs cs
 |[],[],_,_,_,e,_,_,_=>by cases e;trivial
 |x::ls,v::cs,vs,ds,hx,e,F,hF,hF'=>by
  unfold qcA at e
  cases e1:pureT O x with
  |none=>rw [e1] at e;cases e
  |some r1=>
   obtain ⟨tv,d1⟩:=r1
   cases e2:qcA O ls with
   |none=>rw [e1,e2] at e;cases e
   |some r2=>
    obtain ⟨tvs,d2⟩:=r2
    rw [e1,e2] at e
    cases e
    exact ⟨pureT_R h hx.1 e1 hF (fun d hd=>hF' d (List.mem_append_left _ hd)),pureTs_R h hx.2 e2 hF (fun d hd=>hF' d (List.mem_append_right _ hd))⟩
 |[],_::_,_,_,hx,_,_,_,_=>hx.elim
 |_::_,[],_,_,hx,_,_,_,_=>hx.elim
theorem packsT_R (h:Core C G O w) {t:Ty} {ls:List Lf} {x:t.T} {ds:List Nat} {cs:List Value} (e:qeI O t ls=some (x,ds)) (hl:All2 (LfR G O w) ls cs) {F:Nat→Prop} (hF:∀b,G.F b→F b) (hF':∀d∈ds,∀b,Bl G (O d) d b→F b):Rep F w t x cs:=by
 unfold qeI at e
 cases e1:qcA O ls with
 |none=>rw [e1] at e;cases e
 |some r1=>
  obtain ⟨vs,d1⟩:=r1
  rw [e1] at e
  simp only at e
  cases e2:ofTVs t vs with
  |none=>rw [e2] at e;cases e
  |some r2=>
   obtain ⟨y,l⟩:=r2
   rw [e2] at e
   cases l with
   |cons _ _=>cases e
   |nil=>
    cases e
    obtain ⟨c0,c1,rfl,h0,h1⟩:=ofTVs_R e2 (pureTs_R h hl e1 hF hF')
    rw [h1.qbm,List.append_nil]
    exact h0
theorem pureT_live {x:Lf} {tv:TV} {ds:List Nat} (e:pureT O x=some (tv,ds)):∀d∈ds,(O d).live=true:=by
 unfold pureT at e
 split at e
 ·rename_i d
  split at e
  ·rename_i u e' e2 t xss hd
   cases e
   intro k hk
   rw [List.mem_singleton.1 hk,hd];rfl
  ·exact qdu e
 ·exact qdu e
theorem qfv:∀{ls:List Lf} {vs:List TV} {ds:List Nat},qcA O ls=some (vs,ds)→∀d∈ds,(O d).live=true
 |[],vs,ds,e=>by cases e;intro d hd;cases hd
 |x::ls,vs,ds,e=>by
  unfold qcA at e
  cases e1:pureT O x with
  |none=>rw [e1] at e;cases e
  |some r1=>
   obtain ⟨tv,d1⟩:=r1
   cases e2:qcA O ls with
   |none=>rw [e1,e2] at e;cases e
   |some r2=>
    obtain ⟨tvs,d2⟩:=r2
    rw [e1,e2] at e
    cases e
    intro d hd
    rcases List.mem_append.1 hd with hd|hd
    ·exact pureT_live e1 d hd
    ·exact qfv e2 d hd
theorem packsT_live {t:Ty} {ls:List Lf} {x:t.T} {ds:List Nat} (e:qeI O t ls=some (x,ds)):∀d∈ds,(O d).live=true:=by
 unfold qeI at e
 cases e1:qcA O ls with
 |none=>rw [e1] at e;cases e
 |some r1=>
  obtain ⟨vs,d1⟩:=r1
  rw [e1] at e
  simp only at e
  cases e2:ofTVs t vs with
  |none=>rw [e2] at e;cases e
  |some r2=>
   obtain ⟨y,l⟩:=r2
   rw [e2] at e
   cases l with
   |cons _ _=>cases e
   |nil=>cases e;exact qfv e1
theorem grabL_ok (h:Core C G O w) {g g':Gr} {s:LSh} {x:Lf} {v:Value} (e:grabL O g s x=some g') (hx:LfR G O w x v):∃new,Adds g g' new (putL s) (fun G' O' y=>LfR G' O' w y v) G O:=by
 unfold grabL at e
 split at e
 ·rename_i t
  split at e
  ·rename_i tv ds hp
   cases e
   refine ⟨[tv],rfl,fun _ _ h=>h,fun d hd=>List.mem_append_right _ hd,fun d hd=>(List.mem_append.1 hd).elim (fun k=>Or.inr (qdu hp d k)) Or.inl,fun new' hn l=>?_⟩
   obtain ⟨tv',m,rfl,h1,h2⟩:=hn.cons_inv
   obtain rfl:=h2.qbm
   cases tv' with
   |nil=>
    cases tv with
    |mk t' y=>exact absurd h1 (by intro e;cases e)
    |nil=>obtain ⟨_,_,e⟩:=h1;cases e
   |mk t' y=>
    refine ⟨.v t' y,rfl,fun G' O' ρ Fz R hρ hz=>⟨hx.1,?_⟩⟩
    exact h1.R (pureL_R h hx hp R.F (fun d hd b o hm=>R.fz d (hz d (List.mem_append_left _ hd)) b (Or.inl ⟨o,hm⟩)))
  ·cases e
 ·rename_i d d'
  obtain ⟨h1,h2,h3,h4⟩:=bind_ok e
  refine ⟨[],by rw [h2];rfl,h4,fun k hk=>by rw [h3];exact hk,fun k hk=>Or.inl (by rw [←h3];exact hk),fun new' hn l=>?_⟩
  obtain rfl:=hn.qbm
  refine ⟨.o d,rfl,fun G' O' ρ Fz R hρ hz=>⟨hx.1,?_⟩⟩
  obtain ⟨r1,r2,_,r4,_⟩:=R.obj d d' (hρ d _ h1)
  have k:OnRow (O d') (fun t n=>HdR G d' t.sz n 0 n v):=hx.2
  rw [lfb_o]
  refine r4.row k (fun t n hh=>?_)
  unfold HdR at hh ⊢
  rw [r1,r2];exact hh
 ·rename_i d
  obtain ⟨h1,h2,h3,h4⟩:=bind_ok e
  refine ⟨[],by rw [h2];rfl,h4,fun k hk=>by rw [h3];exact hk,fun k hk=>Or.inl (by rw [←h3];exact hk),fun new' hn l=>?_⟩
  obtain rfl:=hn.qbm
  refine ⟨.o d,rfl,fun G' O' ρ Fz R hρ hz=>⟨hx.1,?_⟩⟩
  obtain ⟨r1,r2,r3⟩:=R.nil d (hρ d _ h1)
  obtain rfl:v=.slice none 0 0:=hx.2
  rw [lfb_o]
  rcases r1 with ⟨e',t',r1⟩|⟨e',e2',t',r1⟩
  ·rw [r1]
   exact ⟨by simp,none,0,rfl,Nat.le_refl _,by rw [r3],fun hp=>absurd hp (by omega)⟩
  ·rw [r1]
   exact ⟨by simp,none,0,rfl,Nat.le_refl _,by rw [r3],fun hp=>absurd hp (by omega)⟩
 ·rename_i d c d' c'
  by_cases hc:c=c'
  ·subst hc
   rw [if_pos rfl] at e
   obtain ⟨h1,h2,h3,h4⟩:=bind_ok e
   refine ⟨[],by rw [h2];rfl,h4,fun k hk=>by rw [h3];exact hk,fun k hk=>Or.inl (by rw [←h3];exact hk),fun new' hn l=>?_⟩
   obtain rfl:=hn.qbm
   refine ⟨.p d c,rfl,fun G' O' ρ Fz R hρ hz=>⟨hx.1,?_⟩⟩
   obtain ⟨r1,_,_,r4,_⟩:=R.obj d d' (hρ d _ h1)
   have k:OnBox (O d') (∃b o,G.m d'=some (b,o)∧v=.pointer (some ⟨b,o+c,none⟩)):=hx.2
   show OnBox (O' d) _
   exact r4.box k (fun ⟨b,o,e1,e2⟩=>⟨b,o,r1.trans e1,e2⟩)
  ·rw [if_neg hc] at e;cases e
 ·rename_i f d f' d'
  by_cases hf:f=f'
  ·subst hf
   rw [if_pos rfl] at e
   obtain ⟨h1,h2,h3,h4⟩:=bind_ok e
   refine ⟨[],by rw [h2];rfl,h4,fun k hk=>by rw [h3];exact hk,fun k hk=>Or.inl (by rw [←h3];exact hk),fun new' hn l=>?_⟩
   obtain rfl:=hn.qbm
   refine ⟨.fn f d,rfl,fun G' O' ρ Fz R hρ hz=>⟨hx.1,?_⟩⟩
   obtain ⟨_,_,r3,r4,_⟩:=R.obj d d' (hρ d _ h1)
   have k:qcf (O d') (v=.func (.func f) #[] (G.cap d').toArray):=hx.2
   show qcf (O' d) _
   exact r4.caps k (fun e=>by rw [r3];exact e)
  ·rw [if_neg hf] at e;cases e
 ·rename_i f f'
  by_cases hf:f=f'
  ·subst hf
   rw [if_pos rfl] at e
   cases e
   exact ⟨[],Adds.const (.fn0 f) (fun _=>rfl) (fun _ _=>hx)⟩
  ·rw [if_neg hf] at e;cases e
 ·cases e
  exact ⟨[],Adds.const .np (fun _=>rfl) (fun _ _=>hx)⟩
 ·cases e
  exact ⟨[],Adds.const .nils (fun _=>rfl) (fun _ _=>hx)⟩
 ·cases e
  exact ⟨[],Adds.const .u (fun _=>rfl) (fun _ _=>⟨hx.1,trivial⟩)⟩
 ·rename_i d d'
  obtain ⟨h1,h2,h3,h4⟩:=bind_ok e
  refine ⟨[],by rw [h2];rfl,h4,fun k hk=>by rw [h3];exact hk,fun k hk=>Or.inl (by rw [←h3];exact hk),fun new' hn l=>?_⟩
  obtain rfl:=hn.qbm
  refine ⟨.m d,rfl,fun G' O' ρ Fz R hρ hz=>⟨hx.1,?_⟩⟩
  obtain ⟨r1,_,_,r4,_⟩:=R.obj d d' (hρ d _ h1)
  have k:OnMap (O d') (∃b,G.m d'=some (b,0)∧v=.map (some b)):=hx.2
  show OnMap (O' d) _
  exact r4.map k (fun ⟨b,e1,e2⟩=>⟨b,r1.trans e1,e2⟩)
 ·rename_i d d'
  obtain ⟨h1,h2,h3,h4⟩:=bind_ok e
  refine ⟨[],by rw [h2];rfl,h4,fun k hk=>by rw [h3];exact hk,fun k hk=>Or.inl (by rw [←h3];exact hk),fun new' hn l=>?_⟩
  obtain rfl:=hn.qbm
  refine ⟨.ap d,rfl,fun G' O' ρ Fz R hρ hz=>⟨hx.1,?_⟩⟩
  obtain ⟨r1,r2,_,r4,_⟩:=R.obj d d' (hρ d _ h1)
  have k:OnRow (O d') (fun _ n=>0<n∧n=G.cp d'∧∃b o,G.m d'=some (b,o)∧v=.pointer (some ⟨b,o,none⟩)):=hx.2
  show OnRow (O' d) (fun _ n=>0<n∧n=G'.cp d∧∃b o,G'.m d=some (b,o)∧v=.pointer (some ⟨b,o,none⟩))
  refine r4.row k (fun t n hh=>?_)
  rw [r1,r2];exact hh
 ·rename_i d d' u i
  split at e
  ·rename_i u' e' e2 t xss hd
   by_cases hu:u=u'
   ·rw [if_pos hu] at e
    subst hu
    cases e1:g.bind d (some d') with
    |none=>rw [e1] at e;cases e
    |some g1=>
     rw [e1] at e
     cases e
     obtain ⟨h1,h2,h3,h4⟩:=bind_ok e1
     refine ⟨[.mk (.int .i64) i],by show _::g1.out=_;rw [h2];rfl,h4,fun k hk=>by show k∈g1.fz;rw [h3];exact hk,fun k hk=>Or.inl (by rw [←h3];exact hk),fun new' hn l=>?_⟩
     obtain ⟨tv',m,rfl,n1,n2⟩:=hn.cons_inv
     obtain rfl:=n2.qbm
     obtain rfl:tv'=.mk (.int .i64) i:=n1
     obtain ⟨g0,y,hy,hh⟩:=oh_at hd hx
     exact ⟨.oh d 0 i,rfl,fun G' O' ρ Fz R hρ hz=>R.oh (hρ d _ h1) hd g0 (by rw [hy];rfl) hh⟩
   ·rw [if_neg hu] at e;cases e
  ·cases e
 ·rename_i t d
  split at e
  ·rename_i e' ls hd
   split at e
   ·rename_i y ds hp
    cases e
    have hdl:(O d).live=true:=by rw [hd];rfl
    refine ⟨[.mk t y],rfl,fun _ _ h=>h,fun k hk=>List.mem_cons_of_mem _ (List.mem_append_right _ hk),fun k hk=>?_,fun new' hn l=>?_⟩
    ·rcases List.mem_cons.1 hk with rfl|hk
     ·exact Or.inr hdl
     ·exact (List.mem_append.1 hk).elim (fun q=>Or.inr (packsT_live hp k q)) Or.inl
    ·obtain ⟨tv',m,rfl,n1,n2⟩:=hn.cons_inv
     obtain rfl:=n2.qbm
     obtain rfl:tv'=.mk t y:=n1
     refine ⟨.e t y 0,rfl,fun G' O' ρ Fz R hρ hz=>⟨hx.1,?_⟩⟩
     have k:OnBox (O d) (∃b o,G.m d=some (b,o)∧v=.pointer (some ⟨b,o+0,none⟩)):=hx.2
     rw [hd] at k
     obtain ⟨b,o,hm,rfl⟩:=k
     obtain ⟨b',arr,hm',hb,hall,_⟩:=h.box hd
     rw [hm] at hm'
     cases hm'
     refine ⟨b,0,arr.toList,R.fz d (hz d List.mem_cons_self) b (Or.inl ⟨0,hm⟩),packsT_R h hp hall R.F (fun k hk=>R.fz k (hz k (List.mem_cons_of_mem _ (List.mem_append_left _ hk)))),fun i u hi=>?_,rfl⟩
     rw [hb.cell,Nat.zero_add,←Array.getElem?_toList]
     exact hi
   ·cases e
  ·cases e
 ·rename_i t t' y
  by_cases ht:t'=t
  ·rw [if_pos ht] at e
   cases e
   refine ⟨[.mk t' y],rfl,fun _ _ h=>h,fun _ h=>h,fun _ h=>Or.inl h,fun new' hn l=>?_⟩
   obtain ⟨tv',m,rfl,n1,n2⟩:=hn.cons_inv
   obtain rfl:=n2.qbm
   obtain rfl:tv'=.mk t' y:=n1
   refine ⟨.e t' y 0,rfl,fun G' O' ρ Fz R hρ hz=>⟨hx.1,?_⟩⟩
   obtain ⟨b,o,cs,q1,q2,q3,q4⟩:=hx.2
   exact ⟨b,o,cs,R.F b q1,q2.mono R.F (fun _ _=>rfl),q3,q4⟩
  ·rw [if_neg ht] at e;cases e
 ·cases e
theorem Adds.seq {α β γ:Type} {g g1 g2:Gr} {n1 n2:List TV} {p1:List TV→Option (α×List TV)} {p2:List TV→Option (β×List TV)} {s1:Gh→(Nat→Obj)→α→Prop} {s2:Gh→(Nat→Obj)→β→Prop}
  (h1:Adds g g1 n1 p1 s1 G O) (h2:Adds g1 g2 n2 p2 s2 G O) (f:α→β→γ) (p:List TV→Option (γ×List TV)) (s:Gh→(Nat→Obj)→γ→Prop)
  (hp:∀l x l1 y l2,p1 l=some (x,l1)→p2 l1=some (y,l2)→p l=some (f x y,l2)) (hs:∀G' O' x y,s1 G' O' x→s2 G' O' y→s G' O' (f x y)):Adds g g2 (n1++n2) p s G O where
 out:=by rw [h2.out,h1.out];simp
 ren d y hd:=h2.ren d y (h1.ren d y hd)
 fz d hd:=h2.fz d (h1.fz d hd)
 live d hd:=(h2.live d hd).elim (fun k=>h1.live d k) Or.inr
 put new' hn l:=by
  obtain ⟨a,b,rfl,ha,hb⟩:=hn.split
  obtain ⟨x,x1,x2⟩:=h1.put a ha (b++l)
  obtain ⟨y,y1,y2⟩:=h2.put b hb l
  refine ⟨f x y,hp _ x _ y _ (by rw [List.append_assoc];exact x1) y1,fun G' O' ρ Fz R hρ hz=>?_⟩
  exact hs G' O' x y (x2 G' O' ρ Fz R (fun d z hd=>hρ d z (h2.ren d z hd)) (fun d hd=>hz d (h2.fz d hd))) (y2 G' O' ρ Fz R hρ hz)
theorem qfH (h:Core C G O w):∀{ss:List LSh} {xs:List Lf} {g g':Gr} {vs:List Value},qdG O g ss xs=some g'→All2 (LfR G O w) xs vs→∃new,Adds g g' new (putLs ss) (fun G' O' ys=>All2 (LfR G' O' w) ys vs∧ys.length=xs.length) G O
 |[],[],g,g',vs,e,hx=>by
  cases e
  obtain rfl:=hx.qbm
  exact ⟨[],Adds.const [] (fun _=>rfl) (fun _ _=>⟨trivial,rfl⟩)⟩
 |s::ss,x::xs,g,g',vs,e,hx=>by
  obtain ⟨v,m,rfl,h1,h2⟩:=hx.cons_inv
  unfold qdG at e
  cases e1:grabL O g s x with
  |none=>rw [e1] at e;cases e
  |some g1=>
   rw [e1] at e
   obtain ⟨n1,a1⟩:=grabL_ok h e1 h1
   obtain ⟨n2,a2⟩:=qfH h e h2
   refine ⟨n1++n2,Adds.seq a1 a2 (fun y ys=>y::ys) _ _ (fun l y l1 ys l2 e1 e2=>?_) (fun G' O' y ys k1 k2=>⟨⟨k1,k2.1⟩,by rw [List.length_cons,List.length_cons,k2.2]⟩)⟩
   simp only [putLs,e1,e2]
 |[],_::_,_,_,_,e,_=>by cases e
 |_::_,[],_,_,_,e,_=>by cases e
theorem grabC_ok (h:Core C G O w) {g g':Gr} {s:CSh} {x:Cm} {v:Value} (e:grabC O g s x=some g') (hx:CmR G O w x v):∃new,Adds g g' new (putC s) (fun G' O' y=>CmR G' O' w y v) G O:=by
 unfold grabC at e
 split at e
 ·rename_i s y
  obtain ⟨n,a⟩:=grabL_ok h e hx
  refine ⟨n,a.out,a.ren,a.fz,a.live,fun new' hn l=>?_⟩
  obtain ⟨z,z1,z2⟩:=a.put new' hn l
  exact ⟨.l z,by simp only [putC,z1],z2⟩
 ·rename_i ss ys
  obtain ⟨cs,rfl,hx⟩:=hx
  obtain ⟨n,a⟩:=qfH h e hx
  refine ⟨n,a.out,a.ren,a.fz,a.live,fun new' hn l=>?_⟩
  obtain ⟨z,z1,z2⟩:=a.put new' hn l
  exact ⟨.a z,by simp only [putC,z1],fun G' O' ρ Fz R hρ hz=>⟨cs,rfl,(z2 G' O' ρ Fz R hρ hz).1⟩⟩
 ·rename_i t ys
  obtain ⟨cs,rfl,hx⟩:=hx
  split at e
  ·rename_i y ds hp
   cases e
   refine ⟨[.mk t y],rfl,fun _ _ h=>h,fun d hd=>List.mem_append_right _ hd,fun d hd=>(List.mem_append.1 hd).elim (fun k=>Or.inr (packs_live hp d k)) Or.inl,fun new' hn l=>?_⟩
   obtain ⟨tv',m,rfl,h1,h2⟩:=hn.cons_inv
   obtain rfl:=h2.qbm
   obtain rfl:tv'=.mk t y:=h1
   refine ⟨.a (leaves t y),rfl,fun G' O' ρ Fz R hρ hz=>⟨cs,rfl,qcn ?_⟩⟩
   exact qeo h hp hx R.F (fun d hd b o hm=>R.fz d (hz d (List.mem_append_left _ hd)) b (Or.inl ⟨o,hm⟩))
  ·cases e
 ·cases e
  exact ⟨[],Adds.const .u (fun _=>rfl) (fun _ _=>trivial)⟩
 ·cases e
theorem qfI (h:Core C G O w):∀{ss:List CSh} {xs:List Cm} {g g':Gr} {vs:List Value},qeM O g ss xs=some g'→All2 (CmR G O w) xs vs→∃new,Adds g g' new (putCs ss) (fun G' O' ys=>All2 (CmR G' O' w) ys vs) G O
 |[],[],g,g',vs,e,hx=>by
  cases e
  obtain rfl:=hx.qbm
  exact ⟨[],Adds.const [] (fun _=>rfl) (fun _ _=>trivial)⟩
 |s::ss,x::xs,g,g',vs,e,hx=>by
  obtain ⟨v,m,rfl,h1,h2⟩:=hx.cons_inv
  unfold qeM at e
  cases e1:grabC O g s x with
  |none=>rw [e1] at e;cases e
  |some g1=>
   rw [e1] at e
   obtain ⟨n1,a1⟩:=grabC_ok h e1 h1
   obtain ⟨n2,a2⟩:=qfI h e h2
   refine ⟨n1++n2,Adds.seq a1 a2 (fun y ys=>y::ys) _ _ (fun l y l1 ys l2 e1 e2=>?_) (fun G' O' y ys k1 k2=>⟨k1,k2⟩)⟩
   simp only [putCs,e1,e2]
 |[],_::_,_,_,_,e,_=>by cases e
 |_::_,[],_,_,_,e,_=>by cases e
end
end Go.Proofs.YtfobeapcmgjhbaaGreatDoor.VE
namespace Go.Proofs.YtfobeapcmgjhbaaGreatDoor.VE
open Go Go.RowKit
section
variable {P:Program} {C:Ctx} {G G':Gh} {O O':Nat→Obj} {w:World}
def ObjK (O:Nat→Obj) (dd:Option Nat) (y:Obj):Prop:=match dd,y with
 |none,.row _ _ xs fz=>xs.length=0∧fz=false
 |none,.deep v _ _ _ xss pd=>v=0∧pd=.ok∧xss.length=0
 |none,_=>False
 |some d',.row e t xs fz=>O d'=.row e t xs false∧fz=false
 |some d',.box e cs'=>∃cs,O d'=.box e cs∧cs.length=cs'.length
 |some d',.caps _=>∃cs,O d'=.caps cs
 |some d',.dead=>O d'=.dead
 |some d',.mp es=>O d'=.mp es
 |some d',.deep v e e2 t xss pd=>v=0∧pd=.ok∧∃v',O d'=.deep v' e e2 t xss .ok
 |some _,_=>False
def ObjS (C:Ctx) (G:Gh) (w:World) (dd:Option Nat) (G':Gh) (O':Nat→Obj) (y:Obj):Prop:=match dd,y with
 |some d',.box e cs'=>∃b arr,G.m d'=some (b,0)∧blk w b arr e∧All2 (LfR G' O' w) cs' arr.toList∧¬G.F b∧own C b
 |some d',.caps cs'=>All2 (CmR G' O' w) cs' (G.cap d')
 |_,_=>True
theorem Alike.same {a b:Obj} (h:Alike a b):b.live=a.live∧b.len=a.len:=by
 cases a<;>cases b<;>simp_all [Alike,Obj.live,Obj.len]
theorem qeG:∀{ss:List LSh} {l l':List TV} {xs:List Lf},putLs ss l=some (xs,l')→xs.length=ss.length
 |[],_,_,_,e=>by cases e;rfl
 |s::ss,l,l',xs,e=>by
  unfold putLs at e
  cases e1:putL s l with
  |none=>rw [e1] at e;cases e
  |some r=>
   obtain ⟨x,l1⟩:=r
   rw [e1] at e
   simp only at e
   cases e2:putLs ss l1 with
   |none=>rw [e2] at e;cases e
   |some r2=>
    obtain ⟨ys,l2⟩:=r2
    rw [e2] at e
    cases e
    rw [List.length_cons,List.length_cons,qeG e2]
theorem qeb:∀{ss:List LSh} {xs:List Lf} {g g':Gr},qdG O g ss xs=some g'→ss.length=xs.length
 |[],[],_,_,_=>rfl
 |s::ss,x::xs,g,g',e=>by
  unfold qdG at e
  cases e1:grabL O g s x with
  |none=>rw [e1] at e;cases e
  |some g1=>
   rw [e1] at e
   rw [List.length_cons,List.length_cons,qeb e]
 |[],_::_,_,_,e=>by cases e
 |_::_,[],_,_,e=>by cases e
theorem grabO_ok (h:Core C G O w) {g g':Gr} {d:Nat} {s:OSh} (e:grabO O g d s=some g'):∃dd,look g.ren d=some dd∧∃new,g'.out=new.reverse++g.out∧(∀k y,look g.ren k=some y→look g'.ren k=some y)∧(∀k∈g.fz,k∈g'.fz)∧(∀k∈g'.fz,k∈g.fz∨(O k).live=true)∧
  ∀new',All2 Tle new new'→∀l,∃y,putO s (new'++l)=some (y,l)∧ObjK O dd y∧∀G' O' ρ Fz,Ren G O G' O' ρ Fz→(∀k y,look g'.ren k=some y→ρ k=some y)→(∀k∈g'.fz,k∈Fz)→ObjS C G w dd G' O' y:=by
 unfold grabO at e
 split at e
 ·cases e
 ·rename_i hl
  refine ⟨none,hl,?_⟩
  split at e
  ·rename_i el t
   cases e
   refine ⟨[.mk (.list el t) ([]:List t.T)],rfl,fun _ _ h=>h,fun _ h=>h,fun _ h=>Or.inl h,fun new' hn l=>?_⟩
   obtain ⟨tv',m,rfl,h1,h2⟩:=hn.cons_inv
   obtain rfl:=h2.qbm
   obtain rfl:tv'=.mk (.list el t) ([]:List t.T):=h1
   exact ⟨.row el t [] false,rfl,⟨rfl,rfl⟩,fun _ _ _ _ _ _ _=>trivial⟩
  ·rename_i el e2 t
   cases e
   refine ⟨[.mk (.list el (.list e2 t)) ([]:List (List t.T))],rfl,fun _ _ h=>h,fun _ h=>h,fun _ h=>Or.inl h,fun new' hn l=>?_⟩
   obtain ⟨tv',m,rfl,h1,h2⟩:=hn.cons_inv
   obtain rfl:=h2.qbm
   obtain rfl:tv'=.mk (.list el (.list e2 t)) ([]:List (List t.T)):=h1
   exact ⟨.deep 0 el e2 t [] .ok,rfl,⟨rfl,rfl,rfl⟩,fun _ _ _ _ _ _ _=>trivial⟩
  ·cases e
 ·rename_i d' hl
  refine ⟨some d',hl,?_⟩
  split at e
  ·rename_i el t e' t' xs hd
   by_cases hc:el=e'∧t=t'
   ·rw [if_pos hc] at e
    cases e
    obtain ⟨rfl,rfl⟩:=hc
    refine ⟨[.mk (.list el t) xs],rfl,fun _ _ h=>h,fun _ h=>h,fun _ h=>Or.inl h,fun new' hn l=>?_⟩
    obtain ⟨tv',m,rfl,h1,h2⟩:=hn.cons_inv
    obtain rfl:=h2.qbm
    obtain rfl:tv'=.mk (.list el t) xs:=h1
    exact ⟨.row el t xs false,rfl,⟨hd,rfl⟩,fun _ _ _ _ _ _ _=>trivial⟩
   ·rw [if_neg hc] at e;cases e
  ·rename_i el ss e' cs hd
   by_cases hc:el=e'
   ·subst hc
    rw [if_pos rfl] at e
    obtain ⟨b,arr,h1,h2,h3,h4,h5⟩:=h.box hd
    obtain ⟨new,a⟩:=qfH h e h3
    refine ⟨new,a.out,a.ren,a.fz,a.live,fun new' hn l=>?_⟩
    obtain ⟨ys,y1,y2⟩:=a.put new' hn l
    exact ⟨.box el ys,by simp only [putO,y1],⟨cs,hd,by rw [qeG y1,qeb e]⟩,fun G' O' ρ Fz R hρ hz=>⟨b,arr,h1,h2,(y2 G' O' ρ Fz R hρ hz).1,h4,h5⟩⟩
   ·rw [if_neg hc] at e;cases e
  ·rename_i ss cs hd
   have k:=h.ob d'
   unfold ObjR at k
   rw [hd] at k
   obtain ⟨new,a⟩:=qfI h e k
   refine ⟨new,a.out,a.ren,a.fz,a.live,fun new' hn l=>?_⟩
   obtain ⟨ys,y1,y2⟩:=a.put new' hn l
   exact ⟨.caps ys,by simp only [putO,y1],⟨cs,hd⟩,fun G' O' ρ Fz R hρ hz=>y2 G' O' ρ Fz R hρ hz⟩
  ·rename_i hd
   cases e
   refine ⟨[],rfl,fun _ _ h=>h,fun _ h=>h,fun _ h=>Or.inl h,fun new' hn l=>?_⟩
   obtain rfl:=hn.qbm
   exact ⟨.dead,rfl,hd,fun _ _ _ _ _ _ _=>trivial⟩
  ·rename_i es hd
   cases e
   refine ⟨[.mk mpT es],rfl,fun _ _ h=>h,fun _ h=>h,fun _ h=>Or.inl h,fun new' hn l=>?_⟩
   obtain ⟨tv',m,rfl,h1,h2⟩:=hn.cons_inv
   obtain rfl:=h2.qbm
   obtain rfl:tv'=.mk mpT es:=h1
   exact ⟨.mp es,rfl,hd,fun _ _ _ _ _ _ _=>trivial⟩
  ·rename_i el e2 t u el' e2' t' xss hd
   by_cases hc:el=el'∧e2=e2'∧t=t'
   ·rw [if_pos hc] at e
    cases e
    obtain ⟨rfl,rfl,rfl⟩:=hc
    refine ⟨[.mk (.list el (.list e2 t)) xss],rfl,fun _ _ h=>h,fun _ h=>h,fun _ h=>Or.inl h,fun new' hn l=>?_⟩
    obtain ⟨tv',m,rfl,h1,h2⟩:=hn.cons_inv
    obtain rfl:=h2.qbm
    obtain rfl:tv'=.mk (.list el (.list e2 t)) xss:=h1
    exact ⟨.deep 0 el e2 t xss .ok,rfl,⟨rfl,rfl,u,hd⟩,fun _ _ _ _ _ _ _=>trivial⟩
   ·rw [if_neg hc] at e;cases e
  ·cases e
theorem grabOs_ok (h:Core C G O w):∀{ls:List (Nat×OSh)} {g g':Gr},qfG O g ls=some g'→∃new,g'.out=new.reverse++g.out∧(∀k y,look g.ren k=some y→look g'.ren k=some y)∧(∀k∈g.fz,k∈g'.fz)∧(∀k∈g'.fz,k∈g.fz∨(O k).live=true)∧
  ∀new',All2 Tle new new'→∀l,∃os,putOs ls (new'++l)=some os∧os.map (·.1)=ls.map (·.1)∧∀d y,(d,y)∈os→∃dd,look g'.ren d=some dd∧ObjK O dd y∧∀G' O' ρ Fz,Ren G O G' O' ρ Fz→(∀k y,look g'.ren k=some y→ρ k=some y)→(∀k∈g'.fz,k∈Fz)→ObjS C G w dd G' O' y
 |[],g,g',e=>by
  cases e
  exact ⟨[],rfl,fun _ _ h=>h,fun _ h=>h,fun _ h=>Or.inl h,fun new' hn l=>⟨[],rfl,rfl,fun d y hy=>by cases hy⟩⟩
 |(d,s)::ls,g,g',e=>by
  unfold qfG at e
  cases e1:grabO O g d s with
  |none=>rw [e1] at e;cases e
  |some g1=>
   rw [e1] at e
   obtain ⟨dd,a1,n1,a2,a3,a4,al,a5⟩:=grabO_ok h e1
   obtain ⟨n2,b1,b2,b3,bl,b4⟩:=grabOs_ok h e
   refine ⟨n1++n2,by rw [b1,a2];simp,fun k y hk=>b2 k y (a3 k y hk),fun k hk=>b3 k (a4 k hk),fun k hk=>(bl k hk).elim (fun q=>al k q) Or.inr,fun new' hn l=>?_⟩
   obtain ⟨p,q,rfl,hp,hq⟩:=hn.split
   obtain ⟨y,y1,y2,y3⟩:=a5 p hp (q++l)
   obtain ⟨os,o1,o2,o3⟩:=b4 q hq l
   refine ⟨(d,y)::os,?_,by rw [List.map_cons,List.map_cons,o2],fun d' y' hy=>?_⟩
   ·rw [List.append_assoc]
    simp only [putOs,y1,o1]
   ·rcases List.mem_cons.1 hy with hy|hy
    ·cases hy
     exact ⟨dd,b2 _ _ (a3 _ _ a1),y2,fun G' O' ρ Fz R hρ hz=>y3 G' O' ρ Fz R (fun k y hk=>hρ k y (b2 k y hk)) (fun k hk=>hz k (b3 k hk))⟩
    ·exact o3 d' y' hy
theorem qbA {α:Type}:∀{l:List (Nat×α)} {f:Nat→α} {k:Nat},k∉l.map (·.1)→upds f l k=f k
 |[],_,_,_=>rfl
 |(d,v)::l,f,k,h=>by
  rw [List.map_cons,List.mem_cons,not_or] at h
  show upds (upd f d v) l k=f k
  rw [qbA h.2,upd_ne _ _ h.1]
theorem qdQ {d:Nat} {l:List Nat} (h:nodupB (d::l)=true):d∉l∧nodupB l=true:=by
 unfold nodupB at h
 simp only [Bool.and_eq_true,Bool.not_eq_true',List.contains_eq_mem,decide_eq_false_iff_not] at h
 exact h
theorem upds_in {α:Type}:∀{l:List (Nat×α)} {f:Nat→α} {k:Nat} {v:α},nodupB (l.map (·.1))=true→(k,v)∈l→upds f l k=v
 |(d,v')::l,f,k,v,hn,h=>by
  obtain ⟨h1,h2⟩:=qdQ hn
  show upds (upd f d v') l k=v
  rcases List.mem_cons.1 h with h|h
  ·cases h
   rw [qbA h1,qad]
  ·exact upds_in h2 h
theorem qb8 {α:Type}:∀{l:List (Nat×α)} {d:Nat} {v:α},look l d=some v→(d,v)∈l
 |[],_,_,e=>by cases e
 |(k,v')::l,d,v,e=>by
  rw [qcC] at e
  by_cases h:d=k
  ·rw [if_pos h] at e
   cases e
   rw [h];exact List.mem_cons_self
  ·rw [if_neg h] at e
   exact List.mem_cons_of_mem _ (qb8 e)
theorem qcg:∀{l:List (Nat×Option Nat)} {d k:Nat},(d,some k)∈l→k∈qbs l
 |(a,none)::l,d,k,h=>by
  rcases List.mem_cons.1 h with h|h
  ·cases h
  ·exact qcg (l:=l) h
 |(a,some b)::l,d,k,h=>by
  rcases List.mem_cons.1 h with h|h
  ·cases h;exact List.mem_cons_self
  ·exact List.mem_cons_of_mem _ (qcg (l:=l) h)
theorem qds:∀{l:List (Nat×Option Nat)} {d d' k:Nat},nodupB (qbs l)=true→(d,some k)∈l→(d',some k)∈l→d=d'
 |(a,none)::l,d,d',k,hn,h,h'=>by
  rcases List.mem_cons.1 h with h|h
  ·cases h
  ·rcases List.mem_cons.1 h' with h'|h'
   ·cases h'
   ·exact qds (l:=l) hn h h'
 |(a,some b)::l,d,d',k,hn,h,h'=>by
  obtain ⟨h1,h2⟩:=qdQ (show nodupB (b::qbs l)=true from hn)
  rcases List.mem_cons.1 h with h|h
  ·cases h
   rcases List.mem_cons.1 h' with h'|h'
   ·cases h';rfl
   ·exact absurd (qcg h') h1
  ·rcases List.mem_cons.1 h' with h'|h'
   ·cases h'
    exact absurd (qcg h) h1
   ·exact qds h2 h h'
def FzB (G:Gh) (O:Nat→Obj) (ds:List Nat) (b:Nat):Prop:=G.F b∨∃d∈ds,Bl G (O d) d b
def renG (G:Gh) (O:Nat→Obj) (g:Gr):Gh where
 F:=FzB G O g.fz
 m:=fun d=>match look g.ren d with
  |some (some d')=>G.m d'
  |_=>none
 cp:=fun d=>match look g.ren d with
  |some (some d')=>G.cp d'
  |_=>0
 cap:=fun d=>match look g.ren d with
  |some (some d')=>G.cap d'
  |_=>[]
 sub:=fun d _=>match look g.ren d with
  |some (some d')=>G.sub d' (O d').ver
  |_=>fun _=>none
structure View (C:Ctx) (G:Gh) (O:Nat→Obj) (w:World) (c:Cut) (fixed:List Nat) (g:Gr) (cms:List Cm) (os:List (Nat×Obj)) (vs:List Value):Prop where
 slots:All2 (CmR (renG G O g) (upds (fun _=>.no) os) w) cms vs
 ren:Ren G O (renG G O g) (upds (fun _=>.no) os) (look g.ren) g.fz
 fixed:∀d∈fixed,look g.ren d=some (some d)
 keys:∀d,upds (fun _=>.no) os d≠.no↔∃dd,look g.ren d=some dd
 objs:∀C2:Ctx,(∀d d' b,look g.ren d=some (some d')→(O d').live=true→Bl G (O d') d' b→own C2 b)→∀d,ObjR C2 (renG G O g) (upds (fun _=>.no) os) w d
 inj:∀d1 d2 b1 b2,d1≠d2→(upds (fun _=>Obj.no) os d1).live=true→(upds (fun _=>Obj.no) os d2).live=true→Bl (renG G O g) (upds (fun _=>Obj.no) os d1) d1 b1→Bl (renG G O g) (upds (fun _=>Obj.no) os d2) d2 b2→b1≠b2
 F1:∀b,(renG G O g).F b→b<w.heap.size
 F3:∀b,(renG G O g).F b→G.F b∨own C b
 live:∀d d',look g.ren d=some (some d')→(upds (fun _=>Obj.no) os d).live=(O d').live∧(upds (fun _=>Obj.no) os d).len=(O d').len
 keysd:∀d,(∃y,(d,y)∈os)↔∃dd,look g.ren d=some dd
 nodup:nodupB (os.map (·.1))=true
 names:os.map (·.1)=c.objs.map (·.1)
 rnd:nodupB (qbs g.ren)=true
 disj:∀k∈g.fz,∀d d',look g.ren d=some (some d')→d'≠k
 fzl:∀k∈g.fz,(O k).live=true
 unfz:∀d e t xs f,upds (fun _=>Obj.no) os d=.row e t xs f→f=false
 deep:∀d d' v e e2 t xss pd,look g.ren d=some (some d')→O d'=.deep v e e2 t xss pd→pd=.ok∧upds (fun _=>Obj.no) os d=.deep 0 e e2 t xss .ok
 okd:∀d v e e2 t xss pd,upds (fun _=>Obj.no) os d=.deep v e e2 t xss pd→v=0∧pd=.ok
theorem View.bl {C:Ctx} {G:Gh} {O:Nat→Obj} {w:World} {c:Cut} {fixed:List Nat} {g:Gr} {cms:List Cm} {os:List (Nat×Obj)} {vs:List Value} (V:View C G O w c fixed g cms os vs) {d d' b:Nat} (hd:look g.ren d=some (some d')):Bl G (O d') d' b↔Bl (renG G O g) (upds (fun _=>Obj.no) os d) d b:=by
 obtain ⟨r1,_,_,r4,_,r6⟩:=V.ren.obj d d' hd
 cases e:O d' with
 |deep v e1 e2 t xss pd=>
  obtain ⟨rfl,h2⟩:=V.deep d d' _ _ _ _ _ _ hd e
  rw [e] at r6
  rw [h2]
  unfold Bl
  rw [r1]
  show _∨(∃j:Nat,∃p,j<xss.length∧True∧G.sub d' v j=some (b,p))↔_∨(∃j:Nat,∃p,j<xss.length∧True∧(renG G O g).sub d 0 j=some (b,p))
  rw [r6]
  exact Iff.rfl
 |_=>
  rw [e] at r4
  cases e2:upds (fun _=>Obj.no) os d<;>rw [e2] at r4<;>first|exact r4.elim|(unfold Bl;rw [r1])
theorem grab_ok (h:Core C G O w) {c:Cut} {fixed:List Nat} {cms:List Cm} {vs:List Value} {g:Gr} {x:prods c.tys} (hv:All2 (CmR G O w) cms vs) (e:grab c fixed cms O=some (g,x)) :
  ∃cms' os,c.put x=some (cms',os)∧View C G O w c fixed g cms' os vs:=by
 unfold grab at e
 split at e
 ·rename_i g1 e1
  split at e
  ·rename_i g2 e2
   split at e
   ·rename_i hchk
    split at e
    ·rename_i y ey
     cases e
     simp only [Bool.and_eq_true] at hchk
     obtain ⟨⟨⟨k1,k2⟩,k3⟩,k4⟩:=hchk
     obtain ⟨n1,a⟩:=qfI h e1 hv
     obtain ⟨n2,b1,b2,b3,bl,b4⟩:=grabOs_ok h e2
     have hout:g.out.reverse=n1++n2:=by rw [b1,a.out];simp
     rw [hout] at ey
     have ht:=qfc ey
     obtain ⟨t1,t2,ht0,ht1,ht2⟩:=ht.split
     obtain ⟨cms',c1,c2⟩:=a.put t1 ht1 t2
     obtain ⟨os,o1,o2,o3⟩:=b4 t2 ht2 []
     rw [List.append_nil] at o1
     have hnd:nodupB (os.map (·.1))=true:=by rw [o2];exact k1
     have hkeys:∀d dd,look g.ren d=some dd→∃y,(d,y)∈os:=by
      intro d dd hd
      have h1:=List.all_eq_true.1 k3 _ (qb8 hd)
      obtain ⟨o,ho,ho'⟩:=List.any_eq_true.1 h1
      have hm:d∈os.map (·.1):=by
       rw [o2,←(Nat.eq_of_beq_eq_true ho':o.1=d)]
       exact List.mem_map_of_mem (f:=(·.1)) ho
      obtain ⟨⟨d',y⟩,hy,rfl⟩:=List.mem_map.1 hm
      exact ⟨y,hy⟩
     have hat:∀d y,(d,y)∈os→upds (fun _=>Obj.no) os d=y:=fun d y hy=>upds_in hnd hy
     have hkey2:∀d,upds (fun _=>Obj.no) os d≠.no→∃y,(d,y)∈os:=by
      intro d hd
      by_cases hm:d∈os.map (·.1)
      ·obtain ⟨⟨d',y⟩,hy,rfl⟩:=List.mem_map.1 hm
       exact ⟨y,hy⟩
      ·exact absurd (qbA hm) hd
     have R:Ren G O (renG G O g) (upds (fun _=>.no) os) (look g.ren) g.fz:=by
      refine ⟨fun b hb=>Or.inl hb,fun d hd b hB=>Or.inr ⟨d,hd,hB⟩,fun d d' hd=>?_,fun d hd=>?_⟩
      ·obtain ⟨y,hy⟩:=hkeys d _ hd
       obtain ⟨dd,q1,q2,q3⟩:=o3 d y hy
       rw [hd] at q1
       cases q1
       refine ⟨by simp only [renG,hd],by simp only [renG,hd],by simp only [renG,hd],?_,?_,by simp only [renG,hd]⟩
       ·rw [hat d y hy]
        cases y with
        |row e t xs fz=>rw [q2.1];exact ⟨rfl,rfl⟩
        |box e cs=>obtain ⟨cs',q4,q5⟩:=q2;rw [q4];exact q5
        |caps cs=>obtain ⟨cs',q4⟩:=q2;rw [q4];trivial
        |no=>exact q2.elim
        |dead=>rw [show O d'=.dead from q2];trivial
        |mp es=>rw [show O d'=.mp es from q2];trivial
        |deep v e e2 t xss pd=>obtain ⟨rfl,rfl,v',q4⟩:=q2;rw [q4];exact ⟨rfl,rfl,rfl,fun _=>rfl⟩
        |fwd d v i t n=>exact q2.elim
       ·rw [hat d y hy]
        cases y with
        |deep v e e2 t xss pd=>exact q2.1
        |_=>rfl
      ·obtain ⟨y,hy⟩:=hkeys d _ hd
       obtain ⟨dd,q1,q2,q3⟩:=o3 d y hy
       rw [hd] at q1
       cases q1
       refine ⟨?_,by simp only [renG,hd],by simp only [renG,hd]⟩
       rw [hat d y hy]
       cases y with
       |row e t xs fz=>
        obtain ⟨z1,z2⟩:=q2
        rw [List.eq_nil_of_length_eq_zero z1,z2]
        exact Or.inl ⟨e,t,rfl⟩
       |deep v e e2 t xss pd=>
        obtain ⟨rfl,rfl,z1⟩:=q2
        rw [List.eq_nil_of_length_eq_zero z1]
        exact Or.inr ⟨e,e2,t,rfl⟩
       |_=>exact q2.elim
     have hfl:∀d∈g.fz,(O d).live=true:=fun d hd=>(bl d hd).elim (fun q=>(a.live d q).elim (fun q=>by cases q) id) id
     have hfzB:∀d∈g.fz,∀b,Bl G (O d) d b→∀k k',look g.ren k=some (some k')→(O k').live=true→Bl G (O k') k' b→False:=by
      intro d hd b hB0 k k' hk hl hB
      have h1:=List.all_eq_true.1 (List.all_eq_true.1 k4 d hd) _ (qb8 hk)
      have hne:k'≠d:=by
       rintro rfl
       simp at h1
      exact h.injB k' d b b hne hl (hfl d hd) hB hB0 rfl
     have hal:∀d d',look g.ren d=some (some d')→Alike (O d') (upds (fun _=>Obj.no) os d):=fun d d' hd=>(R.obj d d' hd).2.2.2.1
     refine ⟨cms',os,?_,⟨c2 _ _ _ _ R (fun d y hd=>b2 d y hd) (fun d hd=>b3 d hd),R,?_,?_,?_,?_,?_,?_,?_,?_,hnd,o2,k2,?_,hfl,?_,?_,?_⟩⟩
     ·unfold Cut.put
      rw [ht0,c1]
      simp only [o1]
     ·intro d hd
      refine b2 d _ (a.ren d _ ?_)
      have:∀l:List Nat,d∈l→look (l.map fun d=>(d,some d)) d=some (some d):=by
       intro l
       induction l with
       |nil=>intro h;cases h
       |cons k l ih=>
        intro h
        rw [List.map_cons,qcC]
        by_cases hk:d=k
        ·rw [if_pos hk,hk]
        ·rw [if_neg hk]
         exact ih ((List.mem_cons.1 h).resolve_left hk)
      exact this fixed hd
     ·intro d
      constructor
      ·intro hd
       obtain ⟨y,hy⟩:=hkey2 d hd
       obtain ⟨dd,q1,_,_⟩:=o3 d y hy
       exact ⟨dd,q1⟩
      ·rintro ⟨dd,hd⟩
       obtain ⟨y,hy⟩:=hkeys d dd hd
       rw [hat d y hy]
       obtain ⟨dd',q1,q2,_⟩:=o3 d y hy
       rintro rfl
       cases dd'<;>exact q2.elim
     ·intro C2 hown d
      by_cases hd:upds (fun _=>Obj.no) os d=.no
      ·unfold ObjR;rw [hd];trivial
      ·obtain ⟨y,hy⟩:=hkey2 d hd
       obtain ⟨dd,q1,q2,q3⟩:=o3 d y hy
       have q4:=q3 _ _ _ _ R (fun k y hk=>hk) (fun k hk=>hk)
       unfold ObjR
       rw [hat d y hy]
       cases dd with
       |none=>
        cases y with
        |row e t xs fz=>
         refine ⟨by rw [q2.1];exact Nat.zero_le _,Or.inl ⟨?_,?_⟩⟩
         ·simp only [renG,q1]
         ·simp only [renG,q1]
        |deep v e e2 t xss pd=>
         refine ⟨by rw [q2.2.2];exact Nat.zero_le _,Or.inl ⟨?_,?_⟩⟩
         ·simp only [renG,q1]
         ·simp only [renG,q1]
        |_=>exact q2.elim
       |some d'=>
        obtain ⟨r1,r2,r3,r4,r5,r6⟩:=R.obj d d' q1
        cases y with
        |row e t xs fz=>
         obtain ⟨z1,rfl⟩:=q2
         obtain ⟨s0,s1⟩:=h.row z1
         refine ⟨by rw [r2];exact s0,?_⟩
         rcases s1 with ⟨s1,s2⟩|⟨b,o,arr,t',s1,s2,s3,s4,s5,s6,s7⟩
         ·exact Or.inl ⟨r2.trans s1,r1.trans s2⟩
         ·refine Or.inr ⟨b,o,arr,t',r1.trans s1,s2,by rw [r2];exact s3,s4.mono R.F (fun _ _=>rfl),hown d d' b q1 (by rw [z1];rfl) (Or.inl ⟨o,s1⟩),fun hz=>(by cases hz),fun _ hF=>?_⟩
          rcases hF with hF|⟨k,hk,hm⟩
          ·exact s7 rfl hF
          ·exact hfzB k hk b hm d d' q1 (by rw [z1];rfl) (Or.inl ⟨o,s1⟩)
        |box e cs=>
         obtain ⟨b,arr,s1,s2,s3,s4,s5⟩:=q4
         obtain ⟨cs0,z1,z2⟩:=q2
         refine ⟨b,arr,r1.trans s1,s2,s3,fun hF=>?_,hown d d' b q1 (by rw [z1];rfl) (Or.inl ⟨0,s1⟩)⟩
         rcases hF with hF|⟨k,hk,hm⟩
         ·exact s4 hF
         ·exact hfzB k hk b hm d d' q1 (by rw [z1];rfl) (Or.inl ⟨0,s1⟩)
        |caps cs=>
         show All2 _ cs ((renG G O g).cap d)
         rw [r3]
         exact q4
        |no=>exact q2.elim
        |dead=>trivial
        |fwd d v i t n=>exact q2.elim
        |deep v e e2 t xss pd=>
         obtain ⟨rfl,rfl,v',hdd⟩:=q2
         have hlv:(O d').live=true:=by rw [hdd];rfl
         obtain ⟨s0,s1⟩:=h.deep hdd
         have rs:(renG G O g).sub d 0=G.sub d' v':=by rw [r6,hdd];rfl
         refine ⟨by rw [r2];exact s0,?_⟩
         rcases s1 with ⟨s1,s2⟩|⟨b,o,arr,t',s1,s2,s3,s4,s5,s6⟩
         ·exact Or.inl ⟨r2.trans s1,r1.trans s2⟩
         ·refine Or.inr ⟨b,o,arr,t',r1.trans s1,s2,by rw [r2];exact s3,hown d d' b q1 hlv (Or.inl ⟨o,s1⟩),fun hF=>?_,?_⟩
          ·rcases hF with hF|⟨k,hk,hm⟩
           ·exact s5 hF
           ·exact hfzB k hk b hm d d' q1 hlv (Or.inl ⟨o,s1⟩)
          ·rw [rs]
           refine DeepR.mono (G:=G) (C:=C) (w:=w) R.F (fun _ _=>rfl) (fun j p hj ho hp=>?_) s6
           have hB:Bl G (O d') d' p.1:=by rw [hdd];exact Or.inr ⟨j,p.2,hj,trivial,hp⟩
           refine ⟨rfl,fun hF=>?_,fun _=>hown d d' p.1 q1 hlv hB⟩
           rcases hF with hF|⟨k,hk,hm⟩
           ·exact hF
           ·exact (hfzB k hk p.1 hm d d' q1 hlv hB).elim
        |mp es=>
         have hob:=h.ob d'
         unfold ObjR at hob
         rw [show O d'=.mp es from q2] at hob
         obtain ⟨b,arr,clock,s1,s2,s3,s4,s5⟩:=hob
         refine ⟨b,arr,clock,r1.trans s1,s2,s3,fun hF=>?_,hown d d' b q1 (by rw [show O d'=.mp es from q2];rfl) (Or.inl ⟨0,s1⟩)⟩
         rcases hF with hF|⟨k,hk,hm⟩
         ·exact s4 hF
         ·exact hfzB k hk b hm d d' q1 (by rw [show O d'=.mp es from q2];rfl) (Or.inl ⟨0,s1⟩)
     ·intro d1 d2 b1 b2' hne hl1 hl2 hm1 hm2
      have key:∀d b,(upds (fun _=>Obj.no) os d).live=true→Bl (renG G O g) (upds (fun _=>Obj.no) os d) d b→∃d',look g.ren d=some (some d')∧Bl G (O d') d' b:=by
       intro d b hl hB
       rcases hB with ⟨o,hm⟩|hB
       ·simp only [renG] at hm
        split at hm
        ·rename_i d' hd;exact ⟨d',hd,Or.inl ⟨o,hm⟩⟩
        ·cases hm
       ·obtain ⟨y,hy⟩:=hkey2 d (by intro e0;rw [e0] at hl;cases hl)
        rw [hat d y hy] at hB
        obtain ⟨dd,q1,q2,_⟩:=o3 d y hy
        cases y with
        |deep v e e2 t xss pd=>
         obtain ⟨j,p,hj,ho,hs⟩:=hB
         cases dd with
         |none=>exact absurd hj (by rw [q2.2.2];exact Nat.not_lt_zero _)
         |some d'=>
          obtain ⟨rfl,rfl,v',hdd⟩:=q2
          refine ⟨d',q1,?_⟩
          rw [hdd]
          have hs:(renG G O g).sub d 0 j=some (b,p):=hs
          rw [(R.obj d d' q1).2.2.2.2.2,hdd] at hs
          exact Or.inr ⟨j,p,hj,trivial,hs⟩
        |_=>exact hB.elim
      obtain ⟨e1,p1,p2⟩:=key d1 b1 hl1 hm1
      obtain ⟨e2,p3,p4⟩:=key d2 b2' hl2 hm2
      have hne':e1≠e2:=by
       rintro rfl
       exact hne (qds k2 (qb8 p1) (qb8 p3))
      have lv:∀d d',look g.ren d=some (some d')→(upds (fun _=>Obj.no) os d).live=true→(O d').live=true:=by
       intro d d' hd hl
       rw [←(hal d d' hd).same.1];exact hl
      exact h.injB e1 e2 b1 b2' hne' (lv _ _ p1 hl1) (lv _ _ p3 hl2) p2 p4
     ·rintro b (hb|⟨d,hd,hm⟩)
      ·exact h.F1 b hb
      ·exact (h.qbR (hfl d hd) hm).1
     ·rintro b (hb|⟨d,hd,hm⟩)
      ·exact Or.inl hb
      ·exact Or.inr (h.qbR (hfl d hd) hm).2.1
     ·intro d d' hd
      exact (hal d d' hd).same
     ·intro d
      constructor
      ·rintro ⟨y,hy⟩
       obtain ⟨dd,q1,_,_⟩:=o3 d y hy
       exact ⟨dd,q1⟩
      ·rintro ⟨dd,hd⟩
       exact hkeys d dd hd
     ·rintro k hk d d' hd rfl
      have h1:=List.all_eq_true.1 (List.all_eq_true.1 k4 d' hk) _ (qb8 hd)
      simp at h1
     ·intro d e t xs f hd
      obtain ⟨y,hy⟩:=hkey2 d (by rw [hd];simp)
      obtain ⟨dd,q1,q2,_⟩:=o3 d y hy
      rw [hat d y hy] at hd
      subst hd
      cases dd with
      |none=>exact q2.2
      |some d'=>exact q2.2
     ·intro d d' v e e2 t xss pd hd hO
      obtain ⟨y,hy⟩:=hkeys d _ hd
      obtain ⟨dd,q1,q2,_⟩:=o3 d y hy
      rw [hd] at q1
      cases q1
      rw [hat d y hy]
      cases y with
      |deep v1 e1 e3 t1 xss1 pd1=>
       obtain ⟨rfl,rfl,v',q4⟩:=q2
       rw [hO] at q4
       cases q4
       exact ⟨rfl,rfl⟩
      |row e t xs fz=>obtain ⟨q4,_⟩:=q2;rw [hO] at q4;cases q4
      |box e cs=>obtain ⟨_,q4,_⟩:=q2;rw [hO] at q4;cases q4
      |caps cs=>obtain ⟨_,q4⟩:=q2;rw [hO] at q4;cases q4
      |no=>exact q2.elim
      |dead=>have q4:O d'=.dead:=q2;rw [hO] at q4;cases q4
      |mp es=>have q4:O d'=.mp es:=q2;rw [hO] at q4;cases q4
      |fwd d v i t n=>exact q2.elim
     ·intro d v e e2 t xss pd hd
      obtain ⟨y,hy⟩:=hkey2 d (by rw [hd];simp)
      obtain ⟨dd,q1,q2,_⟩:=o3 d y hy
      rw [hat d y hy] at hd
      subst hd
      cases dd with
      |none=>exact ⟨q2.1,q2.2.1⟩
      |some d'=>exact ⟨q2.1,q2.2.1⟩
    ·cases e
   ·cases e
  ·cases e
 ·cases e
end
end Go.Proofs.YtfobeapcmgjhbaaGreatDoor.VE
namespace Go.Proofs.YtfobeapcmgjhbaaGreatDoor.VE
open Go Go.RowKit
section
variable {P:Program} {C:Ctx} {G G':Gh} {O O':Nat→Obj} {w w':World}
def ctxOf (w:World) (G:Gh) (O:Nat→Obj) (fx kx:List Nat):Ctx where
 base:=w.heap.size
 F0:=G.F
 W0:=fun b=>∃d,(O d).live=true∧Bl G (O d) d b
 w0:=w
 fx:=fx
 G0:=G
 n0:=fun d=>(O d).len
 kx:=kx
 l0:=fun d i=>match O d with
  |.deep _ _ _ _ xss _=>(xss[i]?).map List.length
  |_=>none
def OSh.qfE:OSh→Bool
 |.caps _=>true
 |_=>false
def fxOf:List (Nat×OSh)→List Nat
 |[]=>[]
 |(d,s)::l=>bif s.qfE then fxOf l else d::fxOf l
abbrev ofL (os:List (Nat×Obj)):Nat→Obj:=upds (fun _=>.no) os
def qgb:List Value→Value
 |[v]=>v
 |vs=>.tuple vs.toArray
def qaj (P:Program) (f:FuncId) (con:Con):Prop:=
 ∀x y,con.sem x=some y→∀(G:Gh) (cms:List Cm) (os:List (Nat×Obj)) (w:World) (vals:Array Value),con.cin.put x=some (cms,os)→
  Core (ctxOf w G (ofL os) (fxOf con.cin.objs) con.kx) G (ofL os) w→All2 (CmR G (ofL os) w) cms vals.toList→
  Calls P f vals w fun e w'=>∃vs G' cms' os',e=.returned (qgb vs)∧con.cout.put y=some (cms',os')∧Core (ctxOf w G (ofL os) (fxOf con.cin.objs) con.kx) G' (ofL os') w'∧All2 (CmR G' (ofL os') w') cms' vs
theorem Rep.flat {F F':Nat→Prop}:∀{t:Ty} {x:t.T} {cs:List Value},t.flat=true→Rep F w t x cs→Rep F' w t x cs
 |.int _,_,_,_,h=>h
 |.bool,_,_,_,h=>h
 |.str,_,_,_,h=>h
 |.list _ _,_,_,hf,_=>by cases hf
 |.pair a b,_,_,hf,⟨c0,c1,h,h0,h1⟩=>by
  unfold Ty.flat at hf
  simp only [Bool.and_eq_true] at hf
  exact ⟨c0,c1,h,Rep.flat hf.1 h0,Rep.flat hf.2 h1⟩
 |.unit,_,_,_,h=>h
 |.fn _,_,_,_,h=>h
structure Rn (G:Gh) (O:Nat→Obj) (G':Gh) (O':Nat→Obj) (τ:Nat→Nat) (p:Nat→Bool):Prop where
 obj:∀d,p d=true→O d≠.no→Alike (O d) (O' (τ d))∧G'.m (τ d)=G.m d∧G'.cp (τ d)=G.cp d
 caps:∀d cs,O d≠.caps cs
theorem LfR.rn {τ:Nat→Nat} {p:Nat→Bool} (R:Rn G O G' O' τ p) {x:Lf} {v:Value} (hF:(∀b,G.F b→G'.F b)∨x.flat=true) (hp:x.okIds p=true) (h:LfR G O w x v):LfR G' O' w (renL τ x) v:=by
 refine ⟨h.1,?_⟩
 have k:=h.2
 cases x with
 |v t x=>
  rcases hF with hF|hF
  ·exact Rep.mono hF (fun _ _=>rfl) (show Rep G.F w t x [v] from k)
  ·exact Rep.flat hF (show Rep G.F w t x [v] from k)
 |e t x c=>
  rcases hF with hF|hF
  ·obtain ⟨b,o,cs,h1,h2,h3,h4⟩:=k
   exact ⟨b,o,cs,hF b h1,h2.mono hF (fun _ _=>rfl),h3,h4⟩
  ·cases hF
 |o d=>
  have k':OnRow (O d) (fun t n=>HdR G d t.sz n 0 n v):=k
  obtain ⟨a,r1,r2⟩:=R.obj d hp k'.ne
  show OnRow (O' (τ d)) (fun t n=>HdR G' (τ d) t.sz n 0 n v)
  refine a.row k' (fun t n hh=>?_)
  unfold HdR at hh ⊢
  rw [r1,r2];exact hh
 |os d off len=>
  have k':OnRow (O d) (fun t n=>HdR G d t.sz n off len v):=k
  obtain ⟨a,r1,r2⟩:=R.obj d hp k'.ne
  show OnRow (O' (τ d)) (fun t n=>HdR G' (τ d) t.sz n off len v)
  refine a.row k' (fun t n hh=>?_)
  unfold HdR at hh ⊢
  rw [r1,r2];exact hh
 |p d c=>
  have k':OnBox (O d) (∃b o,G.m d=some (b,o)∧v=.pointer (some ⟨b,o+c,none⟩)):=k
  obtain ⟨a,r1,r2⟩:=R.obj d hp k'.ne
  show OnBox (O' (τ d)) (∃b o,G'.m (τ d)=some (b,o)∧v=.pointer (some ⟨b,o+c,none⟩))
  exact a.box k' (fun hh=>by rw [r1];exact hh)
 |oe d i c=>
  have k':=k
  rw [qdF] at k'
  obtain ⟨a,r1,r2⟩:=R.obj d hp k'.ne
  show LfB G' O' w (.oe (τ d) i c) v
  rw [qdF]
  refine a.row k' (fun t n hh=>?_)
  rw [r1];exact hh
 |fn f d=>
  have k':qcf (O d) (v=.func (.func f) #[] (G.cap d).toArray):=k
  cases hd:O d with
  |caps cs=>exact absurd hd (R.caps d cs)
  |dead=>
   obtain ⟨a,_⟩:=R.obj d hp (by rw [hd];simp)
   rw [hd] at a
   show qcf (O' (τ d)) _
   cases hd':O' (τ d) with
   |dead=>trivial
   |_=>rw [hd'] at a;exact a.elim
  |_=>rw [hd] at k';exact k'.elim
 |m d=>
  have k':OnMap (O d) (∃b,G.m d=some (b,0)∧v=.map (some b)):=k
  obtain ⟨a,r1,r2⟩:=R.obj d hp k'.ne
  show OnMap (O' (τ d)) (∃b,G'.m (τ d)=some (b,0)∧v=.map (some b))
  exact a.map k' (fun hh=>by rw [r1];exact hh)
 |ap d=>
  have k':OnRow (O d) (fun _ n=>0<n∧n=G.cp d∧∃b o,G.m d=some (b,o)∧v=.pointer (some ⟨b,o,none⟩)):=k
  obtain ⟨a,r1,r2⟩:=R.obj d hp k'.ne
  show OnRow (O' (τ d)) (fun _ n=>0<n∧n=G'.cp (τ d)∧∃b o,G'.m (τ d)=some (b,o)∧v=.pointer (some ⟨b,o,none⟩))
  refine a.row k' (fun t n hh=>?_)
  rw [r1,r2];exact hh
 |oh d v i=>cases hp
 |oi d v i j c=>cases hp
 |ohs d v i off len=>cases hp
 |sb d n=>cases hp
 |u=>exact trivial
 |bl b=>exact k
 |b p i=>exact k
 |nb p i=>exact k
 |q n p i=>exact k
 |nils=>exact k
 |np=>exact k
 |fn0 f=>exact k
theorem All2.qe0 {α β γ:Type} {R:α→β→Prop} {R':γ→β→Prop} (f:α→γ):∀{l:List α} {m:List β},(∀x∈l,∀y,R x y→R' (f x) y)→All2 R l m→All2 R' (l.map f) m
 |[],[],_,_=>trivial
 |x::l,y::m,hf,h=>⟨hf x List.mem_cons_self y h.1,All2.qe0 f (fun z hz=>hf z (List.mem_cons_of_mem _ hz)) h.2⟩
 |[],_::_,_,h=>h.elim
 |_::_,[],_,h=>h.elim
theorem CmR.rn {τ:Nat→Nat} {p:Nat→Bool} (R:Rn G O G' O' τ p) {x:Cm} {v:Value} (hF:(∀b,G.F b→G'.F b)∨x.flat=true) (hp:x.okIds p=true) (h:CmR G O w x v):CmR G' O' w (renC τ x) v:=by
 cases x with
 |u=>trivial
 |l y=>exact LfR.rn R hF hp h
 |a xs=>
  obtain ⟨cs,rfl,h⟩:=h
  refine ⟨cs,rfl,h.qe0 _ fun y hy v hv=>LfR.rn R (hF.imp id fun hf=>?_) ?_ hv⟩
  ·exact List.all_eq_true.1 hf y hy
  ·exact List.all_eq_true.1 hp y hy
theorem fx_mem:∀{l:List (Nat×OSh)} {d:Nat},d∈fxOf l→d∈l.map (·.1)
 |(a,s)::l,d,h=>by
  unfold fxOf at h
  rw [List.map_cons]
  cases hs:s.qfE with
  |true=>
   rw [hs] at h
   exact List.mem_cons_of_mem _ (fx_mem (l:=l) h)
  |false=>
   rw [hs] at h
   rcases List.mem_cons.1 h with rfl|h
   ·exact List.mem_cons_self
   ·exact List.mem_cons_of_mem _ (fx_mem h)
theorem call_in (kx:List Nat) {c:Cut} {g:Gr} {cms:List Cm} {os:List (Nat×Obj)} {vs:List Value} (V:View C G O w c [] g cms os vs) :
  Core (ctxOf w (renG G O g) (ofL os) (fxOf c.objs) kx) (renG G O g) (ofL os) w where
 ob:=V.objs _ (fun d d' b hd hl hB=>Or.inr ⟨d,by rw [(V.live d d' hd).1];exact hl,(V.bl hd).1 hB⟩)
 injB:=V.inj
 F1:=V.F1
 F2 _ h:=h
 F3 _ h:=Or.inl h
 keep:=Keeps.refl _ _ _
 size:=Nat.le_refl _
 fix d hd:=⟨(V.keys d).2 ((V.keysd d).1 (by
  have:=fx_mem hd
  rw [←V.names] at this
  obtain ⟨⟨d',y⟩,hy,rfl⟩:=List.mem_map.1 this
  exact ⟨y,hy⟩)),fun _=>⟨rfl,rfl,rfl⟩⟩
 kept d v e e2 t xss pd _ _ hO:=⟨rfl,fun _ i=>by
  show _=(match ofL os d with
   |.deep _ _ _ _ xss _=>(xss[i]?).map List.length
   |_=>none)
  rw [hO]⟩
theorem qbM {α:Type}:∀(l:List (Nat×α)) (f:Nat→α) (k:Nat),(k∉l.map (·.1)∧upds f l k=f k)∨∃v,(k,v)∈l∧upds f l k=v
 |[],f,k=>Or.inl ⟨by simp,rfl⟩
 |(d,v)::l,f,k=>by
  rcases qbM l (upd f d v) k with ⟨h1,h2⟩|⟨v',h1,h2⟩
  ·by_cases hk:k=d
   ·subst hk
    exact Or.inr ⟨v,List.mem_cons_self,by show upds (upd f k v) l k=v;rw [h2,qad]⟩
   ·refine Or.inl ⟨?_,by show upds (upd f d v) l k=f k;rw [h2,upd_ne _ _ hk]⟩
    rw [List.map_cons,List.mem_cons,not_or]
    exact ⟨hk,h1⟩
  ·exact Or.inr ⟨v',List.mem_cons_of_mem _ h1,h2⟩
theorem qcQ {kx:List Nat} {O:Nat→Obj} {ren:List (Nat×Option Nat)} {dst:Nat} {τ:Nat→Nat}:∀{os:List (Nat×Obj)} {k:Nat} {z:Obj},(k,z)∈qbU kx O ren dst τ os↔∃d y,(d,y)∈os∧look ren d≠some none∧k=τ d∧z=bumpO (kx.contains d) (O (τ d)) (renO τ y)
 |[],k,z=>by simp [qbU]
 |(d,y)::os,k,z=>by
  unfold qbU
  split
  ·rename_i h
   rw [qcQ]
   constructor
   ·rintro ⟨d',y',h1,h2⟩
    exact ⟨d',y',List.mem_cons_of_mem _ h1,h2⟩
   ·rintro ⟨d',y',h1,h2,h3⟩
    rcases List.mem_cons.1 h1 with h1|h1
    ·cases h1;exact absurd h h2
    ·exact ⟨d',y',h1,h2,h3⟩
  ·rename_i h
   rw [List.mem_cons,qcQ]
   constructor
   ·rintro (h1|⟨d',y',h1,h2⟩)
    ·cases h1
     exact ⟨d,y,List.mem_cons_self,fun e=>h e,rfl,rfl⟩
    ·exact ⟨d',y',List.mem_cons_of_mem _ h1,h2⟩
   ·rintro ⟨d',y',h1,h2,h3,h4⟩
    rcases List.mem_cons.1 h1 with h1|h1
    ·cases h1
     exact Or.inl (by rw [h3,h4])
    ·exact Or.inr ⟨d',y',h1,h2,h3,h4⟩
theorem qcy (b:Bool) (o y:Obj):bumpO b o y=y∨∃v e e2 t xss pd u e' e2' t' xss' pd',o=.deep v e e2 t xss pd∧y=.deep u e' e2' t' xss' pd'∧bumpO b o y=.deep (bif b then v else v+1) e' e2' t' xss' pd':=by
 cases o<;>first|exact Or.inl rfl|skip
 cases y<;>first|exact Or.inl rfl|skip
 exact Or.inr ⟨_,_,_,_,_,_,_,_,_,_,_,_,rfl,rfl,rfl⟩
theorem qfU (b:Bool) (o y:Obj):(bumpO b o y).live=y.live:=by
 rcases qcy b o y with h|⟨_,_,_,_,_,_,_,_,_,_,_,_,_,rfl,h⟩<;>rw [h]<;>rfl
theorem bump_len (b:Bool) (o y:Obj):(bumpO b o y).len=y.len:=by
 rcases qcy b o y with h|⟨_,_,_,_,_,_,_,_,_,_,_,_,_,rfl,h⟩<;>rw [h]<;>rfl
theorem RowAt.rn {F F':Nat→Prop} {t:Ty} {xs:List t.T} {arr:Array Value} {o:Nat} (hf:(∀b,F b→F' b)∨t.flat=true) (h:RowAt F w t xs arr o):RowAt F' w t xs arr o:=by
 intro j x hj
 obtain ⟨ce,c1,c2,c3⟩:=h j x hj
 refine ⟨ce,c1,?_,c3⟩
 rcases hf with hf|hf
 ·exact c2.mono hf (fun _ _=>rfl)
 ·exact c2.flat hf
theorem qdo.rn {C2:Ctx} {t:Ty} {x:List t.T} {p:Option (Nat×Nat×Nat)} (hf:(∀b,G.F b→G'.F b)∨t.flat=true) (hb:∀b,G'.F b→G.F b) (ho:∀b,own C b→own C2 b) (h:qdo C G w t x p):qdo C2 G' w t x p:=by
 cases p with
 |none=>exact h
 |some q=>
  obtain ⟨b,o,c⟩:=q
  obtain ⟨h1,h2,arr,e,h3,h4,h5,h6,h7⟩:=h
  exact ⟨h1,h2,arr,e,h3,h4,h5.rn hf,ho _ h6,fun hF=>h7 (hb _ hF)⟩
open Classical in
noncomputable def backF {α:Type} (D:Nat→Nat→Prop) (f2 f:Nat→α) (k:Nat):α:=if h:∃d,D d k then f2 (Classical.choose h) else f k
theorem backF_in {α:Type} {D:Nat→Nat→Prop} {f2 f:Nat→α} {d k:Nat} (hi:∀a b,D a k→D b k→a=b) (h:D d k):backF D f2 f k=f2 d:=by
 have hx:∃d,D d k:=⟨d,h⟩
 unfold backF
 rw [dif_pos hx,hi _ _ (Classical.choose_spec hx) h]
theorem qfW {α:Type} {D:Nat→Nat→Prop} {f2 f:Nat→α} {k:Nat} (h:¬∃d,D d k):backF D f2 f k=f k:=by
 unfold backF
 rw [dif_neg h]
theorem resSV_R {G:Gh} {O:Nat→Obj} {w:World}:∀{cms:List Cm} {vs:List Value},All2 (CmR G O w) cms vs→SVR G O w (resSV cms) (qgb vs)
 |[],[],_=>⟨#[],rfl,trivial⟩
 |[_],[_],h=>h.1
 |_::_::_,_::_::_,h=>⟨_,rfl,h⟩
 |[],_::_,h=>h.elim
 |_::_,[],h=>h.elim
 |[_],_::_::_,h=>h.2.elim
 |_::_::_,[_],h=>h.2.elim
theorem qeN:∀{ds:List Nat} {wr:List (Nat×Obj)},freeze O ds=some wr→∀k v,(k,v)∈wr→v.qea=false
 |[],_,e,_,_,h=>by cases e;cases h
 |d::ds,wr,e,k,v,h=>by
  unfold freeze at e
  split at e
  ·rename_i e' t xs f l h1 h2
   cases e
   rcases List.mem_cons.1 h with h|h
   ·cases h;rfl
   ·exact qeN h2 k v h
  ·cases e
theorem qfJ:∀{ds:List Nat} {wr:List (Nat×Obj)},freeze O ds=some wr→∀d∈ds,(O d).qea=false
 |[],wr,e,d,h=>by cases h
 |k::ds,wr,e,d,h=>by
  unfold freeze at e
  split at e
  ·rename_i e' t xs f l h1 h2
   rcases List.mem_cons.1 h with rfl|h
   ·rw [h1];rfl
   ·exact qfJ h2 d h
  ·cases e
theorem call_out (h:Core C G O w) {c:Cut} {kx:List Nat} {g:Gr} {cms1 cms2:List Cm} {os1 os2 fz:List (Nat×Obj)} {vals vs:List Value} {G2:Gh} {w2:World} {dst:Nat} (rd:List Nat) (V:View C G O w c [] g cms1 os1 vals)
  (h2:Core (ctxOf w (renG G O g) (ofL os1) (fxOf c.objs) kx) G2 (ofL os2) w2) (hr:All2 (CmR G2 (ofL os2) w2) cms2 vs) (hok:qgt O g.ren dst cms2 os2=true) (hlv:∀d,(ofL os1 d).live=true→d∈fxOf c.objs)
  (hunf:∀d e t xs f,(d,Obj.row e t xs f)∈os2→f=false) (hver:∀d v e e2 t xss pd,(d,Obj.deep v e e2 t xss pd)∈os2→v=0) (hfz:(bif cms2.all Cm.flat && os2.all (fun o=>o.2.flat) then some [] else freeze O g.fz)=some fz) :
  StepR C G O w ⟨resSV (cms2.map (renC (qaB g.ren dst))),rd,fz++qbU kx O g.ren dst (qaB g.ren dst) os2⟩ (qgb vs) w2:=by
 unfold qgt at hok
 simp only [Bool.and_eq_true] at hok
 obtain ⟨⟨hnd,hcm⟩,hos⟩:=hok
 have hos':∀d y,(d,y)∈os2→y.okIds (fun d=>match look g.ren d with|some none=>false|_=>true)=true∧(match look g.ren d with|some (some d')=>kindB (O d') y|some none=>true|none=>isNo (O ((dst+1)*1000+d)))=true:=by
  intro d y hy
  have:=List.all_eq_true.1 hos _ hy
  simp only [Bool.and_eq_true] at this
  exact this
 have hat:∀d y,(d,y)∈os2→ofL os2 d=y:=fun d y hy=>upds_in hnd hy
 -- the objects' numbers
 have hO:∀d d',look g.ren d=some (some d')→O d'≠.no:=by
  intro d d' hd
  have:=(V.ren.obj d d' hd).2.2.2.1
  intro e
  rw [e] at this
  cases q:upds (fun _=>Obj.no) os1 d<;>rw [q] at this<;>exact this
 have tinj:∀d y d' y',(d,y)∈os2→(d',y')∈os2→look g.ren d≠some none→look g.ren d'≠some none→qaB g.ren dst d=qaB g.ren dst d'→d=d':=by
  intro d y d' y' hy hy' hn hn' he
  have q1:=(hos' d y hy).2
  have q2:=(hos' d' y' hy').2
  unfold qaB at he
  cases l1:look g.ren d with
  |none=>
   rw [l1] at he q1
   cases l2:look g.ren d' with
   |none=>
    rw [l2] at he
    simp only at he
    omega
   |some z=>
    cases z with
    |none=>exact absurd l2 hn'
    |some a=>
     rw [l2] at he
     simp only at he q1
     rw [he] at q1
     have:=hO d' a l2
     cases q:O a<;>rw [q] at q1 this<;>first|exact absurd rfl this|cases q1
  |some z=>
   cases z with
   |none=>exact absurd l1 hn
   |some a=>
    rw [l1] at he q1
    cases l2:look g.ren d' with
    |none=>
     rw [l2] at he q2
     simp only at he q2
     rw [←he] at q2
     have:=hO d a l1
     cases q:O a<;>rw [q] at q2 this<;>first|exact absurd rfl this|cases q2
    |some z'=>
     cases z' with
     |none=>exact absurd l2 hn'
     |some b=>
      rw [l2] at he
      simp only at he
      subst he
      exact qds V.rnd (qb8 l1) (qb8 l2)
 -- what stands
 obtain ⟨Ff,F3,A1,A2,A3,A4,A5,A6,A7,A8⟩:∃Ff F3:Nat→Prop,Core C {G with F:=Ff} (upds O fz) w∧Ext G O w {G with F:=Ff} (upds O fz) w∧(∀k,k∉g.fz→upds O fz k=O k)∧(∀b,Ff b→F3 b)∧(∀b,F3 b→G2.F b)∧
   (∀b,F3 b→Ff b∨own (ctxOf w (renG G O g) (ofL os1) (fxOf c.objs) kx) b)∧((∀b,G2.F b→F3 b)∨(cms2.all Cm.flat=true∧os2.all (fun o=>o.2.flat)=true))∧(∀b,Ff b→(renG G O g).F b):=by
  cases hfl:(cms2.all Cm.flat && os2.all (fun o=>o.2.flat)) with
  |true=>
   rw [hfl] at hfz
   cases hfz
   simp only [Bool.and_eq_true] at hfl
   exact ⟨G.F,G.F,h,Ext.refl _ _ _,fun _ _=>rfl,fun _ h=>h,fun b hb=>h2.F2 b (V.ren.F b hb),fun b hb=>Or.inl hb,Or.inr hfl,V.ren.F⟩
  |false=>
   rw [hfl] at hfz
   obtain ⟨k1,k2⟩:=qdy h (show freeze O g.fz=some fz from hfz)
   have hrw:=qfJ (show freeze O g.fz=some fz from hfz)
   exact ⟨FzF G g.fz,G2.F,k1,k2,fun k hk=>qcw hfz k hk,fun b hb=>h2.F2 b (hb.imp id (fun ⟨d,hd,o,hm⟩=>⟨d,hd,Or.inl ⟨o,hm⟩⟩)),fun _ h=>h,fun b hb=>(h2.F3 b hb).imp (fun hb=>hb.imp id (fun ⟨d,hd,hB⟩=>⟨d,hd,hB.plain (hrw d hd)⟩)) id,Or.inl (fun _ h=>h),fun b h=>h.imp id (fun ⟨d,hd,o,hm⟩=>⟨d,hd,Or.inl ⟨o,hm⟩⟩)⟩
 have hfp:∀k v,(k,v)∈fz→v.qea=false:=by
  intro k v hv
  cases hfl:(cms2.all Cm.flat && os2.all (fun o=>o.2.flat)) with
  |true=>rw [hfl] at hfz;cases hfz;cases hv
  |false=>rw [hfl] at hfz;exact qeN (show freeze O g.fz=some fz from hfz) k v hv
 -- the objects behind the call
 let D:Nat→Nat→Prop:=fun d k=>∃y,(d,y)∈os2∧look g.ren d≠some none∧qaB g.ren dst d=k
 have Dinj:∀k a b,D a k→D b k→a=b:=by
  rintro k a b ⟨y,h1,h2,h3⟩ ⟨y',h1',h2',h3'⟩
  exact tinj a y b y' h1 h1' h2 h2' (h3.trans h3'.symm)
 have L1:∀d y,(d,y)∈os2→look g.ren d≠some none→upds (upds O fz) (qbU kx O g.ren dst (qaB g.ren dst) os2) (qaB g.ren dst d)=bumpO (kx.contains d) (O (qaB g.ren dst d)) (renO (qaB g.ren dst) y):=by
  intro d y hy hn
  have hm:(qaB g.ren dst d,bumpO (kx.contains d) (O (qaB g.ren dst d)) (renO (qaB g.ren dst) y))∈qbU kx O g.ren dst (qaB g.ren dst) os2:=qcQ.2 ⟨d,y,hy,hn,rfl,rfl⟩
  rcases qbM (qbU kx O g.ren dst (qaB g.ren dst) os2) (upds O fz) (qaB g.ren dst d) with ⟨h1,_⟩|⟨v,h1,h2⟩
  ·exact absurd (List.mem_map.2 ⟨_,hm,rfl⟩) h1
  ·obtain ⟨d',y',q1,q2,q3,q4⟩:=qcQ.1 h1
   have:d=d':=tinj d y d' y' hy q1 hn q2 q3
   subst this
   rw [h2,q4,←hat d y hy,hat d y' q1]
 have L2:∀k,(¬∃d,D d k)→upds (upds O fz) (qbU kx O g.ren dst (qaB g.ren dst) os2) k=upds O fz k:=by
  intro k hk
  rcases qbM (qbU kx O g.ren dst (qaB g.ren dst) os2) (upds O fz) k with ⟨_,h2⟩|⟨v,h1,_⟩
  ·exact h2
  ·obtain ⟨d',y',q1,q2,q3,_⟩:=qcQ.1 h1
   exact absurd ⟨d',y',q1,q2,q3.symm⟩ hk
 have hbound:∀d d',look g.ren d=some (some d')→qaB g.ren dst d=d':=by
  intro d d' hd
  unfold qaB
  rw [hd]
 have hfresh:∀d y,(d,y)∈os2→look g.ren d=none→upds O fz (qaB g.ren dst d)=.no:=by
  intro d y hy hd
  have q:=(hos' d y hy).2
  rw [hd] at q
  have hi:qaB g.ren dst d=(dst+1)*1000+d:=by unfold qaB;rw [hd]
  have hno:O (qaB g.ren dst d)=.no:=by
   rw [hi]
   simp only at q
   cases e:O ((dst+1)*1000+d)<;>rw [e] at q<;>first|rfl|cases q
  rw [A3 _ (fun hk=>by have:=V.fzl _ hk;rw [hno] at this;cases this)]
  exact hno
 have hbnd:∀d d',look g.ren d=some (some d')→upds O fz d'=O d':=fun d d' hd=>A3 d' (fun hk=>V.disj d' hk d d' hd rfl)
 -- blocks that the callee may write
 have hW:∀b,(ctxOf w (renG G O g) (ofL os1) (fxOf c.objs) kx).W0 b→∃d d',look g.ren d=some (some d')∧(O d').live=true∧Bl G (O d') d' b∧¬(renG G O g).F b∧∃y,(d,y)∈os2:=by
  rintro b ⟨d,hl,hB⟩
  obtain ⟨dd,hd⟩:=(V.keys d).1 (by intro e;rw [show ofL os1 d=.no from e] at hl;cases hl)
  have hout:∃y,(d,y)∈os2:=by
   have hfx:=hlv d hl
   obtain ⟨f1,_⟩:=h2.fix d hfx
   by_cases hm:d∈os2.map (·.1)
   ·obtain ⟨⟨d0,y⟩,hy,rfl⟩:=List.mem_map.1 hm
    exact ⟨y,hy⟩
   ·exact absurd (qbA hm) f1
  have hnF:¬(renG G O g).F b:=by
   have hob:=(call_in kx V).ob d
   unfold ObjR at hob
   cases q:ofL os1 d with
   |no=>rw [q] at hl;cases hl
   |dead=>rw [q] at hl;cases hl
   |caps cs=>rw [q] at hl;cases hl
   |fwd a1 a2 a3 a4 a5=>rw [q] at hl;cases hl
   |deep v e e2 t xss pd=>exact ((call_in kx V).qbR hl hB).2.2 ⟨_,_,_,_,_,_,q⟩
   |mp es=>
    rw [q] at hob hB
    obtain ⟨o,hm'⟩:=hB.plain rfl
    obtain ⟨b',arr,clock,s1,_,_,s4,_⟩:=hob
    rw [hm'] at s1
    cases s1
    exact s4
   |box e cs=>
    rw [q] at hob hB
    obtain ⟨o,hm'⟩:=hB.plain rfl
    obtain ⟨b',arr,s1,_,_,s4,_⟩:=hob
    rw [hm'] at s1
    cases s1
    exact s4
   |row e t xs f=>
    rw [q] at hob hB
    obtain ⟨o,hm'⟩:=hB.plain rfl
    rcases hob.2 with ⟨_,s1⟩|⟨b',o',arr,t',s1,_,_,_,_,s6,s7⟩
    ·rw [hm'] at s1;cases s1
    ·rw [hm'] at s1
     cases s1
     cases f with
     |false=>exact s7 rfl
     |true=>exact absurd (V.unfz d e t xs true q) (by simp)
  cases dd with
  |some d'=>exact ⟨d,d',hd,by rw [←(V.live d d' hd).1];exact hl,(V.bl hd).2 hB,hnF,hout⟩
  |none=>
   obtain ⟨r1,r2,r3⟩:=V.ren.nil d hd
   rcases hB with ⟨o,hm⟩|hB
   ·rw [r2] at hm;cases hm
   ·rcases r1 with ⟨e,t,r1⟩|⟨e,e2,t,r1⟩
    ·rw [show ofL os1 d=_ from r1] at hB;exact hB.elim
    ·rw [show ofL os1 d=_ from r1] at hB
     obtain ⟨j,p,hj,_⟩:=hB
     exact absurd hj (Nat.not_lt_zero _)
 have hkeep:∀b,b<w.heap.size→¬(ctxOf w (renG G O g) (ofL os1) (fxOf c.objs) kx).W0 b→w2.heap[b]?=w.heap[b]?:=fun b hb hn=>h2.keep.block b hb hn
 have hFf:∀b,Ff b→w2.heap[b]?=w.heap[b]?:=fun b hb=>hkeep b (A1.F1 b hb) (fun hw=>by
  obtain ⟨d,d',_,_,_,hnF,_⟩:=hW b hw
  exact hnF (A8 b hb))
 have hsub:∀k,upds O fz k≠.no→O k≠.no:=by
  intro k hk e
  rw [A3 k (fun hm=>by have:=V.fzl k hm;rw [e] at this;cases this)] at hk
  exact hk e
 -- what is known behind the call
 let O3:Nat→Obj:=upds (upds O fz) (qbU kx O g.ren dst (qaB g.ren dst) os2)
 let G3:Gh:={F:=F3,m:=backF D G2.m G.m,cp:=backF D G2.cp G.cp,cap:=G.cap,sub:=backF D (fun d=>upd (G.sub (qaB g.ren dst d)) (O3 (qaB g.ren dst d)).ver (G2.sub d (ofL os2 d).ver)) G.sub}
 have hD:∀d y,(d,y)∈os2→look g.ren d≠some none→D d (qaB g.ren dst d):=fun d y hy hn=>⟨y,hy,hn,rfl⟩
 have m3:∀d y,(d,y)∈os2→look g.ren d≠some none→G3.m (qaB g.ren dst d)=G2.m d∧G3.cp (qaB g.ren dst d)=G2.cp d:=fun d y hy hn=>
  ⟨backF_in (Dinj _) (hD d y hy hn),backF_in (Dinj _) (hD d y hy hn)⟩
 have m0:∀k,(¬∃d,D d k)→G3.m k=G.m k∧G3.cp k=G.cp k∧G3.sub k=G.sub k:=fun k hk=>⟨qfW hk,qfW hk,qfW (f2:=fun d=>upd (G.sub (qaB g.ren dst d)) (O3 (qaB g.ren dst d)).ver (G2.sub d (ofL os2 d).ver)) (f:=G.sub) hk⟩
 have m3s:∀d y,(d,y)∈os2→look g.ren d≠some none→G3.sub (qaB g.ren dst d)=upd (G.sub (qaB g.ren dst d)) (O3 (qaB g.ren dst d)).ver (G2.sub d y.ver):=fun d y hy hn=>by
  have e:G3.sub (qaB g.ren dst d)=upd (G.sub (qaB g.ren dst d)) (O3 (qaB g.ren dst d)).ver (G2.sub d (ofL os2 d).ver):=backF_in (f2:=fun d=>upd (G.sub (qaB g.ren dst d)) (O3 (qaB g.ren dst d)).ver (G2.sub d (ofL os2 d).ver)) (f:=G.sub) (Dinj _) (hD d y hy hn)
  rw [e,hat d y hy]
 have isd:∀d y,(d,y)∈os2→∀v e e2 t xss pd,y=.deep v e e2 t xss pd→pd=.ok:=fun d y hy v e e2 t xss pd e0=>by
  have hyo:=(hos' d y hy).1
  rw [e0] at hyo
  cases pd<;>first|rfl|cases hyo
 have bl3:∀d y b,(d,y)∈os2→look g.ren d≠some none→Bl G3 (O3 (qaB g.ren dst d)) (qaB g.ren dst d) b→Bl G2 (ofL os2 d) d b:=by
  intro d y b hy hn hB
  have hyo:=(hos' d y hy).1
  rw [hat d y hy]
  have e3:=L1 d y hy hn
  rcases hB with ⟨p,hp⟩|hB
  ·exact Or.inl ⟨p,(m3 d y hy hn).1.symm.trans hp⟩
  ·have e4:O3 (qaB g.ren dst d)=bumpO (kx.contains d) (O (qaB g.ren dst d)) (renO (qaB g.ren dst) y):=e3
   have ms:=m3s d y hy hn
   cases y with
   |deep u e e2 t xss pd=>
    obtain rfl:=isd d _ hy _ _ _ _ _ _ rfl
    have e5:∃u',O3 (qaB g.ren dst d)=.deep u' e e2 t xss .ok:=by
     rw [e4]
     rcases qcy (kx.contains d) (O (qaB g.ren dst d)) (renO (qaB g.ren dst) (.deep u e e2 t xss .ok)) with h|⟨_,_,_,_,_,_,_,_,_,_,_,_,_,h0,h⟩
     ·exact ⟨u,h⟩
     ·cases h0
      exact ⟨_,h⟩
    obtain ⟨u',e5⟩:=e5
    rw [e5] at hB ms
    obtain ⟨j,p,hj,ho,hs⟩:=hB
    rw [ms] at hs
    rw [show (Obj.deep u' e e2 t xss Pend.ok).ver=u' from rfl,qad] at hs
    exact Or.inr ⟨j,p,hj,ho,hs⟩
   |row e t xs f=>rw [e4] at hB;cases hq:O (qaB g.ren dst d)<;>rw [hq] at hB<;>exact hB.elim
   |box e cs=>rw [e4] at hB;cases hq:O (qaB g.ren dst d)<;>rw [hq] at hB<;>exact hB.elim
   |mp es=>rw [e4] at hB;cases hq:O (qaB g.ren dst d)<;>rw [hq] at hB<;>exact hB.elim
   |dead=>rw [e4] at hB;cases hq:O (qaB g.ren dst d)<;>rw [hq] at hB<;>exact hB.elim
   |no=>cases hyo
   |caps cs=>cases hyo
   |fwd a1 a2 a3 a4 a5=>cases hyo
 have kinds:∀d y,(d,y)∈os2→∀d',look g.ren d=some (some d')→Sim (O d') (bumpO (kx.contains d) (O d') (renO (qaB g.ren dst) y))∧(y.live=true→G2.m d=G.m d'∧G2.cp d=G.cp d'∧y.len=(O d').len)∧∀u,OldV (O d') u→OldV (bumpO (kx.contains d) (O d') (renO (qaB g.ren dst) y)) u→u=(bumpO (kx.contains d) (O d') (renO (qaB g.ren dst) y)).ver→G2.sub d y.ver=G.sub d' u:=by
  intro d y hy d' hd
  have q:=(hos' d y hy).2
  rw [hd] at q
  simp only at q
  have hl1:(O d').live=true:=by cases e1:O d'<;>cases e2:y<;>rw [e1,e2] at q<;>first|rfl|cases q
  have hdd:y=.dead→Sim (O d') (bumpO (kx.contains d) (O d') (renO (qaB g.ren dst) y)):=by
   rintro rfl
   cases e1:O d'<;>rw [e1] at hl1<;>first|trivial|cases hl1
  have hfx:=hlv d (by rw [(V.live d d' hd).1];exact hl1)
  have hfix:=(h2.fix d hfx).2
  rw [hat d y hy] at hfix
  have hG:(renG G O g).m d=G.m d'∧(renG G O g).cp d=G.cp d':=⟨by simp only [renG,hd],by simp only [renG,hd]⟩
  have hlen:y.live=true→G2.m d=G.m d'∧G2.cp d=G.cp d'∧y.len=(O d').len:=by
   intro hyl
   obtain ⟨e1,e2,e3⟩:=hfix hyl
   exact ⟨e1.trans hG.1,e2.trans hG.2,e3.trans (V.live d d' hd).2⟩
  have hkept:∀v1 a1 b1 t1 x1 p1 v2 a2 b2 t2 x2 p2,O d'=.deep v1 a1 b1 t1 x1 p1→y=.deep v2 a2 b2 t2 x2 p2→kx.contains d=true→G2.sub d y.ver=G.sub d' v1∧(∀i:Nat,(x1[i]?).map List.length=(x2[i]?).map List.length):=by
   intro v1 a1 b1 t1 x1 p1 v2 a2 b2 t2 x2 p2 e1 e2 hkd
   have hv2:v2=0:=hver d v2 a2 b2 t2 x2 p2 (by rw [←e2];exact hy)
   obtain ⟨k1,k2⟩:=h2.kept d v2 a2 b2 t2 x2 p2 hfx (by
    show d∈kx
    simpa using hkd) (by rw [hat d y hy];exact e2)
   obtain ⟨_,k3⟩:=V.deep d d' _ _ _ _ _ _ hd e1
   refine ⟨?_,fun i=>?_⟩
   ·rw [e2]
    show G2.sub d v2=_
    rw [hv2,k1]
    show (renG G O g).sub d 0=_
    rw [(V.ren.obj d d' hd).2.2.2.2.2,e1]
    rfl
   ·have k4:=k2 hv2 i
    rw [k4]
    show _=(match ofL os1 d with
     |.deep _ _ _ _ xss _=>(xss[i]?).map List.length
     |_=>none)
    rw [show ofL os1 d=_ from k3]
  refine ⟨?_,hlen,?_⟩
  ·by_cases hyd:y=.dead
   ·exact hdd hyd
   cases e1:O d'<;>cases e2:y<;>rw [e1,e2] at q<;>first|exact absurd e2 hyd|exact absurd rfl hyd|cases q|skip
   ·exact trivial
   ·rename_i a1 t1 x1 f1 a2 t2 x2 f2
    have:=(hlen (by rw [e2];rfl)).2.2
    rw [e1,e2] at this
    exact ⟨of_decide_eq_true q,this.symm⟩
   ·exact trivial
   ·rename_i v1 a1 b1 t1 x1 p1 v2 a2 b2 t2 x2 p2
    have:=(hlen (by rw [e2];rfl)).2.2
    rw [e1,e2] at this
    obtain ⟨q1,q2⟩:=of_decide_eq_true q
    refine ⟨q1,q2,this.symm,?_⟩
    cases hkd:kx.contains d with
    |true=>exact Or.inr ⟨rfl,(hkept _ _ _ _ _ _ _ _ _ _ _ _ e1 e2 hkd).2⟩
    |false=>exact Or.inl (Nat.lt_succ_self v1)
  ·intro u hu hu2 he
   cases e1:O d'<;>rw [e1] at hu<;>first|exact hu.elim|skip
   cases e2:y<;>rw [e1,e2] at q hu2<;>first|exact hu2.elim|cases q|skip
   rename_i v1 a1 b1 t1 x1 p1 v2 a2 b2 t2 x2 p2
   have hu:u≤v1:=hu
   rw [e1,e2] at he
   have he:u=(bif kx.contains d then v1 else v1+1):=he
   cases hkd:kx.contains d with
   |true=>
    rw [hkd] at he
    have he:u=v1:=he
    have:=(hkept _ _ _ _ _ _ _ _ _ _ _ _ e1 e2 hkd).1
    rw [e2] at this
    rw [he];exact this
   |false=>
    rw [hkd] at he
    have he:u=v1+1:=he
    omega
 have ex:Ext {G with F:=Ff} (upds O fz) w G3 (upds (upds O fz) (qbU kx O g.ren dst (qaB g.ren dst) os2)) w2:=by
  refine ⟨A4,hFf,fun k hk=>?_⟩
  by_cases hx:∃d,D d k
  ·obtain ⟨d,y,hy,hn,rfl⟩:=hx
   cases hd:look g.ren d with
   |none=>exact absurd (hfresh d y hy hd) hk
   |some z=>
    cases z with
    |none=>exact absurd hd hn
    |some d'=>
     obtain ⟨q1,q2,q5⟩:=kinds d y hy d' hd
     have hyo:=(hos' d y hy).1
     obtain ⟨r1,r2⟩:=m3 d y hy hn
     have r3:=m3s d y hy hn
     have e4:O3 (qaB g.ren dst d)=bumpO (kx.contains d) (O (qaB g.ren dst d)) (renO (qaB g.ren dst) y):=L1 d y hy hn
     rw [L1 d y hy hn]
     rw [hbound d d' hd] at r1 r2 r3 e4 ⊢
     rw [hbnd d d' hd]
     refine ⟨?_,q1,fun hnd=>?_⟩
     ·intro e
      have:=qfU (kx.contains d) (O d') (renO (qaB g.ren dst) y)
      rcases qcy (kx.contains d) (O d') (renO (qaB g.ren dst) y) with h|⟨_,_,_,_,_,_,_,_,_,_,_,_,_,_,h⟩
      ·rw [h] at e
       cases y<;>first|(simp [renO] at e;done)|cases hyo
      ·rw [h] at e;cases e
     ·have hyl:y.live=true:=by
       cases y<;>first|rfl|cases hyo|skip
       exact absurd (by cases O d'<;>rfl) hnd
      obtain ⟨q3,q4,_⟩:=q2 hyl
      refine ⟨r1.trans q3,r2.trans q4,rfl,fun u hu hu2=>?_⟩
      show G3.sub d' u=G.sub d' u
      rw [r3,e4]
      by_cases hue:u=(bumpO (kx.contains d) (O d') (renO (qaB g.ren dst) y)).ver
      ·have:=q5 u hu hu2 hue
       rw [←hue,qad];exact this
      ·rw [upd_ne _ _ hue]
  ·rw [L2 k hx]
   exact ⟨hk,Sim.refl _,fun _=>⟨(m0 k hx).1,(m0 k hx).2.1,rfl,fun u _ _=>by rw [(m0 k hx).2.2]⟩⟩
 let p:Nat→Bool:=fun d=>match look g.ren d with
  |some none=>false
  |_=>true
 have hp:∀d,p d=true→look g.ren d≠some none:=by
  intro d h e
  have:p d=false:=by show (match look g.ren d with|some none=>false|_=>true)=false;rw [e]
  rw [this] at h;cases h
 have hin:∀d,ofL os2 d≠.no→∃y,(d,y)∈os2:=by
  intro d hd
  by_cases hm:d∈os2.map (·.1)
  ·obtain ⟨⟨d0,y⟩,hy,rfl⟩:=List.mem_map.1 hm
   exact ⟨y,hy⟩
  ·exact absurd (qbA hm) hd
 have R:Rn G2 (ofL os2) G3 (upds (upds O fz) (qbU kx O g.ren dst (qaB g.ren dst) os2)) (qaB g.ren dst) p:=by
  refine ⟨fun d hpd hd=>?_,fun d cs hd=>?_⟩
  ·obtain ⟨y,hy⟩:=hin d hd
   have hn:=hp d hpd
   rw [L1 d y hy hn,hat d y hy]
   have hyo:=(hos' d y hy).1
   refine ⟨?_,(m3 d y hy hn).1,(m3 d y hy hn).2⟩
   rcases qcy (kx.contains d) (O (qaB g.ren dst d)) (renO (qaB g.ren dst) y) with h|⟨_,_,_,_,_,_,_,_,_,_,_,_,_,h0,h⟩
   ·rw [h]
    cases y with
    |box e cs=>show cs.length=(cs.map (renL (qaB g.ren dst))).length;rw [List.length_map]
    |row e t xs f=>exact ⟨rfl,rfl⟩
    |dead=>trivial
    |mp es=>trivial
    |deep v e e2 t xss pd=>exact ⟨rfl,rfl,rfl,fun _=>rfl⟩
    |_=>cases hyo
   ·rw [h]
    cases y<;>first|cases h0|skip
    exact ⟨rfl,rfl,rfl,fun _=>rfl⟩
  ·obtain ⟨y,hy⟩:=hin d (by rw [hd];simp)
   have hyo:=(hos' d y hy).1
   rw [hat d y hy] at hd
   rw [hd] at hyo;cases hyo
 have hown:∀b,own (ctxOf w (renG G O g) (ofL os1) (fxOf c.objs) kx) b→own C b:=by
  rintro b (hb|hb)
  ·exact Or.inl (Nat.le_trans h.size hb)
  ·obtain ⟨d,d',hd,hl,hB,_⟩:=hW b hb
   exact (h.qbR hl hB).2.1
 have hcore:=A1.step ex (fun k=>∃d,D d k) (fun k hk=>⟨L2 k hk,(m0 k hk).1,(m0 k hk).2.1,rfl,(m0 k hk).2.2⟩) ?_ ?_ ?_ ?_ ?_ ?_
 ·refine ⟨G3,?_,?_,?_⟩
  ·show Core C G3 (upds O (fz++qbU kx O g.ren dst (qaB g.ren dst) os2)) w2
   rw [qaZ];exact hcore
  ·show Ext G O w G3 (upds O (fz++qbU kx O g.ren dst (qaB g.ren dst) os2)) w2
   rw [qaZ];exact A2.trans ex
  ·show SVR G3 (upds O (fz++qbU kx O g.ren dst (qaB g.ren dst) os2)) w2 _ _
   rw [qaZ]
   refine resSV_R (hr.qe0 _ fun x hx v hv=>CmR.rn R (A7.imp id fun hf=>?_) (List.all_eq_true.1 hcm x hx) hv)
   exact List.all_eq_true.1 hf.1 x hx
 ·-- objects that the call has not met
  intro k b hk hl hm
  have hb:=(A1.qbR hl hm).1
  have hm':Bl G (O k) k b:=by
   rcases qbM fz O k with ⟨_,h9⟩|⟨v,h8,h9⟩
   ·rw [h9] at hm;exact hm
   ·rw [h9] at hm;exact Or.inl (hm.plain (hfp k v h8))
  have hlk:(O k).live=true:=by
   by_cases hmz:k∈g.fz
   ·exact V.fzl k hmz
   ·rw [A3 k hmz] at hl;exact hl
  have hnW:¬(ctxOf w (renG G O g) (ofL os1) (fxOf c.objs) kx).W0 b:=by
   intro hw
   obtain ⟨d,d',hd,hl',hm'',_,y,hy⟩:=hW b hw
   by_cases hkd:k=d'
   ·exact hk ⟨d,y,hy,by rw [hd];simp,(hbound d d' hd).trans hkd.symm⟩
   ·exact h.injB k d' b b hkd hlk hl' hm' hm'' rfl
  refine ⟨hkeep b hb hnW,fun hF=>?_⟩
  rcases A6 b hF with h6|h6|h6
  ·exact h6
  ·exact absurd hb (by have:w.heap.size≤b:=h6;omega)
  ·exact absurd h6 hnW
 ·-- those that it leaves
  rintro k ⟨d,y,hy,hn,rfl⟩
  have hob:=h2.ob d
  unfold ObjR at hob ⊢
  rw [L1 d y hy hn]
  rw [hat d y hy] at hob
  have hyo:=(hos' d y hy).1
  obtain ⟨r1,r2⟩:=m3 d y hy hn
  have r3:=m3s d y hy hn
  have e4:O3 (qaB g.ren dst d)=bumpO (kx.contains d) (O (qaB g.ren dst d)) (renO (qaB g.ren dst) y):=L1 d y hy hn
  have hfl:(∀b,G2.F b→F3 b)∨y.flat=true:=by
   rcases A7 with hf|hf
   ·exact Or.inl hf
   ·exact Or.inr (List.all_eq_true.1 hf.2 (d,y) hy)
  cases y with
  |box e cs=>
   have eb:bumpO (kx.contains d) (O (qaB g.ren dst d)) (renO (qaB g.ren dst) (.box e cs))=renO (qaB g.ren dst) (.box e cs):=by cases O (qaB g.ren dst d)<;>rfl
   rw [eb]
   obtain ⟨b,arr,s1,s2,s3,s4,s5⟩:=hob
   refine ⟨b,arr,r1.trans s1,s2,?_,fun hF=>s4 (A5 b hF),hown b s5⟩
   refine s3.qe0 _ fun x hx v hv=>LfR.rn R (hfl.imp id fun hf=>?_) ?_ hv
   ·exact List.all_eq_true.1 hf x hx
   ·exact List.all_eq_true.1 hyo x hx
  |row e t xs f=>
   have eb:bumpO (kx.contains d) (O (qaB g.ren dst d)) (renO (qaB g.ren dst) (.row e t xs f))=.row e t xs f:=by cases O (qaB g.ren dst d)<;>rfl
   rw [eb]
   obtain ⟨s0,s1⟩:=hob
   refine ⟨by show xs.length≤G3.cp (qaB g.ren dst d);rw [r2];exact s0,?_⟩
   rcases s1 with ⟨s1,s2⟩|⟨b,o,arr,t',s1,s2,s3,s4,s5,s6,s7⟩
   ·exact Or.inl ⟨r2.trans s1,r1.trans s2⟩
   ·refine Or.inr ⟨b,o,arr,t',r1.trans s1,s2,by rw [r2];exact s3,s4.rn hfl,hown b s5,?_,fun hz hF=>s7 hz (A5 b hF)⟩
    ·intro hz
     rcases A7 with hf|hf
     ·exact hf b (s6 hz)
     ·exact absurd hz (by have:=hunf d e t xs f hy;rw [this];simp)
  |dead=>
   have eb:bumpO (kx.contains d) (O (qaB g.ren dst d)) (renO (qaB g.ren dst) .dead)=.dead:=by cases O (qaB g.ren dst d)<;>rfl
   rw [eb];trivial
  |mp es=>
   have eb:bumpO (kx.contains d) (O (qaB g.ren dst d)) (renO (qaB g.ren dst) (.mp es))=.mp es:=by cases O (qaB g.ren dst d)<;>rfl
   rw [eb]
   obtain ⟨b,arr,clock,s1,s2,s3,s4,s5⟩:=hob
   exact ⟨b,arr,clock,r1.trans s1,s2,s3,fun hF=>s4 (A5 b hF),hown b s5⟩
  |deep u e e2 t xss pd=>
   obtain rfl:=isd d _ hy _ _ _ _ _ _ rfl
   obtain ⟨u',e5⟩:∃u',bumpO (kx.contains d) (O (qaB g.ren dst d)) (renO (qaB g.ren dst) (.deep u e e2 t xss .ok))=.deep u' e e2 t xss .ok:=by
    rcases qcy (kx.contains d) (O (qaB g.ren dst d)) (renO (qaB g.ren dst) (.deep u e e2 t xss .ok)) with h|⟨_,_,_,_,_,_,_,_,_,_,_,_,_,h0,h⟩
    ·exact ⟨u,h⟩
    ·cases h0
     exact ⟨_,h⟩
   rw [e4,e5] at r3
   rw [e5]
   have r4:G3.sub (qaB g.ren dst d) u'=G2.sub d u:=by rw [r3];exact qad _ _ _
   obtain ⟨s0,s1⟩:=hob
   refine ⟨by show xss.length≤G3.cp (qaB g.ren dst d);rw [r2];exact s0,?_⟩
   rcases s1 with ⟨s1,s2⟩|⟨b,o,arr,t',s1,s2,s3,s4,s5,s6⟩
   ·exact Or.inl ⟨r2.trans s1,r1.trans s2⟩
   ·refine Or.inr ⟨b,o,arr,t',r1.trans s1,s2,by rw [r2];exact s3,hown b s4,fun hF=>s5 (A5 b hF),?_⟩
    rw [r4]
    exact ⟨s6.cells,fun j x hj ho=>qdo.rn hfl A5 hown (s6.inner j x hj ho),s6.ne,s6.sep⟩
  |_=>cases hyo
 ·-- no block twice
  rintro k k' b b' hne ⟨d,y,hy,hn,rfl⟩ hl hl' hm hm'
  have lv:∀d y,(d,y)∈os2→look g.ren d≠some none→(O3 (qaB g.ren dst d)).live=true→(ofL os2 d).live=true:=by
   intro d y hy hn hl
   have hyo:=(hos' d y hy).1
   rw [hat d y hy]
   rw [show O3 (qaB g.ren dst d)=_ from L1 d y hy hn,qfU] at hl
   cases y<;>first|rfl|cases hl|cases hyo
  have hyl:=lv d y hy hn hl
  have hB:=bl3 d y b hy hn hm
  by_cases hx:∃d,D d k'
  ·obtain ⟨d',y',hy',hn',rfl⟩:=hx
   exact h2.injB d d' b b' (by rintro rfl;exact hne rfl) hyl (lv d' y' hy' hn' hl') hB (bl3 d' y' b' hy' hn' hm')
  ·rw [L2 k' hx] at hl' hm'
   have hm1':Bl {G with F:=Ff} (upds O fz k') k' b':=hm'.old (m0 k' hx).1 (m0 k' hx).2.2
   have hb':=(A1.qbR hl' hm1').1
   have hm2':Bl G (O k') k' b':=by
    rcases qbM fz O k' with ⟨_,h9⟩|⟨v,h8,h9⟩
    ·rw [h9] at hm1';exact hm1'
    ·rw [h9] at hm1';exact Or.inl (hm1'.plain (hfp k' v h8))
   have hlk:(O k').live=true:=by
    by_cases hmz:k'∈g.fz
    ·exact V.fzl k' hmz
    ·rw [A3 k' hmz] at hl';exact hl'
   rcases (h2.qbR hyl hB).2.1 with hb|hb
   ·have:w.heap.size≤b:=hb
    omega
   ·obtain ⟨d1,d1',hd1,hl1,hm1,_,y1,hy1⟩:=hW b hb
    have hkd:d1'≠k':=by
     rintro rfl
     exact hx ⟨d1,y1,hy1,by rw [hd1];simp,hbound d1 d1' hd1⟩
    exact h.injB d1' k' b b' hkd hl1 hlk hm1 hm2'
 ·-- what stands
  intro b hb
  rcases A6 b hb with h6|h6
  ·exact Or.inl h6
  ·exact Or.inr ⟨h2.F1 b (A5 b hb),hown b h6⟩
 ·-- the caller's memory
  refine ⟨h2.keep.os,h2.keep.tape,h2.keep.output,h2.keep.size,fun b hb hn=>hkeep b (Nat.lt_of_lt_of_le hb h.size) (fun hw=>?_)⟩
  rcases hown b (Or.inr hw) with h5|h5
  ·omega
  ·exact hn h5
 ·-- what came in
  rintro k hk ⟨d,y,hy,hn,rfl⟩ hno hl
  cases hd:look g.ren d with
  |none=>exact absurd (hfresh d y hy hd) hno
  |some z=>
   cases z with
   |none=>exact absurd hd hn
   |some d'=>
    obtain ⟨q1,q2,_⟩:=kinds d y hy d' hd
    have hyo:=(hos' d y hy).1
    have hyl:y.live=true:=by
     rw [L1 d y hy hn,qfU] at hl
     cases y<;>first|rfl|cases hl|cases hyo
    obtain ⟨q3,q4,q5⟩:=q2 hyl
    obtain ⟨r1,r2⟩:=m3 d y hy hn
    rw [L1 d y hy hn,bump_len]
    rw [hbound d d' hd] at r1 r2 ⊢
    rw [hbnd d d' hd]
    have q:=(hos' d y hy).2
    rw [hd] at q
    simp only at q
    refine ⟨?_,r1.trans q3,r2.trans q4,?_⟩
    ·cases e1:O d'<;>cases e2:y<;>rw [e1,e2] at q<;>first|rfl|cases q
    ·rw [←q5]
     cases y<;>first|(simp [renO,Obj.len];done)|cases hyo
end
end Go.Proofs.YtfobeapcmgjhbaaGreatDoor.VE
namespace Go.Proofs.YtfobeapcmgjhbaaGreatDoor.VE
open Go Go.RowKit
section
variable {P:Program} {O O':Nat→Obj}
def Same (O O':Nat→Obj) (l:List Nat):Prop:=∀d∈l,O' d=O d
theorem Same.cons {d:Nat} {l:List Nat} (h:Same O O' (d::l)):O' d=O d∧Same O O' l:=⟨h d List.mem_cons_self,fun k hk=>h k (List.mem_cons_of_mem _ hk)⟩
theorem Same.left {l m:List Nat} (h:Same O O' (l++m)):Same O O' l:=fun k hk=>h k (List.mem_append_left _ hk)
theorem Same.right {l m:List Nat} (h:Same O O' (l++m)):Same O O' m:=fun k hk=>h k (List.mem_append_right _ hk)
theorem qcB {x:Lf} {tv:TV} {ds:List Nat} (e:pureL O x=some (tv,ds)) (h:Same O O' ds):pureL O' x=some (tv,ds):=by
 cases x with
 |o d=>
  simp only [pureL] at e ⊢
  cases hd:O d with
  |row a b c f=>
   rw [hd] at e
   cases e
   rw [(h.cons).1,hd]
  |_=>rw [hd] at e;cases e
 |os d off len=>
  simp only [pureL] at e ⊢
  cases hd:O d with
  |row a b c f=>
   rw [hd] at e
   cases e
   rw [(h.cons).1,hd]
  |_=>rw [hd] at e;cases e
 |_=>exact e
theorem qgh:∀{ls:List Lf} {vs:List TV} {ds:List Nat},qb7 O ls=some (vs,ds)→Same O O' ds→qb7 O' ls=some (vs,ds)
 |[],_,_,e,_=>e
 |x::ls,vs,ds,e,h=>by
  unfold qb7 at e ⊢
  cases e1:pureL O x with
  |none=>rw [e1] at e;cases e
  |some r1=>
   obtain ⟨tv,d1⟩:=r1
   cases e2:qb7 O ls with
   |none=>rw [e1,e2] at e;cases e
   |some r2=>
    obtain ⟨tvs,d2⟩:=r2
    rw [e1,e2] at e
    cases e
    rw [qcB e1 h.left,qgh e2 h.right]
theorem qcL {t:Ty} {ls:List Lf} {x:t.T} {ds:List Nat} (e:packs O t ls=some (x,ds)) (h:Same O O' ds):packs O' t ls=some (x,ds):=by
 unfold packs at e ⊢
 cases e1:qb7 O ls with
 |none=>rw [e1] at e;cases e
 |some r1=>
  obtain ⟨vs,d1⟩:=r1
  rw [e1] at e
  simp only at e
  cases e2:ofTVs t vs with
  |none=>rw [e2] at e;cases e
  |some r2=>
   obtain ⟨y,l⟩:=r2
   rw [e2] at e
   cases l with
   |cons _ _=>cases e
   |nil=>
    cases e
    rw [qgh e1 h]
    simp only [e2]
theorem qcv:∀{ds:List Nat} {wr:List (Nat×Obj)},freeze O ds=some wr→Same O O' ds→freeze O' ds=some wr
 |[],_,e,_=>e
 |d::ds,wr,e,h=>by
  unfold freeze at e ⊢
  cases hd:O d with
  |row a b c f=>
   rw [hd] at e
   cases e1:freeze O ds with
   |none=>rw [e1] at e;cases e
   |some l=>
    rw [e1] at e
    rw [h.cons.1,hd,qcv e1 h.cons.2]
    exact e
  |_=>rw [hd] at e;cases e
theorem loadL_loc {t:TypeId} {x:Option Lf} {cs:List Chk} {e:Eff} (he:loadL P t O x=some (cs,e)) (h:Same O O' e.rd):loadL P t O' x=some (cs,e):=by
 unfold loadL at he ⊢
 split at he
 ·rename_i d c
  try simp only
  cases hd:O d with
  |box a b=>
   rw [hd] at he
   simp only at he
   cases e1:cutSV P t b c with
   |none=>rw [e1] at he;cases he
   |some sv=>
    rw [e1] at he
    cases he
    rw [h.cons.1,hd]
    simp only [e1]
    rfl
  |_=>rw [hd] at he;cases he
 ·exact he
 ·rename_i d i c
  try simp only
  cases hd:O d with
  |row a T xs f=>
   rw [hd] at he
   simp only at he
   cases e1:cutSV P t (leaves T (rd T xs i)) c with
   |none=>rw [e1] at he;cases he
   |some sv=>
    rw [e1] at he
    cases he
    rw [h.cons.1,hd]
    simp only [e1]
    rfl
  |deep v a e2 T xss pd=>
   cases pd with
   |ok=>
    rw [hd] at he
    simp only at he
    cases e1:cutSV P t [.oh d v i] c with
    |none=>rw [e1] at he;cases he
    |some sv=>
     rw [e1] at he
     cases he
     rw [h.cons.1,hd]
     simp only [e1]
     rfl
   |_=>rw [hd] at he;cases he
  |_=>rw [hd] at he;cases he
 ·rename_i d v i j c
  try simp only
  cases hd:O d with
  |deep v' a e2 T xss pd=>
   cases pd with
   |ok=>
    rw [hd] at he
    simp only at he
    by_cases hv:v=v'
    ·rw [if_pos hv] at he
     cases e1:cutSV P t (leaves T (rd T (rd (.list e2 T) xss i) j)) c with
     |none=>rw [e1] at he;cases he
     |some sv=>
      rw [e1] at he
      cases he
      rw [h.cons.1,hd]
      try simp only
      rw [if_pos hv,e1]
      rfl
    ·rw [if_neg hv] at he;cases he
   |_=>rw [hd] at he;cases he
  |_=>rw [hd] at he;cases he
 ·cases he
theorem storeL_loc {t:TypeId} {x:Option Lf} {y:SV} {cs:List Chk} {e:Eff} (he:qc8 P t O x y=some (cs,e)) (h:Same O O' e.rd):qc8 P t O' x y=some (cs,e):=by
 unfold qc8 at he ⊢
 cases hy:y.cells with
 |none=>rw [hy] at he;cases he
 |some ls=>
  rw [hy] at he
  simp only at he ⊢
  by_cases hn:ls.length=P.cellsOf t∧(P.info? t).isSome=true
  ·rw [if_pos hn] at he ⊢
   split at he
   ·rename_i d c
    try simp only
    cases hd:O d with
    |box a b=>
     rw [hd] at he
     simp only at he
     by_cases hc:c+ls.length≤b.length
     ·rw [if_pos hc] at he
      cases he
      rw [h.cons.1,hd]
      try simp only
      rw [if_pos hc]
     ·rw [if_neg hc] at he;cases he
    |_=>rw [hd] at he;cases he
   ·rename_i d i c
    try simp only
    cases hd:O d with
    |row a T xs f=>
     cases f with
     |true=>rw [hd] at he;cases he
     |false=>
      rw [hd] at he
      simp only at he
      by_cases hc:c+ls.length≤T.sz
      ·rw [if_pos hc] at he
       cases e1:packs O T (splice (leaves T (rd T xs i)) c ls) with
       |none=>rw [e1] at he;cases he
       |some r=>
        obtain ⟨z,ds⟩:=r
        rw [e1] at he
        simp only at he
        by_cases hk:ds.contains d=true
        ·rw [if_pos hk] at he;cases he
        ·rw [if_neg hk] at he
         cases e2:freeze O ds with
         |none=>rw [e2] at he;cases he
         |some fz=>
          rw [e2] at he
          cases he
          rw [h.cons.1,hd]
          try simp only
          rw [if_pos hc,qcL e1 h.cons.2]
          try simp only
          rw [if_neg hk,qcv e2 h.cons.2]
      ·rw [if_neg hc] at he;cases he
    |_=>rw [hd] at he;cases he
   ·rename_i d v i j c
    try simp only
    cases hd:O d with
    |deep v' a e2 T xss pd=>
     cases pd with
     |ok=>
      rw [hd] at he
      simp only at he
      by_cases hc:v=v'∧c+ls.length≤T.sz∧T.sz≠0
      ·rw [if_pos hc] at he
       cases e1:packs O T (splice (leaves T (rd T (rd (.list e2 T) xss i) j)) c ls) with
       |none=>rw [e1] at he;cases he
       |some r=>
        obtain ⟨z,ds⟩:=r
        rw [e1] at he
        simp only at he
        by_cases hk:ds.contains d=true
        ·rw [if_pos hk] at he;cases he
        ·rw [if_neg hk] at he
         cases e3:freeze O ds with
         |none=>rw [e3] at he;cases he
         |some fz=>
          rw [e3] at he
          cases he
          rw [h.cons.1,hd]
          try simp only
          rw [if_pos hc,qcL e1 h.cons.2]
          try simp only
          rw [if_neg hk,qcv e3 h.cons.2]
      ·rw [if_neg hc] at he;cases he
     |_=>rw [hd] at he;cases he
    |_=>rw [hd] at he;cases he
   ·cases he
  ·rw [if_neg hn] at he;cases he
theorem takeL_loc {t:TypeId} {x:Option Lf} {y:SV} {cs:List Chk} {e:Eff} (he:takeL P t O x y=some (cs,e)) (h:Same O O' e.rd):takeL P t O' x y=some (cs,e):=by
 unfold takeL at he ⊢
 split at he
 ·rename_i d i d2
  try simp only
  cases hd:O d with
  |deep v a e2 T xss pd=>
   cases hd2:O d2 with
   |row a2 T2 ys f=>
    cases f with
    |true=>rw [hd,hd2] at he;cases he
    |false=>
     rw [hd,hd2] at he
     simp only at he
     by_cases hT:T2=T
     ·rw [dif_pos hT] at he
      by_cases hc:d≠d2∧P.cellsOf t=1∧(P.info? t).isSome=true
      ·rw [if_pos hc] at he
       cases pd with
       |ok=>
        cases he
        rw [h.cons.1,h.cons.2.cons.1,hd,hd2]
        try simp only
        rw [dif_pos hT,if_pos hc]
       |ho b=>
        cases he
        rw [h.cons.1,h.cons.2.cons.1,hd,hd2]
        try simp only
        rw [dif_pos hT,if_pos hc]
       |sw b c=>cases he
      ·rw [if_neg hc] at he;cases he
     ·rw [dif_neg hT] at he;cases he
   |_=>rw [hd,hd2] at he;cases he
  |_=>rw [hd] at he;cases he
 ·rename_i d i d2 v2 j
  try simp only
  cases hd:O d with
  |deep v a e2 T xss pd=>
   rw [hd] at he
   simp only at he
   by_cases hc:d=d2∧v=v2∧P.cellsOf t=1∧(P.info? t).isSome=true
   ·rw [if_pos hc] at he
    cases pd with
    |ok=>
     cases he
     rw [h.cons.1,hd]
     try simp only
     rw [if_pos hc]
    |sw b c=>
     cases he
     rw [h.cons.1,hd]
     try simp only
     rw [if_pos hc]
    |ho b=>cases he
   ·rw [if_neg hc] at he;cases he
  |_=>rw [hd] at he;cases he
 ·rename_i d i d2 v2 j off len
  try simp only
  cases hd:O d with
  |deep v a e2 T xss pd=>
   cases pd with
   |ok=>
    rw [hd] at he
    simp only at he
    by_cases hc:d=d2∧v=v2∧P.cellsOf t=1∧(P.info? t).isSome=true
    ·rw [if_pos hc] at he
     cases he
     rw [h.cons.1,hd]
     try simp only
     rw [if_pos hc]
    ·rw [if_neg hc] at he;cases he
   |_=>rw [hd] at he;cases he
  |_=>rw [hd] at he;cases he
 ·cases he
theorem qfe {t:TypeId} {d:Nat} {i:Int} {c:Nat} {y:SV} {cs:List Chk} {e:Eff} (he:qc8 P t O (some (.oe d i c)) y=some (cs,e)):d∈e.rd∧(O d).qea=false:=by
 unfold qc8 at he
 cases hy:y.cells with
 |none=>rw [hy] at he;cases he
 |some ls=>
  rw [hy] at he
  simp only at he
  by_cases hn:ls.length=P.cellsOf t∧(P.info? t).isSome=true
  ·rw [if_pos hn] at he
   cases hd:O d with
   |row a T xs f=>
    cases f with
    |true=>rw [hd] at he;cases he
    |false=>
     rw [hd] at he
     simp only at he
     refine ⟨?_,rfl⟩
     repeat' split at he
     all_goals first|(cases he;done)|(cases he;exact List.mem_cons_self)
   |_=>rw [hd] at he;cases he
  ·rw [if_neg hn] at he;cases he
theorem qf0 {t:TypeId} {x:Option Lf} {y:SV} {cs:List Chk} {e:Eff} (he:qc8 P t O x y=some (cs,e)) (h:Same O O' e.rd):takeL P t O' x y=none:=by
 unfold takeL
 split
 ·rename_i d i d2
  obtain ⟨h1,h2⟩:=qfe he
  rw [h d h1]
  cases hd:O d with
  |deep v a e2 T xss pd=>rw [hd] at h2;cases h2
  |_=>rfl
 ·rename_i d i d2 v2 j
  obtain ⟨h1,h2⟩:=qfe he
  rw [h d h1]
  cases hd:O d with
  |deep v a e2 T xss pd=>rw [hd] at h2;cases h2
  |_=>rfl
 ·rename_i d i d2 v2 j off len
  obtain ⟨h1,h2⟩:=qfe he
  rw [h d h1]
  cases hd:O d with
  |deep v a e2 T xss pd=>rw [hd] at h2;cases h2
  |_=>rfl
 ·rfl
theorem lenL_loc {t:TypeId} {x:Option Lf} {cs:List Chk} {e:Eff} (he:lenL P t O x=some (cs,e)) (h:Same O O' e.rd):lenL P t O' x=some (cs,e):=by
 unfold lenL at he ⊢
 split at he
 ·try simp only
  split at he
  ·exact he
  ·exact he
  ·rename_i d
   try simp only
   cases hd:O d with
   |row a T xs f=>
    rw [hd] at he
    cases he
    rw [h.cons.1,hd]
   |deep v a e2 T xss pd=>
    rw [hd] at he
    cases he
    rw [h.cons.1,hd]
   |_=>rw [hd] at he;cases he
  ·rename_i d off len
   try simp only
   cases hd:O d with
   |row a T xs f=>
    rw [hd] at he
    cases he
    rw [h.cons.1,hd]
   |deep v a e2 T xss pd=>
    rw [hd] at he
    cases he
    rw [h.cons.1,hd]
   |_=>rw [hd] at he;cases he
  ·rename_i d v i
   try simp only
   cases hd:O d with
   |deep v' a e2 T xss pd=>
    cases pd with
    |ok=>
     rw [hd] at he
     simp only at he
     by_cases hv:v=v'
     ·rw [if_pos hv] at he
      cases he
      rw [h.cons.1,hd]
      try simp only
      rw [if_pos hv]
     ·rw [if_neg hv] at he;cases he
    |_=>rw [hd] at he;cases he
   |_=>rw [hd] at he;cases he
  ·rename_i d v i off len
   try simp only
   cases hd:O d with
   |deep v' a e2 T xss pd=>
    cases pd with
    |ok=>
     rw [hd] at he
     simp only at he
     by_cases hv:v=v'
     ·rw [if_pos hv] at he
      cases he
      rw [h.cons.1,hd]
      try simp only
      rw [if_pos hv]
     ·rw [if_neg hv] at he;cases he
    |_=>rw [hd] at he;cases he
   |_=>rw [hd] at he;cases he
  ·cases he
 ·exact he
 ·cases he
theorem qf4 {n:Nat} {x y:Option Lf} {cs:List Chk} {e:Eff} (he:qch n O x y=some (cs,e)) (h:Same O O' e.rd):qch n O' x y=some (cs,e):=by
 unfold qch at he ⊢
 split at he
 ·try simp only
  split at he
  ·exact he
  ·rename_i d
   try simp only
   cases hd:O d with
   |row a T xs f=>
    rw [hd] at he
    simp only at he
    by_cases hc:T.sz=n∧n≠0
    ·rw [if_pos hc] at he
     cases he
     rw [h.cons.1,hd]
     try simp only
     rw [if_pos hc]
    ·rw [if_neg hc] at he;cases he
   |deep v0 a e2 T xss pd=>
    rw [hd] at he
    simp only at he
    by_cases hc:1=n
    ·rw [if_pos hc] at he
     cases he
     rw [h.cons.1,hd]
     try simp only
     rw [if_pos hc]
    ·rw [if_neg hc] at he;cases he
   |_=>rw [hd] at he;cases he
  ·rename_i d v i'
   try simp only
   cases hd:O d with
   |deep v' a e2 T xss pd=>
    cases pd with
    |ok=>
     rw [hd] at he
     simp only at he
     by_cases hc:v=v'∧T.sz=n∧n≠0
     ·rw [if_pos hc] at he
      cases he
      rw [h.cons.1,hd]
      try simp only
      rw [if_pos hc]
     ·rw [if_neg hc] at he;cases he
    |_=>rw [hd] at he;cases he
   |_=>rw [hd] at he;cases he
  ·rename_i d v i' off len
   try simp only
   cases hd:O d with
   |deep v' a e2 T xss pd=>
    cases pd with
    |ok=>
     rw [hd] at he
     simp only at he
     by_cases hc:v=v'∧T.sz=n∧n≠0
     ·rw [if_pos hc] at he
      cases he
      rw [h.cons.1,hd]
      try simp only
      rw [if_pos hc]
     ·rw [if_neg hc] at he;cases he
    |_=>rw [hd] at he;cases he
   |_=>rw [hd] at he;cases he
  ·rename_i d off len
   try simp only
   cases hd:O d with
   |row a T xs f=>
    rw [hd] at he
    simp only at he
    by_cases hc:T.sz=n∧n≠0
    ·rw [if_pos hc] at he
     cases he
     rw [h.cons.1,hd]
     try simp only
     rw [if_pos hc]
    ·rw [if_neg hc] at he;cases he
   |deep v0 a e2 T xss pd=>
    rw [hd] at he
    simp only at he
    by_cases hc:1=n
    ·rw [if_pos hc] at he
     cases he
     rw [h.cons.1,hd]
     try simp only
     rw [if_pos hc]
    ·rw [if_neg hc] at he;cases he
   |_=>rw [hd] at he;cases he
  ·cases he
 ·cases he
theorem qf5 {s:TypeId} {f:Nat} {x:Option Lf} {cs:List Chk} {e:Eff} (he:qcx P s f O x=some (cs,e)) (h:Same O O' e.rd):qcx P s f O' x=some (cs,e):=by
 unfold qcx at he ⊢
 split at he
 ·try simp only
  split at he
  ·rename_i d c
   try simp only
   cases hd:O d with
   |box a b=>
    rw [hd] at he
    cases he
    rw [h.cons.1,hd]
   |_=>rw [hd] at he;cases he
  ·exact he
  ·rename_i d i c
   try simp only
   cases hd:O d with
   |row a T xs f=>
    rw [hd] at he
    cases he
    rw [h.cons.1,hd]
   |_=>rw [hd] at he;cases he
  ·rename_i d v i j c
   try simp only
   cases hd:O d with
   |deep v' a e2 T xss pd=>
    rw [hd] at he
    simp only at he
    by_cases hv:v=v'
    ·rw [if_pos hv] at he
     cases he
     rw [h.cons.1,hd]
     try simp only
     rw [if_pos hv]
    ·rw [if_neg hv] at he;cases he
   |_=>rw [hd] at he;cases he
  ·cases he
 ·cases he
theorem nilL_loc {x:Option Lf} {cs:List Chk} {e:Eff} (he:nilL O x=some (cs,e)) (h:Same O O' e.rd):nilL O' x=some (cs,e):=by
 unfold nilL at he ⊢
 split at he
 ·rename_i d c
  try simp only
  cases hd:O d with
  |box a b=>
   rw [hd] at he
   cases he
   rw [h.cons.1,hd]
  |_=>rw [hd] at he;cases he
 ·exact he
 ·rename_i d i c
  try simp only
  cases hd:O d with
  |row a T xs f=>
   rw [hd] at he
   cases he
   rw [h.cons.1,hd]
  |_=>rw [hd] at he;cases he
 ·exact he
 ·cases he
theorem sliceL_loc {t:TypeId} {x:Option Lf} {lo hi:Option Int} {cs:List Chk} {e:Eff} (he:qfj P t O x lo hi=some (cs,e)) (h:Same O O' e.rd):qfj P t O' x lo hi=some (cs,e):=by
 unfold qfj at he ⊢
 split at he
 ·exact he
 ·rename_i el hu
  try simp only
  split at he
  ·exact he
  ·exact he
  ·rename_i d
   try simp only
   cases hd:O d with
   |row a T xs f=>
    rw [hd] at he
    simp only at he
    by_cases hc:T.sz=P.cellsOf el∧T.sz≠0
    ·rw [if_pos hc] at he
     have:O' d=O d:=by
      cases lo<;>cases hi<;>cases he<;>exact h.cons.1
     rw [this,hd]
     try simp only
     rw [if_pos hc]
     exact he
    ·rw [if_neg hc] at he;cases he
   |deep v a e2 T xss pd=>
    cases pd with
    |ok=>
     rw [hd] at he
     simp only at he
     by_cases hc:1=P.cellsOf el
     ·rw [if_pos hc] at he
      have:O' d=O d:=by
       cases lo<;>cases hi<;>cases he<;>exact h.cons.1
      rw [this,hd]
      try simp only
      rw [if_pos hc]
      exact he
     ·rw [if_neg hc] at he;cases he
    |_=>rw [hd] at he;cases he
   |_=>rw [hd] at he;cases he
  ·rename_i d v i
   try simp only
   cases hd:O d with
   |deep v' a e2 T xss pd=>
    cases pd with
    |ok=>
     rw [hd] at he
     simp only at he
     by_cases hc:v=v'∧T.sz=P.cellsOf el∧T.sz≠0
     ·rw [if_pos hc] at he
      cases he
      rw [h.cons.1,hd]
      try simp only
      rw [if_pos hc]
     ·rw [if_neg hc] at he;cases he
    |_=>rw [hd] at he;cases he
   |_=>rw [hd] at he;cases he
  ·rename_i d off len
   try simp only
   cases hd:O d with
   |row a T xs f=>
    rw [hd] at he
    simp only at he
    by_cases hc:T.sz=P.cellsOf el∧T.sz≠0
    ·rw [if_pos hc] at he
     cases he
     rw [h.cons.1,hd]
     try simp only
     rw [if_pos hc]
    ·rw [if_neg hc] at he;cases he
   |_=>rw [hd] at he;cases he
  ·cases he
 ·cases he
theorem qgj {d:Nat} {t:TypeId} {ls:List Lf} {cs:List Chk} {e:Eff} (he:qdD d O t ls=some (cs,e)) (h:Same O O' e.rd):qdD d O' t ls=some (cs,e):=by
 unfold qdD at he ⊢
 cases hd:O d with
 |no=>
  rw [hd] at he
  cases he
  rw [h.cons.1,hd]
 |_=>rw [hd] at he;cases he
theorem qcP {T:Ty} {sz:Nat}:∀{n:Nat} {ls:List Lf} {xs:List T.T} {ds:List Nat},chunks O T sz n ls=some (xs,ds)→Same O O' ds→chunks O' T sz n ls=some (xs,ds)
 |0,_,_,_,e,_=>e
 |n+1,ls,xs,ds,e,h=>by
  unfold chunks at e ⊢
  cases e1:packs O T (ls.take sz) with
  |none=>rw [e1] at e;cases e
  |some r1=>
   obtain ⟨x,d1⟩:=r1
   cases e2:chunks O T sz n (ls.drop sz) with
   |none=>rw [e1,e2] at e;cases e
   |some r2=>
    obtain ⟨ys,d2⟩:=r2
    rw [e1,e2] at e
    cases e
    rw [qcL e1 h.left,qcP e2 h.right]
theorem qfV {t:TypeId} {n d:Nat} {ps:List (Nat×List Lf)} {cs:List Chk} {e:Eff} (he:qbQ P t n d O ps=some (cs,e)) (h:Same O O' e.rd):qbQ P t n d O' ps=some (cs,e):=by
 unfold qbQ at he ⊢
 split at he
 ·rename_i el hu
  try simp only
  split at he
  ·rename_i T z hT hz hd
   by_cases hc:z.length=P.cellsOf el∧T.sz=z.length∧n*z.length≤2 ^ 24
   ·rw [if_pos hc] at he
    split at he
    ·rename_i c hf
     split at he
     ·rename_i xs ds hch
      split at he
      ·cases he
      ·rename_i hk
       split at he
       ·rename_i fz hfz
        cases he
        rw [hT,hz,h.cons.1,hd]
        try simp only
        rw [if_pos hc]
        simp only [hf]
        rw [qcP hch h.cons.2]
        try simp only
        rw [if_neg hk,qcv hfz h.cons.2]
       ·cases he
     ·cases he
    ·cases he
   ·rw [if_neg hc] at he;cases he
  ·rename_i z hT hz hd
   split at he
   ·rename_i c hf
    split at he
    ·rename_i fs hfs
     by_cases hc:z.length=P.cellsOf el∧z.length=1∧n=fs.length∧n*z.length≤2 ^ 24
     ·rw [if_pos hc] at he
      cases he
      rw [hT,hz,h.cons.1,hd]
      try simp only
      rw [hf]
      try simp only
      rw [hfs]
      try simp only
      rw [if_pos hc]
     ·rw [if_neg hc] at he;cases he
    ·cases he
   ·cases he
  ·cases he
 ·cases he
theorem qf3 {t:TypeId} {d:Nat} {same:Bool} {x y:Option Lf} {cs:List Chk} {e:Eff} (he:qct P t d O same x y=some (cs,e)) (h:Same O O' e.rd):qct P t d O' same x y=some (cs,e):=by
 unfold qct at he ⊢
 split at he
 ·rename_i el n m hu
  try simp only
  split at he
  ·rename_i T z hT hz hd
   split at he
   ·rename_i v hp
    by_cases hc:z.length=P.cellsOf el∧T.sz=z.length
    ·rw [if_pos hc] at he
     cases he
     rw [hT,hz,h.cons.1,hd]
     try simp only
     rw [qcL hp (fun _ hd=>by cases hd)]
     try simp only
     rw [if_pos hc]
    ·rw [if_neg hc] at he;cases he
   ·cases he
  ·cases he
 ·cases he
theorem appendZ_loc {t t':TypeId} {d:Nat} {x y:Option Lf} {cs:List Chk} {e:Eff} (he:qeA P t t' d O x y=some (cs,e)) (h:Same O O' e.rd):qeA P t t' d O' x y=some (cs,e):=by
 unfold qeA at he ⊢
 split at he
 ·rename_i el k0 k n hu hu'
  try simp only
  split at he
  ·rename_i T z hT hz hd
   split at he
   ·rename_i v hp
    by_cases hc:z.length=P.cellsOf el∧T.sz=z.length∧T.sz≠0
    ·rw [if_pos hc] at he
     cases he
     rw [hT,hz,h.cons.1,hd]
     try simp only
     rw [qcL hp (fun _ hd=>by cases hd)]
     try simp only
     rw [if_pos hc]
    ·rw [if_neg hc] at he;cases he
   ·cases he
  ·cases he
 ·cases he
theorem base_loc {T:Ty} {x:Option Lf} {b:Option Nat} {xs:List T.T} (e:base O T x=some (b,xs)) (h:Same O O' b.toList):base O' T x=some (b,xs):=by
 unfold base at e ⊢
 split at e
 ·exact e
 ·rename_i d
  try simp only
  cases hd:O d with
  |row a T' ys f=>
   cases f with
   |true=>rw [hd] at e;cases e
   |false=>
    rw [hd] at e
    simp only at e
    by_cases ht:T'=T
    ·rw [dif_pos ht] at e
     have hb:b=some d:=by cases e;rfl
     subst hb
     rw [h.cons.1,hd]
     try simp only
     rw [dif_pos ht]
     exact e
    ·rw [dif_neg ht] at e;cases e
  |_=>rw [hd] at e;cases e
 ·rename_i d off len
  try simp only
  cases hd:O d with
  |row a T' ys f=>
   cases f with
   |true=>rw [hd] at e;cases e
   |false=>
    rw [hd] at e
    simp only at e
    by_cases ht:T'=T
    ·rw [dif_pos ht] at e
     have hb:b=some d:=by cases e;rfl
     subst hb
     rw [h.cons.1,hd]
     try simp only
     rw [dif_pos ht]
     exact e
    ·rw [dif_neg ht] at e;cases e
  |_=>rw [hd] at e;cases e
 ·cases e
theorem appendL_loc {t:TypeId} {d:Nat} {x y:Option Lf} {cs:List Chk} {e:Eff} (he:qdn P t d O x y=some (cs,e)) (h:Same O O' e.rd):qdn P t d O' x y=some (cs,e):=by
 unfold qdn at he ⊢
 split at he
 ·rename_i el hu
  try simp only
  split at he
  ·rename_i T z hT hd hz
   split at he
   ·rename_i b xs tv ds hb hp
    split at he
    ·rename_i ys hys
     by_cases hc:P.bytesOf el≠0∧T.sz=P.cellsOf el∧T.sz=z.length∧T.sz≠0∧b≠some d∧ds.all (fun k=>b≠some k∧k≠d)=true
     ·rw [if_pos hc] at he
      cases he
      rw [hT,hz,h.cons.1,hd]
      try simp only
      rw [base_loc hb h.cons.2.left,qcB hp h.cons.2.right]
      simp only [hys]
      rw [if_pos hc]
     ·rw [if_neg hc] at he;cases he
    ·cases he
   ·cases he
  ·cases he
 ·cases he
theorem buildOne_loc {t:TypeId} {d d2:Nat} {cs:List Chk} {e:Eff} (he:qdA P t d O d2=some (cs,e)) (h:Same O O' e.rd):qdA P t d O' d2=some (cs,e)∧O' d2=O d2:=by
 unfold qdA at he ⊢
 split at he
 ·rename_i el hu
  try simp only
  split at he
  ·rename_i hz hd
   by_cases hc:P.cellsOf el=1∧d≠d2
   ·rw [if_pos hc] at he
    cases he
    refine ⟨?_,h.cons.2.cons.1⟩
    rw [hz,h.cons.1,hd]
    try simp only
    rw [if_pos hc]
   ·rw [if_neg hc] at he;cases he
  ·cases he
 ·cases he
theorem oneRow_loc {n:Nat} {ps:List (Nat×List Lf)} {d:Nat} (he:oneRow O n ps=some d) (h:O' d=O d):oneRow O' n ps=some d:=by
 obtain ⟨rfl,rfl,e',t,xs,hd⟩:=qfx he
 unfold oneRow
 simp only [h,hd]
theorem qfy {t:TypeId} {n d:Nat} {ps:List (Nat×List Lf)} {cs:List Chk} {e:Eff} (hn:oneRow O n ps=none) (he:qbQ P t n d O ps=some (cs,e)) (h:Same O O' e.rd):oneRow O' n ps=none:=by
 cases h9:oneRow O' n ps with
 |none=>rfl
 |some d2=>
  exfalso
  obtain ⟨rfl,rfl,e',t',xs,hd2⟩:=qfx h9
  have hnr:∀e t xs,O d2≠.row e t xs false:=by
   intro e t xs hq
   unfold oneRow at hn
   simp only at hn
   rw [hq] at hn
   cases hn
  unfold qbQ at he
  have one:∀{z c:List Lf},fillL (fun i=>some (i*z.length,z.length)) (reps 1 z) [(0,[.o d2])]=some c→z.length=1∧c=[.o d2]:=by
   intro z c hf
   unfold fillL at hf
   simp only at hf
   split at hf
   ·rename_i hq
    have hz:z.length=1:=hq.1.symm
    unfold fillL at hf
    cases hf
    refine ⟨hz,?_⟩
    cases z with
    |nil=>cases hz
    |cons a z=>
     cases z with
     |nil=>rfl
     |cons _ _=>cases hz
   ·cases hf
  split at he
  ·rename_i el hu
   split at he
   ·rename_i T z hT hz hd
    by_cases hc:z.length=P.cellsOf el∧T.sz=z.length∧1*z.length≤2 ^ 24
    ·rw [if_pos hc] at he
     split at he
     ·rename_i c hf
      obtain ⟨hz1,rfl⟩:=one hf
      split at he
      ·rename_i xs' ds hch
       split at he
       ·cases he
       ·split at he
        ·cases he
         rw [hz1] at hch
         unfold chunks at hch
         cases e1:packs O T (([.o d2]:List Lf).take 1) with
         |none=>rw [e1] at hch;cases hch
         |some r1=>
          obtain ⟨x,d1⟩:=r1
          rw [e1] at hch
          unfold chunks at hch
          cases hch
          unfold packs at e1
          have e1:(match qb7 O [.o d2] with
           |some (vs,ds)=>match ofTVs T vs with
            |some (x,[])=>some (x,ds)
            |_=>none
           |none=>none)=some (x,d1):=e1
          cases e2:qb7 O [.o d2] with
          |none=>rw [e2] at e1;cases e1
          |some r2=>
           obtain ⟨vs,d3⟩:=r2
           rw [e2] at e1
           simp only at e1
           have hd3:d3=[d2]:=by
            unfold qb7 at e2
            cases e4:pureL O (.o d2) with
            |none=>rw [e4] at e2;cases e2
            |some r4=>
             obtain ⟨v4,d4⟩:=r4
             rw [e4] at e2
             unfold qb7 at e2
             cases e2
             simp only [pureL] at e4
             cases ho:O d2<;>rw [ho] at e4<;>first|(cases e4;rfl)|cases e4
           subst hd3
           have hd1:d1=[d2]:=by
            cases e5:ofTVs T vs with
            |none=>rw [e5] at e1;cases e1
            |some r5=>
             obtain ⟨y5,l5⟩:=r5
             rw [e5] at e1
             cases l5 with
             |nil=>cases e1;rfl
             |cons _ _=>cases e1
           subst hd1
           have:=h d2 (by simp)
           rw [hd2] at this
           exact hnr _ _ _ this.symm
        ·cases he
      ·cases he
     ·cases he
    ·rw [if_neg hc] at he;cases he
   ·rename_i z hT hz hd
    split at he
    ·rename_i c hf
     obtain ⟨_,rfl⟩:=one hf
     cases he
    ·cases he
   ·cases he
  ·cases he
theorem appendD_loc {t:TypeId} {d:Nat} {x y:Option Lf} {cs:List Chk} {e:Eff} (he:qcq P t d O x y=some (cs,e)) (h:Same O O' e.rd):qcq P t d O' x y=some (cs,e):=by
 unfold qcq at he ⊢
 simp only at he ⊢
 split at he
 ·rename_i d0
  try simp only
  split at he
  ·rename_i el hu
   try simp only
   split at he
   ·rename_i u e' e2 T xss hd hd0
    split at he
    ·rename_i d1
     split at he
     ·rename_i eb d2 hd1
      split at he
      ·rename_i e3 T2 ys hd2
       by_cases hT:T2=T
       ·rw [dif_pos hT] at he
        split at he
        ·rename_i hq
         cases he
         rw [h.cons.1,h.cons.2.cons.1,hd,hd0]
         try simp only
         rw [h.cons.2.cons.2.cons.1,hd1]
         try simp only
         rw [h.cons.2.cons.2.cons.2.cons.1,hd2]
         try simp only
         rw [dif_pos hT,if_pos hq]
        ·cases he
       ·rw [dif_neg hT] at he;cases he
      ·cases he
     ·cases he
    ·cases he
   ·cases he
  ·cases he
 ·rename_i d0 n
  try simp only
  split at he
  ·rename_i el hu
   try simp only
   split at he
   ·rename_i u e' e2 T xss hd hd0
    split at he
    ·rename_i d1
     split at he
     ·rename_i eb d2 hd1
      split at he
      ·rename_i e3 T2 ys hd2
       by_cases hT:T2=T
       ·rw [dif_pos hT] at he
        split at he
        ·rename_i hq
         cases he
         rw [h.cons.1,h.cons.2.cons.1,hd,hd0]
         try simp only
         rw [h.cons.2.cons.2.cons.1,hd1]
         try simp only
         rw [h.cons.2.cons.2.cons.2.cons.1,hd2]
         try simp only
         rw [dif_pos hT,if_pos hq]
        ·cases he
       ·rw [dif_neg hT] at he;cases he
      ·cases he
     ·cases he
    ·cases he
   ·cases he
  ·cases he
 ·cases he
theorem appendI_loc {t:TypeId} {d:Nat} {x y:Option Lf} {cs:List Chk} {e:Eff} (he:qcp P t d O x y=some (cs,e)) (h:Same O O' e.rd):qcp P t d O' x y=some (cs,e)∧qcq P t d O' x y=none:=by
 unfold qcp at he ⊢
 split at he
 ·rename_i el d0 u i hu
  refine ⟨?_,rfl⟩
  try simp only
  split at he
  ·rename_i T u' e0 e2 T0 xss z hT hd hd0 hz
   by_cases hTT:T0=T
   ·rw [dif_pos hTT] at he
    split at he
    ·rename_i tv ds hp
     split at he
     ·rename_i ys hys
      split at he
      ·rename_i hcd
       cases he
       rw [hT,hz,h.cons.1,h.cons.2.cons.1,hd,hd0]
       try simp only
       rw [dif_pos hTT,qcB hp h.cons.2.cons.2]
       try simp only
       rw [hys]
       try simp only
       rw [if_pos hcd]
      ·cases he
     ·cases he
    ·cases he
   ·rw [dif_neg hTT] at he;cases he
  ·cases he
 ·cases he
theorem base_row {T:Ty} {x:Option Lf} {b:Option Nat} {xs:List T.T} (e:base O T x=some (b,xs)):x=some .nils∨∃d,b=some d∧(∃e t ys,O d=.row e t ys false)∧(x=some (.o d)∨∃a n,x=some (.os d a n)):=by
 unfold base at e
 split at e
 ·exact Or.inl rfl
 ·rename_i d
  split at e
  ·rename_i a T' ys hd
   by_cases ht:T'=T
   ·rw [dif_pos ht] at e
    cases e
    exact Or.inr ⟨d,rfl,⟨_,_,_,hd⟩,Or.inl rfl⟩
   ·rw [dif_neg ht] at e;cases e
  ·cases e
 ·rename_i d off len
  split at e
  ·rename_i a T' ys hd
   by_cases ht:T'=T
   ·rw [dif_pos ht] at e
    cases e
    exact Or.inr ⟨d,rfl,⟨_,_,_,hd⟩,Or.inr ⟨_,_,rfl⟩⟩
   ·rw [dif_neg ht] at e;cases e
  ·cases e
 ·cases e
theorem appendL_none {t:TypeId} {d:Nat} {x y:Option Lf} {cs:List Chk} {e:Eff} (he:qdn P t d O x y=some (cs,e)) (h:Same O O' e.rd):qcq P t d O' x y=none∧qcp P t d O' x y=none:=by
 have hx:x=some .nils∨∃d0,(∃e t ys,O' d0=.row e t ys false)∧(x=some (.o d0)∨∃a n,x=some (.os d0 a n)):=by
  unfold qdn at he
  split at he
  ·rename_i el hu
   split at he
   ·rename_i T z hT hd hz
    split at he
    ·rename_i b xs tv ds hb hp
     split at he
     ·rename_i ys hys
      split at he
      ·cases he
       rcases base_row hb with h1|⟨d0,rfl,⟨e,t,ys,h2⟩,h3⟩
       ·exact Or.inl h1
       ·exact Or.inr ⟨d0,⟨e,t,ys,(h.cons.2.cons.1).trans h2⟩,h3⟩
      ·cases he
     ·cases he
    ·cases he
   ·cases he
  ·cases he
 rcases hx with rfl|⟨d0,⟨e,t',ys,h2⟩,rfl|⟨a,n,rfl⟩⟩
 ·refine ⟨rfl,?_⟩
  unfold qcp
  split<;>first|rfl|(rename_i h9;cases h9)
 ·refine ⟨?_,?_⟩
  ·unfold qcq
   simp only
   rw [h2]
   split
   ·split
    ·rename_i h9;cases h9
    ·rfl
   ·rfl
  ·unfold qcp
   split<;>first|rfl|(rename_i h9;cases h9)
 ·refine ⟨?_,?_⟩
  ·cases a with
   |succ a=>rfl
   |zero=>
    unfold qcq
    simp only
    rw [h2]
    split
    ·split
     ·rename_i h9;cases h9
     ·rfl
    ·rfl
  ·unfold qcp
   split<;>first|rfl|(rename_i h9;cases h9)
theorem makeMapL_loc {d:Nat} {cs:List Chk} {e:Eff} (he:qdw d O=some (cs,e)) (h:Same O O' e.rd):qdw d O'=some (cs,e):=by
 unfold qdw at he ⊢
 cases hd:O d with
 |no=>
  rw [hd] at he
  cases he
  rw [h.cons.1,hd]
 |_=>rw [hd] at he;cases he
theorem lookupL_loc {t:TypeId} {x ix:Option Lf} {cs:List Chk} {e:Eff} (he:qer P t O x ix=some (cs,e)) (h:Same O O' e.rd):qer P t O' x ix=some (cs,e):=by
 unfold qer at he ⊢
 split at he
 ·rename_i d k ht
  try simp only
  cases hd:O d with
  |mp es=>
   rw [hd] at he
   cases he
   rw [h.cons.1,hd]
  |_=>rw [hd] at he;cases he
 ·cases he
theorem qf2 {t:TypeId} {x y z:Option Lf} {cs:List Chk} {e:Eff} (he:qcs P t O x y z=some (cs,e)) (h:Same O O' e.rd):qcs P t O' x y z=some (cs,e):=by
 unfold qcs at he ⊢
 split at he
 ·rename_i d k v ht
  try simp only
  cases hd:O d with
  |mp es=>
   rw [hd] at he
   cases he
   rw [h.cons.1,hd]
  |_=>rw [hd] at he;cases he
 ·cases he
theorem pureT_loc {x:Lf} {tv:TV} {ds:List Nat} (e:pureT O x=some (tv,ds)) (h:Same O O' ds):pureT O' x=some (tv,ds):=by
 unfold pureT at e ⊢
 split at e
 ·rename_i d
  try simp only
  split at e
  ·rename_i u e' e2 t xss hd
   cases e
   rw [h.cons.1,hd]
  ·rename_i hnd
   have e2:=qcB e h
   simp only [pureL] at e
   cases hd:O d with
   |row a b c f=>
    rw [hd] at e
    cases e
    rw [h.cons.1,hd]
    exact e2
   |_=>rw [hd] at e;cases e
 ·exact qcB e h
theorem qgg:∀{ls:List Lf} {vs:List TV} {ds:List Nat},qcA O ls=some (vs,ds)→Same O O' ds→qcA O' ls=some (vs,ds)
 |[],_,_,e,_=>e
 |x::ls,vs,ds,e,h=>by
  unfold qcA at e ⊢
  cases e1:pureT O x with
  |none=>rw [e1] at e;cases e
  |some r1=>
   obtain ⟨tv,d1⟩:=r1
   cases e2:qcA O ls with
   |none=>rw [e1,e2] at e;cases e
   |some r2=>
    obtain ⟨tvs,d2⟩:=r2
    rw [e1,e2] at e
    cases e
    rw [pureT_loc e1 h.left,qgg e2 h.right]
theorem packsT_loc {t:Ty} {ls:List Lf} {x:t.T} {ds:List Nat} (e:qeI O t ls=some (x,ds)) (h:Same O O' ds):qeI O' t ls=some (x,ds):=by
 unfold qeI at e ⊢
 cases e1:qcA O ls with
 |none=>rw [e1] at e;cases e
 |some r1=>
  obtain ⟨vs,d1⟩:=r1
  rw [e1] at e
  simp only at e
  cases e2:ofTVs t vs with
  |none=>rw [e2] at e;cases e
  |some r2=>
   obtain ⟨y,l⟩:=r2
   rw [e2] at e
   cases l with
   |cons _ _=>cases e
   |nil=>
    cases e
    rw [qgg e1 h]
    simp only [e2]
theorem bind_mem {g g':Gr} {d d':Nat} (e:g.bind d (some d')=some g'):d'∈qbs g'.ren:=qcg (qb8 (bind_ok e).1)
theorem grabL_loc {g g':Gr} {s:LSh} {x:Lf} (e:grabL O g s x=some g') (h:Same O O' g'.fz) (h2:Same O O' (qbs g'.ren)):grabL O' g s x=some g':=by
 unfold grabL at e ⊢
 split at e
 ·rename_i t
  try simp only
  cases e1:pureL O x with
  |none=>rw [e1] at e;cases e
  |some r=>
   obtain ⟨tv,ds⟩:=r
   rw [e1] at e
   cases e
   rw [qcB e1 (fun k hk=>h k (List.mem_append_left _ hk))]
 all_goals first|exact e|skip
 rotate_left
 ·rename_i t d
  try simp only
  split at e
  ·rename_i e' ls hd
   split at e
   ·rename_i y ds hp
    cases e
    rw [h d List.mem_cons_self,hd]
    try simp only
    rw [packsT_loc hp (fun k hk=>h k (List.mem_cons_of_mem _ (List.mem_append_left _ hk)))]
   ·cases e
  ·cases e
 rename_i d d' v i
 try simp only
 have hd':O' d'=O d':=by
  refine h2 d' ?_
  split at e
  ·split at e
   ·cases e1:g.bind d (some d') with
    |none=>rw [e1] at e;cases e
    |some g1=>
     rw [e1] at e
     cases e
     exact bind_mem (g':=g1) e1
   ·cases e
  ·cases e
 rw [hd']
 exact e
theorem qgp {g g':Gr} {s:LSh} {x:Lf} (e:grabL O g s x=some g'):(∀d∈g.fz,d∈g'.fz)∧∀d∈qbs g.ren,d∈qbs g'.ren:=by
 have hb:∀{d:Nat} {y:Option Nat},g.bind d y=some g'→(∀d∈g.fz,d∈g'.fz)∧∀d∈qbs g.ren,d∈qbs g'.ren:=by
  intro d y e
  unfold Gr.bind at e
  split at e
  ·cases e
   refine ⟨fun _ h=>h,fun k hk=>?_⟩
   cases y with
   |none=>exact hk
   |some z=>exact List.mem_cons_of_mem _ hk
  ·split at e
   ·cases e;exact ⟨fun _ h=>h,fun _ h=>h⟩
   ·cases e
 unfold grabL at e
 split at e
 ·split at e
  ·cases e;exact ⟨fun k hk=>List.mem_append_right _ hk,fun _ h=>h⟩
  ·cases e
 ·exact hb e
 ·exact hb e
 ·split at e
  ·exact hb e
  ·cases e
 ·split at e
  ·exact hb e
  ·cases e
 ·split at e
  ·cases e;exact ⟨fun _ h=>h,fun _ h=>h⟩
  ·cases e
 ·cases e;exact ⟨fun _ h=>h,fun _ h=>h⟩
 ·cases e;exact ⟨fun _ h=>h,fun _ h=>h⟩
 ·cases e;exact ⟨fun _ h=>h,fun _ h=>h⟩
 ·exact hb e
 ·exact hb e
 ·rename_i d d' v i
  split at e
  ·split at e
   ·cases e1:g.bind d (some d') with
    |none=>rw [e1] at e;cases e
    |some g1=>
     rw [e1] at e
     cases e
     obtain ⟨_,_,b3,_⟩:=bind_ok e1
     refine ⟨fun k hk=>by show k∈g1.fz;rw [b3];exact hk,fun k hk=>?_⟩
     show k∈qbs g1.ren
     unfold Gr.bind at e1
     split at e1
     ·cases e1
      exact List.mem_cons_of_mem _ hk
     ·split at e1
      ·cases e1;exact hk
      ·cases e1
   ·cases e
  ·cases e
 ·split at e
  ·split at e
   ·cases e;exact ⟨fun k hk=>List.mem_cons_of_mem _ (List.mem_append_right _ hk),fun _ h=>h⟩
   ·cases e
  ·cases e
 ·split at e
  ·cases e;exact ⟨fun _ h=>h,fun _ h=>h⟩
  ·cases e
 ·cases e
theorem qes:∀{ss:List LSh} {xs:List Lf} {g g':Gr},qdG O g ss xs=some g'→((∀d∈g.fz,d∈g'.fz)∧∀d∈qbs g.ren,d∈qbs g'.ren)∧(Same O O' g'.fz→Same O O' (qbs g'.ren)→qdG O' g ss xs=some g')
 |[],[],g,g',e=>by cases e;exact ⟨⟨fun _ h=>h,fun _ h=>h⟩,fun _ _=>rfl⟩
 |s::ss,x::xs,g,g',e=>by
  unfold qdG at e ⊢
  cases e1:grabL O g s x with
  |none=>rw [e1] at e;cases e
  |some g1=>
   rw [e1] at e
   obtain ⟨⟨m1,m2⟩,k⟩:=qes e
   obtain ⟨n1,n2⟩:=qgp e1
   refine ⟨⟨fun d hd=>m1 d (n1 d hd),fun d hd=>m2 d (n2 d hd)⟩,fun h h2=>?_⟩
   rw [grabL_loc e1 (fun d hd=>h d (m1 d hd)) (fun d hd=>h2 d (m2 d hd))]
   exact k h h2
 |[],_::_,_,_,e=>by cases e
 |_::_,[],_,_,e=>by cases e
theorem grabC_loc {g g':Gr} {s:CSh} {x:Cm} (e:grabC O g s x=some g'):((∀d∈g.fz,d∈g'.fz)∧∀d∈qbs g.ren,d∈qbs g'.ren)∧(Same O O' g'.fz→Same O O' (qbs g'.ren)→grabC O' g s x=some g'):=by
 unfold grabC at e ⊢
 split at e
 ·exact ⟨qgp e,fun h h2=>grabL_loc e h h2⟩
 ·exact qes e
 ·rename_i t xs
  try simp only
  cases e1:packs O t xs with
  |none=>rw [e1] at e;cases e
  |some r=>
   obtain ⟨y,ds⟩:=r
   rw [e1] at e
   cases e
   refine ⟨⟨fun k hk=>List.mem_append_right _ hk,fun _ h=>h⟩,fun h _=>?_⟩
   rw [qcL e1 (fun k hk=>h k (List.mem_append_left _ hk))]
 ·cases e;exact ⟨⟨fun _ h=>h,fun _ h=>h⟩,fun _ _=>rfl⟩
 ·cases e
theorem qet:∀{ss:List CSh} {xs:List Cm} {g g':Gr},qeM O g ss xs=some g'→((∀d∈g.fz,d∈g'.fz)∧∀d∈qbs g.ren,d∈qbs g'.ren)∧(Same O O' g'.fz→Same O O' (qbs g'.ren)→qeM O' g ss xs=some g')
 |[],[],g,g',e=>by cases e;exact ⟨⟨fun _ h=>h,fun _ h=>h⟩,fun _ _=>rfl⟩
 |s::ss,x::xs,g,g',e=>by
  unfold qeM at e ⊢
  cases e1:grabC O g s x with
  |none=>rw [e1] at e;cases e
  |some g1=>
   rw [e1] at e
   obtain ⟨⟨m1,m2⟩,k⟩:=qet e
   obtain ⟨⟨n1,n2⟩,q⟩:=grabC_loc (O':=O') e1
   refine ⟨⟨fun d hd=>m1 d (n1 d hd),fun d hd=>m2 d (n2 d hd)⟩,fun h h2=>?_⟩
   rw [q (fun d hd=>h d (m1 d hd)) (fun d hd=>h2 d (m2 d hd))]
   exact k h h2
 |[],_::_,_,_,e=>by cases e
 |_::_,[],_,_,e=>by cases e
theorem grabO_loc {g g':Gr} {d:Nat} {s:OSh} (e:grabO O g d s=some g'):((∀d∈g.fz,d∈g'.fz)∧∀d∈qbs g.ren,d∈qbs g'.ren)∧(Same O O' g'.fz→Same O O' (qbs g'.ren)→grabO O' g d s=some g'):=by
 unfold grabO at e ⊢
 split at e
 ·cases e
 ·rename_i hl
  try simp only [hl]
  split at e
  ·cases e;exact ⟨⟨fun _ h=>h,fun _ h=>h⟩,fun _ _=>rfl⟩
  ·cases e;exact ⟨⟨fun _ h=>h,fun _ h=>h⟩,fun _ _=>rfl⟩
  ·cases e
 ·rename_i d' hl
  try simp only [hl]
  have hm:∀{g':Gr},(∀d∈qbs g.ren,d∈qbs g'.ren)→Same O O' (qbs g'.ren)→O' d'=O d':=fun m2 h2=>h2 d' (m2 d' (qcg (qb8 hl)))
  cases hd:O d' with
  |row a T xs f=>
   cases s with
   |row e0 t0=>
    cases f with
    |true=>rw [hd] at e;cases e
    |false=>
     rw [hd] at e
     simp only at e
     by_cases hc:e0=a∧t0=T
     ·rw [if_pos hc] at e
      cases e
      refine ⟨⟨fun _ h=>h,fun _ h=>h⟩,fun _ h2=>?_⟩
      rw [hm (g':=g) (fun _ h=>h) h2,hd]
      try simp only
      rw [if_pos hc]
     ·rw [if_neg hc] at e;cases e
   |_=>rw [hd] at e;cases e
  |box a cs=>
   cases s with
   |box e0 ss=>
    rw [hd] at e
    simp only at e
    by_cases hc:e0=a
    ·rw [if_pos hc] at e
     obtain ⟨⟨m1,m2⟩,k⟩:=qes (O':=O') e
     refine ⟨⟨m1,m2⟩,fun h1 h2=>?_⟩
     rw [hm m2 h2,hd]
     try simp only
     rw [if_pos hc]
     exact k h1 h2
    ·rw [if_neg hc] at e;cases e
   |_=>rw [hd] at e;cases e
  |caps cs=>
   cases s with
   |caps ss=>
    rw [hd] at e
    simp only at e
    obtain ⟨⟨m1,m2⟩,k⟩:=qet (O':=O') e
    refine ⟨⟨m1,m2⟩,fun h1 h2=>?_⟩
    rw [hm m2 h2,hd]
    exact k h1 h2
   |_=>rw [hd] at e;cases e
  |no=>cases s<;>rw [hd] at e<;>cases e
  |dead=>
   cases s with
   |gone=>
    rw [hd] at e
    cases e
    refine ⟨⟨fun _ h=>h,fun _ h=>h⟩,fun _ h2=>?_⟩
    rw [hm (g':=g) (fun _ h=>h) h2,hd]
   |_=>rw [hd] at e;cases e
  |mp es=>
   cases s with
   |mp=>
    rw [hd] at e
    cases e
    refine ⟨⟨fun _ h=>h,fun _ h=>h⟩,fun _ h2=>?_⟩
    rw [hm (g':=g) (fun _ h=>h) h2,hd]
   |_=>rw [hd] at e;cases e
  |fwd a1 a2 a3 a4 a5=>cases s<;>rw [hd] at e<;>cases e
  |deep v a e2 T xss pd=>
   cases s with
   |deep a' e2' T'=>
    cases pd with
    |ok=>
     rw [hd] at e
     simp only at e
     by_cases hc:a'=a∧e2'=e2∧T'=T
     ·rw [if_pos hc] at e
      cases e
      refine ⟨⟨fun _ h=>h,fun _ h=>h⟩,fun _ h2=>?_⟩
      rw [hm (g':=g) (fun _ h=>h) h2,hd]
      try simp only
      rw [if_pos hc]
     ·rw [if_neg hc] at e;cases e
    |_=>rw [hd] at e;cases e
   |_=>rw [hd] at e;cases e
theorem qgo:∀{ls:List (Nat×OSh)} {g g':Gr},qfG O g ls=some g'→((∀d∈g.fz,d∈g'.fz)∧∀d∈qbs g.ren,d∈qbs g'.ren)∧(Same O O' g'.fz→Same O O' (qbs g'.ren)→qfG O' g ls=some g')
 |[],g,g',e=>by cases e;exact ⟨⟨fun _ h=>h,fun _ h=>h⟩,fun _ _=>rfl⟩
 |(d,s)::ls,g,g',e=>by
  unfold qfG at e ⊢
  cases e1:grabO O g d s with
  |none=>rw [e1] at e;cases e
  |some g1=>
   rw [e1] at e
   obtain ⟨⟨m1,m2⟩,k⟩:=qgo e
   obtain ⟨⟨n1,n2⟩,q⟩:=grabO_loc (O':=O') e1
   refine ⟨⟨fun d hd=>m1 d (n1 d hd),fun d hd=>m2 d (n2 d hd)⟩,fun h1 h2=>?_⟩
   rw [q (fun d hd=>h1 d (m1 d hd)) (fun d hd=>h2 d (m2 d hd))]
   exact k h1 h2
theorem grab_loc {c:Cut} {fixed:List Nat} {cms:List Cm} {g:Gr} {x:prods c.tys} (e:grab c fixed cms O=some (g,x)) (h1:Same O O' g.fz) (h2:Same O O' (qbs g.ren)):grab c fixed cms O'=some (g,x):=by
 unfold grab at e ⊢
 split at e
 ·rename_i g1 e1
  split at e
  ·rename_i g2 e2
   split at e
   ·rename_i hc
    split at e
    ·rename_i y ey
     cases e
     obtain ⟨⟨m1,m2⟩,k⟩:=qgo (O':=O') e2
     obtain ⟨_,q⟩:=qet (O':=O') e1
     rw [q (fun d hd=>h1 d (m1 d hd)) (fun d hd=>h2 d (m2 d hd))]
     try simp only
     rw [k h1 h2]
     try simp only
     rw [if_pos hc,ey]
    ·cases e
   ·cases e
  ·cases e
 ·cases e
theorem convX_loc {s t:TypeId} {x:Option Lf} {cs:List Chk} {e:Eff} (he:convX P O s t x=some (cs,e)) (h:Same O O' e.rd):convX P O' s t x=some (cs,e):=by
 unfold convX at he ⊢
 generalize P.underlying s=A at he ⊢
 generalize P.underlying t=B at he ⊢
 split at he
 ·exact he
 ·split at he
  ·rename_i hu
   try simp only
   rw [if_pos hu]
   unfold toStrL at he ⊢
   split at he
   ·exact he
   ·exact he
   ·rename_i d
    try simp only
    cases hd:O d with
    |row a T xs f=>
     rw [hd] at he
     cases T with
     |int k=>
      cases k<;>first|(cases he;done)|(cases he;rw [h.cons.1,hd];done)
     |_=>cases he
    |_=>rw [hd] at he;cases he
   ·cases he
  ·cases he
 ·exact he
theorem allocL_loc {d:Nat} {t:TypeId} {z:List Lf} {cs:List Chk} {e:Eff} (he:qgu P d O t z=some (cs,e)) (h:Same O O' e.rd):qgu P d O' t z=some (cs,e):=by
 unfold qgu at he ⊢
 split at he
 ·rename_i n el hu
  split at he
  ·rename_i T hT hd
   split at he
   ·rename_i hc
    split at he
    ·rename_i xs hch
     cases he
     rw [h.cons.1,hd]
     try simp only [hT]
     rw [if_pos hc,qcP (O':=O') hch (fun _ h=>by cases h)]
    ·cases he
   ·cases he
  ·cases he
 ·exact qgj he h
theorem indexArrL_loc {n sz:Nat} {x y:Option Lf} {cs:List Chk} {e:Eff} (he:qcO n sz O x y=some (cs,e)) (h:Same O O' e.rd):qcO n sz O' x y=some (cs,e):=by
 unfold qcO at he ⊢
 split at he
 ·rename_i k i d
  try simp only
  cases hd:O d with
  |row a T xs f=>
   rw [hd] at he
   simp only at he
   by_cases hc:T.sz=sz∧sz≠0
   ·rw [if_pos hc] at he
    cases he
    rw [h.cons.1,hd]
    simp only
    rw [if_pos hc]
   ·rw [if_neg hc] at he
    cases he
  |_=>rw [hd] at he;cases he
 ·cases he
theorem sliceArrL_loc {n sz:Nat} {x:Option Lf} {lo hi:Option Int} {cs:List Chk} {e:Eff} (he:qcK n sz O x lo hi=some (cs,e)) (h:Same O O' e.rd):qcK n sz O' x lo hi=some (cs,e):=by
 unfold qcK at he ⊢
 split at he
 ·rename_i d
  try simp only
  cases hd:O d with
  |row a T xs f=>
   rw [hd] at he
   simp only at he
   by_cases hc:T.sz=sz∧sz≠0
   ·rw [if_pos hc] at he
    cases he
    rw [h.cons.1,hd]
    simp only
    rw [if_pos hc]
   ·rw [if_neg hc] at he
    cases he
  |_=>rw [hd] at he;cases he
 ·cases he
theorem indexArrV_loc {n:Nat} {el:TypeId} {x:SV} {y:Option Lf} {cs:List Chk} {e:Eff} (he:qcN P n el O x y=some (cs,e)):qcN P n el O' x y=some (cs,e):=by
 unfold qcN at he ⊢
 split at he
 ·split at he
  ·rename_i T hT
   try simp only
   try rw [hT]
   try simp only
   split at he
   ·rename_i hc
    rw [if_pos hc]
    split at he
    ·rename_i xs hch
     rw [qcP hch (fun _ h=>by cases h)]
     exact he
    ·cases he
   ·cases he
  ·cases he
 ·cases he
theorem storeArr_loc {t:TypeId} {x:Option Lf} {y:SV} {cs:List Chk} {e:Eff} (he:qbW P t O x y=some (cs,e)) (h:Same O O' e.rd):qbW P t O' x y=some (cs,e):=by
 unfold qbW at he ⊢
 split at he
 ·rename_i d ls n el hy hu
  cases hd:O d with
  |row e' T xs f=>
   cases f with
   |true=>rw [hd] at he;cases he
   |false=>
    rw [hd] at he
    simp only at he
    split at he
    ·rename_i hc
     split at he
     ·rename_i ys ds hch
      split at he
      ·cases he
      ·rename_i hk
       split at he
       ·rename_i fz hfz
        cases he
        try rw [hy,hu]
        try simp only
        rw [h.cons.1,hd]
        try simp only
        rw [if_pos hc,qcP hch h.cons.2]
        try simp only
        rw [if_neg hk,qcv hfz h.cons.2]
       ·cases he
     ·cases he
    ·cases he
  |_=>rw [hd] at he;cases he
 ·cases he
theorem storeArr_none {t:TypeId} {x:Option Lf} {y:SV} {cs:List Chk} {e:Eff} (he:qc8 P t O x y=some (cs,e)):qbW P t O' x y=none:=by
 unfold qbW
 split
 ·rename_i d ls n el hy hu
  unfold qc8 at he
  rw [hy] at he
  simp only at he
  split at he<;>cases he
 ·rfl
theorem qf1 {t:TypeId} {x:Option Lf} {y:SV} {cs:List Chk} {e:Eff} (he:qbW P t O x y=some (cs,e)):takeL P t O' x y=none:=by
 unfold takeL
 split
 all_goals first|rfl|(unfold qbW at he;cases he)
theorem dstOf_loc {T:Ty} {x:Option Lf} {d:Nat} {r:TypeId×List T.T×Nat×Nat} (hd:dstOf O T x=some (d,r)) (h:O' d=O d):dstOf O' T x=some (d,r):=by
 unfold dstOf at hd ⊢
 split at hd
 ·rename_i d'
  try simp only
  cases ho:O d' with
  |row e' T' ys f=>
   cases f with
   |true=>rw [ho] at hd;cases hd
   |false=>
    rw [ho] at hd
    simp only at hd
    by_cases ht:T'=T
    ·rw [dif_pos ht] at hd
     have:d'=d:=by cases hd;rfl
     subst this
     rw [h,ho]
     try simp only
     rw [dif_pos ht]
     exact hd
    ·rw [dif_neg ht] at hd;cases hd
  |_=>rw [ho] at hd;cases hd
 ·rename_i d' off len
  try simp only
  cases ho:O d' with
  |row e' T' ys f=>
   cases f with
   |true=>rw [ho] at hd;cases hd
   |false=>
    rw [ho] at hd
    simp only at hd
    by_cases ht:T'=T
    ·rw [dif_pos ht] at hd
     have:d'=d:=by cases hd;rfl
     subst this
     rw [h,ho]
     try simp only
     rw [dif_pos ht]
     exact hd
    ·rw [dif_neg ht] at hd;cases hd
  |_=>rw [ho] at hd;cases hd
 ·cases hd
theorem copyL_loc {t:TypeId} {x y:Option Lf} {cs:List Chk} {e:Eff} (he:copyL P t O x y=some (cs,e)) (h:Same O O' e.rd):copyL P t O' x y=some (cs,e):=by
 unfold copyL at he ⊢
 split at he
 ·rename_i el hu
  try simp only
  split at he
  ·rename_i T hT
   try rw [hT]
   try simp only
   split at he
   ·rename_i d e' xs off len tv ds hd hp
    split at he
    ·rename_i ys hys
     split at he
     ·rename_i hz
      cases he
      rw [dstOf_loc hd h.cons.1,qcB hp h.cons.2]
      try simp only
      rw [hys]
      try simp only
      rw [if_pos hz]
     ·cases he
    ·cases he
   ·cases he
  ·cases he
 ·cases he
theorem Same.upds {l:List (Nat×Obj)} {ds:List Nat} (h:Same O O' ds):Same (upds O l) (upds O' l) ds:=by
 intro d hd
 rcases qbM l O d with ⟨h1,h2⟩|⟨v,h1,h2⟩
 ·rw [h2]
  exact (qbA h1).trans (h d hd)
 ·have key:∀(l:List (Nat×Obj)) (f g:Nat→Obj),d∈l.map (·.1)→VE.upds f l d=VE.upds g l d:=by
   intro l
   induction l with
   |nil=>intro f g h;cases h
   |cons a l ih=>
    intro f g hm
    obtain ⟨k,z⟩:=a
    show VE.upds (upd f k z) l d=VE.upds (upd g k z) l d
    by_cases hl:d∈l.map (·.1)
    ·exact ih _ _ hl
    ·rw [qbA hl,qbA hl]
     have:d=k:=by
      rcases List.mem_cons.1 hm with h|h
      ·exact h
      ·exact absurd h hl
     rw [this,qad,qad]
  exact key l O' O (List.mem_map.2 ⟨_,h1,rfl⟩)
theorem qgv {x:Lf} (h:Same O O' x.ids):qdI O' x=qdI O x:=by
 cases x with
 |o d=>simp only [qdI,show O' d=O d from h.cons.1]
 |os d a n=>simp only [qdI,show O' d=O d from h.cons.1]
 |oh d v i=>simp only [qdI,show O' d=O d from h.cons.1]
 |ohs d v i a n=>simp only [qdI,show O' d=O d from h.cons.1]
 |_=>rfl
theorem qdU:∀{xs:List Lf} {O O':Nat→Obj},Same O O' (xs.flatMap Lf.ids)→qca xs O'=qca xs O
 |[],_,_,_=>rfl
 |x::xs,O,O',h=>by
  have h:Same O O' (x.ids++xs.flatMap Lf.ids):=h
  unfold qca
  rw [qgv h.left]
  split
  ·rw [qdU h.right.upds]
  ·rw [qdU h.right]
theorem adoptC_loc {s:CSh} {x:Cm} (h:Same O O' x.ids):qfY O' s x=qfY O s x:=by
 unfold qfY
 split
 ·rename_i t x
  rw [qgv h]
 ·rename_i t xs
  rw [qdU h]
 ·rename_i d0 d
  rw [show O' d=O d from h.cons.1]
 ·rfl
theorem qfz:∀{ss:List CSh} {xs:List Cm} {O O':Nat→Obj},Same O O' (xs.flatMap Cm.ids)→normC ss xs O'=normC ss xs O
 |[],xs,_,_,_=>by cases xs<;>rfl
 |_::_,[],_,_,_=>rfl
 |s::ss,x::xs,O,O',h=>by
  have h:Same O O' (x.ids++xs.flatMap Cm.ids):=h
  unfold normC
  rw [adoptC_loc h.left]
  split
  ·rw [qfz h.right.upds]
  ·rw [qfz h.right]
theorem qgs {kx:List Nat} {ren:List (Nat×Option Nat)} {dst:Nat} {τ:Nat→Nat}:∀{os:List (Nat×Obj)},Same O O' (os.map fun o=>τ o.1)→qbU kx O' ren dst τ os=qbU kx O ren dst τ os
 |[],_=>rfl
 |(d,y)::os,h=>by
  have h:Same O O' (τ d::os.map fun o=>τ o.1):=h
  unfold qbU
  rw [qgs h.cons.2,h.cons.1]
theorem resL_loc {x:Option Lf} (h:Same O O' (resL O x).2):resL O' x=resL O x:=by
 cases x with
 |none=>rfl
 |some x=>
  cases x with
  |o d=>
   have hd:O' d=O d:=by
    refine h d ?_
    simp only [resL]
    cases O d<;>exact List.mem_singleton.2 rfl
   simp only [resL,hd]
  |_=>rfl
theorem qdt {ds:List Nat} {r:OE} {cs:List Chk} {e:Eff} (h:rdD ds r=some (cs,e)):∃e0,r=some (cs,e0)∧e=⟨e0.sv,ds++e0.rd,e0.wr⟩:=by
 cases r with
 |none=>cases h
 |some p=>
  obtain ⟨cs0,e0⟩:=p
  cases h
  exact ⟨e0,rfl,rfl⟩
end
end Go.Proofs.YtfobeapcmgjhbaaGreatDoor.VE
namespace Go.Proofs.YtfobeapcmgjhbaaGreatDoor.VE
open Go Go.RowKit
section
variable {P:Program} {Γ:Env} {R:Type}
theorem chks_bind (cs:List Chk) (e:Eff) (k:Eff→Option R):chks cs (k e)=(chks cs (some e)).bind k:=by
 induction cs with
 |nil=>rfl
 |cons c cs ih=>
  unfold chks
  by_cases h:c.p
  ·rw [@if_pos _ c.i h,@if_pos _ c.i h];exact ih
  ·rw [@if_neg _ c.i h,@if_neg _ c.i h];rfl
theorem chks_some {cs:List Chk} {e e':Eff} (h:chks cs (some e)=some e'):AllP cs∧e=e':=by
 induction cs with
 |nil=>exact ⟨fun _ h=>(by cases h),Option.some.inj h⟩
 |cons c cs ih=>
  unfold chks at h
  by_cases hc:c.p
  ·rw [@if_pos _ c.i hc] at h
   obtain ⟨h1,h2⟩:=ih h
   exact ⟨fun d hd=>(List.mem_cons.1 hd).elim (fun q=>q▸hc) (h1 d),h2⟩
  ·rw [@if_neg _ c.i hc] at h;cases h
theorem chks_of {cs:List Chk} {e:Eff} (h:AllP cs):chks cs (some e)=some e:=by
 induction cs with
 |nil=>rfl
 |cons c cs ih=>
  unfold chks
  rw [@if_pos _ c.i (h c List.mem_cons_self)]
  exact ih (fun d hd=>h d (List.mem_cons_of_mem _ hd))
theorem fin_bind (r:OE) (k:Eff→Option R):fin r k=(fin r some).bind k:=by
 unfold fin
 cases r with
 |none=>rfl
 |some x=>exact chks_bind x.1 x.2 k
theorem qaA {r:OE} {e:Eff} (h:fin r some=some e):∃cs,r=some (cs,e)∧AllP cs:=by
 unfold fin at h
 cases r with
 |none=>cases h
 |some x=>
  obtain ⟨h1,h2⟩:=chks_some h
  exact ⟨x.1,by rw [←h2],h1⟩
theorem qbH {r:OE} {e:Eff} {cs:List Chk} (h:r=some (cs,e)) (hc:AllP cs):fin r some=some e:=by
 rw [h];exact chks_of hc
theorem qfg {α:Type} (x:Option Lf) (f:Bool→Option α) (k:α→Option R):splitB x (fun d=>(f d).bind k)=(splitB x f).bind k:=by
 unfold splitB
 split<;>first|rfl|skip
 ·rename_i p i;by_cases h:p
  ·rw [if_pos h,if_pos h]
  ·rw [if_neg h,if_neg h]
 ·rename_i p i;by_cases h:p
  ·rw [if_pos h,if_pos h]
  ·rw [if_neg h,if_neg h]
 ·rename_i y;by_cases h:(y:Bool)=true
  ·rw [if_pos h,if_pos h]
  ·rw [if_neg h,if_neg h]
theorem qci (c:Con) (dst:Nat) (args:List Cm) (O:Nat→Obj) (k:Eff→Option R):callK c dst args O k=(callK c dst args O some).bind k:=by
 unfold callK
 split
 split
 ·rfl
 ·rename_i g x hg
  cases c.sem x with
  |none=>rfl
  |some y=>
   simp only [Option.bind_some]
   split
   ·rfl
   ·split
    ·rfl
    ·split<;>rfl
theorem fnK_bind (Γ:FuncId→Option Con) (x:Nat) (f:Con→Option Eff) (k:Eff→Option R):∀(cs:List Nat) (i:Nat),fnK Γ x (fun c=>(f c).bind k) i cs=(fnK Γ x f i cs).bind k
 |[],_=>rfl
 |g::cs,i=>by
  unfold fnK
  by_cases h:x=i
  ·rw [if_pos h,if_pos h]
   cases Γ g<;>rfl
  ·rw [if_neg h,if_neg h]
   exact fnK_bind Γ x f k cs (i+1)
theorem fnK_congr (Γ:FuncId→Option Con) (x:Nat) {f g:Con→Option R} (h:∀c,f c=g c) (cs:List Nat) (i:Nat):fnK Γ x f i cs=fnK Γ x g i cs:=by
 rw [show f=g from funext h]
theorem fnK_some {Γ:FuncId→Option Con} {x:Nat} {f:Con→Option R} {r:R}:∀{cs:List Nat} {i:Nat},fnK Γ x f i cs=some r→∃g c,i≤x∧cs[x - i]?=some g∧Γ g=some c∧f c=some r
 |[],_,e=>by cases e
 |g::cs,i,e=>by
  unfold fnK at e
  by_cases h:x=i
  ·rw [if_pos h] at e
   cases hg:Γ g with
   |none=>rw [hg] at e;cases e
   |some c=>
    rw [hg] at e
    exact ⟨g,c,by omega,by rw [h,Nat.sub_self];rfl,hg,e⟩
  ·rw [if_neg h] at e
   obtain ⟨g',c,h1,h2,h3,h4⟩:=fnK_some e
   refine ⟨g',c,by omega,?_,h3,h4⟩
   rw [show x - i=(x - (i+1))+1 by omega]
   exact h2
theorem fnK_mono {Γ:FuncId→Option Con} {x:Nat} {f g:Con→Option R} {r:R} (h:∀c,f c=some r→g c=some r):∀{cs:List Nat} {i:Nat},fnK Γ x f i cs=some r→fnK Γ x g i cs=some r
 |[],_,e=>by cases e
 |a::cs,i,e=>by
  unfold fnK at e ⊢
  by_cases hx:x=i
  ·rw [if_pos hx] at e ⊢
   cases hg:Γ a with
   |none=>rw [hg] at e;cases e
   |some c=>rw [hg] at e;exact h c e
  ·rw [if_neg hx] at e ⊢
   exact fnK_mono h e
theorem opK_bind (o:Oper) (st:St) (k:Eff→Option R):opK P Γ o st k=(opK P Γ o st some).bind k:=by
 unfold opK
 split
 ·rfl
 ·rfl
 ·exact (qfg _ (fun d=>some _) k)
 all_goals (repeat' split)<;>first|rfl|exact fin_bind _ _|exact qci _ _ _ _ _|skip
 ·refine (qci _ _ _ _ _).trans ?_
  refine Eq.trans ?_ (congrArg (fun z:Option Eff=>z.bind k) (qci _ _ _ _ _).symm)
  cases callK _ _ _ _ some<;>rfl
 ·exact (fnK_congr _ _ (fun c=>qci c _ _ _ k) _ _).trans (fnK_bind _ _ _ k _ _)
def evs (o:Oper) (st st':St):Prop:=∀x∈o.op.operands,ev st' x=ev st x
theorem evs_of {o:Oper} {st st':St} (h:∀t∈tmpsOf o.op.operands.toList,st'.t t=st.t t):evs o st st':=by
 intro x hx
 cases x with
 |tmp t=>
  refine h t ?_
  unfold tmpsOf
  exact List.mem_filterMap.2 ⟨.tmp t,by simpa using hx,rfl⟩
 |_=>rfl
theorem qen {st st':St}:∀{ps:List (Nat×Operand)},(∀p∈ps,ev st' p.2=ev st p.2)→qd7 st' ps=qd7 st ps
 |[],_=>rfl
 |(i,x)::ps,h=>by
  unfold qd7
  have h1:ev st' x=ev st x:=h (i,x) List.mem_cons_self
  rw [h1,qen (fun p hp=>h p (List.mem_cons_of_mem _ hp))]
theorem qez {st st':St}:∀{xs:List Operand},(∀x∈xs,ev st' x=ev st x)→qce st' xs=qce st xs
 |[],_=>rfl
 |x::xs,h=>by
  unfold qce
  rw [h x List.mem_cons_self,qez (fun p hp=>h p (List.mem_cons_of_mem _ hp))]
theorem optB_loc {st st':St} {x:Option Operand} (h:∀y,x=some y→ev st' y=ev st y):optB st' x=optB st x:=by
 cases x with
 |none=>rfl
 |some y=>simp only [optB];rw [h y rfl]
theorem all_mem {α:Type} {f g:α→Bool}:∀{l:List α},(∀x∈l,f x=g x)→l.all f=l.all g
 |[],_=>rfl
 |x::l,h=>by
  rw [List.all_cons,List.all_cons,h x List.mem_cons_self,all_mem (fun y hy=>h y (List.mem_cons_of_mem _ hy))]
theorem callOk_loc {O O':Nat→Obj} {ren:List (Nat×Option Nat)} {dst:Nat} {cms:List Cm} {os:List (Nat×Obj)} (h1:Same O O' (qbs ren)) (h2:Same O O' (os.map fun o=>qaB ren dst o.1)):qgt O' ren dst cms os=qgt O ren dst cms os:=by
 unfold qgt
 simp only
 congr 1
 refine all_mem fun o ho=>?_
 congr 1
 cases hl:look ren o.1 with
 |none=>
  simp only
  have:=h2 (qaB ren dst o.1) (List.mem_map.2 ⟨o,ho,rfl⟩)
  unfold qaB at this
  rw [hl] at this
  simp only at this
  rw [this]
 |some z=>
  cases z with
  |none=>rfl
  |some d'=>
   simp only
   rw [h1 d' (qcg (qb8 hl))]
theorem qfT {c:Con} {dst:Nat} {args:List Cm} {O O':Nat→Obj} {e:Eff} (h:callK c dst args O some=some e) (hs:Same O O' e.rd):callK c dst args O' some=some e:=by
 unfold callK at h ⊢
 split at h
 rename_i args' ws hn
 split at h
 ·cases h
 ·rename_i g x hg
  cases hx:c.sem x with
  |none=>rw [hx] at h;cases h
  |some y=>
   rw [hx] at h
   simp only [Option.bind_some] at h
   split at h
   ·cases h
   ·rename_i cms os hp
    split at h
    ·cases h
    ·rename_i hok
     split at h
     ·cases h
     ·rename_i fz hfz
      cases h
      have s0:Same O O' (args.flatMap Cm.ids):=hs.left
      have s1:=hs.right.right.left.left.upds (l:=ws)
      have s2:=hs.right.right.left.right.upds (l:=ws)
      have s3:=hs.right.right.right.upds (l:=ws)
      rw [qfz s0,hn]
      simp only
      rw [grab_loc hg s1 s2]
      simp only [hx,Option.bind_some,hp]
      rw [callOk_loc s2 s3,hok,qgs s3]
      simp only
      cases hfl:(cms.all Cm.flat && os.all fun o=>o.2.flat) with
      |true=>
       rw [hfl] at hfz
       simp only [cond_true] at hfz ⊢
       cases hfz
       rfl
      |false=>
       rw [hfl] at hfz
       simp only [cond_false] at hfz ⊢
       rw [qcv hfz s1]
theorem opK_loc {o:Oper} {st st':St} {e:Eff} (h:opK P Γ o st some=some e) (hv:evs o st st') (hs:Same st.o st'.o e.rd):opK P Γ o st' some=some e:=by
 unfold evs at hv
 unfold opK at h ⊢
 split at h
 ·rename_i x hop
  rw [hop] at hv
  try simp only [hop]
  rw [hv x (by simp [Op.operands])]
  exact h
 ·rename_i x hop
  rw [hop] at hv
  try simp only [hop]
  rw [hv x (by simp [Op.operands])]
  exact h
 ·rename_i c a b hop
  rw [hop] at hv
  try simp only [hop]
  rw [hv c (by simp [Op.operands]),hv a (by simp [Op.operands]),hv b (by simp [Op.operands])]
  exact h
 ·rename_i t hop
  try simp only [hop]
  split at h
  ·rename_i d z hd hz
   obtain ⟨cs,h1,h2⟩:=qaA h
   try simp only [hd,hz]
   exact qbH (allocL_loc h1 hs) h2
  ·cases h
 ·rename_i t x hop
  rw [hop] at hv
  try simp only [hop]
  rw [hv x (by simp [Op.operands])]
  split at h
  ·rename_i d ls hd hz
   split at h
   ·rename_i hc
    obtain ⟨cs,h1,h2⟩:=qaA h
    try simp only [hd,hz,hc,if_true]
    exact qbH (qgj h1 hs) h2
   ·cases h
  ·cases h
 ·rename_i t ps hop
  rw [hop] at hv
  try simp only [hop]
  rw [qen (fun p hp=>hv p.2 (by simp [Op.operands];exact ⟨p.1,by simpa using hp⟩))]
  exact h
 ·rename_i t n ps hop
  rw [hop] at hv
  try simp only [hop]
  rw [qen (fun p hp=>hv p.2 (by simp [Op.operands];exact ⟨p.1,by simpa using hp⟩))]
  split at h
  ·rename_i d l hd hl
   try simp only [hd,hl]
   cases ho:oneRow st.o n l with
   |some d2=>
    rw [ho] at h
    obtain ⟨cs,h1,h2⟩:=qaA h
    obtain ⟨q1,q2⟩:=buildOne_loc h1 hs
    rw [oneRow_loc ho q2]
    exact qbH q1 h2
   |none=>
    rw [ho] at h
    obtain ⟨cs,h1,h2⟩:=qaA h
    rw [qfy ho h1 hs]
    exact qbH (qfV h1 hs) h2
  ·cases h
 ·rename_i t x hop
  rw [hop] at hv
  try simp only [hop]
  rw [hv x (by simp [Op.operands])]
  obtain ⟨cs,h1,h2⟩:=qaA h
  exact qbH (loadL_loc h1 hs) h2
 ·rename_i t x y hop
  rw [hop] at hv
  try simp only [hop]
  rw [hv x (by simp [Op.operands]),hv y (by simp [Op.operands])]
  cases ht:takeL P t st.o (ev st x).leaf (ev st y) with
  |some r=>
   rw [ht] at h
   obtain ⟨cs,h1,h2⟩:=qaA h
   rw [h1] at ht
   rw [takeL_loc ht hs]
   exact qbH rfl h2
  |none=>
   rw [ht] at h
   try simp only at h
   cases ha:qbW P t st.o (ev st x).leaf (ev st y) with
   |some r=>
    rw [ha] at h
    obtain ⟨cs,h1,h2⟩:=qaA h
    rw [h1] at ha
    rw [qf1 ha]
    try simp only
    rw [storeArr_loc ha hs]
    exact qbH rfl h2
   |none=>
    rw [ha] at h
    obtain ⟨cs,h1,h2⟩:=qaA h
    rw [qf0 h1 hs]
    try simp only
    rw [storeArr_none h1]
    exact qbH (storeL_loc h1 hs) h2
 ·rename_i x hop
  rw [hop] at hv
  try simp only [hop]
  rw [hv x (by simp [Op.operands])]
  obtain ⟨cs,h1,h2⟩:=qaA h
  exact qbH (nilL_loc h1 hs) h2
 ·rename_i op t x y t' hop
  rw [hop] at hv
  try simp only [hop]
  rw [hv x (by simp [Op.operands]),hv y (by simp [Op.operands])]
  exact h
 ·rename_i op t x hop
  rw [hop] at hv
  try simp only [hop]
  rw [hv x (by simp [Op.operands])]
  exact h
 ·rename_i t d x hop
  rw [hop] at hv
  try simp only [hop]
  rw [hv x (by simp [Op.operands])]
  obtain ⟨cs,h1,h2⟩:=qaA h
  exact qbH (convX_loc h1 hs) h2
 ·rename_i f cs hop
  rw [hop] at hv
  try simp only [hop]
  split at h
  ·rename_i hc
   try simp only [hc]
   exact h
  ·rename_i d x xs hd hc
   try simp only [hd,hc]
   split at h
   ·rename_i hno
    cases h
    rw [(hs.cons).1,hno]
    simp only
    rw [qez (fun y hy=>hv y (by simp [Op.operands];rw [←hc] at hy;simpa using hy))]
   ·cases h
  ·cases h
 ·rename_i t x y hop
  rw [hop] at hv
  try simp only [hop]
  rw [hv x (by simp [Op.operands]),hv y (by simp [Op.operands])]
  split at h
  ·rename_i d hd
   obtain ⟨cs,h1,h2⟩:=qaA h
   try simp only [hd]
   exact qbH (qf3 h1 hs) h2
  ·cases h
 ·rename_i t x lo hi hop
  rw [hop] at hv
  try simp only [hop]
  rw [hv x (by simp [Op.operands]),optB_loc (fun y hy=>hv y (by rw [hy];simp [Op.operands])),optB_loc (fun y hy=>hv y (by rw [hy];simp [Op.operands]))]
  split at h
  ·rename_i l r hl hr
   try simp only [hl,hr]
   split at h
   ·rename_i n el hu
    obtain ⟨cs,h1,h2⟩:=qaA h
    try simp only [hu]
    exact qbH (sliceArrL_loc h1 hs) h2
   ·obtain ⟨cs,h1,h2⟩:=qaA h
    obtain ⟨e0,q1,rfl⟩:=qdt h1
    rw [resL_loc (x:=(ev st x).leaf) hs.left]
    have q2:qfj P t st.o (resL st.o (ev st x).leaf).1 l r=some (cs,e0):=q1
    exact qbH (by rw [sliceL_loc q2 hs.right];rfl) h2
  ·cases h
 ·rename_i t hop
  try simp only [hop]
  split at h
  ·rename_i d hd
   obtain ⟨cs,h1,h2⟩:=qaA h
   try simp only [hd]
   exact qbH (makeMapL_loc h1 hs) h2
  ·cases h
 ·rename_i t x y hop
  rw [hop] at hv
  try simp only [hop]
  rw [hv x (by simp [Op.operands]),hv y (by simp [Op.operands])]
  obtain ⟨cs,h1,h2⟩:=qaA h
  exact qbH (lookupL_loc h1 hs) h2
 ·rename_i t x y z hop
  rw [hop] at hv
  try simp only [hop]
  rw [hv x (by simp [Op.operands]),hv y (by simp [Op.operands]),hv z (by simp [Op.operands])]
  obtain ⟨cs,h1,h2⟩:=qaA h
  exact qbH (qf2 h1 hs) h2
 ·rename_i t x f hop
  rw [hop] at hv
  try simp only [hop]
  rw [hv x (by simp [Op.operands])]
  obtain ⟨cs,h1,h2⟩:=qaA h
  exact qbH (qf5 h1 hs) h2
 ·rename_i t x f hop
  rw [hop] at hv
  try simp only [hop]
  rw [hv x (by simp [Op.operands])]
  exact h
 ·rename_i t x y hop
  rw [hop] at hv
  try simp only [hop]
  rw [hv x (by simp [Op.operands]),hv y (by simp [Op.operands])]
  split at h
  ·rename_i el hu
   obtain ⟨cs,h1,h2⟩:=qaA h
   obtain ⟨e0,q1,rfl⟩:=qdt h1
   try simp only [hu]
   rw [resL_loc (x:=(ev st x).leaf) hs.left]
   have q2:qch (P.cellsOf el) st.o (resL st.o (ev st x).leaf).1 (ev st y).leaf=some (cs,e0):=q1
   exact qbH (by rw [qf4 q2 hs.right];rfl) h2
  ·rename_i n el hu
   obtain ⟨cs,h1,h2⟩:=qaA h
   try simp only [hu]
   exact qbH (indexArrL_loc h1 hs) h2
  ·cases h
 ·rename_i t x y hop
  rw [hop] at hv
  try simp only [hop]
  rw [hv x (by simp [Op.operands]),hv y (by simp [Op.operands])]
  split at h
  ·rename_i hu
   try simp only [hu]
   exact h
  ·rename_i n el hu
   obtain ⟨cs,h1,h2⟩:=qaA h
   try simp only [hu]
   exact qbH (indexArrV_loc h1) h2
  ·cases h
 ·rename_i x i hop
  rw [hop] at hv
  try simp only [hop]
  rw [hv x (by simp [Op.operands])]
  exact h
 ·rename_i c hop
  rw [hop] at hv
  try simp only [hop]
  have hv':∀x∈c.args.toList,ev st' x=ev st x:=fun x hx=>hv x (by simp [Op.operands,Call.operands];exact Or.inr (by simpa using hx))
  split at h
  ·rename_i hcal
   try simp only [hcal]
   split at h
   ·rename_i t x ht hx
    obtain ⟨cs,h1,h2⟩:=qaA h
    try simp only [ht,hx]
    rw [hv' x (by rw [hx];simp)]
    obtain ⟨e0,q1,rfl⟩:=qdt h1
    rw [resL_loc (x:=(ev st x).leaf) hs.left]
    have q2:lenL P t st.o (resL st.o (ev st x).leaf).1=some (cs,e0):=q1
    exact qbH (by rw [lenL_loc q2 hs.right];rfl) h2
   ·cases h
  ·rename_i hcal
   try simp only [hcal]
   split at h
   ·rename_i t x ht hx
    try simp only [ht,hx]
    rw [hv' x (by rw [hx];simp)]
    exact h
   ·cases h
  ·rename_i hcal
   try simp only [hcal]
   split at h
   ·rename_i x l hx
    try simp only [hx]
    rw [hv' x (by rw [hx];simp),List.map_congr_left (fun y hy=>by rw [hv' y (by rw [hx];exact List.mem_cons_of_mem _ hy)])]
    exact h
   ·cases h
  ·rename_i hcal
   try simp only [hcal]
   split at h
   ·rename_i x l hx
    try simp only [hx]
    rw [hv' x (by rw [hx];simp),List.map_congr_left (fun y hy=>by rw [hv' y (by rw [hx];exact List.mem_cons_of_mem _ hy)])]
    exact h
   ·cases h
  ·rename_i hcal
   try simp only [hcal]
   split at h
   ·rename_i t t' x y ht hx
    obtain ⟨cs,h1,h2⟩:=qaA h
    try simp only [ht,hx]
    rw [hv' x (by rw [hx];simp),hv' y (by rw [hx];simp)]
    exact qbH (copyL_loc h1 hs) h2
   ·cases h
  ·rename_i hcal
   try simp only [hcal]
   split at h
   ·rename_i t t' x y d ht hx hd
    split at h
    ·rename_i htt
     try simp only [ht,hx,hd]
     rw [if_pos htt,hv' x (by rw [hx];simp),hv' y (by rw [hx];simp)]
     cases ha:qcq P t d st.o (ev st x).leaf (ev st y).leaf with
     |some r=>
      rw [ha] at h
      obtain ⟨cs,h1,h2⟩:=qaA h
      rw [h1] at ha
      rw [appendD_loc ha hs]
      exact qbH rfl h2
     |none=>
      rw [ha] at h
      try simp only at h
      cases hb:qcp P t d st.o (ev st x).leaf (ev st y).leaf with
      |some r=>
       rw [hb] at h
       obtain ⟨cs,h1,h2⟩:=qaA h
       rw [h1] at hb
       obtain ⟨q1,q2⟩:=appendI_loc hb hs
       rw [q2,q1]
       exact qbH rfl h2
      |none=>
       rw [hb] at h
       obtain ⟨cs,h1,h2⟩:=qaA h
       obtain ⟨q1,q2⟩:=appendL_none h1 hs
       rw [q1,q2]
       exact qbH (appendL_loc h1 hs) h2
    ·rename_i htt
     obtain ⟨cs,h1,h2⟩:=qaA h
     try simp only [ht,hx,hd]
     rw [if_neg htt,hv' x (by rw [hx];simp),hv' y (by rw [hx];simp)]
     exact qbH (appendZ_loc h1 hs) h2
   ·cases h
  ·rename_i f hcal
   try simp only [hcal]
   rw [hv f (by simp [Op.operands,Call.operands,hcal]),qez hv']
   split at h
   ·rename_i g hf
    try simp only [hf]
    split at h
    ·rename_i c' hc'
     try simp only [hc']
     exact qfT h hs
    ·rename_i hc'
     try simp only [hc']
     rw [List.map_congr_left (fun y hy=>by rw [hv' y hy])]
     exact h
   ·rename_i g d hf
    try simp only [hf]
    split at h
    ·rename_i c' cs hc' hd
     try simp only [hc']
     rw [qci] at h
     cases h1:callK c' (o.dst.getD 0) (qce st c.args.toList++cs) st.o some with
     |none=>rw [h1] at h;cases h
     |some e1=>
      rw [h1] at h
      cases h
      rw [(hs.cons).1,hd]
      simp only
      rw [qci,qfT h1 hs.cons.2]
      rfl
    ·cases h
   ·rename_i cs x hf
    try simp only [hf]
    exact fnK_mono (fun c' hc'=>qfT hc' hs) h
   ·cases h
  ·cases h
 ·cases h
end
end Go.Proofs.YtfobeapcmgjhbaaGreatDoor.VE
namespace Go.Proofs.YtfobeapcmgjhbaaGreatDoor.VE
open Go Go.RowKit
section
variable {P:Program} {Γ:Env} {C:Ctx} {G:Gh} {st:St} {w:World} {a:Act}
def ΓOk (P:Program) (Γ:Env):Prop:=∀f k c,Γ f k=some c→qaj P f c∧∃fn,P.funcs[f]?=some fn∧(fn.name== "runtime.NumGoroutine")=false∧fn.body.isSome=true
theorem putO_ver {s:OSh} {l l':List TV} {y:Obj} (e:putO s l=some (y,l')):∀v e e2 t xss pd,y=.deep v e e2 t xss pd→v=0:=by
 unfold putO at e
 split at e
 ·cases e;intro _ _ _ _ _ _ h;cases h
 ·split at e
  ·cases e;intro _ _ _ _ _ _ h;cases h
  ·cases e
 ·split at e
  ·cases e;intro _ _ _ _ _ _ h;cases h
  ·cases e
 ·cases e;intro _ _ _ _ _ _ h;cases h
 ·cases e;intro _ _ _ _ _ _ h;cases h
 ·cases e;intro _ _ _ _ _ _ h;cases h;rfl
 ·cases e
theorem putOs_ver:∀{ls:List (Nat×OSh)} {l:List TV} {os:List (Nat×Obj)},putOs ls l=some os→∀d v e e2 t xss pd,(d,Obj.deep v e e2 t xss pd)∈os→v=0
 |[],_,_,e,_,_,_,_,_,_,_,h=>by cases e;cases h
 |(k,s)::ls,l,os,e,d,v,a,b,t,xss,pd,h=>by
  unfold putOs at e
  cases e1:putO s l with
  |none=>rw [e1] at e;cases e
  |some r=>
   obtain ⟨z,l1⟩:=r
   rw [e1] at e
   simp only at e
   cases e2:putOs ls l1 with
   |none=>rw [e2] at e;cases e
   |some os'=>
    rw [e2] at e
    cases e
    rcases List.mem_cons.1 h with h|h
    ·cases h
     exact putO_ver e1 _ _ _ _ _ _ rfl
    ·exact putOs_ver e2 d v a b t xss pd h
theorem put_ver {c:Cut} {x:prods c.tys} {cms:List Cm} {os:List (Nat×Obj)} (e:c.put x=some (cms,os)):∀d v e e2 t xss pd,(d,Obj.deep v e e2 t xss pd)∈os→v=0:=by
 unfold Cut.put at e
 split at e
 ·split at e
  ·rename_i h
   cases e
   exact putOs_ver h
  ·cases e
 ·cases e
theorem putO_kind {s:OSh} {l l':List TV} {y:Obj} (e:putO s l=some (y,l')):(y.live=true→s.qfE=false)∧∀e t xs f,y=.row e t xs f→f=false:=by
 unfold putO at e
 split at e
 ·cases e
  exact ⟨fun _=>rfl,fun e t xs f h=>by cases h;rfl⟩
 ·split at e
  ·cases e
   exact ⟨fun _=>rfl,fun e t xs f h=>by cases h⟩
  ·cases e
 ·split at e
  ·cases e
   exact ⟨(fun h=>by cases h),(fun e t xs f h=>by cases h)⟩
  ·cases e
 ·cases e
  exact ⟨(fun h=>by cases h),(fun e t xs f h=>by cases h)⟩
 ·cases e
  exact ⟨(fun _=>rfl),(fun e t xs f h=>by cases h)⟩
 ·cases e
  exact ⟨(fun _=>rfl),(fun e t xs f h=>by cases h)⟩
 ·cases e
theorem qgf:∀{ls:List (Nat×OSh)} {l:List TV} {os:List (Nat×Obj)},putOs ls l=some os→∀d y,(d,y)∈os→∃s,(d,s)∈ls∧(y.live=true→s.qfE=false)∧∀e t xs f,y=.row e t xs f→f=false
 |[],_,_,e,d,y,h=>by cases e;cases h
 |(k,s)::ls,l,os,e,d,y,h=>by
  unfold putOs at e
  cases e1:putO s l with
  |none=>rw [e1] at e;cases e
  |some r=>
   obtain ⟨z,l1⟩:=r
   rw [e1] at e
   simp only at e
   cases e2:putOs ls l1 with
   |none=>rw [e2] at e;cases e
   |some os'=>
    rw [e2] at e
    cases e
    rcases List.mem_cons.1 h with h|h
    ·cases h
     exact ⟨s,List.mem_cons_self,putO_kind e1⟩
    ·obtain ⟨s',h1,h2⟩:=qgf e2 d y h
     exact ⟨s',List.mem_cons_of_mem _ h1,h2⟩
theorem put_kind {c:Cut} {x:prods c.tys} {cms:List Cm} {os:List (Nat×Obj)} (e:c.put x=some (cms,os)):∀d y,(d,y)∈os→∃s,(d,s)∈c.objs∧(y.live=true→s.qfE=false)∧∀e t xs f,y=.row e t xs f→f=false:=by
 unfold Cut.put at e
 split at e
 ·split at e
  ·rename_i h
   cases e
   exact qgf h
  ·cases e
 ·cases e
theorem fx_of:∀{l:List (Nat×OSh)} {d:Nat} {s:OSh},(d,s)∈l→s.qfE=false→d∈fxOf l
 |(a,s')::l,d,s,h,hs=>by
  unfold fxOf
  rcases List.mem_cons.1 h with h|h
  ·cases h
   rw [hs];exact List.mem_cons_self
  ·cases s'.qfE with
   |true=>exact fx_of h hs
   |false=>exact List.mem_cons_of_mem _ (fx_of h hs)
theorem put_live {c:Cut} {x:prods c.tys} {cms:List Cm} {os:List (Nat×Obj)} (e:c.put x=some (cms,os)) (d:Nat) (h:(ofL os d).live=true):d∈fxOf c.objs:=by
 rcases qbM os (fun _=>Obj.no) d with ⟨_,h2⟩|⟨v,h1,h2⟩
 ·have:ofL os d=.no:=h2
  rw [this] at h;cases h
 ·have hv:ofL os d=v:=h2
  rw [hv] at h
  obtain ⟨s,q1,q2,_⟩:=put_kind e d v h1
  exact fx_of q1 (q2 h)
theorem ev_R (ht:TmR G st w a.tmps) (x:Operand):SVR G st.o w (ev st x) (a.eval x):=by
 cases x with
 |tmp t=>exact ht t
 |const v=>exact ofValue_R v
 |global g=>trivial
 |func f=>exact ⟨rfl,rfl⟩
theorem qaT (ht:TmR G st w a.tmps) (x:Operand):LR G st.o w (ev st x).leaf (a.eval x):=fun _ h=>(ev_R ht x).leaf h
theorem parts_R (ht:TmR G st w a.tmps):∀{ps:List (Nat×Operand)} {l:List (Nat×List Lf)},qd7 st ps=some l→All2 (fun p q=>p.1=q.1∧All2 (LfR G st.o w) p.2 q.2.cells.toList) l (ps.map fun p=>(p.1,a.eval p.2))
 |[],_,e=>by cases e;trivial
 |(i,x)::ps,l,e=>by
  unfold qd7 at e
  cases e1:(ev st x).cells with
  |none=>rw [e1] at e;cases e
  |some c=>
   cases e2:qd7 st ps with
   |none=>rw [e1,e2] at e;cases e
   |some r=>
    rw [e1,e2] at e
    cases e
    exact ⟨⟨rfl,qfS (ev_R ht x) e1⟩,parts_R ht e2⟩
theorem qef (ht:TmR G st w a.tmps):∀(xs:List Operand),All2 (CmR G st.o w) (qce st xs) (xs.map a.eval)
 |[]=>trivial
 |x::xs=>⟨(ev_R ht x).cm,qef ht xs⟩
theorem qbl {o:Oper} {m:Sem Value} {e:Eff} {next:Act→World→Prop} {Q:Exit→Act→World→Prop} (hx:execOp a.eval o=(do pure (Next.value (←m)))) (hd:Does P C G st.o w m e)
  (k:∀v w',StepR C G st.o w e v w'→next (a.put o.dst v) w'):o.wp P a w next Q:=by
 obtain ⟨v,w',hr,hs⟩:=hd
 unfold Oper.wp
 rw [hx]
 have:(do pure (Next.value (←m)):Sem Next).run P w=.ok (.value v) w':=by
  simp only [Sem.run_bind,hr,Result.andThen_ok,Sem.run_pure]
 rw [this,Oper.upon_value]
 exact k v w' hs
theorem qdq {o:Oper} {v:Value} {e:Eff} {next:Act→World→Prop} {Q:Exit→Act→World→Prop} (hx:(execOp a.eval o).run P w=.ok (.value v) w) (hs:StepR C G st.o w e v w)
  (k:∀v w',StepR C G st.o w e v w'→next (a.put o.dst v) w'):o.wp P a w next Q:=by
 unfold Oper.wp
 rw [hx,Oper.upon_value]
 exact k v w hs
theorem resL_R (h:Core C G st.o w) {x:Option Lf} {v:Value} (hx:LR G st.o w x v):LR G st.o w (resL st.o x).1 v:=by
 intro l hl
 cases x with
 |none=>cases hl
 |some x=>
  cases x with
  |o d=>
   simp only [resL] at hl
   cases hd:st.o d with
   |fwd d' u i t n=>
    rw [hd] at hl
    cases hl
    exact fwd_oh h hd (hx _ rfl)
   |_=>rw [hd] at hl;cases hl;exact hx _ rfl
  |_=>exact hx l hl
theorem Does.rd {m:Sem Value} {e:Eff} {ds:List Nat} (h:Does P C G st.o w m e):Does P C G st.o w m ⟨e.sv,ds++e.rd,e.wr⟩:=h
theorem binP_ok (h:Core C G st.o w) {op:BinOp} {t:TypeId} {x y:Option Lf} {cs:List Chk} {e:Eff} (he:binP P op t x y=some (cs,e)) (hc:AllP cs) {x' y':Operand} {u v:Value} (ha:LR G st.o w x u) (hb:LR G st.o w y v) :
  Does P C G st.o w (do eqGuard op t x' y' u v;binOp op t u v) e:=by
 unfold binP at he
 split at he
 ·exact binL_ok h he hc (fun p q _ hq=>by cases hq) (fun e=>by cases e) ha hb
 ·exact binL_ok h he hc (fun p q _ hq=>by cases hq) (fun e=>by cases e) ha hb
 ·split at he
  ·rename_i el hu
   exact binL_ok h he hc (fun p q _ hq=>by cases hq) (fun _=>⟨el,hu⟩) ha hb
  ·cases he
 ·split at he
  ·rename_i hu
   exact binB_ok h he hu ha hb
  ·cases he
theorem call_sound (hΓ:ΓOk P Γ) (h:Core C G st.o w) {f:FuncId} {key:Nat} {c:Con} (hc:Γ f key=some c) {dst:Nat} {cms:List Cm} {vals:Array Value} (hv:All2 (CmR G st.o w) cms vals.toList) {e:Eff} (he:callK c dst cms st.o some=some e)
  {next:Value→World→Prop} (k:∀v w',StepR C G st.o w e v w'→next v w'):Calls P f vals w fun e w'=>∃v,e=.returned v∧next v w':=by
 unfold callK at he
 split at he
 rename_i args' ws hn
 obtain ⟨G0,n1,n2,n3⟩:=normC_ok (c.cin.slots.map (·.2)) cms h hv
 rw [hn] at n1 n2 n3
 simp only at n1 n2 n3
 split at he
 ·cases he
 ·rename_i g x hg
  cases hx:c.sem x with
  |none=>rw [hx] at he;cases he
  |some y=>
   rw [hx] at he
   simp only [Option.bind_some] at he
   split at he
   ·cases he
   ·rename_i cms2 os2 hp2
    split at he
    ·cases he
    ·rename_i hok
     split at he
     ·cases he
     ·rename_i fz hfz
      cases he
      obtain ⟨cms1,os1,hp1,V⟩:=grab_ok n1 n3 hg
      have hcall:=(hΓ f key c hc).1 x y hx (renG G0 (upds st.o ws) g) cms1 os1 w vals hp1 (call_in c.kx V) V.slots
      refine hcall.mono ?_
      rintro e' w2 ⟨vs,G2,cms2',os2',rfl,hp2',hc2,hr⟩
      rw [hp2] at hp2'
      cases hp2'
      refine ⟨_,rfl,k _ _ ?_⟩
      obtain ⟨G3,q1,q2,q3⟩:=call_out n1 (cms.flatMap Cm.ids++(ws.map (·.1)++(g.fz++qbs g.ren++(os2.map fun o=>qaB g.ren dst o.1)))) V hc2 hr hok (put_live hp1) (fun d e t xs f hm=>by
       obtain ⟨_,_,_,q⟩:=put_kind hp2 d _ hm
       exact q e t xs f rfl) (put_ver hp2) hfz
      refine ⟨G3,?_,?_,?_⟩
      ·show Core C G3 (upds st.o (ws++_)) w2
       rw [qaZ];exact q1
      ·show Ext G st.o w G3 (upds st.o (ws++_)) w2
       rw [qaZ];exact n2.trans q2
      ·show SVR G3 (upds st.o (ws++_)) w2 _ _
       rw [qaZ];exact q3
theorem bnd_R {x:Option Lf} {j:Int} {v:Value} (h:bnd x=some j) (hx:LR G st.o w x v):∃k,v=.int k j:=by
 cases x with
 |none=>cases h
 |some l=>
  cases l with
  |v t y=>
   cases t with
   |int k=>
    cases h
    exact ⟨k,hx.int⟩
   |_=>cases h
  |_=>cases h
theorem op_sound (hΓ:ΓOk P Γ) (h:Core C G st.o w) (ht:TmR G st w a.tmps) {o:Oper} {e:Eff} (e1:opK P Γ o st some=some e) {next:Act→World→Prop} {Q:Exit→Act→World→Prop}
  (k:∀v w',StepR C G st.o w e v w'→next (a.put o.dst v) w'):o.wp P a w next Q:=by
 unfold opK at e1
 split at e1
 ·rename_i x hop
  cases e1
  exact qdq (by simp [execOp,hop]) (StepR.pure h (ev_R ht x)) k
 ·rename_i x hop
  cases e1
  exact qdq (by simp [execOp,hop]) (StepR.pure h (ev_R ht x)) k
 ·rename_i c x y hop
  have hb:∃d,a.eval c=.bool d∧e=⟨match d with|true=>ev st x|false=>ev st y,[],[]⟩:=by
   have hl:=qaT ht c
   unfold splitB at e1
   split at e1
   ·rename_i q;exact ⟨true,(hl _ q).2,(Option.some.inj e1).symm⟩
   ·rename_i q;exact ⟨false,(hl _ q).2,(Option.some.inj e1).symm⟩
   ·rename_i p i q
    by_cases hp:p
    ·rw [if_pos hp] at e1
     exact ⟨true,by rw [show a.eval c=.bool (@decide p i) from (hl _ q).2,@decide_eq_true _ i hp],(Option.some.inj e1).symm⟩
    ·rw [if_neg hp] at e1
     exact ⟨false,by rw [show a.eval c=.bool (@decide p i) from (hl _ q).2,@decide_eq_false _ i hp],(Option.some.inj e1).symm⟩
   ·rename_i p i q
    by_cases hp:p
    ·rw [if_pos hp] at e1
     exact ⟨false,by rw [show a.eval c=.bool (!@decide p i) from (hl _ q).2,@decide_eq_true _ i hp];rfl,(Option.some.inj e1).symm⟩
    ·rw [if_neg hp] at e1
     exact ⟨true,by rw [show a.eval c=.bool (!@decide p i) from (hl _ q).2,@decide_eq_false _ i hp];rfl,(Option.some.inj e1).symm⟩
   ·rename_i z q
    have hz:[a.eval c]=[.bool z]:=(hl _ q).2
    have hz':a.eval c=.bool z:=by simpa using hz
    by_cases hp:(z:Bool)=true
    ·rw [if_pos hp] at e1
     exact ⟨true,by rw [hz',hp],(Option.some.inj e1).symm⟩
    ·rw [if_neg hp] at e1
     exact ⟨false,by rw [hz',Bool.eq_false_iff.2 hp],(Option.some.inj e1).symm⟩
   ·cases e1
  obtain ⟨d,hd,rfl⟩:=hb
  cases d with
  |true=>exact qdq (by simp [execOp,hop,hd,asBool]) (StepR.pure h (ev_R ht x)) k
  |false=>exact qdq (by simp [execOp,hop,hd,asBool]) (StepR.pure h (ev_R ht y)) k
 ·rename_i t hop
  split at e1
  ·rename_i d z hd hz
   obtain ⟨cs,h1,_⟩:=qaA e1
   exact qbl (by simp only [execOp,hop]) (allocL_ok h hz h1) k
  ·cases e1
 ·rename_i t x hop
  split at e1
  ·rename_i d ls hd hz
   split at e1
   ·obtain ⟨cs,h1,_⟩:=qaA e1
    exact qbl (by simp only [execOp,hop]) (box_ok h h1 (qfS (ev_R ht x) hz)) k
   ·cases e1
  ·cases e1
 ·rename_i t ps hop
  split at e1
  ·rename_i l hl
   obtain ⟨cs,h1,_⟩:=qaA e1
   exact qbl (m:=Instr.build t (ps.map fun x=>(x.1,a.eval x.2))) (by simp only [execOp,hop]) (buildX_ok h h1 (by have:=parts_R ht hl;simpa using this)) k
  ·cases e1
 ·rename_i t n ps hop
  split at e1
  ·rename_i d l hd hl
   cases ho:oneRow st.o n l with
   |some d2=>
    rw [ho] at e1
    obtain ⟨cs,h1,_⟩:=qaA e1
    exact qbl (m:=Instr.buildSlice t n (ps.map fun x=>(x.1,a.eval x.2))) (by simp only [execOp,hop]) (buildOne_ok h ho h1 (by have:=parts_R ht hl;simpa using this)) k
   |none=>
    rw [ho] at e1
    obtain ⟨cs,h1,_⟩:=qaA e1
    exact qbl (m:=Instr.buildSlice t n (ps.map fun x=>(x.1,a.eval x.2))) (by simp only [execOp,hop]) (qf6 h h1 (by have:=parts_R ht hl;simpa using this)) k
  ·cases e1
 ·rename_i t x hop
  obtain ⟨cs,h1,_⟩:=qaA e1
  exact qbl (by simp only [execOp,hop]) (loadL_ok h h1 (qaT ht x)) k
 ·rename_i t x y hop
  have hsd:∃w',(Instr.storeAt t (a.eval x) (a.eval y)).run P w=.ok () w'∧∃G',Core C G' (upds st.o e.wr) w'∧Ext G st.o w G' (upds st.o e.wr) w'∧e.sv=.u:=by
   cases hk:takeL P t st.o (ev st x).leaf (ev st y) with
   |some r=>
    rw [hk] at e1
    obtain ⟨cs,h1,h2⟩:=qaA e1
    rw [h1] at hk
    exact takeL_ok h hk h2 (qaT ht x) (ev_R ht y)
   |none=>
    rw [hk] at e1
    try simp only at e1
    cases hk2:qbW P t st.o (ev st x).leaf (ev st y) with
    |some r=>
     rw [hk2] at e1
     obtain ⟨cs,h1,h2⟩:=qaA e1
     rw [h1] at hk2
     exact storeArr_ok h hk2 h2 (qaT ht x) (ev_R ht y)
    |none=>
     rw [hk2] at e1
     obtain ⟨cs,h1,_⟩:=qaA e1
     exact storeL_ok h h1 (qaT ht x) (ev_R ht y)
  obtain ⟨w',hr,G',k1,k2,k3⟩:=hsd
  unfold Oper.wp
  have:(execOp a.eval o).run P w=.ok .skip w':=by
   simp only [execOp,hop,Sem.run_bind,hr,Result.andThen_ok,Sem.run_pure]
  rw [this,Oper.upon_skip]
  exact k undef w' ⟨G',k1,k2,by rw [k3];trivial⟩
 ·rename_i x hop
  obtain ⟨cs,h1,_⟩:=qaA e1
  obtain ⟨hn,hs⟩:=nilL_ok h h1 (qaT ht x)
  refine qdq (v:=a.eval x) ?_ hs k
  cases hv:a.eval x with
  |pointer q=>cases q<;>rw [hv] at hn<;>first|(simp [execOp,hop,hv];done)|cases hn
  |nilIface=>rw [hv] at hn;cases hn
  |nilFunc=>rw [hv] at hn;cases hn
  |func fn b c=>cases fn<;>rw [hv] at hn<;>first|(simp [execOp,hop,hv];done)|cases hn
  |_=>simp [execOp,hop,hv]
 ·rename_i op t x y t' hop
  split at e1
  ·rename_i fs hu
   obtain ⟨cs,h1,_⟩:=qaA e1
   exact qbl (m:=do eqGuard op t x y (a.eval x) (a.eval y);binOp op t (a.eval x) (a.eval y)) (by simp only [execOp,hop]) (binA_ok h hu h1 (ev_R ht x) (ev_R ht y)) k
  obtain ⟨cs,h1,h2⟩:=qaA e1
  exact qbl (m:=do eqGuard op t x y (a.eval x) (a.eval y);binOp op t (a.eval x) (a.eval y)) (by simp only [execOp,hop]) (binP_ok h h1 h2 (qaT ht x) (qaT ht y)) k
 ·rename_i op t x hop
  obtain ⟨cs,h1,_⟩:=qaA e1
  exact qbl (by simp only [execOp,hop]) (unL_ok h h1 (qaT ht x)) k
 ·rename_i t d x hop
  obtain ⟨cs,h1,_⟩:=qaA e1
  exact qbl (by simp only [execOp,hop]) (convX_ok h h1 (qaT ht x)) k
 ·rename_i f cs hop
  split at e1
  ·rename_i hc
   cases e1
   have hcs:cs=#[]:=by cases cs;simp_all
   subst hcs
   refine qbl (m:=Instr.makeFunc (.func f) #[] #[]) (by simp [execOp,hop]) ?_ k
   exact Does.pure h (v:=.func (.func f) #[] #[]) (by simp [Instr.makeFunc]) ⟨rfl,rfl⟩
  ·rename_i d x xs hd hc
   split at e1
   ·rename_i hno
    cases e1
    refine qbl (m:=Instr.makeFunc (.func f) #[] (cs.map a.eval)) (by simp [execOp,hop]) ?_ k
    have hcs:cs.toList=x::xs:=hc
    have hall:=qef ht (x::xs)
    have ex:Ext G st.o w {G with cap:=upd G.cap d ((x::xs).map a.eval)} (upd st.o d (.caps (qce st (x::xs)))) w:=by
     refine ⟨fun _ h=>h,fun _ _=>rfl,fun q hq=>?_⟩
     have hne:q≠d:=by rintro rfl;exact hq hno
     rw [upd_ne _ _ hne]
     exact ⟨hq,Sim.refl _,fun _=>⟨rfl,rfl,upd_ne _ _ hne,fun _ _ _=>rfl⟩⟩
    refine ⟨.func (.func f) #[] (cs.map a.eval),w,by simp [Instr.makeFunc],{G with cap:=upd G.cap d ((x::xs).map a.eval)},?_,ex,rfl,?_⟩
    ·refine h.step ex (fun q=>q=d) (fun q hq=>⟨upd_ne _ _ hq,rfl,rfl,upd_ne _ _ hq,rfl⟩) (fun _ _ _ _ _=>⟨rfl,id⟩) ?_ ?_ (fun b hb=>Or.inl hb) (Keeps.refl _ _ _) ?_
     ·rintro q rfl
      show ObjR C {G with cap:=upd G.cap q ((x::xs).map a.eval)} (upd st.o q (.caps (qce st (x::xs)))) w q
      unfold ObjR
      rw [qad]
      show All2 _ _ (upd G.cap q ((x::xs).map a.eval) q)
      rw [qad]
      exact hall.mono fun _ _=>CmR.mono ex
     ·rintro q d' b1 b' hne rfl hl
      have hl':(upd st.o q (.caps (qce st (x::xs))) q).live=true:=hl
      rw [qad] at hl'
      cases hl'
     ·rintro q hq rfl hn
      exact absurd hno hn
    ·show qcf (upd st.o d (.caps (qce st (x::xs))) d) _
     rw [qad]
     show _=Value.func (.func f) #[] (upd G.cap d ((x::xs).map a.eval) d).toArray
     rw [qad,←hcs]
     congr 1
     apply Array.ext'
     simp
   ·cases e1
  ·cases e1
 ·rename_i t x y hop
  split at e1
  ·rename_i d hd
   obtain ⟨cs,h1,h2⟩:=qaA e1
   refine qbl (by simp only [execOp,hop]) (makeSliceL_ok h h1 h2 (qaT ht x) (qaT ht y) (fun hs=>?_)) k
   unfold sameOp at hs
   split at hs
   ·rw [Nat.eq_of_beq_eq_true hs]
   ·cases hs
  ·cases e1
 ·rename_i t x lo hi hop
  split at e1
  ·rename_i l r hl hr
   have hb:∀(y:Option Operand) (i:Option Int),optB st y=some i→BndR i (y.map a.eval):=by
    intro y i hy
    cases y with
    |none=>cases hy;trivial
    |some z=>
     simp only [optB] at hy
     cases hz:bnd (ev st z).leaf with
     |none=>rw [hz] at hy;cases hy
     |some j=>
      rw [hz] at hy
      cases hy
      exact bnd_R hz (qaT ht z)
   split at e1
   ·rename_i n el hu
    obtain ⟨cs,h1,h2⟩:=qaA e1
    exact qbl (by simp only [execOp,hop];rfl) (sliceArrL_ok h hu h1 h2 (qaT ht x) (hb lo l hl) (hb hi r hr)) k
   ·obtain ⟨cs,h1,h2⟩:=qaA e1
    obtain ⟨e0,q1,rfl⟩:=qdt h1
    exact qbl (by simp only [execOp,hop];rfl) (sliceL_ok h q1 h2 (resL_R h (qaT ht x)) (hb lo l hl) (hb hi r hr)).rd k
  ·cases e1
 ·rename_i t hop
  split at e1
  ·rename_i d hd
   obtain ⟨cs,h1,_⟩:=qaA e1
   exact qbl (m:=Instr.makeMap t none) (by simp [execOp,hop]) (makeMapL_ok h h1 t) k
  ·cases e1
 ·rename_i t x y hop
  obtain ⟨cs,h1,_⟩:=qaA e1
  exact qbl (by simp only [execOp,hop]) (lookupL_ok h h1 (qaT ht x) (qaT ht y)) k
 ·rename_i t x y z hop
  obtain ⟨cs,h1,_⟩:=qaA e1
  obtain ⟨w',hr,G',k1,k2,k3⟩:=mapUpdateL_ok h h1 (qaT ht x) (qaT ht y) (qaT ht z)
  unfold Oper.wp
  have:(execOp a.eval o).run P w=.ok .skip w':=by
   simp only [execOp,hop,Sem.run_bind,hr,Result.andThen_ok,Sem.run_pure]
  rw [this,Oper.upon_skip]
  exact k undef w' ⟨G',k1,k2,by rw [k3];trivial⟩
 ·rename_i t x f hop
  obtain ⟨cs,h1,_⟩:=qaA e1
  exact qbl (by simp only [execOp,hop]) (fieldAddrL_ok h h1 (qaT ht x)) k
 ·rename_i t x f hop
  obtain ⟨cs,h1,_⟩:=qaA e1
  exact qbl (by simp only [execOp,hop]) (fieldL_ok h h1 (ev_R ht x)) k
 ·rename_i t x y hop
  split at e1
  ·rename_i el hu
   obtain ⟨cs,h1,h2⟩:=qaA e1
   obtain ⟨e0,q1,rfl⟩:=qdt h1
   exact qbl (by simp only [execOp,hop]) (indexAddrL_ok h hu q1 h2 (resL_R h (qaT ht x)) (qaT ht y)).rd k
  ·rename_i n el hu
   obtain ⟨cs,h1,h2⟩:=qaA e1
   exact qbl (by simp only [execOp,hop]) (indexArrL_ok h hu h1 h2 (qaT ht x) (qaT ht y)) k
  ·cases e1
 ·rename_i t x y hop
  split at e1
  ·rename_i hu
   obtain ⟨cs,h1,h2⟩:=qaA e1
   exact qbl (by simp only [execOp,hop]) (indexL_ok h hu h1 h2 (qaT ht x) (qaT ht y)) k
  ·rename_i n el hu
   obtain ⟨cs,h1,h2⟩:=qaA e1
   exact qbl (by simp only [execOp,hop]) (indexArrV_ok h hu h1 h2 (ev_R ht x) (qaT ht y)) k
  ·cases e1
 ·rename_i x i hop
  split at e1
  ·rename_i cs hcs
   split at e1
   ·rename_i c hc
    cases e1
    have hx:=ev_R ht x
    rw [hcs] at hx
    obtain ⟨vs,hvs,hall⟩:=hx
    have hl:i<vs.toList.length:=by
     rw [←hall.length]
     exact (List.getElem?_eq_some_iff.1 hc).1
    have hv:vs[i]?=some (vs.toList[i]):=by
     rw [←Array.getElem?_toList,List.getElem?_eq_getElem hl]
    refine qbl (m:=Instr.extract (a.eval x) i) (by simp only [execOp,hop]) (Does.pure h (v:=vs.toList[i]) (by simp only [hvs,Instr.extract,hv];rfl) ?_) k
    exact hall.get i hc (List.getElem?_eq_getElem hl)
   ·cases e1
  ·cases e1
 ·rename_i c hop
  split at e1
  ·rename_i hcal
   split at e1
   ·rename_i t x hty hx
    obtain ⟨cs,h1,_⟩:=qaA e1
    obtain ⟨e0,q1,rfl⟩:=qdt h1
    have hargs:c.args.map a.eval=#[a.eval x]:=by
     have:c.args=#[x]:=by rw [←Array.toList_inj];exact hx
     rw [this];simp
    have htys:c.argTypes=#[t]:=by rw [←Array.toList_inj];exact hty
    exact qbl (m:=Builtin.len_ #[t] o.type #[a.eval x]) (by simp [execOp,hop,resolve,hcal,invoke,builtin,hargs,htys]) (lenL_ok h q1 (resL_R h (qaT ht x)) o.type).rd k
   ·cases e1
  ·rename_i hcal
   split at e1
   ·rename_i t x hty hx
    obtain ⟨cs,h1,_⟩:=qaA e1
    have hargs:c.args.map a.eval=#[a.eval x]:=by
     have:c.args=#[x]:=by rw [←Array.toList_inj];exact hx
     rw [this];simp
    have htys:c.argTypes=#[t]:=by rw [←Array.toList_inj];exact hty
    exact qbl (m:=Builtin.cap_ #[t] o.type #[a.eval x]) (by simp [execOp,hop,resolve,hcal,invoke,builtin,hargs,htys]) (capL_ok h h1 (qaT ht x) o.type) k
   ·cases e1
  ·rename_i hcal
   split at e1
   ·rename_i x l hx
    obtain ⟨cs,h1,_⟩:=qaA e1
    refine qbl (m:=Builtin.min_ c.argTypes o.type (c.args.map a.eval)) (by simp [execOp,hop,resolve,hcal,invoke,builtin]) ?_ k
    have hargs:(c.args.map a.eval).toList=a.eval x::l.map a.eval:=by
     rw [Array.toList_map,hx];rfl
    unfold Builtin.min_
    rw [hargs]
    exact foldL_ok h mn Builtin.min2 (fun k p q=>by simp [Builtin.min2,mn]) _ _ _ _ h1 (qaT ht x) (by
     have:∀l:List Operand,All2 (LR G st.o w) (l.map fun y=>(ev st y).leaf) (l.map a.eval):=by
      intro l
      induction l with
      |nil=>trivial
      |cons y l ih=>exact ⟨qaT ht y,ih⟩
     exact this l)
   ·cases e1
  ·rename_i hcal
   split at e1
   ·rename_i x l hx
    obtain ⟨cs,h1,_⟩:=qaA e1
    refine qbl (m:=Builtin.max_ c.argTypes o.type (c.args.map a.eval)) (by simp [execOp,hop,resolve,hcal,invoke,builtin]) ?_ k
    have hargs:(c.args.map a.eval).toList=a.eval x::l.map a.eval:=by
     rw [Array.toList_map,hx];rfl
    unfold Builtin.max_
    rw [hargs]
    exact foldL_ok h mx Builtin.max2 (fun k p q=>by simp [Builtin.max2,mx]) _ _ _ _ h1 (qaT ht x) (by
     have:∀l:List Operand,All2 (LR G st.o w) (l.map fun y=>(ev st y).leaf) (l.map a.eval):=by
      intro l
      induction l with
      |nil=>trivial
      |cons y l ih=>exact ⟨qaT ht y,ih⟩
     exact this l)
   ·cases e1
  ·rename_i hcal
   split at e1
   ·rename_i t t' x y hty hx
    obtain ⟨cs,h1,_⟩:=qaA e1
    have hargs:c.args.map a.eval=#[a.eval x,a.eval y]:=by
     have:c.args=#[x,y]:=by rw [←Array.toList_inj];exact hx
     rw [this];simp
    have htys:c.argTypes=#[t,t']:=by rw [←Array.toList_inj];exact hty
    exact qbl (m:=Builtin.copy_ #[t,t'] o.type #[a.eval x,a.eval y]) (by simp [execOp,hop,resolve,hcal,invoke,builtin,hargs,htys]) (copyL_ok h h1 (qaT ht x) (qaT ht y)) k
   ·cases e1
  ·rename_i hcal
   split at e1
   ·rename_i t t' x y d hty hx hd
    split at e1
    ·rename_i htt
     subst htt
     have hargs:c.args.map a.eval=#[a.eval x,a.eval y]:=by
      have:c.args=#[x,y]:=by rw [←Array.toList_inj];exact hx
      rw [this];simp
     have htys:c.argTypes=#[t,t]:=by rw [←Array.toList_inj];exact hty
     refine qbl (m:=Builtin.append_ #[t,t] o.type #[a.eval x,a.eval y]) (by simp [execOp,hop,resolve,hcal,invoke,builtin,hargs,htys]) ?_ k
     cases ha:qcq P t d st.o (ev st x).leaf (ev st y).leaf with
     |some r=>
      rw [ha] at e1
      obtain ⟨cs,h1,h2⟩:=qaA e1
      rw [h1] at ha
      exact appendD_ok h ha h2 (qaT ht x) (qaT ht y)
     |none=>
      rw [ha] at e1
      try simp only at e1
      cases hb:qcp P t d st.o (ev st x).leaf (ev st y).leaf with
      |some r=>
       rw [hb] at e1
       obtain ⟨cs,h1,h2⟩:=qaA e1
       rw [h1] at hb
       exact appendI_ok h hb h2 (qaT ht x) (qaT ht y)
      |none=>
       rw [hb] at e1
       obtain ⟨cs,h1,h2⟩:=qaA e1
       exact appendL_ok h h1 h2 (qaT ht x) (qaT ht y)
    ·obtain ⟨cs,h1,h2⟩:=qaA e1
     have hargs:c.args.map a.eval=#[a.eval x,a.eval y]:=by
      have:c.args=#[x,y]:=by rw [←Array.toList_inj];exact hx
      rw [this];simp
     have htys:c.argTypes=#[t,t']:=by rw [←Array.toList_inj];exact hty
     exact qbl (m:=Builtin.append_ #[t,t'] o.type #[a.eval x,a.eval y]) (by simp [execOp,hop,resolve,hcal,invoke,builtin,hargs,htys]) (appendZ_ok h h1 h2 (qaT ht x) (qaT ht y)) k
   ·cases e1
  ·rename_i f hcal
   have go:∀{g:FuncId} {c':Con} {cms:List Cm} {caps:List Value} {e':Eff} {key:Nat},Γ g key=some c'→a.eval f=.func (.func g) #[] caps.toArray→All2 (CmR G st.o w) cms (c.args.toList.map a.eval++caps)→callK c' (o.dst.getD 0) cms st.o some=some e'→(∀v w',StepR C G st.o w e' v w'→next (a.put o.dst v) w')→o.wp P a w next Q:=by
    intro g c' cms caps e' key hg hf hcm hk hnext
    obtain ⟨_,fn,hfn,hname,hbody⟩:=hΓ g key c' hg
    have hcalls:=call_sound hΓ h hg (vals:=c.args.map a.eval++caps.toArray) (by simpa using hcm) hk (next:=fun v w'=>next (a.put o.dst v) w') hnext
    unfold Oper.wp
    have hex:(execOp a.eval o).run P w=.ok (.enter g (c.args.map a.eval++caps.toArray)) w:=by
     have hb:¬fn.body=none:=by intro hq;rw [hq] at hbody;cases hbody
     have hn:¬fn.name= "runtime.NumGoroutine":=by simpa using hname
     simp [execOp,hop,resolve,hcal,Deferred.ofValue,hf,invoke,callFunc,hfn,hn,hb]
    rw [hex,Oper.upon_enter]
    refine hcalls.mono ?_
    rintro e'' w'' ⟨v,rfl,hv⟩
    exact hv
   split at e1
   ·rename_i g hfl
    split at e1
    ·rename_i c' hg
     have hf:a.eval f=.func (.func g) #[] #[]:=(qaT ht f _ hfl).2
     exact go (caps:=[]) hg hf (by rw [List.append_nil];exact qef ht _) e1 k
    ·obtain ⟨cs,h1,_⟩:=qaA e1
     have hf:a.eval f=.func (.func g) #[] #[]:=(qaT ht f _ hfl).2
     have hall:∀l:List Operand,All2 (LR G st.o w) (l.map fun y=>(ev st y).leaf) (l.map a.eval):=by
      intro l
      induction l with
      |nil=>trivial
      |cons y l ih=>exact ⟨qaT ht y,ih⟩
     obtain ⟨v,hr,hs⟩:=externL_ok h h1 (hall c.args.toList)
     refine qdq (v:=v) ?_ hs k
     have hargs:(c.args.toList.map a.eval).toArray=c.args.map a.eval:=by
      apply Array.ext'
      simp
     rw [hargs] at hr
     simp [execOp,hop,resolve,hcal,Deferred.ofValue,hf,invoke,hr]
   ·rename_i g d hfl
    split at e1
    ·rename_i c' cs hg hd
     rw [qci] at e1
     cases h1:callK c' (o.dst.getD 0) (qce st c.args.toList++cs) st.o some with
     |none=>rw [h1] at e1;cases e1
     |some e2=>
      rw [h1] at e1
      cases e1
      have hf:qcf (st.o d) (a.eval f=.func (.func g) #[] (G.cap d).toArray):=(qaT ht f _ hfl).2
      rw [hd] at hf
      have hcap:=h.ob d
      unfold ObjR at hcap
      rw [hd] at hcap
      exact go (caps:=G.cap d) hg hf ((qef ht _).append hcap) h1 (fun v w' hs=>k v w' hs)
    ·cases e1
   ·rename_i cs x hfl
    obtain ⟨g,c',_,hg1,hg2,hk⟩:=fnK_some e1
    obtain ⟨g',q1,q2⟩:∃f',cs[x]?=some f'∧[a.eval f]=[Value.func (.func f') #[] #[]]:=(qaT ht f _ hfl).2
    rw [Nat.sub_zero,q1] at hg1
    cases hg1
    have hf:a.eval f=.func (.func g) #[] #[]:=by simpa using q2
    exact go (caps:=[]) hg2 hf (by rw [List.append_nil];exact qef ht _) hk k
   ·cases e1
  ·cases e1
 ·cases e1
end
end Go.Proofs.YtfobeapcmgjhbaaGreatDoor.VE
