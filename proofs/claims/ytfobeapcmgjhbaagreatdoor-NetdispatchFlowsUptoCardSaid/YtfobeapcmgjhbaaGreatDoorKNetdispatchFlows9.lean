/- Texts behind the law NetdispatchFlows, part 9 (no statement is proved here). -/
import Derived.Test.YtfobeapcmgjhbaaGreatDoorKNetdispatchFlows8
namespace Go.Proofs.YtfobeapcmgjhbaaGreatDoor.VE
open Go Go.RowKit
set_option linter.unusedVariables false
attribute [local irreducible] wrap64
theorem rep_ev:∀m:Nat,m≤24→Ev (fun k=>qav.f k [(-1)] (m:Int)) (List.replicate m (-1))
 |0,_=>Ev.far 30 (fun k=>by kernel_rfl)
 |1,_=>Ev.far 30 (fun k=>by kernel_rfl)
 |2,_=>Ev.far 30 (fun k=>by kernel_rfl)
 |3,_=>Ev.far 30 (fun k=>by kernel_rfl)
 |4,_=>Ev.far 30 (fun k=>by kernel_rfl)
 |5,_=>Ev.far 30 (fun k=>by kernel_rfl)
 |6,_=>Ev.far 30 (fun k=>by kernel_rfl)
 |7,_=>Ev.far 30 (fun k=>by kernel_rfl)
 |8,_=>Ev.far 30 (fun k=>by kernel_rfl)
 |9,_=>Ev.far 30 (fun k=>by kernel_rfl)
 |10,_=>Ev.far 30 (fun k=>by kernel_rfl)
 |11,_=>Ev.far 30 (fun k=>by kernel_rfl)
 |12,_=>Ev.far 30 (fun k=>by kernel_rfl)
 |13,_=>Ev.far 30 (fun k=>by kernel_rfl)
 |14,_=>Ev.far 30 (fun k=>by kernel_rfl)
 |15,_=>Ev.far 30 (fun k=>by kernel_rfl)
 |16,_=>Ev.far 30 (fun k=>by kernel_rfl)
 |17,_=>Ev.far 30 (fun k=>by kernel_rfl)
 |18,_=>Ev.far 30 (fun k=>by kernel_rfl)
 |19,_=>Ev.far 30 (fun k=>by kernel_rfl)
 |20,_=>Ev.far 30 (fun k=>by kernel_rfl)
 |21,_=>Ev.far 30 (fun k=>by kernel_rfl)
 |22,_=>Ev.far 30 (fun k=>by kernel_rfl)
 |23,_=>Ev.far 30 (fun k=>by kernel_rfl)
 |24,_=>Ev.far 30 (fun k=>by kernel_rfl)
 |n+25,h=>absurd h (by omega)
theorem edges_run (n:NetT) (h:NetOk n):∀(m j:Nat) (out:List (Int×Int)),j+m=n.2.1.length→out.length=j→(∀x∈out,0≤x.1∧x.1<(n.1.length:Int)∧0≤x.2∧x.2<(n.1.length:Int))→
  EvP (fun k=>qaX.l3 k n.2.1 (n.2.1.length:Int) (j:Int) n.1 n.2.1 n.2.2.1 n.2.2.2.1 n.2.2.2.2.1 n.2.2.2.2.2 out) (fun r=>r.length=n.2.1.length∧∀x∈r,0≤x.1∧x.1<(n.1.length:Int)∧0≤x.2∧x.2<(n.1.length:Int))
 |0,j,out,hj,hl,ho=>EvP.step (fun k=>qaX.l3_eq k _ _ _ _ _ _ _ _ _ _) (EvP.neg (by omega) (EvP.ret ⟨by omega,ho⟩))
 |m+1,j,out,hj,hl,ho=>by
  have h1:=h.l1
  have h0:=h.l0
  have hx:=h.sw _ (rY3_mem (xs:=n.2.1) (i:=(j:Int)) (by omega) (by omega))
  have i1:=qbO hx.1
  have i2:=qbO hx.2
  refine EvP.step (fun k=>qaX.l3_eq k _ _ _ _ _ _ _ _ _ _) (EvP.pos (by omega) (EvP.pos (by omega) (EvP.pos (by omega) (EvP.bindE (qeJ n.1 _ (by omega)) (EvP.bindE (qeJ n.1 _ (by omega)) (EvP.pos (by rw [List.length_singleton];omega) ?_))))))
  rw [w64 (by omega) (by omega)]
  refine edges_run n h m (j+1) _ (by omega) (by rw [List.length_append,List.length_singleton,hl]) (fun x hx=>?_)
  rcases List.mem_append.1 hx with hx|hx
  ·exact ho x hx
  ·rw [List.mem_singleton.1 hx]
   exact ⟨i1.1,i1.2,i2.1,i2.2⟩
def qfQ (n:NetT) (j:Nat):Bool:=!decide ((rY3 n.2.1 (j:Int)).2.2.2.2=true)
theorem busParts (n:NetT) (h:NetOk n) (E:List (Int×Int)) (hE:E.length=n.2.1.length) (hr:∀x∈E,0≤x.1∧x.1<(n.1.length:Int)∧0≤x.2∧x.2<(n.1.length:Int)) :
  PRules n.1.length E.length (fun j=>rY4 E (j:Int)) (qfQ n) (List Int×NetT) (fun k many s out=>qas.l4 k E many (n.1.length:Int) s n.1 n.2.1 n.2.2.1 n.2.2.2.1 n.2.2.2.2.1 n.2.2.2.2.2 out) (fun k many g s out=>qas.l9 k E many g (n.1.length:Int) s n.1 n.2.1 n.2.2.1 n.2.2.2.1 n.2.2.2.2.1 n.2.2.2.2.2 out)
   (fun k many g s j out=>qas.l12 k E many g (n.1.length:Int) s E (E.length:Int) j n.1 n.2.1 n.2.2.1 n.2.2.2.1 n.2.2.2.2.1 n.2.2.2.2.2 out) (fun out=>(out,n)) where
 e4 many out hl:=Ev.step (fun k=>qas.l4_eq k _ _ _ _ _ _ _ _ _ _ _) (Ev.neg (by omega) (Ev.now _))
 a4 many s out Q hl hs h0 H:=by
  have hb:=h.l0
  refine EvP.step (fun k=>qas.l4_eq k _ _ _ _ _ _ _ _ _ _ _) (EvP.pos (by omega) (EvP.pos (by omega) (EvP.pos (by omega) (EvP.pos h0 ?_))))
  rw [w64 (by omega) (by omega)]
  exact H
 b4 many s out Q hl hs h0 H:=by
  refine EvP.step (fun k=>qas.l4_eq k _ _ _ _ _ _ _ _ _ _ _) (EvP.pos (by omega) (EvP.pos (by omega) (EvP.pos (by omega) (EvP.neg h0 (EvP.pos (by omega) (EvP.pos (by omega) H))))))
 t9 many s out Q H:=EvP.step (fun k=>qas.l9_eq k _ _ _ _ _ _ _ _ _ _ _ _) (EvP.pos rfl H)
 f9 many s out Q h0 hm hs H:=by
  have hb:=h.l0
  refine EvP.step (fun k=>qas.l9_eq k _ _ _ _ _ _ _ _ _ _ _ _) (EvP.neg (by decide) ?_)
  rw [w64 (x:=many+1) (by omega) (by omega),w64 (x:=(s:Int)+1) (by omega) (by omega)]
  exact H
 e12 many g s out Q H:=EvP.step (fun k=>qas.qb9 k _ _ _ _ _ _ _ _ _ _ _ _ _ _ _) (EvP.neg (by omega) H)
 c12 many g s j out Q hl hj hx H:=by
  have h1:=h.l1
  obtain ⟨r1,r2,r3,r4⟩:=hr _ (qem (xs:=E) (i:=(j:Int)) (by omega) (by omega))
  refine EvP.step (fun k=>qas.qb9 k _ _ _ _ _ _ _ _ _ _ _ _ _ _ _) (EvP.pos (by omega) (EvP.pos (by omega) (EvP.pos (by omega) ?_)))
  rw [w64 (by omega) (by omega)]
  generalize rY4 E (j:Int)=p at r1 r2 r3 r4 hx ⊢
  refine EvP.pos rfl (EvP.pos (by decide) (EvP.pos (by decide) (EvP.pos (by show (0:Int)<2;decide) (EvP.pos r1 (EvP.pos (by show p.1<_;omega) (EvP.pos (by decide) (EvP.pos (by decide) (EvP.pos (by show (1:Int)<2;decide) (EvP.pos r3 (EvP.pos (by show p.2<_;omega) ?_))))))))))
  refine EvP.ite (fun _=>H) (fun hne=>?_)
  have hu:qfQ n j=false:=by
   rcases hx with hx|hx
   ·have hx:rI64 out p.1=many↔rI64 out p.2=many:=hx
    exact absurd (by
     show decide (rI64 out p.1=many)=decide (rI64 out p.2=many)
     by_cases e:rI64 out p.1=many
     ·rw [decide_eq_true e,decide_eq_true (hx.1 e)]
     ·rw [decide_eq_false e,decide_eq_false (fun q=>e (hx.2 q))]) hne
   ·exact hx
  refine EvP.bindE (a:=(qfQ n j,n)) (Ev.pos (by omega) (Ev.pos (by omega) (Ev.now _))) (EvP.neg (by rw [hu];exact Bool.false_ne_true) H)
 d12 many g s j out Q hl hj hx hu H:=by
  have h1:=h.l1
  obtain ⟨r1,r2,r3,r4⟩:=hr _ (qem (xs:=E) (i:=(j:Int)) (by omega) (by omega))
  refine EvP.step (fun k=>qas.qb9 k _ _ _ _ _ _ _ _ _ _ _ _ _ _ _) (EvP.pos (by omega) (EvP.pos (by omega) (EvP.pos (by omega) ?_)))
  rw [w64 (by omega) (by omega)]
  generalize rY4 E (j:Int)=p at r1 r2 r3 r4 hx H ⊢
  refine EvP.pos rfl (EvP.pos (by decide) (EvP.pos (by decide) (EvP.pos (by show (0:Int)<2;decide) (EvP.pos r1 (EvP.pos (by show p.1<_;omega) (EvP.pos (by decide) (EvP.pos (by decide) (EvP.pos (by show (1:Int)<2;decide) (EvP.pos r3 (EvP.pos (by show p.2<_;omega) ?_))))))))))
  refine EvP.neg (fun e=>hx ?_) ?_
  ·have e:decide (rI64 out p.1=many)=decide (rI64 out p.2=many):=e
   show rI64 out p.1=many↔rI64 out p.2=many
   rw [←decide_eq_decide];exact e
  ·refine EvP.bindE (a:=(qfQ n j,n)) (Ev.pos (by omega) (Ev.pos (by omega) (Ev.now _))) (EvP.pos (by rw [hu]) ?_)
   refine EvP.pos (by decide) (EvP.pos (by decide) (EvP.pos (by show (0:Int)<2;decide) (EvP.pos (by decide) (EvP.pos (by decide) (EvP.pos (by show (1:Int)<2;decide) (EvP.pos r1 (EvP.pos (by show p.1<_;omega) (EvP.pos r3 (EvP.pos (by rw [List.length_set];show p.2<_;omega) H)))))))))
 rng j hj:=hr _ (qem (xs:=E) (i:=(j:Int)) (by omega) (by omega))
theorem busParts' (N:Nat) (hb:N≤24) (E:List (Int×Int)) (hE:E.length≤24) (hr:∀x∈E,0≤x.1∧x.1<(N:Int)∧0≤x.2∧x.2<(N:Int)) :
  PRules N E.length (fun j=>rY4 E (j:Int)) (fun _=>true) (List Int) (fun k many s out=>qak.l4 k E many (N:Int) s out) (fun k many g s out=>qak.l9 k E many g (N:Int) s out)
   (fun k many g s j out=>qak.l12 k E many g (N:Int) s E (E.length:Int) j out) (fun out=>out) where
 e4 many out hl:=Ev.step (fun k=>qak.l4_eq k _ _ _ _ _) (Ev.neg (by omega) (Ev.now _))
 a4 many s out Q hl hs h0 H:=by
  refine EvP.step (fun k=>qak.l4_eq k _ _ _ _ _) (EvP.pos (by omega) (EvP.pos (by omega) (EvP.pos (by omega) (EvP.pos h0 ?_))))
  rw [w64 (by omega) (by omega)]
  exact H
 b4 many s out Q hl hs h0 H:=by
  refine EvP.step (fun k=>qak.l4_eq k _ _ _ _ _) (EvP.pos (by omega) (EvP.pos (by omega) (EvP.pos (by omega) (EvP.neg h0 (EvP.pos (by omega) (EvP.pos (by omega) H))))))
 t9 many s out Q H:=EvP.step (fun k=>qak.l9_eq k _ _ _ _ _ _) (EvP.pos rfl H)
 f9 many s out Q h0 hm hs H:=by
  refine EvP.step (fun k=>qak.l9_eq k _ _ _ _ _ _) (EvP.neg (by decide) ?_)
  rw [w64 (x:=many+1) (by omega) (by omega),w64 (x:=(s:Int)+1) (by omega) (by omega)]
  exact H
 e12 many g s out Q H:=EvP.step (fun k=>qak.qb9 k _ _ _ _ _ _ _ _ _) (EvP.neg (by omega) H)
 c12 many g s j out Q hl hj hx H:=by
  obtain ⟨r1,r2,r3,r4⟩:=hr _ (qem (xs:=E) (i:=(j:Int)) (by omega) (by omega))
  refine EvP.step (fun k=>qak.qb9 k _ _ _ _ _ _ _ _ _) (EvP.pos (by omega) (EvP.pos (by omega) (EvP.pos (by omega) ?_)))
  rw [w64 (by omega) (by omega)]
  generalize rY4 E (j:Int)=p at r1 r2 r3 r4 hx ⊢
  refine EvP.pos rfl (EvP.pos (by decide) (EvP.pos (by decide) (EvP.pos (by show (0:Int)<2;decide) (EvP.pos r1 (EvP.pos (by show p.1<_;omega) (EvP.pos (by decide) (EvP.pos (by decide) (EvP.pos (by show (1:Int)<2;decide) (EvP.pos r3 (EvP.pos (by show p.2<_;omega) ?_))))))))))
  refine EvP.pos ?_ H
  have hx:rI64 out p.1=many↔rI64 out p.2=many:=by
   rcases hx with hx|hx
   ·exact hx
   ·cases hx
  show decide (rI64 out p.1=many)=decide (rI64 out p.2=many)
  by_cases e:rI64 out p.1=many
  ·rw [decide_eq_true e,decide_eq_true (hx.1 e)]
  ·rw [decide_eq_false e,decide_eq_false (fun q=>e (hx.2 q))]
 d12 many g s j out Q hl hj hx hu H:=by
  obtain ⟨r1,r2,r3,r4⟩:=hr _ (qem (xs:=E) (i:=(j:Int)) (by omega) (by omega))
  refine EvP.step (fun k=>qak.qb9 k _ _ _ _ _ _ _ _ _) (EvP.pos (by omega) (EvP.pos (by omega) (EvP.pos (by omega) ?_)))
  rw [w64 (by omega) (by omega)]
  generalize rY4 E (j:Int)=p at r1 r2 r3 r4 hx H ⊢
  refine EvP.pos rfl (EvP.pos (by decide) (EvP.pos (by decide) (EvP.pos (by show (0:Int)<2;decide) (EvP.pos r1 (EvP.pos (by show p.1<_;omega) (EvP.pos (by decide) (EvP.pos (by decide) (EvP.pos (by show (1:Int)<2;decide) (EvP.pos r3 (EvP.pos (by show p.2<_;omega) ?_))))))))))
  refine EvP.neg (fun e=>hx ?_) ?_
  ·have e:decide (rI64 out p.1=many)=decide (rI64 out p.2=many):=e
   show rI64 out p.1=many↔rI64 out p.2=many
   rw [←decide_eq_decide];exact e
  ·refine EvP.bindE (a:=true) (Ev.now _) (EvP.pos rfl ?_)
   refine EvP.pos (by decide) (EvP.pos (by decide) (EvP.pos (by show (0:Int)<2;decide) (EvP.pos (by decide) (EvP.pos (by decide) (EvP.pos (by show (1:Int)<2;decide) (EvP.pos r1 (EvP.pos (by show p.1<_;omega) (EvP.pos r3 (EvP.pos (by rw [List.length_set];show p.2<_;omega) H)))))))))
 rng j hj:=hr _ (qem (xs:=E) (i:=(j:Int)) (by omega) (by omega))
theorem rep_rd (N i:Nat) (h:i<N):rI64 (List.replicate N (-1)) (i:Int)=-1:=qb6 _ i _ (by rw [List.getElem?_replicate,if_pos h])
theorem cnt_run (l:List Int) (hb:l.length≤1000) (hx:∀x∈l,0≤x∧x<1000):∀(m j:Nat) (c:Int),j+m=l.length→0≤c→c≤1000→EvP (fun k=>qa1.l3 k c l (l.length:Int) (j:Int)) (fun r=>c≤r∧(∀x∈l.drop j,x<r)∧∀B:Int,c≤B→(∀x∈l,x<B)→r≤B)
 |0,j,c,hj,h0,h1=>by
  rw [List.drop_eq_nil_of_le (by omega)]
  exact EvP.step (fun k=>qa1.l3_eq k _ _ _ _) (EvP.neg (by omega) (EvP.ret ⟨Int.le_refl _,fun x hx=>(by cases hx),fun B hB _=>hB⟩))
 |m+1,j,c,hj,h0,h1=>by
  have hm:=qd4 (xs:=l) (i:=(j:Int)) (by omega) (by omega)
  have hr:=hx _ hm
  have hdr:=rI64_drop (xs:=l) (i:=(j:Int)) (by omega) (by omega)
  rw [show ((j:Int)).toNat=j from rfl,show ((j:Int)+1).toNat=j+1 from rfl] at hdr
  rw [hdr]
  refine EvP.step (fun k=>qa1.l3_eq k _ _ _ _) (EvP.pos (by omega) (EvP.pos (by omega) (EvP.pos (by omega) ?_)))
  rw [w64 (x:=rI64 l (j:Int)+1) (by omega) (by omega),w64 (x:=(j:Int)+1) (by omega) (by omega)]
  obtain ⟨g1,g2,g3⟩:=mx_ge c (rI64 l (j:Int)+1)
  refine (cnt_run l hb hx m (j+1) _ (by omega) (by omega) (by omega)).mono (fun r hr'=>⟨by omega,fun x hx'=>?_,fun B hB hxB=>?_⟩)
  ·rcases List.mem_cons.1 hx' with rfl|hx'
   ·have:=hr'.1;omega
   ·exact hr'.2.1 x hx'
  ·have:=hxB _ hm
   exact hr'.2.2 B (by omega) hxB
theorem qe7 (n:NetT) (h:NetOk n) (bus:List Int) (hb:bus.length=n.1.length) (c:Int) (hc:∀x∈bus,0≤x∧x<c):∀(m j:Nat) (out:List (Int×Int)),j+m=n.2.2.1.length→out.length=j→(∀i:Nat,i<j→rY4 out (i:Int)=(rI64 bus (idxS n.1 (rY11 n.2.2.1 (i:Int)).2.1),rI64 bus (idxS n.1 (rY11 n.2.2.1 (i:Int)).2.2.1)))→
  EvP (fun k=>qaL.l3 k bus n.2.2.1 (n.2.2.1.length:Int) (j:Int) n.1 n.2.1 n.2.2.1 n.2.2.2.1 n.2.2.2.2.1 n.2.2.2.2.2 out) (fun r=>r.length=n.2.2.1.length∧(∀i:Nat,i<n.2.2.1.length→rY4 r (i:Int)=(rI64 bus (idxS n.1 (rY11 n.2.2.1 (i:Int)).2.1),rI64 bus (idxS n.1 (rY11 n.2.2.1 (i:Int)).2.2.1))))
 |0,j,out,hj,hl,ho=>EvP.step (fun k=>qaL.l3_eq k _ _ _ _ _ _ _ _ _ _ _) (EvP.neg (by omega) (EvP.ret ⟨by omega,fun i hi=>ho i (by omega)⟩))
 |m+1,j,out,hj,hl,ho=>by
  have h2:=h.l2
  have h0:=h.l0
  have hx:=h.br _ (qeV (xs:=n.2.2.1) (i:=(j:Int)) (by omega) (by omega))
  have i1:=qbO hx.1
  have i2:=qbO hx.2.1
  refine EvP.step (fun k=>qaL.l3_eq k _ _ _ _ _ _ _ _ _ _ _) (EvP.pos (by omega) (EvP.pos (by omega) (EvP.pos (by omega) (EvP.bindE (qeJ n.1 _ (by omega)) (EvP.pos i1.1 (EvP.pos (by omega) (EvP.bindE (qeJ n.1 _ (by omega)) (EvP.pos i2.1 (EvP.pos (by omega) (EvP.pos (by rw [List.length_singleton];omega) ?_))))))))))
  rw [w64 (by omega) (by omega)]
  refine qe7 n h bus hb c hc m (j+1) _ (by omega) (by rw [List.length_append,List.length_singleton,hl]) (fun i hi=>?_)
  by_cases hij:i<j
  ·have hg:=rY4_some (xs:=out) (i:=(i:Int)) (by omega) (by omega)
   rw [rY4_get (out++[_]) i (rY4 out (i:Int)) (by rw [List.getElem?_append_left (by omega)];exact hg)]
   exact ho i hij
  ·have:i=j:=by omega
   subst this
   rw [rY4_get (out++[_]) i _ (by rw [List.getElem?_append_right (by omega),hl,Nat.sub_self];rfl)]
structure TopoP (n:NetT) (t:List Int×List Int):Prop where
 lb:t.1.length=n.1.length
 bus:∀i:Nat,i<n.1.length→0≤rI64 t.1 (i:Int)∧rI64 t.1 (i:Int)<t.2.length
 li:t.2.length≤n.1.length
 isl:∀i:Nat,i<t.2.length→0≤rI64 t.2 (i:Int)∧rI64 t.2 (i:Int)<t.2.length
 con:∀φ:Int→Rat,(∀j:Nat,j<n.2.2.1.length→φ (rI64 t.1 (idxS n.1 (rY11 n.2.2.1 (j:Int)).2.1))=φ (rI64 t.1 (idxS n.1 (rY11 n.2.2.1 (j:Int)).2.2.1)))→∀i i':Nat,i<t.2.length→i'<t.2.length→rI64 t.2 (i:Int)=rI64 t.2 (i':Int)→φ (i:Int)=φ (i':Int)
theorem buses_ex (n:NetT) (h:NetOk n):EvP (fun k=>qbD.f k n) (fun r=>r.length=n.1.length∧∀i:Nat,i<n.1.length→0≤rI64 r (i:Int)∧rI64 r (i:Int)<n.1.length):=by
 have h0:=h.l0
 refine EvP.bind (edges_run n h n.2.1.length 0 [] (Nat.zero_add _) rfl (fun x hx=>by cases hx)) (fun E hE=>?_)
 refine EvP.bind (P:=fun r=>∃out,r=(out,n)∧PartsP n.1.length E.length (fun j=>rY4 E (j:Int)) (qfQ n) out) (EvP.bindE (rep_ev n.1.length h0) ?_) (fun r hr=>EvP.ret ?_)
 ·refine qd6 (busParts n h E hE.1 hE.2) n.1.length 0 0 (List.replicate n.1.length (-1)) (Nat.zero_add _) (by omega) (by omega) (by simp) (fun i hi=>?_) (fun i hi=>by omega) (fun φ _ i i' hi hi' g0 _=>?_)
  ·rw [rep_rd _ i hi];omega
  ·rw [rep_rd _ i hi] at g0;omega
 ·obtain ⟨out,rfl,h1,h2,_⟩:=hr
  exact ⟨h1,h2⟩
theorem fresh_ex (n:NetT) (h:NetOk n):EvP (fun k=>qaM.f k n) (TopoP n):=by
 have h0:=h.l0
 have h2:=h.l2
 refine EvP.bind (buses_ex n h) (fun bus hbus=>?_)
 obtain ⟨b1,b2⟩:=hbus
 have hmem:∀x∈bus,0≤x∧x<(n.1.length:Int):=fun x hx=>by
  obtain ⟨i,hi,rfl⟩:=List.mem_iff_getElem.1 hx
  rw [rd_at bus i hi]
  exact b2 i (by omega)
 refine EvP.bind (cnt_run bus (by omega) (fun x hx=>⟨(hmem x hx).1,by have:=(hmem x hx).2;omega⟩) bus.length 0 0 (Nat.zero_add _) (by omega) (by omega)) (fun c hc=>?_)
 obtain ⟨c0,c1,c2⟩:=hc
 rw [List.drop_zero] at c1
 have c3:=c2 n.1.length (by omega) (fun x hx=>(hmem x hx).2)
 obtain ⟨N,rfl⟩:∃N:Nat,c=(N:Int):=⟨c.toNat,by omega⟩
 refine EvP.bind (qe7 n h bus b1 (N:Int) (fun x hx=>⟨(hmem x hx).1,c1 x hx⟩) n.2.2.1.length 0 [] (Nat.zero_add _) rfl (fun i hi=>by omega)) (fun W hW=>?_)
 obtain ⟨w1,w2⟩:=hW
 have hbi:∀s,s∈n.1→0≤rI64 bus (idxS n.1 s)∧rI64 bus (idxS n.1 s)<(N:Int):=fun s hs=>by
  have hi:=qbO hs
  have:=qd4 (xs:=bus) (i:=idxS n.1 s) hi.1 (by omega)
  exact ⟨(hmem _ this).1,c1 _ this⟩
 have hWr:∀x∈W,0≤x.1∧x.1<(N:Int)∧0≤x.2∧x.2<(N:Int):=fun x hx=>by
  obtain ⟨i,hi,rfl⟩:=List.mem_iff_getElem.1 hx
  have e:W[i]=rY4 W (i:Int):=(rY4_get W i W[i] (List.getElem?_eq_getElem hi)).symm
  rw [e,w2 i (by omega)]
  have hb:=h.br _ (qeV (xs:=n.2.2.1) (i:=(i:Int)) (by omega) (by omega))
  exact ⟨(hbi _ hb.1).1,(hbi _ hb.1).2,(hbi _ hb.2.1).1,(hbi _ hb.2.1).2⟩
 refine EvP.bind (P:=fun r=>PartsP N W.length (fun j=>rY4 W (j:Int)) (fun _=>true) r) (EvP.bindE (rep_ev N (by omega)) ?_) (fun r hr=>EvP.ret ?_)
 ·refine (qd6 (busParts' N (by omega) W (by omega) hWr) N 0 0 (List.replicate N (-1)) (Nat.zero_add _) (by omega) (by omega) (by simp) (fun i hi=>?_) (fun i hi=>by omega) (fun φ _ i i' hi hi' g0 _=>?_)).mono ?_
  ·rw [rep_rd _ i hi];omega
  ·rw [rep_rd _ i hi] at g0;omega
  ·rintro r ⟨out,rfl,hp⟩;exact hp
 ·obtain ⟨p1,p2,p3⟩:=hr
  refine ⟨b1,fun i hi=>?_,by show r.length≤_;omega,fun i hi=>?_,fun φ hφ i i' hi hi' he=>?_⟩
  ·have:=qd4 (xs:=bus) (i:=(i:Int)) (by omega) (by omega)
   exact ⟨(hmem _ this).1,by show rI64 bus (i:Int)<(r.length:Int);have:=c1 _ this;omega⟩
  ·have hi:i<r.length:=hi
   have:=p2 i (by omega)
   exact ⟨this.1,by show rI64 r (i:Int)<(r.length:Int);omega⟩
  ·have hi:i<r.length:=hi
   have hi':i'<r.length:=hi'
   refine p3 φ (fun j hj _=>?_) i i' (by omega) (by omega) he
   show φ (rY4 W (j:Int)).1=φ (rY4 W (j:Int)).2
   rw [w2 j (by omega)]
   exact hφ j (by omega)
end Go.Proofs.YtfobeapcmgjhbaaGreatDoor.VE
