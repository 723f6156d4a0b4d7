/- Texts behind the law NetdispatchFlows, part 17 (no statement is proved here). -/
import Derived.Test.YtfobeapcmgjhbaaGreatDoorKNetdispatchFlows16
namespace Go.Proofs.YtfobeapcmgjhbaaGreatDoor.VE
open Go Go.RowKit
set_option linter.unusedVariables false
attribute [local irreducible] wrap64
theorem dl_grow (N:Nat):∀k,dl (grow k N)+1≤2 ^ k*(dl N+1)
 |0=>by show dl N+1≤1*(dl N+1);omega
 |k+1=>by
  have ih:=dl_grow N k
  have h1:=qeO (grow k N) (grow k N)
  have h2:=dl_add (m:=grow k N*grow k N) (n:=grow k N*grow k N) (L:=dl (grow k N)+dl (grow k N)) h1 h1
  show dl (2*(grow k N*grow k N))+1≤_
  rw [Nat.two_mul,Nat.pow_succ,Nat.mul_comm (2 ^ k) 2,Nat.mul_assoc]
  omega
theorem inc_ge {c:Nat→Nat} {p:Nat} (h:∀i j,i<j→j<p→c i<c j):∀i,i<p→i≤c i
 |0,_=>Nat.zero_le _
 |i+1,hi=>by
  have h1:=inc_ge h i (by omega)
  have h2:=h i (i+1) (by omega) hi
  omega
theorem inc_le {c:Nat→Nat} {p:Nat} (h:∀i j,i<j→j<p→c i<c j) (hl:∀i,i<p→c i<p):∀d i,i+d+1=p→c i≤i
 |0,i,hi=>by have:=hl i (by omega);omega
 |d+1,i,hi=>by
  have h1:=inc_le h hl d (i+1) (by omega)
  have h2:=h i (i+1) (by omega) (by omega)
  omega
theorem ech_full {R W N:Nat} {T S:Mt} {c:Nat→Nat} {p:Nat} (he:Ech R W R N T S c p) (hW:R≤W) (inj:∀x:Nat→Rat,(∀j,R≤j→x j=0)→SolS R W T x→∀j,j<R→x j=0):p=R∧∀i,i<R→c i=i:=by
 have hp:p=R:=by
  by_cases e:p=R
  ·exact e
  ·exfalso
   have hpR:=he.pR
   have ex:∃q,q<R∧∀i,i<p→c i≠q:=by
    by_cases e2:∃q,q<R∧∀i,i<p→c i≠q
    ·exact e2
    ·exfalso
     have all:∀q,∃i,q<R→i<p∧c i=q:=by
      intro q
      by_cases hq:q<R
      ·by_cases e3:∃i,i<p∧c i=q
       ·obtain ⟨i,h1,h2⟩:=e3
        exact ⟨i,fun _=>⟨h1,h2⟩⟩
       ·exact (e2 ⟨q,hq,fun i hi h=>e3 ⟨i,hi,h⟩⟩).elim
      ·exact ⟨0,fun h=>absurd h hq⟩
     obtain ⟨a,b,h1,h2,h3⟩:=hole p (fun q=>Classical.choose (all q)) (fun t ht=>(Classical.choose_spec (all t) (by omega)).1)
     have s1:=(Classical.choose_spec (all a) (by omega)).2
     have s2:=(Classical.choose_spec (all b) (by omega)).2
     rw [h3,s2] at s1
     omega
   obtain ⟨q,hq,hn⟩:=ex
   have hcb:∀i,i<p→c i<W:=fun i hi=>by have:=he.lt i hi;omega
   have hsol:SolS R W S (dirS p S c q):=by
    intro r hr
    rw [qfs S S hcb (by omega)]
    by_cases e3:r<p
    ·rw [qdC e3 (fun i hi hne=>by rw [he.one i hi r hr,if_neg (fun e=>hne e.symm),Rat.zero_mul]),he.one r e3 r hr,if_pos rfl];grind
    ·rw [he.zero r (by omega) hr q hq,qcY (fun i hi=>by rw [he.one i hi r hr,if_neg (by omega),Rat.zero_mul])];grind
   have hx:=inj _ (fun j hj=>?_) ((he.sol _).2 hsol) q hq
   ·unfold dirS at hx
    rw [if_pos rfl,qcY (fun i hi=>if_neg (hn i hi))] at hx
    grind
   ·unfold dirS
    rw [if_neg (by omega),qcY (fun i hi=>if_neg (by have:=he.lt i hi;omega))]
    grind
 subst hp
 refine ⟨rfl,fun i hi=>?_⟩
 have h1:=inc_ge he.inc i hi
 have h2:=inc_le he.inc he.lt (p - i - 1) i (by omega)
 omega
def pot (u:Nat→Rat) (b:Nat):Rat:=if b=0 then 0 else u (b - 1)
theorem dd_pot {n:NetT} (h:NetOk n) {t:List Int×List Int} (ht:TopoP n t) {k:Nat} (hk:k<n.2.2.1.length) (u:Nat→Rat):sm (t.2.length - 1) (fun i=>dd n t k (i+1)*u i)=pot u (w1 n t k).toNat - pot u (w2 n t k).toNat:=by
 obtain ⟨⟨wa0,wa1⟩,wb0,wb1⟩:=w_rng h ht hk
 have one:∀(w:Int),0≤w→w<t.2.length→sm (t.2.length - 1) (fun i=>(if w=((i+1:Nat):Int) then (1:Rat) else 0)*u i)=pot u w.toNat:=by
  intro w h0 h1
  unfold pot
  by_cases e:w.toNat=0
  ·rw [if_pos e]
   exact qcY fun i _=>by rw [if_neg (by omega),Rat.zero_mul]
  ·rw [if_neg e,qdC (show w.toNat - 1<t.2.length - 1 by omega) (fun i _ hne=>by rw [if_neg (by omega),Rat.zero_mul]),if_pos (by omega),Rat.one_mul]
 rw [←one _ wa0 wa1,←one _ wb0 wb1,←qfi]
 refine qbc fun i _=>?_
 unfold dd
 grind
theorem lap_mul (n:NetT) (t:List Int×List Int) (R i:Nat) (u:Nat→Rat):sm R (fun j=>Lap n t i j*u j)=sm n.2.2.1.length (fun k=>Bq n k*dd n t k (i+1)*sm R (fun j=>dd n t k (j+1)*u j)):=by
 have e:sm R (fun j=>Lap n t i j*u j)=sm R (fun j=>sm n.2.2.1.length (fun k=>Bq n k*dd n t k (i+1)*(dd n t k (j+1)*u j))):=by
  refine qbc fun j _=>?_
  unfold Lap LapK
  rw [Rat.mul_comm,←qc9]
  refine qbc fun k _=>?_
  grind
 rw [e,qfh]
 exact qbc fun k _=>qc9 _ _ _
theorem sq_nonneg (a:Rat):0≤a*a:=by
 by_cases h:0≤a
 ·exact Rat.mul_nonneg h h
 ·have:=Rat.mul_nonneg (a:=-a) (b:=-a) (by grind) (by grind)
  grind
theorem qeF {f:Nat→Rat}:∀{n:Nat},(∀i,i<n→0≤f i)→sm n f=0→∀i,i<n→f i=0
 |0,_,_,i,hi=>by omega
 |n+1,h,e,i,hi=>by
  rw [qbi] at e
  have h1:=sm_nonneg (n:=n) (f:=f) (fun i hi=>h i (by omega))
  have h2:=h n (by omega)
  by_cases q:i=n
  ·rw [q];grind
  ·exact qeF (n:=n) (fun i hi=>h i (by omega)) (by grind) i (by omega)
theorem lap_inj {n:NetT} (h:NetOk n) {t:List Int×List Int} (ht:TopoP n t) (hi:∀i:Nat,i<t.2.length→rI64 t.2 (i:Int)=0) (u:Nat→Rat) (h0:∀i,i<t.2.length - 1→sm (t.2.length - 1) (fun j=>Lap n t i j*u j)=0):∀j,j<t.2.length - 1→u j=0:=by
 have en:sm n.2.2.1.length (fun k=>Bq n k*(sm (t.2.length - 1) (fun j=>dd n t k (j+1)*u j)*sm (t.2.length - 1) (fun j=>dd n t k (j+1)*u j)))=0:=by
  have e1:sm (t.2.length - 1) (fun i=>u i*sm (t.2.length - 1) (fun j=>Lap n t i j*u j))=0:=qcY fun i hi=>by rw [h0 i hi,Rat.mul_zero]
  have e2:sm (t.2.length - 1) (fun i=>u i*sm (t.2.length - 1) (fun j=>Lap n t i j*u j))=sm (t.2.length - 1) (fun i=>sm n.2.2.1.length (fun k=>Bq n k*sm (t.2.length - 1) (fun j=>dd n t k (j+1)*u j)*(dd n t k (i+1)*u i))):=by
   refine qbc fun i _=>?_
   rw [lap_mul,←qc9]
   exact qbc fun k _=>by grind
  rw [e2,qfh] at e1
  rw [←e1]
  refine qbc fun k _=>?_
  rw [qc9]
  grind
 have each:=qeF (fun k hk=>Rat.mul_nonneg (Rat.le_of_lt (B_rng h hk).1) (sq_nonneg _)) en
 have hφ:=ht.con (fun b=>pot u b.toNat) (fun k hk=>by
  have e:=each k hk
  have hB:=(B_rng h hk).1
  have e1:sm (t.2.length - 1) (fun j=>dd n t k (j+1)*u j)=0:=by
   rcases Rat.mul_eq_zero.1 e with e|e
   ·grind
   ·rcases Rat.mul_eq_zero.1 e with e|e<;>exact e
  rw [dd_pot h ht hk u] at e1
  show pot u (w1 n t k).toNat=pot u (w2 n t k).toNat
  grind)
 intro j hj
 have:=hφ (j+1) 0 (by omega) (by omega) (by rw [hi (j+1) (by omega),hi 0 (by omega)])
 have this:pot u (((j+1:Nat):Int)).toNat=pot u (((0:Nat):Int)).toNat:=this
 rw [Int.toNat_natCast,Int.toNat_natCast] at this
 unfold pot at this
 rw [if_neg (by omega),if_pos rfl] at this
 exact this
def LG:Nat:=200000000
theorem lg_grow {k:Nat} (hk:k≤23):dl (grow k N0)≤LG:=by
 have h1:=dl_grow N0 k
 have h2:=N0_dl
 have h3:2 ^ k≤2 ^ 23:=Nat.pow_le_pow_right (by decide) hk
 have h4:=Nat.mul_le_mul h3 (show dl N0+1≤22 by omega)
 have h5:2 ^ 23*22≤LG:=by decide
 omega
theorem N0_D {n:NetT} (h:NetOk n):DD n n.2.2.1.length≤(N0:Int):=by
 obtain ⟨d1,d2⟩:=qgw h (Nat.le_refl n.2.2.1.length)
 have h4:(15000000 ^ n.2.2.1.length:Nat)≤15000000 ^ 24:=Nat.pow_le_pow_right (by decide) h.l2
 have h5:(15000000 ^ 24:Nat)≤N0:=by decide+kernel
 omega
theorem FB.ok {n:NetT} (h:NetOk n) {R W:Nat} {T:Mt} {C:Nat} (hC:C≤10000000) (k:∀i,i<R→∀j,j<W→Ok n (C:Rat) (T i j)):FB R W N0 T:=
 FB.of (qgw h (Nat.le_refl _)).1 (N0_D h) (fun i hi j hj=>fit_sum h hC (k i hi j hj).1 (k i hi j hj).2)
theorem rY17_drop1 {xs:List QT} {R j:Nat} (hj:R+j<xs.length):rY17 (xs.drop R) (j:Int)=rY17 xs ((R+j:Nat):Int):=by
 have h2:=qdf (xs:=xs) (i:=((R+j:Nat):Int)) (by omega) (by omega)
 rw [show (((R+j:Nat):Int)).toNat=R+j from rfl] at h2
 exact qd2 _ _ _ (by rw [List.getElem?_drop,h2])
theorem Rw.drop {L W:Nat} {f:Nat→Rat} {xs:List QT} (h:Rw L W f xs) {R:Nat} (hR:R≤W):Rw L (W - R) (fun j=>f (R+j)) (xs.drop R):=by
 refine ⟨by rw [List.length_drop,h.1],fun j hj=>?_⟩
 rw [rY17_drop1 (by rw [h.1];omega)]
 exact h.2 (R+j) (by omega)
theorem rY17_appL {xs ys:List QT} {j:Nat} (hj:j<xs.length):rY17 (xs++ys) (j:Int)=rY17 xs (j:Int):=by
 have h2:=qdf (xs:=xs) (i:=(j:Int)) (by omega) (by omega)
 rw [show ((j:Int)).toNat=j from rfl] at h2
 exact qd2 _ _ _ (by rw [List.getElem?_append_left hj,h2])
theorem rY17_appR {xs ys:List QT} {j:Nat} (hj:j<ys.length):rY17 (xs++ys) ((xs.length+j:Nat):Int)=rY17 ys (j:Int):=by
 have h2:=qdf (xs:=ys) (i:=(j:Int)) (by omega) (by omega)
 rw [show ((j:Int)).toNat=j from rfl] at h2
 exact qd2 _ _ _ (by rw [List.getElem?_append_right (by omega),Nat.add_sub_cancel_left,h2])
theorem Rw.cat {L a b:Nat} {f g:Nat→Rat} {xs ys:List QT} (h:Rw L a f xs) (k:Rw L b g ys):Rw L (a+b) (fun j=>if j<a then f j else g (j - a)) (xs++ys):=by
 refine ⟨by rw [List.length_append,h.1,k.1],fun j hj=>?_⟩
 by_cases e:j<a
 ·rw [rY17_appL (by rw [h.1];exact e)]
  exact (h.2 j e).eq (if_pos e).symm
 ·have:=rY17_appR (xs:=xs) (ys:=ys) (j:=j - a) (by rw [k.1];omega)
  rw [h.1,show a+(j - a)=j by omega] at this
  rw [this]
  exact (k.2 (j - a) (by omega)).eq (if_neg e).symm
theorem int1_ev:EvP (fun k=>qbh.f k 1) (Rp 3 1):=(qeL (a:=1) (by omega) (by omega)).mono (fun r hr=>hr)
def augT (n:NetT) (t:List Int×List Int) (R:Nat):Mt:=fun i j=>if j<R then Lap n t i j else if j - R=i then 1 else 0
theorem aug_row (n:NetT) (t:List Int×List Int) (R:Nat) (x:Nat→Rat) {i:Nat} (hi:i<R):rowS (R+R) (augT n t R) i x=sm R (fun j=>Lap n t i j*x j)+x (R+i):=by
 unfold rowS
 rw [qeT,qbc (n:=R) (g:=fun j=>Lap n t i j*x j) (fun j hj=>by unfold augT;rw [if_pos hj]),qdC (f:=fun j=>augT n t R i (R+j)*x (R+j)) hi (fun j hj hne=>by unfold augT;rw [if_neg (by omega),if_neg (by omega),Rat.zero_mul])]
 unfold augT
 rw [if_neg (by omega),if_pos (by omega),Rat.one_mul]
def InvP (n:NetT) (t:List Int×List Int) (R:Nat) (X:Mt):Prop:=∀u r:Nat→Rat,(∀i,i<R→sm R (fun j=>Lap n t i j*u j)=r i)→∀i,i<R→u i=sm R (fun j=>X i j*r j)
theorem inverse_ev {n:NetT} (h:NetOk n) {t:List Int×List Int} (ht:TopoP n t) (hisl:∀i:Nat,i<t.2.length→rI64 t.2 (i:Int)=0) {m:MT} (M:ModP n t m) :
  EvP (fun k=>qay.f k m) (fun g=>∃X,Gd LG (t.2.length - 1) (t.2.length - 1) X g∧InvP n t (t.2.length - 1) X):=by
 have l0:=h.l0
 have li:=ht.li
 refine EvP.bind (qgc h ht M) (fun g0 hg0=>?_)
 have inj0:=lap_inj h ht hisl
 generalize hR:t.2.length - 1=R at*
 have e0:=hg0.1
 rw [e0]
 -- the cuts behind
 have cuts:∀(S:Mt) (g1:List (List QT)),Gd LG R (R+R) S g1→∀(d k:Nat) (g:List (List QT)),k+d=R→g.length=R→(∀i:Nat,i<k→Rw LG R (fun j=>S i (R+j)) (rL122 g (i:Int)))→(∀i:Nat,k≤i→i<R→rL122 g (i:Int)=rL122 g1 (i:Int))→
   EvP (fun f=>qay.l12 f (R:Int) (R:Int) (k:Int) g) (Gd LG R R (fun i j=>S i (R+j))):=by
  intro S g1 hg1 d
  induction d with
  |zero=>
   intro k g hk hl h1 h2
   have:k=R:=by omega
   subst this
   exact EvP.step (fun f=>qay.qb9 f ..) (EvP.neg (by omega) (EvP.ret ⟨hl,h1⟩))
  |succ d ih=>
   intro k g hk hl h1 h2
   have hr:=hg1.rowN (show k<R by omega)
   have e1:=h2 k (Nat.le_refl _) (by omega)
   have e2:(rL122 g (k:Int)).length=R+R:=by rw [e1];exact hr.1
   refine EvP.step (fun f=>qay.qb9 f ..) (EvP.pos (by omega) (EvP.pos (by omega) (EvP.pos (by omega) (EvP.pos (by omega) (EvP.pos (by omega) (EvP.pos (by omega) (EvP.pos (by omega) (EvP.pos rfl ?_))))))))
   rw [w64 (by omega) (by omega)]
   have e3:(List.drop (Int.toNat (R:Int)) (rL122 g (k:Int))).take ((Int.toNat ((rL122 g (k:Int)).length:Int)) - (Int.toNat (R:Int)))=(rL122 g1 (k:Int)).drop R:=by
    rw [Int.toNat_natCast,Int.toNat_natCast,e2,e1]
    exact List.take_of_length_le (by rw [List.length_drop,hr.1];omega)
   rw [e3,Int.toNat_natCast]
   have set:∀i:Nat,rL122 (g.set k ((rL122 g1 (k:Int)).drop R)) (i:Int)=if i=k then (rL122 g1 (k:Int)).drop R else rL122 g (i:Int):=fun i=>by
    have e:=qd3 (xs:=g) (i:=(k:Int)) ((rL122 g1 (k:Int)).drop R) (by omega) (by omega) (j:=(i:Int)) (by omega)
    rw [show ((k:Int)).toNat=k from rfl] at e
    rw [e]
    by_cases q:i=k
    ·rw [if_pos (by omega),if_pos q]
    ·rw [if_neg (by omega),if_neg q]
   refine ih (k+1) _ (by omega) (by rw [List.length_set];exact hl) (fun i hi=>?_) (fun i hi hiR=>?_)
   ·rw [set]
    by_cases q:i=k
    ·rw [if_pos q,q]
     have:=hr.drop (R:=R) (by omega)
     rw [show R+R - R=R by omega] at this
     exact this
    ·rw [if_neg q];exact h1 i (by omega)
   ·rw [set,if_neg (by omega)];exact h2 i (by omega) hiR
 -- the identity beside
 have adds:∀(d k:Nat) (g:List (List QT)),k+d=R→g.length=R→(∀i:Nat,i<k→Rw LG (R+R) (augT n t R i) (rL122 g (i:Int)))→(∀i:Nat,k≤i→i<R→rL122 g (i:Int)=rL122 g0 (i:Int))→
   EvP (fun f=>qay.l4 f (R:Int) (R:Int) (k:Int) g) (fun g=>∃X,Gd LG R R X g∧InvP n t R X):=by
  intro d
  induction d with
  |zero=>
   intro k g hk hl h1 h2
   have:k=R:=by omega
   subst this
   have hok:∀i,i<k→∀j,j<k+k→Ok n ((48000:Nat):Rat) (augT n t k i j):=fun i hi j hj=>by
    unfold augT
    split
    ·exact lap_ok h t (Nat.le_refl _) i j
    ·split
     ·exact (Ok.int (n:=n) (a:=1) (c:=48000) (by decide) (by decide))
     ·exact Ok.zero (by decide)
   refine EvP.step (fun f=>qay.l4_eq f ..) (EvP.neg (by omega) ?_)
   refine EvP.bind (ech_ev (L:=LG) (T:=augT n t k) ⟨hl,h1⟩ (FB.ok h (by omega) hok) (lg_grow (by omega)) (by decide) (by omega) (by omega) (by omega)) (fun r hr=>?_)
   obtain ⟨S,c,he,hc,hg⟩:=hr
   obtain ⟨p1,p2⟩:=ech_full he (by omega) (fun x hx hs=>inj0 x (fun i hi=>by
    have:=hs i hi
    rw [aug_row n t k x hi,hx (k+i) (by omega),Rat.add_zero] at this
    exact this))
   rw [hg.1]
   refine (cuts S r.2 hg k 0 r.2 (by omega) hg.1 (fun i hi=>by omega) (fun i _ _=>rfl)).mono (fun g hg'=>⟨_,hg',fun u v huv i hi=>?_⟩)
   have hsol:SolS k (k+k) (augT n t k) (fun j=>if j<k then u j else -v (j - k)):=fun i hi=>by
    rw [aug_row n t k _ hi,if_neg (by omega),qbc (g:=fun j=>Lap n t i j*u j) (fun j hj=>by rw [if_pos hj]),huv i hi,show k+i - k=i by omega]
    grind
   have h3:=(he.sol _).1 hsol i hi
   unfold rowS at h3
   rw [qeT,qdC hi (fun j hj hne=>by
    have:=he.one j (by rw [p1];exact hj) i hi
    rw [p2 j hj,if_neg (fun e=>hne e.symm)] at this
    rw [this,Rat.zero_mul])] at h3
   have h4:=he.one i (by rw [p1];exact hi) i hi
   rw [p2 i hi,if_pos rfl] at h4
   change S i i*(if i<k then u i else -v (i - k))+sm k (fun j=>S i (k+j)*(if k+j<k then u (k+j) else -v (k+j - k)))=0 at h3
   rw [h4,if_pos hi,qbc (g:=fun j=>-(S i (k+j)*v j)) (fun j hj=>by rw [if_neg (by omega),show k+j - k=j by omega];grind),sm_neg] at h3
   grind
  |succ d ih=>
   intro k g hk hl h1 h2
   have e1:=h2 k (Nat.le_refl _) (by omega)
   have hr:=hg0.rowN (show k<R by omega)
   have e2:(rL122 g (k:Int)).length=R:=by rw [e1];exact hr.1
   have e3:(List.replicate (R:Int).toNat (false,[],[]):List QT).length=R:=List.length_replicate
   refine EvP.step (fun f=>qay.l4_eq f ..) (EvP.pos (by omega) (EvP.pos (by omega) (EvP.pos (by omega) (EvP.pos (by omega) (EvP.bind int1_ev (fun r2 hr2=>?_))))))
   refine EvP.pos (by omega) (EvP.pos (by omega) (EvP.pos (by omega) (EvP.pos (by omega) (EvP.pos (by rw [List.length_set];omega) (EvP.pos (by omega) (EvP.pos (by omega) (EvP.pos rfl ?_)))))))
   rw [w64 (by omega) (by omega),Int.toNat_natCast,Int.toNat_natCast,e1]
   have hrow:Rw LG (R+R) (augT n t R k) ((rL122 g0 (k:Int))++((List.replicate R (false,[],[]):List QT).set k r2)):=by
    refine ((hr.up (by decide)).cat ((Rw.zeros (L:=LG) (by decide) R).set (hr2.up (by decide)) (show k<R by omega))).congr (fun j hj=>?_)
    unfold augT
    by_cases q:j<R
    ·simp only [if_pos q]
    ·simp only [if_neg q]
   have set:∀i:Nat,rL122 (g.set k ((rL122 g0 (k:Int))++((List.replicate R (false,[],[]):List QT).set k r2))) (i:Int)=if i=k then ((rL122 g0 (k:Int))++((List.replicate R (false,[],[]):List QT).set k r2)) else rL122 g (i:Int):=fun i=>by
    have e:=qd3 (xs:=g) (i:=(k:Int)) ((rL122 g0 (k:Int))++((List.replicate R (false,[],[]):List QT).set k r2)) (by omega) (by omega) (j:=(i:Int)) (by omega)
    rw [show ((k:Int)).toNat=k from rfl] at e
    rw [e]
    by_cases q:i=k
    ·rw [if_pos (by omega),if_pos q]
    ·rw [if_neg (by omega),if_neg q]
   refine ih (k+1) _ (by omega) (by rw [List.length_set];exact hl) (fun i hi=>?_) (fun i hi hiR=>?_)
   ·rw [set]
    by_cases q:i=k
    ·rw [if_pos q,q];exact hrow
    ·rw [if_neg q];exact h1 i (by omega)
   ·rw [set,if_neg (by omega)];exact h2 i (by omega) hiR
 exact adds R 0 g0 (by omega) e0 (fun i hi=>by omega) (fun i _ _=>rfl)
end Go.Proofs.YtfobeapcmgjhbaaGreatDoor.VE
