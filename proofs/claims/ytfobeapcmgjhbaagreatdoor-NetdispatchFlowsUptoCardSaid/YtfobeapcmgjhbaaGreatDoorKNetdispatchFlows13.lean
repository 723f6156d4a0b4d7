/- Texts behind the law NetdispatchFlows, part 13 (no statement is proved here). -/
import Derived.Test.YtfobeapcmgjhbaaGreatDoorKNetdispatchFlows12
namespace Go.Proofs.YtfobeapcmgjhbaaGreatDoor.VE
open Go Go.RowKit
set_option linter.unusedVariables false
attribute [local irreducible] wrap64
attribute [local irreducible] rd
abbrev QT:=Bool×List Int×List Int
def Rw (L n:Nat) (f:Nat→Rat) (xs:List QT):Prop:=xs.length=n∧∀j:Nat,j<n→Rp L (f j) (rY17 xs (j:Int))
def Gd (L R W:Nat) (T:Mt) (g:List (List QT)):Prop:=g.length=R∧∀i:Nat,i<R→Rw L W (T i) (rL122 g (i:Int))
theorem Rp.to {L M:Nat} {q:Rat} {r:QT} (h:Rp M q r) (h1:dl q.num.natAbs≤L) (h2:dl q.den≤L):Rp L q r:=⟨h.sgn,h.num,h.den,h1,h2⟩
theorem Rp.eq {L:Nat} {p q:Rat} {r:QT} (h:Rp L p r) (e:p=q):Rp L q r:=e▸h
theorem Rw.congr {L n:Nat} {f g:Nat→Rat} {xs:List QT} (h:Rw L n f xs) (e:∀j,j<n→f j=g j):Rw L n g xs:=⟨h.1,fun j hj=>(h.2 j hj).eq (e j hj)⟩
theorem Rw.up {L M n:Nat} {f:Nat→Rat} {xs:List QT} (h:Rw L n f xs) (hm:L≤M):Rw M n f xs:=⟨h.1,fun j hj=>(h.2 j hj).up hm⟩
theorem Rw.get {L n:Nat} {f:Nat→Rat} {xs:List QT} (h:Rw L n f xs) {j:Int} (h0:0≤j) (h1:j<(n:Int)):Rp L (f j.toNat) (rY17 xs j):=by
 have:=h.2 j.toNat (by omega)
 rw [show ((j.toNat:Nat):Int)=j by omega] at this
 exact this
theorem Rw.set {L n:Nat} {f:Nat→Rat} {xs:List QT} (h:Rw L n f xs) {q:Rat} {v:QT} (hv:Rp L q v) {k:Nat} (hk:k<n):Rw L n (fun j=>if j=k then q else f j) (xs.set k v):=by
 refine ⟨by rw [List.length_set];exact h.1,fun j hj=>?_⟩
 have e:=rY17_set (xs:=xs) (i:=(k:Int)) v (by omega) (by rw [h.1];omega) (j:=(j:Int)) (by omega)
 rw [show ((k:Int)).toNat=k from rfl] at e
 rw [e]
 by_cases hjk:j=k
 ·rw [if_pos (by omega)]
  exact hv.eq (if_pos hjk).symm
 ·rw [if_neg (by omega)]
  exact (h.2 j hj).eq (if_neg hjk).symm
theorem rY17_app1 {xs:List QT} {v:QT} {j:Nat} (hj:j<xs.length):rY17 (xs++[v]) (j:Int)=rY17 xs (j:Int):=by
 have h1:=qdf (xs:=xs++[v]) (i:=(j:Int)) (by omega) (by rw [List.length_append];omega)
 have h2:=qdf (xs:=xs) (i:=(j:Int)) (by omega) (by omega)
 rw [show ((j:Int)).toNat=j from rfl] at h1 h2
 rw [List.getElem?_append_left hj,h2] at h1
 exact (Option.some.inj h1).symm
theorem rY17_app2 {xs:List QT} {v:QT}:rY17 (xs++[v]) (xs.length:Int)=v:=qd2 _ _ _ (by rw [List.getElem?_append_right (Nat.le_refl _),Nat.sub_self];rfl)
theorem Rw.app {L n:Nat} {f:Nat→Rat} {xs:List QT} (h:Rw L n f xs) {q:Rat} {v:QT} (hv:Rp L q v):Rw L (n+1) (fun j=>if j=n then q else f j) (xs++[v]):=by
 refine ⟨by rw [List.length_append,h.1];rfl,fun j hj=>?_⟩
 by_cases e:j=n
 ·subst e
  have:=rY17_app2 (xs:=xs) (v:=v)
  rw [h.1] at this
  rw [this]
  exact hv.eq (if_pos rfl).symm
 ·rw [rY17_app1 (by rw [h.1];omega)]
  exact (h.2 j (by omega)).eq (if_neg e).symm
theorem Rw.nil {L:Nat} (f:Nat→Rat):Rw L 0 f []:=⟨rfl,fun j hj=>absurd hj (by omega)⟩
theorem rY17_rep {n j:Nat} (hj:j<n) (v:QT):rY17 (List.replicate n v) (j:Int)=v:=qd2 _ _ _ (by rw [List.getElem?_replicate,if_pos hj])
theorem Rw.zeros {L:Nat} (hL:1≤L) (n:Nat):Rw L n (fun _=>0) (List.replicate n (false,[],[])):=⟨List.length_replicate,fun j hj=>by rw [rY17_rep hj];exact qeg hL⟩
theorem Gd.congr {L R W:Nat} {T S:Mt} {g:List (List QT)} (h:Gd L R W T g) (e:∀i,i<R→∀j,j<W→T i j=S i j):Gd L R W S g:=⟨h.1,fun i hi=>(h.2 i hi).congr (e i hi)⟩
theorem Gd.up {L M R W:Nat} {T:Mt} {g:List (List QT)} (h:Gd L R W T g) (hm:L≤M):Gd M R W T g:=⟨h.1,fun i hi=>(h.2 i hi).up hm⟩
theorem Gd.row {L R W:Nat} {T:Mt} {g:List (List QT)} (h:Gd L R W T g) {i:Int} (h0:0≤i) (h1:i<(R:Int)):Rw L W (T i.toNat) (rL122 g i):=by
 have:=h.2 i.toNat (by omega)
 rw [show ((i.toNat:Nat):Int)=i by omega] at this
 exact this
theorem Gd.rowN {L R W:Nat} {T:Mt} {g:List (List QT)} (h:Gd L R W T g) {i:Nat} (h1:i<R):Rw L W (T i) (rL122 g (i:Int)):=h.2 i h1
theorem Gd.cell {L R W:Nat} {T:Mt} {g:List (List QT)} (h:Gd L R W T g) {i j:Nat} (hi:i<R) (hj:j<W):Rp L (T i j) (rY17 (rL122 g (i:Int)) (j:Int)):=(h.2 i hi).2 j hj
theorem Gd.setRow {L R W:Nat} {T:Mt} {g:List (List QT)} (h:Gd L R W T g) {f:Nat→Rat} {xs:List QT} (hx:Rw L W f xs) {k:Nat} (hk:k<R):Gd L R W (fun i j=>if i=k then f j else T i j) (g.set k xs):=by
 refine ⟨by rw [List.length_set];exact h.1,fun i hi=>?_⟩
 have e:=qd3 (xs:=g) (i:=(k:Int)) xs (by omega) (by rw [h.1];omega) (j:=(i:Int)) (by omega)
 rw [show ((k:Int)).toNat=k from rfl] at e
 rw [e]
 by_cases hik:i=k
 ·rw [if_pos (by omega)]
  exact hx.congr (fun j _=>(if_pos hik).symm)
 ·rw [if_neg (by omega)]
  exact (h.2 i hi).congr (fun j _=>(if_neg hik).symm)
theorem Gd.setCell {L R W:Nat} {T:Mt} {g:List (List QT)} (h:Gd L R W T g) {q:Rat} {v:QT} (hv:Rp L q v) {i c:Nat} (hi:i<R) (hc:c<W):Gd L R W (fun r j=>if r=i∧j=c then q else T r j) (g.set i ((rL122 g (i:Int)).set c v)):=by
 refine (h.setRow ((h.2 i hi).set hv hc) hi).congr (fun r _ j _=>?_)
 by_cases h1:r=i
 ·by_cases h2:j=c
  ·rw [if_pos h1,if_pos h2,if_pos ⟨h1,h2⟩]
  ·rw [if_pos h1,if_neg h2,if_neg (fun e=>h2 e.2),h1]
 ·rw [if_neg h1,if_neg (fun e=>h1 e.1)]
theorem rL122_app1 {g:List (List QT)} {v:List QT} {j:Nat} (hj:j<g.length):rL122 (g++[v]) (j:Int)=rL122 g (j:Int):=by
 have h1:=qge (xs:=g++[v]) (i:=(j:Int)) (by omega) (by rw [List.length_append];omega)
 have h2:=qge (xs:=g) (i:=(j:Int)) (by omega) (by omega)
 rw [show ((j:Int)).toNat=j from rfl] at h1 h2
 rw [List.getElem?_append_left hj,h2] at h1
 exact (Option.some.inj h1).symm
theorem rL122_app2 {g:List (List QT)} {v:List QT}:rL122 (g++[v]) (g.length:Int)=v:=rL122_get _ _ _ (by rw [List.getElem?_append_right (Nat.le_refl _),Nat.sub_self];rfl)
theorem Gd.app {L R W:Nat} {T:Mt} {g:List (List QT)} (h:Gd L R W T g) {f:Nat→Rat} {xs:List QT} (hx:Rw L W f xs):Gd L (R+1) W (fun i j=>if i=R then f j else T i j) (g++[xs]):=by
 refine ⟨by rw [List.length_append,h.1];rfl,fun i hi=>?_⟩
 by_cases e:i=R
 ·subst e
  have:=rL122_app2 (g:=g) (v:=xs)
  rw [h.1] at this
  rw [this]
  exact hx.congr (fun j _=>(if_pos rfl).symm)
 ·rw [rL122_app1 (by rw [h.1];omega)]
  exact (h.2 i (by omega)).congr (fun j _=>(if_neg e).symm)
theorem Gd.nil {L W:Nat} (T:Mt):Gd L 0 W T []:=⟨rfl,fun j hj=>absurd hj (by omega)⟩
def Shp (R W:Nat) (g:List (List QT)):Prop:=g.length=R∧∀i:Nat,i<R→(rL122 g (i:Int)).length=W
theorem Gd.shp {L R W:Nat} {T:Mt} {g:List (List QT)} (h:Gd L R W T g):Shp R W g:=⟨h.1,fun i hi=>(h.2 i hi).1⟩
def Sz (L R W:Nat) (T:Mt):Prop:=∀i,i<R→∀j,j<W→dl (T i j).num.natAbs≤L∧dl (T i j).den≤L
theorem FB.sz {R W N L:Nat} {T:Mt} (h:FB R W N T) (hL:dl N≤L):Sz L R W T:=fun i hi j hj=>by
 obtain ⟨h1,h2⟩:=h.size hi hj
 exact ⟨Nat.le_trans (qcJ h1) hL,Nat.le_trans (qcJ h2) hL⟩
theorem ax_run {α:Type} {loop:Nat→Int→List (List QT)→Option α} {fin:Nat→List (List QT)→Option α} {R W L i p:Nat} (hi:i<R) (hp:p<R) (hip:p≠i) {F:QT} {f:Rat} (hF:Rp L f F) (hL:L≤6000000000)
  (step:∀(g:List (List QT)) (c:Nat),Shp R W g→c<W→∀Q:α→Prop,EvP (fun k=>(qa5.f k F (rY17 (rL122 g (p:Int)) (c:Int))).bind fun r3=>(qaU.f k (rY17 (rL122 g (i:Int)) (c:Int)) r3).bind fun r4=>loop k ((c:Int)+1) (g.set i ((rL122 g (i:Int)).set c r4))) Q→EvP (fun k=>loop k (c:Int) g) Q)
  (done:∀(g:List (List QT)),Shp R W g→∀Q:α→Prop,EvP (fun k=>fin k g) Q→EvP (fun k=>loop k (W:Int) g) Q)
  {T:Mt} (hsz:∀c,c<W→dl (T i c - f*T p c).num.natAbs≤L∧dl (T i c - f*T p c).den≤L) {Q:α→Prop} (hQ:∀g,Gd L R W (fun r j=>if r=i then T i j - f*T p j else T r j) g→EvP (fun k=>fin k g) Q) :
  ∀(d c:Nat) (g:List (List QT)),c+d=W→Gd L R W (fun r j=>if r=i∧j<c then T i j - f*T p j else T r j) g→EvP (fun k=>loop k (c:Int) g) Q
 |0,c,g,hc,hg=>by
  have:c=W:=by omega
  subst this
  refine done g hg.shp Q (hQ g (hg.congr (fun r _ j hj=>?_)))
  by_cases e:r=i
  ·rw [if_pos ⟨e,hj⟩,if_pos e]
  ·rw [if_neg (fun h=>e h.1),if_neg e]
 |d+1,c,g,hc,hg=>by
  have hcW:c<W:=by omega
  have h1:=hg.cell hp hcW
  have h2:=hg.cell hi hcW
  have h1:=h1.eq (q:=T p c) (if_neg (fun h=>hip h.1))
  have h2:=h2.eq (q:=T i c) (if_neg (fun h=>by omega))
  refine step g c hg.shp hcW Q (EvP.bind (qeq hF h1 (by omega)) (fun r3 hr3=>EvP.bind (qc7 h2 hr3 (by omega)) (fun r4 hr4=>?_)))
  obtain ⟨s1,s2⟩:=hsz c hcW
  have h4:Rp L (T i c - f*T p c) r4:=hr4.to s1 s2
  refine ax_run hi hp hip hF hL step done hsz hQ d (c+1) _ (by omega) ((hg.setCell h4 hi hcW).congr (fun r _ j _=>?_))
  by_cases e:r=i
  ·by_cases e2:j=c
   ·rw [if_pos ⟨e,e2⟩,if_pos ⟨e,by omega⟩,e2]
   ·rw [if_neg (fun h=>e2 h.2)]
    by_cases e3:j<c
    ·rw [if_pos ⟨e,e3⟩,if_pos ⟨e,by omega⟩]
    ·rw [if_neg (fun h=>e3 h.2),if_neg (fun h=>by omega)]
  ·rw [if_neg (fun h=>e h.1),if_neg (fun h=>e h.1),if_neg (fun h=>e h.1)]
theorem sc_run {α:Type} {loop:Nat→Int→List (List QT)→Option α} {fin:Nat→List (List QT)→Option α} {R W L p:Nat} (hp:p<R) {F:QT} {f:Rat} (hF:Rp L f F) (hL:L≤6000000000)
  (step:∀(g:List (List QT)) (c:Nat),Shp R W g→c<W→∀Q:α→Prop,EvP (fun k=>(qbw.f k (rY17 (rL122 g (p:Int)) (c:Int)) F).bind fun r1=>loop k ((c:Int)+1) (g.set p ((rL122 g (p:Int)).set c r1))) Q→EvP (fun k=>loop k (c:Int) g) Q)
  (done:∀(g:List (List QT)),Shp R W g→∀Q:α→Prop,EvP (fun k=>fin k g) Q→EvP (fun k=>loop k (W:Int) g) Q)
  {T:Mt} (hsz:∀c,c<W→dl (T p c / f).num.natAbs≤L∧dl (T p c / f).den≤L) {Q:α→Prop} (hQ:∀g,Gd L R W (fun r j=>if r=p then T p j / f else T r j) g→EvP (fun k=>fin k g) Q) :
  ∀(d c:Nat) (g:List (List QT)),c+d=W→Gd L R W (fun r j=>if r=p∧j<c then T p j / f else T r j) g→EvP (fun k=>loop k (c:Int) g) Q
 |0,c,g,hc,hg=>by
  have:c=W:=by omega
  subst this
  refine done g hg.shp Q (hQ g (hg.congr (fun r _ j hj=>?_)))
  by_cases e:r=p
  ·rw [if_pos ⟨e,hj⟩,if_pos e]
  ·rw [if_neg (fun h=>e h.1),if_neg e]
 |d+1,c,g,hc,hg=>by
  have hcW:c<W:=by omega
  have h2:=hg.cell hp hcW
  have h2:=h2.eq (q:=T p c) (if_neg (fun h=>by omega))
  refine step g c hg.shp hcW Q (EvP.bind (quoQ_ev h2 hF (by omega)) (fun r4 hr4=>?_))
  obtain ⟨s1,s2⟩:=hsz c hcW
  have h4:Rp L (T p c / f) r4:=hr4.to s1 s2
  refine sc_run hp hF hL step done hsz hQ d (c+1) _ (by omega) ((hg.setCell h4 hp hcW).congr (fun r _ j _=>?_))
  by_cases e:r=p
  ·by_cases e2:j=c
   ·rw [if_pos ⟨e,e2⟩,if_pos ⟨e,by omega⟩,e2]
   ·rw [if_neg (fun h=>e2 h.2)]
    by_cases e3:j<c
    ·rw [if_pos ⟨e,e3⟩,if_pos ⟨e,by omega⟩]
    ·rw [if_neg (fun h=>e3 h.2),if_neg (fun h=>by omega)]
  ·rw [if_neg (fun h=>e h.1),if_neg (fun h=>e h.1),if_neg (fun h=>e h.1)]
theorem rows_run {α:Type} {rows:Nat→Int→List (List QT)→Option α} {ax:Nat→Nat→QT→Int→List (List QT)→Option α} {fin:Nat→List (List QT)→Option α} {R W L p q:Nat} (hp:p<R) (hq:q<W) (hL:L≤6000000000)
  (skip:∀(g:List (List QT)) (Q:α→Prop),Shp R W g→EvP (fun k=>rows k ((p:Int)+1) g) Q→EvP (fun k=>rows k (p:Int) g) Q)
  (test:∀(g:List (List QT)) (i:Nat) (Q:α→Prop),Shp R W g→i<R→i≠p→EvP (fun k=>(qa9.f k (rY17 (rL122 g (i:Int)) (q:Int))).bind fun r2=>if r2=0 then rows k ((i:Int)+1) g else ax k i (rY17 (rL122 g (i:Int)) (q:Int)) 0 g) Q→EvP (fun k=>rows k (i:Int) g) Q)
  (step:∀(i:Nat) (F:QT) (g:List (List QT)) (c:Nat),i<R→i≠p→Shp R W g→c<W→∀Q:α→Prop,EvP (fun k=>(qa5.f k F (rY17 (rL122 g (p:Int)) (c:Int))).bind fun r3=>(qaU.f k (rY17 (rL122 g (i:Int)) (c:Int)) r3).bind fun r4=>ax k i F ((c:Int)+1) (g.set i ((rL122 g (i:Int)).set c r4))) Q→EvP (fun k=>ax k i F (c:Int) g) Q)
  (done:∀(i:Nat) (F:QT) (g:List (List QT)),i<R→i≠p→Shp R W g→∀Q:α→Prop,EvP (fun k=>rows k ((i:Int)+1) g) Q→EvP (fun k=>ax k i F (W:Int) g) Q)
  (stop:∀(g:List (List QT)) (Q:α→Prop),Shp R W g→EvP (fun k=>fin k g) Q→EvP (fun k=>rows k (R:Int) g) Q)
  {T:Mt} (hsz:Sz L R W (piv T p q)) {Q:α→Prop} (hQ:∀g,Gd L R W (piv T p q) g→EvP (fun k=>fin k g) Q) :
  ∀(d i:Nat) (g:List (List QT)),i+d=R→Gd L R W (fun r j=>if r=p∨r<i then piv T p q r j else T r j) g→EvP (fun k=>rows k (i:Int) g) Q
 |0,i,g,hi,hg=>by
  have:i=R:=by omega
  subst this
  exact stop g Q hg.shp (hQ g (hg.congr (fun r hr j _=>if_pos (Or.inr hr))))
 |d+1,i,g,hi,hg=>by
  have hiR:i<R:=by omega
  have next:∀g,Gd L R W (fun r j=>if r=p∨r<i+1 then piv T p q r j else T r j) g→EvP (fun k=>rows k ((i:Int)+1) g) Q:=fun g hg=>rows_run hp hq hL skip test step done stop hsz hQ d (i+1) g (by omega) hg
  by_cases e:i=p
  ·subst e
   refine skip g Q hg.shp (next g (hg.congr (fun r _ j _=>?_)))
   by_cases e2:r=i∨r<i
   ·rw [if_pos e2,if_pos (by omega)]
   ·rw [if_neg e2,if_neg (by omega)]
  ·have hc:=(hg.cell hiR hq).eq (q:=T i q) (if_neg (fun h=>by omega))
   refine test g i Q hg.shp hiR e (EvP.bindE (sign_ev hc) (EvP.ite (fun h0=>?_) (fun h0=>?_)))
   ·have h0:T i q=0:=(qdY _).1 h0
    refine next g (hg.congr (fun r _ j _=>?_))
    by_cases e2:r=p∨r<i
    ·rw [if_pos e2,if_pos (by omega)]
    ·by_cases e3:r=i
     ·rw [if_neg e2,if_pos (by omega),e3]
      unfold piv
      rw [if_neg e,h0];grind
     ·rw [if_neg e2,if_neg (by omega)]
   ·refine ax_run (loop:=fun k c g=>ax k i (rY17 (rL122 _ (i:Int)) (q:Int)) c g) hiR hp (fun h=>e h.symm) hc hL (fun g' c hs hcW Q' h=>step i _ g' c hiR e hs hcW Q' h) (fun g' hs Q' h=>done i _ g' hiR e hs Q' h)
     (T:=fun r j=>if r=p∨r<i then piv T p q r j else T r j) (fun c hcW=>?_) (fun g' hg'=>next g' (hg'.congr (fun r _ j _=>?_))) W 0 g (by omega) (hg.congr (fun r _ j _=>(if_neg (by omega:¬(r=i∧j<0))).symm))
    ·have:=hsz i hiR c hcW
     rw [if_neg (show ¬(i=p∨i<i) by omega),if_pos (show p=p∨p<i from Or.inl rfl)]
     unfold piv at this ⊢
     rw [if_neg e] at this
     rw [if_pos rfl]
     exact this
    ·rw [if_neg (show ¬(i=p∨i<i) by omega),if_pos (show p=p∨p<i from Or.inl rfl)]
     by_cases e3:r=i
     ·rw [if_pos e3,if_pos (show r=p∨r<i+1 by omega),e3]
      unfold piv
      rw [if_neg e,if_pos rfl]
     ·rw [if_neg e3]
      by_cases e2:r=p∨r<i
      ·rw [if_pos e2,if_pos (by omega)]
      ·rw [if_neg e2,if_neg (by omega)]
theorem EvP.congr {α:Type} {g f:Nat→Option α} {P:α→Prop} (h:∀k,g k=f k) (k:EvP f P):EvP g P:=by
 obtain ⟨r,hr,hp⟩:=k
 exact ⟨r,Ev.congr h hr,hp⟩
theorem clear_ev {L R W:Nat} {T:Mt} {g:List (List QT)} {p q:Nat} (h:Gd L R W T g) (hsz:Sz L R W (piv T p q)) (hL:L≤6000000000) (hp:p<R) (hq:q<W) (hR:R≤1000) (hW:W≤1000) :
  EvP (fun k=>qao.f k (p:Int) (q:Int) g) (Gd L R W (piv T p q)):=by
 have s0:=h.shp.1
 have s1:=h.shp.2 p hp
 refine EvP.pos (by omega) (EvP.pos (by omega) (EvP.pos (by omega) (EvP.pos (by omega) (EvP.pos (by omega) (EvP.pos (by omega) ?_)))))
 rw [s1]
 have rows:∀g,Gd L R W (fun r j=>if r=p∨r<0 then piv T p q r j else T r j) g→EvP (fun k=>qao.l7 k (p:Int) (q:Int) (R:Int) 0 g) (Gd L R W (piv T p q)):=by
  intro g hg
  refine rows_run (rows:=fun k i g=>qao.l7 k (p:Int) (q:Int) (R:Int) i g) (ax:=fun k i F c g=>qao.l12 k (p:Int) (q:Int) (i:Int) (R:Int) (i:Int) (W:Int) c g F.1 F.2.1 F.2.2) (fin:=fun _ g=>some g) hp hq hL ?_ ?_ ?_ ?_ ?_ hsz (fun g hg=>EvP.ret hg) R 0 g (by omega) hg
  ·intro g Q hs hk
   have e0:=hs.1
   have e1:=hs.2 p hp
   refine EvP.step (fun k=>qao.l7_eq k _ _ _ _ _) (EvP.pos (by omega) (EvP.pos (by omega) (EvP.pos (by omega) (EvP.pos (by omega) (EvP.pos (by omega) (EvP.pos rfl ?_))))))
   rw [w64 (by omega) (by omega)]
   exact hk
  ·intro g i Q hs hi hip hk
   have e0:=hs.1
   have e1:=hs.2 i hi
   refine EvP.step (fun k=>qao.l7_eq k _ _ _ _ _) (EvP.pos (by omega) (EvP.pos (by omega) (EvP.pos (by omega) (EvP.pos (by omega) (EvP.pos (by omega) (EvP.neg (by omega) ?_))))))
   rw [w64 (by omega) (by omega)]
   refine EvP.congr (fun k=>?_) hk
   simp only [if_pos (show (0:Int)≤(i:Int) by omega),if_pos (show (i:Int)<(g.length:Int) by omega),e1]
  ·intro i F g c hi hip hs hc Q hk
   have e0:=hs.1
   have e1:=hs.2 i hi
   have e2:=hs.2 p hp
   refine EvP.step (fun k=>qao.qb9 k _ _ _ _ _ _ _ _ _ _ _) ?_
   refine EvP.pos (by omega) (EvP.pos (by omega) (EvP.pos (by omega) (EvP.pos (by omega) (EvP.pos (by omega) (EvP.pos (by omega) (EvP.pos (by omega) (EvP.pos (by omega) (EvP.pos (by omega) (EvP.pos (by omega) (EvP.pos (by omega) ?_))))))))))
   rw [w64 (by omega) (by omega)]
   refine EvP.congr (fun k=>?_) hk
   simp only [if_pos (show (0:Int)≤(c:Int) by omega),if_pos (show (c:Int)<((rL122 g (i:Int)).length:Int) by omega)]
   rfl
  ·intro i F g hi hip hs Q hk
   refine EvP.step (fun k=>qao.qb9 k _ _ _ _ _ _ _ _ _ _ _) (EvP.neg (by omega) ?_)
   rw [w64 (by omega) (by omega)]
   exact hk
  ·intro g Q hs hk
   exact EvP.step (fun k=>qao.l7_eq k _ _ _ _ _) (EvP.neg (by omega) hk)
 refine sc_run (loop:=fun k c g=>qao.l2 k (p:Int) (q:Int) (W:Int) c g _ _ _) (fin:=fun k g=>qao.l7 k (p:Int) (q:Int) (R:Int) 0 g) hp (h.cell hp hq) hL ?_ ?_ (T:=T) (fun c hc=>?_) (fun g hg=>rows g (hg.congr (fun r _ j _=>?_))) W 0 g (by omega) (h.congr (fun r _ j _=>(if_neg (by omega:¬(r=p∧j<0))).symm))
 ·intro g c hs hc Q hk
  have e0:=hs.1
  have e2:=hs.2 p hp
  refine EvP.step (fun k=>qao.l2_eq k _ _ _ _ _ _ _ _) ?_
  refine EvP.pos (by omega) (EvP.pos (by omega) (EvP.pos (by omega) (EvP.pos (by omega) (EvP.pos (by omega) (EvP.pos (by omega) (EvP.pos (by omega) ?_))))))
  rw [w64 (by omega) (by omega)]
  refine EvP.congr (fun k=>?_) hk
  simp only [if_pos (show (0:Int)≤(c:Int) by omega),if_pos (show (c:Int)<((rL122 g (p:Int)).length:Int) by omega)]
  rfl
 ·intro g hs Q hk
  have e0:=hs.1
  refine EvP.step (fun k=>qao.l2_eq k _ _ _ _ _ _ _ _) (EvP.neg (by omega) ?_)
  rw [e0]
  exact hk
 ·have:=hsz p hp c hc
  unfold piv at this
  rw [if_pos rfl] at this
  exact this
 ·unfold piv
  by_cases e:r=p
  ·rw [if_pos e,if_pos (Or.inl e),if_pos e]
  ·rw [if_neg e,if_neg (by omega)]
theorem grow_le {N:Nat}:∀{p n:Nat},p≤n→grow p N≤grow n N
 |p,0,h=>by rw [Nat.le_zero.1 h];exact Nat.le_refl _
 |p,n+1,h=>by
  by_cases e:p=n+1
  ·rw [e];exact Nat.le_refl _
  ·exact Nat.le_trans (grow_le (show p≤n by omega)) (le_twice _)
def swp (T:Mt) (a b:Nat):Mt:=fun i j=>if i=b then T a j else if i=a then T b j else T i j
theorem swp_sol {R W:Nat} {T:Mt} {a b:Nat} (ha:a<R) (hb:b<R) (x:Nat→Rat):SolS R W T x↔SolS R W (swp T a b) x:=by
 have e:∀i,rowS W (swp T a b) i x=if i=b then rowS W T a x else if i=a then rowS W T b x else rowS W T i x:=by
  intro i
  unfold rowS swp
  by_cases h1:i=b
  ·rw [if_pos h1];exact qbc fun j _=>by rw [if_pos h1]
  ·rw [if_neg h1]
   by_cases h2:i=a
   ·rw [if_pos h2];exact qbc fun j _=>by rw [if_neg h1,if_pos h2]
   ·rw [if_neg h2];exact qbc fun j _=>by rw [if_neg h1,if_neg h2]
 constructor
 ·intro h i hi
  rw [e]
  split
  ·exact h a ha
  ·split
   ·exact h b hb
   ·exact h i hi
 ·intro h i hi
  by_cases h1:i=a
  ·have:=h b hb
   rw [e,if_pos rfl] at this
   rw [h1];exact this
  ·by_cases h2:i=b
   ·have:=h a ha
    rw [e] at this
    by_cases h3:a=b
    ·exact absurd (h2.trans h3.symm) h1
    ·rw [if_neg h3,if_pos rfl] at this
     rw [h2];exact this
   ·have:=h i hi
    rw [e,if_neg h2,if_neg h1] at this
    exact this
theorem swp_fb {R W N:Nat} {T:Mt} {a b:Nat} (h:FB R W N T) (ha:a<R) (hb:b<R):FB R W N (swp T a b):=by
 obtain ⟨D,A,h1,h2,h3⟩:=h
 refine ⟨D,fun i j=>if i=b then A a j else if i=a then A b j else A i j,h1,h2,fun i hi j hj=>?_⟩
 unfold swp
 by_cases e1:i=b
 ·simp only [if_pos e1];exact h3 a ha j hj
 ·by_cases e2:i=a
  ·simp only [if_neg e1,if_pos e2];exact h3 b hb j hj
  ·simp only [if_neg e1,if_neg e2];exact h3 i hi j hj
structure Ech (R W k N:Nat) (T S:Mt) (c:Nat→Nat) (p:Nat):Prop where
 sol:∀x,SolS R W T x↔SolS R W S x
 pR:p≤R
 pk:p≤k
 lt:∀i,i<p→c i<k
 inc:∀i j,i<j→j<p→c i<c j
 one:∀i,i<p→∀r,r<R→S r (c i)=if r=i then 1 else 0
 zero:∀r,p≤r→r<R→∀j,j<k→S r j=0
 fb:FB R W (grow p N) S
theorem Ech.none {R W k N:Nat} {T S:Mt} {c:Nat→Nat} {p:Nat} (h:Ech R W k N T S c p) (h0:∀r,p≤r→r<R→S r k=0):Ech R W (k+1) N T S c p:=by
 refine ⟨h.sol,h.pR,by have:=h.pk;omega,fun i hi=>by have:=h.lt i hi;omega,h.inc,h.one,fun r h1 h2 j hj=>?_,h.fb⟩
 by_cases e:j=k
 ·rw [e];exact h0 r h1 h2
 ·exact h.zero r h1 h2 j (by omega)
theorem Ech.some {R W k N:Nat} {T S:Mt} {c:Nat→Nat} {p i:Nat} (h:Ech R W k N T S c p) (hk:k<W) (hp:p<R) (hpi:p≤i) (hi:i<R) (hne:S i k≠0):Ech R W (k+1) N T (VE.piv (swp S p i) p k) (fun j=>if j=p then k else c j) (p+1):=by
 have hz:∀y:Rat,(0:Rat) / y=0:=fun y=>by rw [Rat.div_def,Rat.zero_mul]
 have hpk:swp S p i p k≠0:=by
  unfold swp
  by_cases e:p=i
  ·rw [if_pos e,e];exact hne
  ·rw [if_neg e,if_pos rfl];exact hne
 have low:∀r,p≤r→r<R→∀j,j<k→swp S p i r j=0:=by
  intro r h1 h2 j hj
  unfold swp
  split
  ·exact h.zero p (Nat.le_refl _) hp j hj
  ·split
   ·exact h.zero i hpi hi j hj
   ·exact h.zero r h1 h2 j hj
 have olds:∀a,a<p→∀r,r<R→swp S p i r (c a)=if r=a then 1 else 0:=by
  intro a ha r hr
  by_cases e:p≤r
  ·rw [low r e hr (c a) (h.lt a ha),if_neg (by omega)]
  ·unfold swp
   rw [if_neg (by omega),if_neg (by omega)]
   exact h.one a ha r hr
 refine ⟨fun x=>(h.sol x).trans ((swp_sol hp hi x).trans ((piv_eqv hp hpk).sol x)),by omega,by have:=h.pk;omega,fun a ha=>?_,fun a b hab hb=>?_,fun a ha r hr=>?_,fun r h1 h2 j hj=>?_,(swp_fb h.fb hp hi).piv hp hk hpk⟩
 ·show (if a=p then k else c a)<k+1
  split
  ·omega
  ·have:=h.lt a (by omega);omega
 ·show (if a=p then k else c a)<(if b=p then k else c b)
  rw [if_neg (by omega)]
  split
  ·exact h.lt a (by omega)
  ·exact h.inc a b hab (by omega)
 ·show VE.piv (swp S p i) p k r (if a=p then k else c a)=_
  unfold VE.piv
  by_cases e:a=p
  ·rw [if_pos e]
   have e1:swp S p i p k / swp S p i p k=1:=by
    generalize swp S p i p k=y at*
    grind
   rw [e1]
   by_cases e2:r=p
   ·rw [if_pos e2,if_pos (by omega)]
   ·rw [if_neg e2,if_neg (by omega)];grind
  ·have h0:swp S p i p (c a)=0:=by rw [olds a (by omega) p hp,if_neg (by omega)]
   rw [if_neg e,h0,hz]
   by_cases e2:r=p
   ·rw [if_pos e2,if_neg (by omega)]
   ·rw [if_neg e2,olds a (by omega) r hr];grind
 ·unfold VE.piv
  rw [if_neg (by omega)]
  by_cases e:j=k
  ·rw [e]
   generalize swp S p i p k=y at*
   grind
  ·rw [low r (by omega) h2 j (by omega),low p (Nat.le_refl _) hp j (by omega),hz]
   grind
theorem ech_ev {L R W n N:Nat} {T:Mt} {g:List (List QT)} (h:Gd L R W T g) (hFB:FB R W N T) (hLN:dl (grow n N)≤L) (hL:L≤6000000000) (hn:n≤W) (hR:R≤1000) (hW:W≤1000) :
  EvP (fun k=>qap.f k (n:Int) g) (fun r=>∃S c,Ech R W n N T S c r.1.length∧(∀i:Nat,i<r.1.length→rI64 r.1 (i:Int)=(c i:Int))∧Gd L R W S r.2):=by
 have outer:∀(d k:Nat) (S:Mt) (c:Nat→Nat) (g:List (List QT)) (l:List Int),k+d=n→Ech R W k N T S c l.length→(∀i:Nat,i<l.length→rI64 l (i:Int)=(c i:Int))→Gd L R W S g→
   EvP (fun f=>qap.l3 f (n:Int) (k:Int) g l) (fun r=>∃S c,Ech R W n N T S c r.1.length∧(∀i:Nat,i<r.1.length→rI64 r.1 (i:Int)=(c i:Int))∧Gd L R W S r.2):=by
  intro d
  induction d with
  |zero=>
   intro k S c g l hk he hl hg
   have:k=n:=by omega
   subst this
   exact EvP.step (fun f=>qap.l3_eq f _ _ _ _) (EvP.neg (by omega) (EvP.ret ⟨S,c,he,hl,hg⟩))
  |succ d ih=>
   intro k S c g l hk he hl hg
   have g0:=hg.1
   have hpR:=he.pR
   have hpk:=he.pk
   refine EvP.step (fun f=>qap.l3_eq f _ _ _ _) (EvP.pos (by omega) ?_)
   refine EvP.ite (fun hlt=>?_) (fun hlt=>EvP.ret ⟨S,c,?_,hl,hg⟩)
   ·have hlt:(l.length:Int)<(g.length:Int):=hlt
    have hp:l.length<R:=by omega
    -- the search
    have search:∀(e i:Nat),i+e=R→l.length≤i→(∀r,l.length≤r→r<i→S r k=0)→EvP (fun f=>qap.l7 f (n:Int) (k:Int) (l.length:Int) (i:Int) g l) (fun r=>∃S c,Ech R W n N T S c r.1.length∧(∀i:Nat,i<r.1.length→rI64 r.1 (i:Int)=(c i:Int))∧Gd L R W S r.2):=by
     intro e
     induction e with
     |zero=>
      intro i hi h1 h2
      have:i=R:=by omega
      refine EvP.step (fun f=>qap.l7_eq f _ _ _ _ _ _) (EvP.neg (by omega) (EvP.pos (by omega) ?_))
      rw [w64 (by omega) (by omega)]
      exact ih (k+1) S c g l (by omega) (he.none (fun r r1 r2=>h2 r r1 (by omega))) hl hg
     |succ e ihe=>
      intro i hi h1 h2
      have hiR:i<R:=by omega
      have hc:=hg.cell hiR (show k<W by omega)
      have s1:=hg.shp.2 i hiR
      refine EvP.step (fun f=>qap.l7_eq f _ _ _ _ _ _) (EvP.pos (by omega) (EvP.pos (by omega) (EvP.pos (by omega) (EvP.pos (by omega) (EvP.pos (by omega) (EvP.bindE (sign_ev hc) (EvP.ite (fun z=>?_) (fun z=>?_))))))))
      ·have z:S i k=0:=(qdY _).1 z
       rw [w64 (by omega) (by omega)]
       refine ihe (i+1) (by omega) (by omega) (fun r r1 r2=>?_)
       by_cases e2:r=i
       ·rw [e2];exact z
       ·exact h2 r r1 (by omega)
      ·have z:S i k≠0:=fun e=>z ((qdY _).2 e)
       have hs:=he.some (by omega) hp h1 hiR z
       refine EvP.neg (by omega) (EvP.pos (by omega) (EvP.pos (by omega) (EvP.pos (by omega) (EvP.pos (by omega) (EvP.pos (by omega) (EvP.pos (by omega) (EvP.pos (by omega) (EvP.pos (by omega) (EvP.pos rfl (EvP.pos rfl ?_))))))))))
       have hg2:Gd L R W (swp S l.length i) ((g.set l.length (rL122 g (i:Int))).set i (rL122 g (l.length:Int))):=by
        refine ((hg.setRow (hg.rowN hiR) hp).setRow (hg.rowN hp) hiR).congr (fun r _ j _=>?_)
        unfold swp
        by_cases e1:r=i
        ·simp only [if_pos e1]
        ·by_cases e2:r=l.length
         ·simp only [if_neg e1,if_pos e2]
         ·simp only [if_neg e1,if_neg e2]
       have hLg:dl (grow (l.length+1) N)≤L:=Nat.le_trans (qcJ (grow_le (by omega))) hLN
       refine EvP.bind (clear_ev hg2 (hs.fb.sz hLg) hL hp (by omega) hR hW) (fun r hr=>?_)
       refine EvP.pos (by show (l.length+1)*8≤_;omega) ?_
       rw [w64 (by omega) (by omega)]
       have hlen:(l++[(k:Int)]).length=l.length+1:=by rw [List.length_append];rfl
       refine ih (k+1) _ (fun j=>if j=l.length then k else c j) r (l++[(k:Int)]) (by omega) (by rw [hlen];exact hs) (fun a ha=>?_) hr
       rw [hlen] at ha
       by_cases e5:a=l.length
       ·subst e5
        rw [if_pos rfl]
        exact qb6 _ _ _ (by rw [List.getElem?_append_right (Nat.le_refl _),Nat.sub_self];rfl)
       ·rw [if_neg e5,←hl a (by omega)]
        have q1:=rI64_some (xs:=l) (i:=(a:Int)) (by omega) (by omega)
        rw [show ((a:Int)).toNat=a from rfl] at q1
        exact qb6 _ _ _ (by rw [List.getElem?_append_left (by omega),q1])
    exact search (R - l.length) l.length (by omega) (Nat.le_refl _) (fun r r1 r2=>by omega)
   ·have hlt:¬(l.length:Int)<(g.length:Int):=hlt
    show Ech R W n N T S c l.length
    exact ⟨he.sol,hpR,by omega,fun i hi=>by have:=he.lt i hi;omega,he.inc,he.one,fun r r1 r2=>by omega,he.fb⟩
 exact outer n 0 T (fun _=>0) g [] (by omega) ⟨fun _=>Iff.rfl,by show 0≤R;omega,by show 0≤0;omega,fun i hi=>absurd hi (by show ¬i<0;omega),fun i j _ hj=>absurd hj (by show ¬j<0;omega),fun i hi=>absurd hi (by show ¬i<0;omega),fun r _ _ j hj=>absurd hj (by omega),hFB⟩ (fun i hi=>absurd hi (by show ¬i<0;omega)) h
end Go.Proofs.YtfobeapcmgjhbaaGreatDoor.VE
