/- Texts behind the law NetdispatchFlows, part 12 (no statement is proved here). -/
import Derived.Test.YtfobeapcmgjhbaaGreatDoorKNetdispatchFlows11
namespace Go.Proofs.YtfobeapcmgjhbaaGreatDoor.VE
open Go Go.RowKit
set_option linter.unusedVariables false
attribute [local irreducible] wrap64
def sm:Nat→(Nat→Rat)→Rat
 |0,_=>0
 |n+1,f=>sm n f+f n
theorem qbi (n:Nat) (f:Nat→Rat):sm (n+1) f=sm n f+f n:=rfl
theorem qbc {f g:Nat→Rat}:∀{n:Nat},(∀i,i<n→f i=g i)→sm n f=sm n g
 |0,_=>rfl
 |n+1,h=>by rw [qbi,qbi,qbc (fun i hi=>h i (by omega)),h n (by omega)]
theorem qcY {f:Nat→Rat}:∀{n:Nat},(∀i,i<n→f i=0)→sm n f=0
 |0,_=>rfl
 |n+1,h=>by rw [qbi,qcY (fun i hi=>h i (by omega)),h n (by omega),Rat.add_zero]
theorem sm_add (f g:Nat→Rat):∀n:Nat,sm n (fun i=>f i+g i)=sm n f+sm n g
 |0=>by show (0:Rat)=0+0;grind
 |n+1=>by rw [qbi,qbi,qbi,sm_add f g n];grind
theorem qfi (f g:Nat→Rat):∀n:Nat,sm n (fun i=>f i - g i)=sm n f - sm n g
 |0=>by show (0:Rat)=0 - 0;grind
 |n+1=>by rw [qbi,qbi,qbi,qfi f g n];grind
theorem qc9 (c:Rat) (f:Nat→Rat):∀n:Nat,sm n (fun i=>c*f i)=c*sm n f
 |0=>by show (0:Rat)=c*0;grind
 |n+1=>by rw [qbi,qbi,qc9 c f n];grind
theorem sm_neg (f:Nat→Rat):∀n:Nat,sm n (fun i=>-f i)=-sm n f
 |0=>by show (0:Rat)=-0;grind
 |n+1=>by rw [qbi,qbi,sm_neg f n];grind
theorem qdC {f:Nat→Rat} {k:Nat}:∀{n:Nat},k<n→(∀i,i<n→i≠k→f i=0)→sm n f=f k
 |0,h,_=>by omega
 |n+1,hk,h=>by
  rw [qbi]
  by_cases e:k=n
  ·subst e
   rw [qcY (fun i hi=>h i (by omega) (by omega)),Rat.zero_add]
  ·rw [qdC (by omega) (fun i hi hne=>h i (by omega) hne),h n (by omega) (by omega),Rat.add_zero]
theorem qfh (f:Nat→Nat→Rat) (m:Nat):∀n:Nat,sm n (fun i=>sm m (fun j=>f i j))=sm m (fun j=>sm n (fun i=>f i j))
 |0=>(qcY (n:=m) (fun i _=>rfl)).symm
 |n+1=>by
  rw [qbi,qfh f m n,←sm_add]
  rfl
theorem sm_neg_ex {f:Nat→Rat}:∀{n:Nat},sm n f<0→∃i,i<n∧f i<0
 |0,h=>by
  have:(0:Rat)<0:=h
  grind
 |n+1,h=>by
  rw [qbi] at h
  by_cases e:f n<0
  ·exact ⟨n,by omega,e⟩
  ·obtain ⟨i,h1,h2⟩:=sm_neg_ex (n:=n) (f:=f) (by grind)
   exact ⟨i,by omega,h2⟩
theorem sm_nonneg {f:Nat→Rat} {n:Nat} (h:∀i,i<n→0≤f i):0≤sm n f:=by
 by_cases e:sm n f<0
 ·obtain ⟨i,h1,h2⟩:=sm_neg_ex e
  have:=h i h1
  grind
 ·grind
theorem qeT (f:Nat→Rat) (n:Nat):∀m:Nat,sm (n+m) f=sm n f+sm m (fun i=>f (n+i))
 |0=>by show sm n f=sm n f+0;grind
 |m+1=>by rw [←Nat.add_assoc,qbi,qbi,qeT f n m];grind
abbrev Mt:=Nat→Nat→Rat
def rowS (W:Nat) (T:Mt) (i:Nat) (x:Nat→Rat):Rat:=sm W (fun j=>T i j*x j)
def SolS (m W:Nat) (T:Mt) (x:Nat→Rat):Prop:=∀i,i<m→rowS W T i x=0
structure Eqv (m W:Nat) (T S:Mt):Prop where
 sol:∀x,SolS m W T x↔SolS m W S x
 obj:∀x,SolS m W T x→rowS W T m x=rowS W S m x
theorem Eqv.refl (m W:Nat) (T:Mt):Eqv m W T T:=⟨fun _=>Iff.rfl,fun _ _=>rfl⟩
theorem Eqv.symm {m W:Nat} {T S:Mt} (h:Eqv m W T S):Eqv m W S T:=⟨fun x=>(h.sol x).symm,fun x hx=>(h.obj x ((h.sol x).2 hx)).symm⟩
theorem Eqv.trans {m W:Nat} {T S R:Mt} (h:Eqv m W T S) (k:Eqv m W S R):Eqv m W T R:=⟨fun x=>(h.sol x).trans (k.sol x),fun x hx=>(h.obj x hx).trans (k.obj x ((h.sol x).1 hx))⟩
structure Bas (m W:Nat) (T:Mt) (b:Nat→Nat):Prop where
 lt:∀i,i<m→b i+1<W
 one:∀i,i<m→∀r,r≤m→T r (b i)=if r=i then 1 else 0
def dirS (m:Nat) (T:Mt) (b:Nat→Nat) (k j:Nat):Rat:=(if j=k then 1 else 0) - sm m (fun i=>if b i=j then T i k else 0)
theorem qfs {m W:Nat} (S T:Mt) {b:Nat→Nat} {k r:Nat} (hb:∀i,i<m→b i<W) (hk:k<W):rowS W S r (dirS m T b k)=S r k - sm m (fun i=>S r (b i)*T i k):=by
 unfold rowS
 have e1:sm W (fun j=>S r j*dirS m T b k j)=sm W (fun j=>S r j*(if j=k then 1 else 0) - sm m (fun i=>S r j*(if b i=j then T i k else 0))):=by
  refine qbc fun j _=>?_
  rw [qc9]
  unfold dirS
  grind
 rw [e1,qfi,qdC hk (fun i _ hne=>by rw [if_neg hne,Rat.mul_zero]),if_pos rfl,Rat.mul_one,qfh]
 refine congrArg (fun z=>S r k - z) (qbc fun i hi=>?_)
 rw [qdC (hb i hi) (fun j _ hne=>by rw [if_neg (fun e=>hne e.symm),Rat.mul_zero]),if_pos rfl]
theorem Bas.b {m W:Nat} {T:Mt} {b:Nat→Nat} (h:Bas m W T b):∀i,i<m→b i<W:=fun i hi=>by have:=h.lt i hi;omega
theorem Bas.sum {m W:Nat} {T:Mt} {b:Nat→Nat} (h:Bas m W T b) {r:Nat} (hr:r<m) (f:Nat→Rat):sm m (fun i=>T r (b i)*f i)=f r:=by
 rw [qdC hr (fun i hi hne=>by rw [h.one i hi r (by omega),if_neg (fun e=>hne e.symm),Rat.zero_mul]),h.one r hr r (by omega),if_pos rfl,Rat.one_mul]
theorem Bas.sumO {m W:Nat} {T:Mt} {b:Nat→Nat} (h:Bas m W T b) (f:Nat→Rat):sm m (fun i=>T m (b i)*f i)=0:=
 qcY fun i hi=>by rw [h.one i hi m (by omega),if_neg (by omega),Rat.zero_mul]
theorem dir_sol {m W:Nat} {T:Mt} {b:Nat→Nat} (h:Bas m W T b) {k:Nat} (hk:k<W):SolS m W T (dirS m T b k):=fun r hr=>by
 rw [qfs T T h.b hk,h.sum hr];grind
theorem dir_obj {m W:Nat} {T:Mt} {b:Nat→Nat} (h:Bas m W T b) {k:Nat} (hk:k<W):rowS W T m (dirS m T b k)=T m k:=by
 rw [qfs T T h.b hk,h.sumO];grind
theorem changeS {m W:Nat} {T S:Mt} {b:Nat→Nat} (h:Bas m W T b) (e:Eqv m W T S) {k r:Nat} (hk:k<W) (hr:r<m):S r k=sm m (fun i=>S r (b i)*T i k):=by
 have:=(e.sol _).1 (dir_sol h hk) r hr
 rw [qfs S T h.b hk] at this
 grind
theorem changeO {m W:Nat} {T S:Mt} {b:Nat→Nat} (h:Bas m W T b) (e:Eqv m W T S) {k:Nat} (hk:k<W):S m k=T m k+sm m (fun i=>S m (b i)*T i k):=by
 have:=e.obj _ (dir_sol h hk)
 rw [dir_obj h hk,qfs S T h.b hk] at this
 grind
theorem uniqS {m W:Nat} {T S:Mt} {b c:Nat→Nat} (h:Bas m W T b) (hs:Bas m W S c) (e:Eqv m W T S) (hbc:∀i,i<m→b i=c i) {r k:Nat} (hr:r≤m) (hk:k<W):S r k=T r k:=by
 by_cases e1:r=m
 ·subst e1
  rw [changeO h e hk,qcY (fun i hi=>by rw [hbc i hi,hs.one i hi r (by omega),if_neg (by omega),Rat.zero_mul]),Rat.add_zero]
 ·rw [changeS h e hk (by omega),qbc (g:=fun i=>S r (c i)*T i k) (fun i hi=>by rw [hbc i hi]),hs.sum (by omega)]
def piv (T:Mt) (p q:Nat):Mt:=fun i j=>if i=p then T p j / T p q else T i j - T i q*(T p j / T p q)
def bset (b:Nat→Nat) (p q:Nat):Nat→Nat:=fun i=>if i=p then q else b i
theorem piv_row (W:Nat) (T:Mt) (p q i:Nat) (x:Nat→Rat):rowS W (piv T p q) i x=if i=p then rowS W T p x / T p q else rowS W T i x - T i q*(rowS W T p x / T p q):=by
 have e0:rowS W T p x / T p q=sm W (fun j=>T p j / T p q*x j):=by
  rw [Rat.div_def,Rat.mul_comm]
  unfold rowS
  rw [←qc9]
  refine qbc fun j _=>?_
  rw [Rat.div_def]
  grind
 unfold rowS at*
 by_cases h:i=p
 ·rw [if_pos h,e0]
  exact qbc fun j _=>by show (if i=p then _ else _)*_=_;rw [if_pos h]
 ·rw [if_neg h,e0,←qc9,←qfi]
  refine qbc fun j _=>?_
  show (if i=p then _ else _)*_=_
  rw [if_neg h]
  generalize T p j / T p q=z
  grind
theorem piv_eqv {m W:Nat} {T:Mt} {p q:Nat} (hp:p<m) (h:T p q≠0):Eqv m W T (piv T p q):=by
 have hz:(0:Rat) / T p q=0:=by rw [Rat.div_def,Rat.zero_mul]
 refine ⟨fun x=>⟨fun hx i hi=>?_,fun hx=>?_⟩,fun x hx=>?_⟩
 ·rw [piv_row,hx p hp,hz]
  by_cases e:i=p
  ·rw [if_pos e]
  ·rw [if_neg e,hx i hi];grind
 ·have h0:rowS W T p x=0:=by
   have:=hx p hp
   rw [piv_row,if_pos rfl] at this
   generalize rowS W T p x=y at*
   grind
  intro i hi
  by_cases e:i=p
  ·rw [e];exact h0
  ·have:=hx i hi
   rw [piv_row,if_neg e,h0,hz] at this
   grind
 ·rw [piv_row,if_neg (by omega),hx p hp,hz];grind
theorem piv_bas {m W:Nat} {T:Mt} {b:Nat→Nat} {p q:Nat} (h:Bas m W T b) (hp:p<m) (hq:q+1<W) (hne:T p q≠0):Bas m W (piv T p q) (bset b p q):=by
 refine ⟨fun i hi=>?_,fun i hi r hr=>?_⟩
 ·unfold bset
  by_cases e:i=p
  ·rw [if_pos e];exact hq
  ·rw [if_neg e];exact h.lt i hi
 ·unfold bset piv
  by_cases e:i=p
  ·rw [if_pos e,e]
   have:T p q / T p q=1:=by grind
   rw [this]
   by_cases e2:r=p
   ·rw [if_pos e2,if_pos e2]
   ·rw [if_neg e2,if_neg e2];grind
  ·rw [if_neg e]
   have h0:T p (b i)=0:=by rw [h.one i hi p (by omega),if_neg (fun e2=>e e2.symm)]
   have hz:(0:Rat) / T p q=0:=by rw [Rat.div_def,Rat.zero_mul]
   rw [h0,hz]
   by_cases e2:r=p
   ·rw [if_pos e2,if_neg (by omega)]
   ·rw [if_neg e2,Rat.mul_zero,h.one i hi r hr];grind
structure Stp (m s cols:Nat) (T:Mt) (b:Nat→Nat) (p q:Nat):Prop where
 hp:p<m
 hq:q<cols
 neg:T m q<0
 first:∀j,j<q→0≤T m j
 pos:0<T p q
 least:∀i,i<m→0<T i q→T p s / T p q<T i s / T i q∨T p s / T p q=T i s / T i q∧b p≤b i
structure Rns (m s cols:Nat) (T:Nat→Mt) (b:Nat→Nat→Nat) (p q:Nat→Nat) (K:Nat):Prop where
 bas:Bas m (s+1) (T 0) (b 0)
 fe:∀i,i<m→0≤T 0 i s
 cle:cols≤s
 st:∀t,t<K→Stp m s cols (T t) (b t) (p t) (q t)
 nt:∀t,t<K→T (t+1)=piv (T t) (p t) (q t)
 nb:∀t,t<K→b (t+1)=bset (b t) (p t) (q t)
theorem qgr {a b:Rat} (ha:0≤a) (hb:0<b):0≤a / b:=by
 have e:a / b*b=a:=by grind
 by_cases h:a / b<0
 ·have:=Rat.mul_pos (a:=-(a / b)) (b:=b) (by grind) hb
  grind
 ·grind
theorem Stp.fe {m s cols:Nat} {T:Mt} {b:Nat→Nat} {p q:Nat} (h:Stp m s cols T b p q) (hf:∀i,i<m→0≤T i s):∀i,i<m→0≤piv T p q i s:=by
 intro i hi
 have h0:=qgr (hf p h.hp) h.pos
 have hpos:=h.pos
 unfold piv
 by_cases e:i=p
 ·rw [if_pos e];exact h0
 ·rw [if_neg e]
  have hfi:=hf i hi
  by_cases e2:0<T i q
  ·have hl:T p s / T p q≤T i s / T i q:=by
    rcases h.least i hi e2 with h1|⟨h1,_⟩<;>grind
   have:=Rat.mul_le_mul_of_nonneg_left hl (Rat.le_of_lt e2)
   have e3:T i q*(T i s / T i q)=T i s:=by
    generalize T i s=y at*
    grind
   grind
  ·have:=Rat.mul_nonneg (a:=-T i q) (by grind) h0
   grind
section
variable {m s cols:Nat} {T:Nat→Mt} {b:Nat→Nat→Nat} {p q:Nat→Nat} {K:Nat}
theorem Rns.at (h:Rns m s cols T b p q K):∀t,t≤K→Bas m (s+1) (T t) (b t)∧(∀i,i<m→0≤T t i s)∧Eqv m (s+1) (T 0) (T t)
 |0,_=>⟨h.bas,h.fe,Eqv.refl _ _ _⟩
 |t+1,ht=>by
  obtain ⟨h1,h2,h3⟩:=h.at t (by omega)
  have hs:=h.st t (by omega)
  have hc:=h.cle
  have hq:=hs.hq
  have hne:T t (p t) (q t)≠0:=by have:=hs.pos;grind
  rw [h.nt t (by omega),h.nb t (by omega)]
  exact ⟨piv_bas h1 hs.hp (by omega) hne,hs.fe h2,h3.trans (piv_eqv hs.hp hne)⟩
theorem Rns.value (h:Rns m s cols T b p q K) {t:Nat} (ht:t<K):T t m s≤T (t+1) m s∧(T (t+1) m s=T t m s→T t (p t) s=0):=by
 have hs:=h.st t ht
 have h2:=(h.at t (by omega)).2.1 (p t) hs.hp
 have h0:=qgr h2 hs.pos
 have hn:=hs.neg
 have hp:=hs.pos
 have hne:m≠p t:=by have:=hs.hp;omega
 rw [h.nt t ht]
 unfold piv
 rw [if_neg hne]
 have:=Rat.mul_nonneg (a:=-T t m (q t)) (by grind) h0
 refine ⟨by grind,fun e=>?_⟩
 have e1:T t m (q t)*(T t (p t) s / T t (p t) (q t))=0:=by grind
 have e2:T t (p t) s / T t (p t) (q t)=0:=by
  rcases Rat.mul_eq_zero.1 e1 with e1|e1
  ·grind
  ·exact e1
 generalize T t (p t) s=y at*
 grind
theorem Rns.mono (h:Rns m s cols T b p q K) {t:Nat}:∀d,t+d≤K→T t m s≤T (t+d) m s
 |0,_=>by grind
 |d+1,hd=>by
  have h1:=h.mono d (t:=t) (by omega)
  have h2:=(h.value (t:=t+d) (by omega)).1
  rw [←Nat.add_assoc]
  grind
structure Cyc (m s cols:Nat) (T:Nat→Mt) (b:Nat→Nat→Nat) (p q:Nat→Nat) (K t1 t2:Nat):Prop where
 lt:t1<t2
 le:t2≤K
 same:∀i,i<m→b t1 i=b t2 i
theorem Cyc.zero (h:Rns m s cols T b p q K) {t1 t2:Nat} (c:Cyc m s cols T b p q K t1 t2) {t:Nat} (h1:t1≤t) (h2:t<t2):T t (p t) s=0:=by
 have hle:=c.le
 have hl:=c.lt
 obtain ⟨b1,_,e1⟩:=h.at t1 (by omega)
 obtain ⟨b2,_,e2⟩:=h.at t2 (by omega)
 have he:T t2 m s=T t1 m s:=uniqS b1 b2 (e1.symm.trans e2) c.same (Nat.le_refl m) (by omega)
 have v:=h.value (t:=t) (by omega)
 have m1:=h.mono (t:=t1) (t - t1) (by omega)
 have m2:=h.mono (t:=t+1) (t2 - (t+1)) (by omega)
 rw [show t1+(t - t1)=t from by omega] at m1
 rw [show t+1+(t2 - (t+1))=t2 from by omega] at m2
 refine v.2 ?_
 have:=v.1
 grind
theorem Cyc.side (h:Rns m s cols T b p q K) {t1 t2:Nat} (c:Cyc m s cols T b p q K t1 t2) {i:Nat}:∀d,t1+d≤t2→T (t1+d) i s=T t1 i s
 |0,_=>rfl
 |d+1,hd=>by
  have hle:=c.le
  have ih:=c.side h (i:=i) d (by omega)
  have hz:=c.zero h (t:=t1+d) (by omega) (by omega)
  rw [←Nat.add_assoc,h.nt (t1+d) (by omega)]
  unfold piv
  have e0:(0:Rat) / T (t1+d) (p (t1+d)) (q (t1+d))=0:=by rw [Rat.div_def,Rat.zero_mul]
  rw [hz,e0]
  by_cases e:i=p (t1+d)
  ·rw [if_pos e,←ih,e,hz]
  ·rw [if_neg e,←ih];grind
def inB (m:Nat) (b:Nat→Nat) (j:Nat):Prop:=∃i,i<m∧b i=j
theorem Rns.moved (h:Rns m s cols T b p q K) {t i:Nat}:∀d,t+d≤K→b (t+d) i≠b t i→∃u,t≤u∧u<t+d∧p u=i
 |0,_,hi=>(hi rfl).elim
 |d+1,hd,hi=>by
  by_cases e:b (t+d) i=b t i
  ·refine ⟨t+d,by omega,by omega,?_⟩
   rw [←Nat.add_assoc,h.nb (t+d) (by omega)] at hi
   unfold bset at hi
   split at hi
   ·rename_i e2;exact e2.symm
   ·exact (hi e).elim
  ·obtain ⟨u,h1,h2,h3⟩:=h.moved d (by omega) e
   exact ⟨u,h1,by omega,h3⟩
theorem Cyc.low (h:Rns m s cols T b p q K) {t1 t2:Nat} (c:Cyc m s cols T b p q K t1 t2) {t u i:Nat} (ht1:t1≤t) (ht2:t<t2) (hu1:t1≤u) (hu2:u<t2) (hn:¬inB m (b t) (b u i)) (hi:i<m):T u i s=0:=by
 have hle:=c.le
 have key:∃v,t1≤v∧v<t2∧p v=i:=by
  by_cases e:t≤u
  ·have hne:b (t+(u - t)) i≠b t i:=by
    rw [show t+(u - t)=u from by omega]
    exact fun e2=>hn ⟨i,hi,e2.symm⟩
   obtain ⟨v,h1,h2,h3⟩:=h.moved (u - t) (by omega) hne
   exact ⟨v,by omega,by omega,h3⟩
  ·have hne:b (u+(t - u)) i≠b u i:=by
    rw [show u+(t - u)=t from by omega]
    exact fun e2=>hn ⟨i,hi,e2⟩
   obtain ⟨v,h1,h2,h3⟩:=h.moved (t - u) (by omega) hne
   exact ⟨v,by omega,by omega,h3⟩
 obtain ⟨v,h1,h2,h3⟩:=key
 have z:=c.zero h h1 h2
 have s1:=c.side h (i:=i) (v - t1) (by omega)
 have s2:=c.side h (i:=i) (u - t1) (by omega)
 rw [show t1+(v - t1)=v from by omega] at s1
 rw [show t1+(u - t1)=u from by omega] at s2
 rw [s2,←s1,←h3,z]
end
theorem hole:∀(N:Nat) (f:Nat→Nat),(∀t,t≤N→f t<N)→∃t u,t<u∧u≤N∧f t=f u
 |0,f,h=>by have:=h 0 (by omega);omega
 |N+1,f,h=>by
  by_cases e:∃t,t≤N∧f t=f (N+1)
  ·obtain ⟨t,h1,h2⟩:=e
   exact ⟨t,N+1,by omega,by omega,h2⟩
  ·have hne:∀t,t≤N→f t≠f (N+1):=fun t ht e2=>e ⟨t,ht,e2⟩
   obtain ⟨t,u,h1,h2,h3⟩:=hole N (fun t=>if f t=N then f (N+1) else f t) (fun t ht=>by
    have h1:=h t (by omega)
    have h2:=h (N+1) (by omega)
    have h3:=hne t ht
    show (if f t=N then f (N+1) else f t)<N
    split<;>omega)
   refine ⟨t,u,h1,by omega,?_⟩
   have h4:=hne t (by omega)
   have h5:=hne u h2
   split at h3<;>split at h3<;>omega
def code (s:Nat) (b:Nat→Nat):Nat→Nat
 |0=>0
 |m+1=>code s b m*s+b m
def FB (R W N:Nat) (T:Mt):Prop:=∃(D:Int) (A:Nat→Nat→Int),D≠0∧D.natAbs≤N∧∀i,i<R→∀j,j<W→(A i j).natAbs≤N∧T i j=(A i j:Rat) / (D:Rat)
theorem qew {D:Int} (h:D≠0):(D:Rat)≠0:=fun e=>h (by exact_mod_cast e)
theorem frac1 {d a c:Rat} (hd:d≠0) (ha:a≠0):c / d / (a / d)=c*d / (d*a):=by grind
theorem frac2 {d a c u v: Rat} (hd:d≠0) (ha:a≠0):u / d - v / d*(c / d / (a / d))=(u*a - v*c) / (d*a):=by
 have:c / d / (a / d)=c / a:=by grind
 rw [this]
 grind
theorem FB.piv {R W N:Nat} {T:Mt} {p q:Nat} (h:FB R W N T) (hp:p<R) (hq:q<W) (hne:T p q≠0):FB R W (2*(N*N)) (piv T p q):=by
 obtain ⟨D,A,hD,hN,hA⟩:=h
 have hD':=qew hD
 have hpq:=(hA p hp q hq).2
 have hA0:A p q≠0:=by
  intro e
  rw [e,Rat.intCast_zero,Rat.div_def,Rat.zero_mul] at hpq
  exact hne hpq
 have hA0':=qew hA0
 have mulN:∀x y:Int,x.natAbs≤N→y.natAbs≤N→(x*y).natAbs≤N*N:=fun x y hx hy=>by
  rw [Int.natAbs_mul];exact Nat.mul_le_mul hx hy
 refine ⟨D*A p q,fun i j=>if i=p then A p j*D else A i j*A p q - A i q*A p j,Int.mul_ne_zero hD hA0,?_,fun i hi j hj=>⟨?_,?_⟩⟩
 ·have:=mulN D (A p q) hN (hA p hp q hq).1
  omega
 ·show (if i=p then _ else _:Int).natAbs≤_
  split
  ·have:=mulN (A p j) D (hA p hp j hj).1 hN
   omega
  ·have h1:=mulN (A i j) (A p q) (hA i hi j hj).1 (hA p hp q hq).1
   have h2:=mulN (A i q) (A p j) (hA i hi q hq).1 (hA p hp j hj).1
   omega
 ·show VE.piv T p q i j=((if i=p then _ else _:Int):Rat) / _
  unfold VE.piv
  rw [hpq,(hA p hp j hj).2,(hA i hi j hj).2,(hA i hi q hq).2,Rat.intCast_mul]
  by_cases e:i=p
  ·rw [if_pos e,if_pos e,Rat.intCast_mul]
   exact frac1 hD' hA0'
  ·rw [if_neg e,if_neg e,Rat.intCast_sub,Rat.intCast_mul,Rat.intCast_mul]
   exact frac2 hD' hA0'
theorem frac_size {a d:Int} (hd:d≠0) {N:Nat} (h1:a.natAbs≤N) (h2:d.natAbs≤N):((a:Rat) / (d:Rat)).num.natAbs≤N∧((a:Rat) / (d:Rat)).den≤N:=by
 have key:∀(a:Int) (n:Nat),n≠0→a.natAbs≤N→n≤N→((a:Rat) / ((n:Int):Rat)).num.natAbs≤N∧((a:Rat) / ((n:Int):Rat)).den≤N:=by
  intro a n hn ha hn'
  rw [Rat.intCast_natCast,←Rat.mkRat_eq_div]
  refine ⟨?_,?_⟩
  ·rw [Rat.num_mkRat]
   rw [if_neg hn]
   have:=Int.natAbs_tdiv a (Nat.gcd a.natAbs n)
   rw [show a / ((n.gcd a.natAbs:Nat):Int)=a / ((Nat.gcd a.natAbs n:Nat):Int) from by rw [Nat.gcd_comm]]
   have:=Int.natAbs_ediv_le_natAbs a ((Nat.gcd a.natAbs n:Nat):Int)
   omega
  ·rw [Rat.den_mkRat,if_neg hn]
   have:=Nat.div_le_self n (n.gcd a.natAbs)
   omega
 by_cases h:0≤d
 ·have:=key a d.natAbs (by omega) h1 h2
  rw [show ((d.natAbs:Nat):Int)=d from by omega] at this
  exact this
 ·have:=key (-a) d.natAbs (by omega) (by omega) h2
  rw [show ((d.natAbs:Nat):Int)=-d from by omega] at this
  have e:((-a:Int):Rat) / ((-d:Int):Rat)=(a:Rat) / (d:Rat):=by
   have hd':=qew hd
   rw [Rat.intCast_neg,Rat.intCast_neg]
   generalize ((d:Int):Rat)=x at*
   grind
  rw [e] at this
  exact this
theorem FB.size {R W N:Nat} {T:Mt} (h:FB R W N T) {i j:Nat} (hi:i<R) (hj:j<W):(T i j).num.natAbs≤N∧(T i j).den≤N:=by
 obtain ⟨D,A,hD,hN,hA⟩:=h
 obtain ⟨h1,h2⟩:=hA i hi j hj
 rw [h2]
 exact frac_size hD h1 hN
def grow:Nat→Nat→Nat
 |0,N=>N
 |k+1,N=>2*(grow k N*grow k N)
theorem FB.up {R W N M:Nat} {T:Mt} (h:FB R W N T) (hm:N≤M):FB R W M T:=by
 obtain ⟨D,A,hD,hN,hA⟩:=h
 exact ⟨D,A,hD,by omega,fun i hi j hj=>⟨by have:=(hA i hi j hj).1;omega,(hA i hi j hj).2⟩⟩
theorem le_twice (N:Nat):N≤2*(N*N):=by
 rcases Nat.eq_zero_or_pos N with h|h
 ·omega
 ·have:=Nat.mul_le_mul_right N (show 1≤N from h)
  omega
theorem Bas.inj {m W:Nat} {T:Mt} {b:Nat→Nat} (h:Bas m W T b) {i i':Nat} (hi:i<m) (hi':i'<m) (e:b i=b i'):i=i':=by
 have h1:=h.one i hi i (by omega)
 have h2:=h.one i' hi' i (by omega)
 rw [e,h2] at h1
 by_cases e2:i=i'
 ·exact e2
 ·rw [if_neg e2,if_pos rfl] at h1;grind
section
variable {n m:Nat} {A:Mt} {B last:Nat→Rat} {T:Mt} {b:Nat→Nat}
end
end Go.Proofs.YtfobeapcmgjhbaaGreatDoor.VE
