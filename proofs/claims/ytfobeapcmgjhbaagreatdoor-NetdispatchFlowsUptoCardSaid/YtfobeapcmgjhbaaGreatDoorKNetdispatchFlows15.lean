/- Texts behind the law NetdispatchFlows, part 15 (no statement is proved here). -/
import Derived.Test.YtfobeapcmgjhbaaGreatDoorKNetdispatchFlows14
namespace Go.Proofs.YtfobeapcmgjhbaaGreatDoor.VE
open Go Go.RowKit
set_option linter.unusedVariables false
attribute [local irreducible] wrap64
def isI (q:Rat):Prop:=∃a:Int,q=(a:Rat)
theorem isI_int (a:Int):isI (a:Rat):=⟨a,rfl⟩
theorem isI_zero:isI 0:=⟨0,rfl⟩
theorem isI_add {p q:Rat} (h:isI p) (k:isI q):isI (p+q):=by
 obtain ⟨a,rfl⟩:=h
 obtain ⟨b,rfl⟩:=k
 exact ⟨a+b,by rw [Rat.intCast_add]⟩
theorem isI_neg {p:Rat} (h:isI p):isI (-p):=by
 obtain ⟨a,rfl⟩:=h
 exact ⟨-a,by rw [Rat.intCast_neg]⟩
theorem isI_sub {p q:Rat} (h:isI p) (k:isI q):isI (p - q):=by
 obtain ⟨a,rfl⟩:=h
 obtain ⟨b,rfl⟩:=k
 exact ⟨a - b,by rw [Rat.intCast_sub]⟩
theorem isI_mul {p q:Rat} (h:isI p) (k:isI q):isI (p*q):=by
 obtain ⟨a,rfl⟩:=h
 obtain ⟨b,rfl⟩:=k
 exact ⟨a*b,by rw [Rat.intCast_mul]⟩
theorem isI_sm {f:Nat→Rat}:∀{n:Nat},(∀i,i<n→isI (f i))→isI (sm n f)
 |0,_=>isI_zero
 |n+1,h=>isI_add (isI_sm fun i hi=>h i (by omega)) (h n (by omega))
def lim (C q:Rat):Prop:=-C≤q∧q≤C
theorem lim_add {C E p q:Rat} (h:lim C p) (k:lim E q):lim (C+E) (p+q):=by unfold lim at*;grind
theorem lim_sub {C E p q:Rat} (h:lim C p) (k:lim E q):lim (C+E) (p - q):=by unfold lim at*;grind
theorem lim_up {C E q:Rat} (h:lim C q) (hm:C≤E):lim E q:=by unfold lim at*;grind
theorem lim_sm {C:Rat} {f:Nat→Rat}:∀{n:Nat},(∀i,i<n→lim C (f i))→lim ((n:Rat)*C) (sm n f)
 |0,_=>by unfold lim;show -(((0:Nat):Rat)*C)≤0∧0≤((0:Nat):Rat)*C;grind
 |n+1,h=>by
  have h1:=lim_add (lim_sm (n:=n) fun i hi=>h i (by omega)) (h n (by omega))
  have e:((n+1:Nat):Rat)*C=(n:Rat)*C+C:=by rw [Rat.natCast_add];grind
  rw [e]
  exact h1
theorem qdS {a b:Int} (h:a≤b):(a:Rat)≤(b:Rat):=Rat.intCast_le_intCast.2 h
theorem dn_size {q:Rat} {D:Int} {N:Nat} (hD:0<D) (hN:D≤(N:Int)) (hq:isI (q*(D:Rat))) (hl:lim (N:Rat) (q*(D:Rat))):q.num.natAbs≤N∧q.den≤N∧∃a:Int,a.natAbs≤N∧q=(a:Rat) / (D:Rat):=by
 obtain ⟨a,ha⟩:=hq
 have hD':((D:Int):Rat)≠0:=qew (by omega)
 have e:q=(a:Rat) / (D:Rat):=by
  rw [←ha]
  generalize ((D:Int):Rat)=d at*
  grind
 have hl':-(N:Int)≤a∧a≤(N:Int):=by
  unfold lim at hl
  rw [ha,←Rat.intCast_natCast,←Rat.intCast_neg] at hl
  exact ⟨Rat.intCast_le_intCast.1 hl.1,Rat.intCast_le_intCast.1 hl.2⟩
 have h:=frac_size (a:=a) (d:=D) (by omega) (N:=N) (by omega) (by omega)
 rw [←e] at h
 exact ⟨h.1,h.2,a,by omega,e⟩
theorem FB.of {R W N:Nat} {T:Mt} {D:Int} (hD:0<D) (hN:D≤(N:Int)) (h:∀i,i<R→∀j,j<W→isI (T i j*(D:Rat))∧lim (N:Rat) (T i j*(D:Rat))):FB R W N T:=by
 have key:∀i j,∃a:Int,i<R→j<W→a.natAbs≤N∧T i j=(a:Rat) / (D:Rat):=by
  intro i j
  by_cases hi:i<R
  ·by_cases hj:j<W
   ·obtain ⟨_,_,a,h1,h2⟩:=dn_size hD hN (h i hi j hj).1 (h i hi j hj).2
    exact ⟨a,fun _ _=>⟨h1,h2⟩⟩
   ·exact ⟨0,fun _ h=>absurd h hj⟩
  ·exact ⟨0,fun h=>absurd h hi⟩
 exact ⟨D,fun i j=>Classical.choose (key i j),by omega,by omega,fun i hi j hj=>Classical.choose_spec (key i j) hi hj⟩
def DD (n:NetT):Nat→Int
 |0=>1
 |k+1=>DD n k*((brk n k).2.2.2.1*(brk n k).2.2.2.2.1)
theorem alg3 {c x y:Rat} (hx:x≠0):c / x*(y*x)=c*y:=by grind
theorem alg4 {x y u z:Rat} (hx:x≠0) (hz:z≠0):z*z / x*(u / z)*(y*x)=z*u*y:=by grind
section
variable {n:NetT} (h:NetOk n)
include h
theorem xt_rng {k:Nat} (hk:k<n.2.2.1.length):500≤(brk n k).2.2.2.1*(brk n k).2.2.2.2.1∧(brk n k).2.2.2.1*(brk n k).2.2.2.2.1≤15000000:=by
 have ok:=(brk_ok h hk).2.2
 unfold BrOk at ok
 obtain ⟨x1,x2,x3,x4,_⟩:=ok
 have h1:=Int.mul_le_mul x1 x3 (by omega) (by omega)
 have h2:=Int.mul_le_mul x2 x4 (by omega) (by omega)
 omega
theorem qgw:∀{m:Nat},m≤n.2.2.1.length→0<DD n m∧DD n m≤(15000000 ^ m:Nat)
 |0,_=>⟨show (0:Int)<1 by decide,show (1:Int)≤((1:Nat):Int) by decide⟩
 |m+1,hm=>by
  obtain ⟨h1,h2⟩:=qgw (m:=m) (by omega)
  obtain ⟨h3,h4⟩:=xt_rng h (show m<n.2.2.1.length by omega)
  refine ⟨Int.mul_pos h1 (by omega),?_⟩
  show DD n m*((brk n m).2.2.2.1*(brk n m).2.2.2.2.1)≤_
  have:=Int.mul_le_mul h2 h4 (by omega) (by omega)
  rw [Nat.pow_succ,Int.natCast_mul]
  exact this
theorem B_int:∀{m:Nat},m≤n.2.2.1.length→∀k,k<m→isI (Bq n k*(DD n m:Rat))∧isI (Bq n k*Sq n k*(DD n m:Rat))
 |0,_,k,hk=>by omega
 |m+1,hm,k,hk=>by
  obtain ⟨h3,h4⟩:=xt_rng h (show k<n.2.2.1.length by omega)
  have hne:(((brk n k).2.2.2.1*(brk n k).2.2.2.2.1:Int):Rat)≠0:=qew (by omega)
  have h1000:((1000:Int):Rat)≠0:=qew (by omega)
  have ed:(DD n (m+1):Rat)=(DD n m:Rat)*(((brk n m).2.2.2.1*(brk n m).2.2.2.2.1:Int):Rat):=by rw [←Rat.intCast_mul];rfl
  by_cases e:k=m
  ·subst e
   have e1:Bq n k*(DD n (k+1):Rat)=((1000000*DD n k:Int):Rat):=by
    rw [ed]
    unfold Bq
    rw [alg3 hne,←Rat.intCast_mul]
   have e2:Bq n k*Sq n k*(DD n (k+1):Rat)=((1000*(brk n k).2.2.2.2.2.1*DD n k:Int):Rat):=by
    have e3:((1000000:Int):Rat)=((1000:Int):Rat)*((1000:Int):Rat):=by rw [←Rat.intCast_mul];rfl
    rw [ed]
    unfold Bq Sq
    rw [e3,alg4 hne h1000,←Rat.intCast_mul,←Rat.intCast_mul]
   exact ⟨⟨_,e1⟩,⟨_,e2⟩⟩
  ·obtain ⟨h5,h6⟩:=B_int (m:=m) (by omega) k (by omega)
   rw [ed]
   refine ⟨?_,?_⟩
   ·have:=isI_mul h5 (isI_int ((brk n m).2.2.2.1*(brk n m).2.2.2.2.1))
    rw [Rat.mul_assoc] at this
    exact this
   ·have:=isI_mul h6 (isI_int ((brk n m).2.2.2.1*(brk n m).2.2.2.2.1))
    rw [Rat.mul_assoc] at this
    exact this
theorem B_rng {k:Nat} (hk:k<n.2.2.1.length):0<Bq n k∧lim 2000 (Bq n k)∧lim 2000 (Bq n k*Sq n k):=by
 obtain ⟨h3,h4⟩:=xt_rng h hk
 have ok:=(brk_ok h hk).2.2
 unfold BrOk at ok
 obtain ⟨x1,x2,x3,x4,x5,x6,_⟩:=ok
 have hx:((500:Int):Rat)≤(((brk n k).2.2.2.1*(brk n k).2.2.2.2.1:Int):Rat):=qdS h3
 have s1:((-1000:Int):Rat)≤(((brk n k).2.2.2.2.2.1:Int):Rat):=qdS x5
 have s2:(((brk n k).2.2.2.2.2.1:Int):Rat)≤((1000:Int):Rat):=qdS x6
 have c0:((500:Int):Rat)=500:=rfl
 have c1:((1000000:Int):Rat)=1000000:=rfl
 have c2:((1000:Int):Rat)=1000:=rfl
 have c3:((-1000:Int):Rat)=-1000:=rfl
 have hb:0<Bq n k∧Bq n k≤2000:=by
  unfold Bq
  rw [c1]
  rw [c0] at hx
  generalize (((brk n k).2.2.2.1*(brk n k).2.2.2.2.1:Int):Rat)=x at*
  have hp:0<x:=by grind
  have e:1000000 / x*x=1000000:=by grind
  generalize 1000000 / x=y at*
  refine ⟨?_,?_⟩
  ·by_cases hy:0<y
   ·exact hy
   ·have:=Rat.mul_nonneg (a:=-y) (b:=x) (by grind) (by grind)
    grind
  ·by_cases hy:y≤2000
   ·exact hy
   ·have:=Rat.mul_pos (a:=y - 2000) (b:=x) (by grind) hp
    grind
 have hs:lim 1 (Sq n k):=by
  unfold Sq lim
  rw [c2]
  rw [c2] at s2
  rw [c3] at s1
  generalize (((brk n k).2.2.2.2.2.1:Int):Rat)=x at*
  grind
 refine ⟨hb.1,⟨by grind,hb.2⟩,?_⟩
 unfold lim at hs ⊢
 have q1:=Rat.mul_nonneg (a:=Bq n k) (b:=Sq n k+1) (by grind) (by grind)
 have q2:=Rat.mul_nonneg (a:=Bq n k) (b:=1 - Sq n k) (by grind) (by grind)
 grind
end
theorem dd_cases (n:NetT) (t:List Int×List Int) (k b:Nat):dd n t k b=0∨dd n t k b=1∨dd n t k b=-1:=by
 unfold dd
 split<;>split<;>grind
def N0:Nat:=10000000*15000000 ^ 24
theorem N0_dl:dl N0≤21:=qbT (by rw [Bp_ten];show ((10000000*15000000 ^ 24:Nat):Int)<((10 ^ (9*21):Nat):Int);exact Int.ofNat_lt.2 (by decide+kernel))
theorem DD_N0 {n:NetT} (h:NetOk n) (C:Nat) (hC:C≤10000000):(C:Rat)*(DD n n.2.2.1.length:Rat)≤(N0:Rat):=by
 have h2:=h.l2
 obtain ⟨h1,h3⟩:=qgw h (Nat.le_refl n.2.2.1.length)
 have h4:(15000000 ^ n.2.2.1.length:Nat)≤15000000 ^ 24:=Nat.pow_le_pow_right (by decide) h2
 have h5:(C:Int)*DD n n.2.2.1.length≤(N0:Int):=by
  have:=Int.mul_le_mul (show (C:Int)≤10000000 by omega) (show DD n n.2.2.1.length≤((15000000 ^ 24:Nat):Int) by omega) (by omega) (by omega)
  unfold N0
  rw [Int.natCast_mul]
  exact this
 have:=qdS h5
 rw [Rat.intCast_mul,Rat.intCast_natCast,Rat.intCast_natCast] at this
 exact this
theorem fit_sum {n:NetT} (h:NetOk n) {q:Rat} {C:Nat} (hC:C≤10000000) (hi:isI (q*(DD n n.2.2.1.length:Rat))) (hl:lim (C:Rat) q):isI (q*(DD n n.2.2.1.length:Rat))∧lim (N0:Rat) (q*(DD n n.2.2.1.length:Rat)):=by
 refine ⟨hi,?_⟩
 have h1:=DD_N0 h C hC
 have hD:(0:Rat)<(DD n n.2.2.1.length:Rat):=by
  have:=(qgw h (Nat.le_refl n.2.2.1.length)).1
  exact_mod_cast Rat.intCast_lt_intCast.2 this
 unfold lim at hl ⊢
 generalize ((DD n n.2.2.1.length:Int):Rat)=d at*
 have q1:=Rat.mul_nonneg (a:=(C:Rat)+q) (b:=d) (by grind) (by grind)
 have q2:=Rat.mul_nonneg (a:=(C:Rat) - q) (b:=d) (by grind) (by grind)
 grind
theorem sz_sum {n:NetT} (h:NetOk n) {q:Rat} {C:Nat} (hC:C≤10000000) (hi:isI (q*(DD n n.2.2.1.length:Rat))) (hl:lim (C:Rat) q):dl q.num.natAbs≤21∧dl q.den≤21:=by
 obtain ⟨h1,h2⟩:=fit_sum h hC hi hl
 obtain ⟨d1,d2⟩:=qgw h (Nat.le_refl n.2.2.1.length)
 have hN:DD n n.2.2.1.length≤(N0:Int):=by
  have h4:(15000000 ^ n.2.2.1.length:Nat)≤15000000 ^ 24:=Nat.pow_le_pow_right (by decide) h.l2
  have h5:(15000000 ^ 24:Nat)≤N0:=by decide+kernel
  omega
 obtain ⟨q1,q2,_⟩:=dn_size d1 hN h1 h2
 exact ⟨Nat.le_trans (qcJ q1) N0_dl,Nat.le_trans (qcJ q2) N0_dl⟩
end Go.Proofs.YtfobeapcmgjhbaaGreatDoor.VE
