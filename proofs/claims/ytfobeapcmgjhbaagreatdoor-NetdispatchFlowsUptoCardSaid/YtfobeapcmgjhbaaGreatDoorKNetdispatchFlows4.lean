/- Texts behind the law NetdispatchFlows, part 4 (no statement is proved here). -/
import Derived.Test.YtfobeapcmgjhbaaGreatDoorKNetdispatchFlows3
namespace Go.Proofs.YtfobeapcmgjhbaaGreatDoor.VE
open Go Go.RowKit
set_option linter.unusedVariables false
attribute [local irreducible] wrap64
structure PRules (n L:Nat) (E:Nat→Int×Int) (used:Nat→Bool) (R:Type) (l4:Nat→Int→Int→List Int→Option R) (l9:Nat→Int→Bool→Int→List Int→Option R) (l12:Nat→Int→Bool→Int→Int→List Int→Option R) (fin:List Int→R):Prop where
 e4:∀(many:Int) (out:List Int),out.length=n→Ev (fun k=>l4 k many (n:Int) out) (fin out)
 a4:∀(many:Int) (s:Nat) (out:List Int) (Q:R→Prop),out.length=n→s<n→0≤rI64 out (s:Int)→EvP (fun k=>l4 k many ((s:Int)+1) out) Q→EvP (fun k=>l4 k many (s:Int) out) Q
 b4:∀(many:Int) (s:Nat) (out:List Int) (Q:R→Prop),out.length=n→s<n→¬0≤rI64 out (s:Int)→EvP (fun k=>l9 k many true (s:Int) (out.set s many)) Q→EvP (fun k=>l4 k many (s:Int) out) Q
 t9:∀(many:Int) (s:Nat) (out:List Int) (Q:R→Prop),EvP (fun k=>l12 k many false (s:Int) 0 out) Q→EvP (fun k=>l9 k many true (s:Int) out) Q
 f9:∀(many:Int) (s:Nat) (out:List Int) (Q:R→Prop),0≤many→many≤n→s<n→EvP (fun k=>l4 k (many+1) ((s:Int)+1) out) Q→EvP (fun k=>l9 k many false (s:Int) out) Q
 e12:∀(many:Int) (g:Bool) (s:Nat) (out:List Int) (Q:R→Prop),EvP (fun k=>l9 k many g (s:Int) out) Q→EvP (fun k=>l12 k many g (s:Int) (L:Int) out) Q
 c12:∀(many:Int) (g:Bool) (s j:Nat) (out:List Int) (Q:R→Prop),out.length=n→j<L→((rI64 out (E j).1=many↔rI64 out (E j).2=many)∨used j=false)→EvP (fun k=>l12 k many g (s:Int) ((j:Int)+1) out) Q→EvP (fun k=>l12 k many g (s:Int) (j:Int) out) Q
 d12:∀(many:Int) (g:Bool) (s j:Nat) (out:List Int) (Q:R→Prop),out.length=n→j<L→¬(rI64 out (E j).1=many↔rI64 out (E j).2=many)→used j=true→EvP (fun k=>l12 k many true (s:Int) ((j:Int)+1) ((out.set (E j).1.toNat many).set (E j).2.toNat many)) Q→EvP (fun k=>l12 k many g (s:Int) (j:Int) out) Q
 rng:∀j,j<L→0≤(E j).1∧(E j).1<(n:Int)∧0≤(E j).2∧(E j).2<(n:Int)
def Along (L:Nat) (E:Nat→Int×Int) (used:Nat→Bool) (φ:Int→Rat):Prop:=∀j,j<L→used j=true→φ (E j).1=φ (E j).2
def PartsP (n L:Nat) (E:Nat→Int×Int) (used:Nat→Bool) (out:List Int):Prop:=
 out.length=n∧(∀i:Nat,i<n→0≤rI64 out (i:Int)∧rI64 out (i:Int)<n)∧∀φ,Along L E used φ→∀i i':Nat,i<n→i'<n→rI64 out (i:Int)=rI64 out (i':Int)→φ (i:Int)=φ (i':Int)
theorem set_rd (out:List Int) (a:Nat) (v:Int) (ha:a<out.length) (i:Nat):rI64 (out.set a v) (i:Int)=if i=a then v else rI64 out (i:Int):=by
 have:=qeY (xs:=out) (i:=(a:Int)) v (by omega) (by omega) (j:=(i:Int)) (by omega)
 rw [show ((a:Int)).toNat=a from rfl] at this
 rw [this]
 by_cases h:i=a
 ·subst h;rw [if_pos rfl,if_pos rfl]
 ·rw [if_neg (by omega),if_neg h]
theorem rd_at (out:List Int) (a:Nat) (ha:a<out.length):out[a]=rI64 out (a:Int):=(qb6 out a out[a] (List.getElem?_eq_getElem ha)).symm
section
variable {n L:Nat} {E:Nat→Int×Int} {used:Nat→Bool} {R:Type} {l4:Nat→Int→Int→List Int→Option R} {l9:Nat→Int→Bool→Int→List Int→Option R} {l12:Nat→Int→Bool→Int→Int→List Int→Option R} {fin:List Int→R}
structure PGrow (n L:Nat) (E:Nat→Int×Int) (used:Nat→Bool) (many:Int) (s:Nat) (out:List Int):Prop where
 len:out.length=n
 top:∀i:Nat,i<n→rI64 out (i:Int)≤many
 old:∀i:Nat,i≤s→0≤rI64 out (i:Int)
 con:∀φ,Along L E used φ→∀i i':Nat,i<n→i'<n→0≤rI64 out (i:Int)→rI64 out (i:Int)=rI64 out (i':Int)→φ (i:Int)=φ (i':Int)
theorem grow_set {many:Int} {s:Nat} {out:List Int} (hm:0≤many) (h:PGrow n L E used many s out) {a b:Nat} (ha:a<n) (hb:b<n) (hx:rI64 out (a:Int)=many) (hy:rI64 out (b:Int)≠many) (hab:∀φ,Along L E used φ→φ (a:Int)=φ (b:Int)) :
  PGrow n L E used many s (out.set b many)∧n - (out.set b many).count many<n - out.count many:=by
 have hl:=h.len
 have hr:=fun i=>set_rd out b many (by omega) i
 refine ⟨⟨by rw [List.length_set];exact hl,fun i hi=>?_,fun i hi=>?_,fun φ hφ i i' hi hi' h0 he=>?_⟩,?_⟩
 ·rw [hr];split
  ·exact Int.le_refl _
  ·exact h.top i hi
 ·rw [hr];split
  ·exact hm
  ·exact h.old i hi
 ·rw [hr,hr] at he
  rw [hr] at h0
  have key:∀c:Nat,c<n→rI64 out (c:Int)=many→φ (c:Int)=φ (b:Int):=fun c hc he=>(h.con φ hφ c a hc ha (by rw [he];exact hm) (by rw [he,hx])).trans (hab φ hφ)
  by_cases e1:i=b
  ·subst e1
   by_cases e2:i'=i
   ·subst e2;rfl
   ·rw [if_pos rfl,if_neg e2] at he
    exact (key i' hi' he.symm).symm
  ·by_cases e2:i'=b
   ·subst e2
    rw [if_neg e1,if_pos rfl] at he
    exact key i hi he
   ·rw [if_neg e1,if_neg e2] at he
    rw [if_neg e1] at h0
    exact h.con φ hφ i i' hi hi' h0 he
 ·have hbl:b<out.length:=by omega
  have hc:=List.count_set (l:=out) (i:=b) (a:=many) (b:=many) hbl
  have hrb:=rd_at out b hbl
  have hne:(out[b]==many)=false:=by
   rw [hrb]
   simpa using hy
  rw [hne] at hc
  simp only [beq_self_eq_true,if_true,Bool.false_eq_true,if_false] at hc
  have hle:(out.set b many).count many≤(out.set b many).length:=List.count_le_length
  rw [List.length_set] at hle
  omega
theorem set_same (out:List Int) (a:Nat) (v:Int) (ha:a<out.length) (h:rI64 out (a:Int)=v):out.set a v=out:=by
 apply List.ext_getElem?
 intro i
 rw [List.getElem?_set]
 by_cases e:a=i
 ·subst e
  rw [if_pos rfl,if_pos ha,List.getElem?_eq_getElem ha,rd_at out a ha,h]
 ·rw [if_neg e]
theorem grow_edge {many:Int} {s:Nat} {out:List Int} (hm:0≤many) (h:PGrow n L E used many s out) (P:PRules n L E used R l4 l9 l12 fin) {j:Nat} (hj:j<L) (hu:used j=true) (hx:¬(rI64 out (E j).1=many↔rI64 out (E j).2=many)) :
  PGrow n L E used many s ((out.set (E j).1.toNat many).set (E j).2.toNat many)∧n - ((out.set (E j).1.toNat many).set (E j).2.toNat many).count many<n - out.count many:=by
 obtain ⟨r1,r2,r3,r4⟩:=P.rng j hj
 have hl:=h.len
 have e1:(((E j).1.toNat:Nat):Int)=(E j).1:=by omega
 have e2:(((E j).2.toNat:Nat):Int)=(E j).2:=by omega
 have hab:∀φ,Along L E used φ→φ ((E j).1.toNat:Int)=φ ((E j).2.toNat:Int):=fun φ hφ=>by rw [e1,e2];exact hφ j hj hu
 by_cases h1:rI64 out (E j).1=many
 ·have h2:rI64 out (E j).2≠many:=fun h2=>hx ⟨fun _=>h2,fun _=>h1⟩
  rw [set_same out _ _ (by omega) (by rw [e1];exact h1)]
  exact grow_set hm h (by omega) (by omega) (by rw [e1];exact h1) (by rw [e2];exact h2) hab
 ·have h2:rI64 out (E j).2=many:=by
   apply Classical.byContradiction
   intro h2
   exact hx ⟨fun h=>absurd h h1,fun h=>absurd h h2⟩
  have hg:=grow_set hm h (a:=(E j).2.toNat) (b:=(E j).1.toNat) (by omega) (by omega) (by rw [e2];exact h2) (by rw [e1];exact h1) (fun φ hφ=>(hab φ hφ).symm)
  have hs:=set_rd out (E j).1.toNat many (by omega) (E j).2.toNat
  rw [e2] at hs
  rw [set_same _ (E j).2.toNat many (by rw [List.length_set];omega) (by
   rw [e2,hs]
   split
   ·rfl
   ·exact h2)]
  exact hg
theorem grow_run (P:PRules n L E used R l4 l9 l12 fin) {many:Int} (hm:0≤many) (hmn:many≤n) {s:Nat} (hs:s<n) {Q:R→Prop}
  (next:∀out,PGrow n L E used many s out→EvP (fun k=>l4 k (many+1) ((s:Int)+1) out) Q):∀(c m j:Nat) (g:Bool) (out:List Int),j+m=L→PGrow n L E used many s out→(g=true→n - out.count many<c)→n - out.count many≤c→
  EvP (fun k=>l12 k many g (s:Int) (j:Int) out) Q:=by
 intro c
 induction c with
 |zero=>
  intro m
  induction m with
  |zero=>
   intro j g out hj h hg hc
   obtain rfl:j=L:=by omega
   refine P.e12 _ _ _ _ _ ?_
   cases g with
   |true=>exact absurd (hg rfl) (by omega)
   |false=>exact P.f9 _ _ _ _ hm hmn hs (next out h)
  |succ m ih=>
   intro j g out hj h hg hc
   by_cases hx:(rI64 out (E j).1=many↔rI64 out (E j).2=many)∨used j=false
   ·have:=ih (j+1) g out (by omega) h hg hc
    exact P.c12 _ _ _ _ _ _ h.len (by omega) hx this
   ·have hx':=not_or.1 hx
    have hu:used j=true:=by simpa using hx'.2
    have:=(grow_edge hm h P (by omega) hu hx'.1).2
    omega
 |succ c ihc=>
  intro m
  induction m with
  |zero=>
   intro j g out hj h hg hc
   obtain rfl:j=L:=by omega
   refine P.e12 _ _ _ _ _ ?_
   cases g with
   |true=>exact P.t9 _ _ _ _ (ihc _ 0 false out (Nat.zero_add _) h (fun e=>by cases e) (by have:=hg rfl;omega))
   |false=>exact P.f9 _ _ _ _ hm hmn hs (next out h)
  |succ m ih=>
   intro j g out hj h hg hc
   by_cases hx:(rI64 out (E j).1=many↔rI64 out (E j).2=many)∨used j=false
   ·have:=ih (j+1) g out (by omega) h hg hc
    exact P.c12 _ _ _ _ _ _ h.len (by omega) hx this
   ·have hx':=not_or.1 hx
    have hu:used j=true:=by simpa using hx'.2
    obtain ⟨k1,k2⟩:=grow_edge hm h P (by omega) hu hx'.1
    have:=ih (j+1) true _ (by omega) k1 (fun _=>by omega) (by omega)
    exact P.d12 _ _ _ _ _ _ h.len (by omega) hx'.1 hu this
theorem qd6 (P:PRules n L E used R l4 l9 l12 fin):∀(m s:Nat) (many:Int) (out:List Int),s+m=n→0≤many→many≤s→out.length=n→(∀i:Nat,i<n→rI64 out (i:Int)<many)→(∀i:Nat,i<s→0≤rI64 out (i:Int))→
  (∀φ,Along L E used φ→∀i i':Nat,i<n→i'<n→0≤rI64 out (i:Int)→rI64 out (i:Int)=rI64 out (i':Int)→φ (i:Int)=φ (i':Int))→EvP (fun k=>l4 k many (s:Int) out) (fun r=>∃out,r=fin out∧PartsP n L E used out)
 |0,s,many,out,hs,h0,hms,hl,ht,ho,hc=>by
  obtain rfl:s=n:=by omega
  refine EvP.of (P.e4 many out hl) ⟨out,rfl,hl,fun i hi=>⟨ho i hi,by have:=ht i hi;omega⟩,fun φ hφ i i' hi hi' he=>hc φ hφ i i' hi hi' (ho i hi) he⟩
 |m+1,s,many,out,hs,h0,hms,hl,ht,ho,hc=>by
  by_cases h:0≤rI64 out (s:Int)
  ·have:=qd6 P m (s+1) many out (by omega) h0 (by omega) hl ht (fun i hi=>by
    by_cases e:i=s
    ·rw [e];exact h
    ·exact ho i (by omega)) hc
   exact P.a4 _ _ _ _ hl (by omega) h this
  ·have hr:=fun i=>set_rd out s many (by omega) i
   have G:PGrow n L E used many s (out.set s many):=⟨by rw [List.length_set];exact hl,fun i hi=>by
     rw [hr];split
     ·exact Int.le_refl _
     ·exact Int.le_of_lt (ht i hi),fun i hi=>by
     rw [hr];split
     ·exact h0
     ·exact ho i (by omega),fun φ hφ i i' hi hi' g0 he=>by
     rw [hr,hr] at he
     rw [hr] at g0
     by_cases e1:i=s
     ·by_cases e2:i'=s
      ·rw [e1,e2]
      ·rw [if_pos e1,if_neg e2] at he
       have:=ht i' hi'
       omega
     ·by_cases e2:i'=s
      ·rw [if_neg e1,if_pos e2] at he
       have:=ht i hi
       omega
      ·rw [if_neg e1,if_neg e2] at he
       rw [if_neg e1] at g0
       exact hc φ hφ i i' hi hi' g0 he⟩
   refine P.b4 _ _ _ _ hl (by omega) h (P.t9 _ _ _ _ ?_)
   refine grow_run P h0 (by omega) (by omega) (fun out' g=>?_) n L 0 false _ (Nat.zero_add _) G (fun e=>by cases e) (by omega)
   exact qd6 P m (s+1) (many+1) out' (by omega) (by omega) (by omega) g.len (fun i hi=>by have:=g.top i hi;omega) (fun i hi=>g.old i (by omega)) g.con
end
end Go.Proofs.YtfobeapcmgjhbaaGreatDoor.VE
