/- Texts behind the law NetdispatchFlows, part 2 (no statement is proved here). -/
import Derived.Orders
import Derived.Test.YtfobeapcmgjhbaaGreatDoorProg
import Derived.Test.YtfobeapcmgjhbaaGreatDoorKNetdispatchFlows1
namespace Go.Proofs.YtfobeapcmgjhbaaGreatDoor.VE
open Go Go.RowKit
section
variable {P:Program} {Γ:Env} {C:Ctx} {G:Gh} {st:St} {w:World} {a:Act}
def normE (g:Bool) (e:Eff):Option Eff:=match g with
 |true=>splitB e.sv.leaf fun b=>some {e with sv:=.lf (.bl b)}
 |false=>some e
def stepD (P:Program) (Γ:Env) (ops:List Oper) (i:Nat) (o:Oper) (st:St):Option Eff:=match runs ops o st with
 |some true=>(opK P Γ o st some).bind (normE (guards ops i))
 |some false=>some ⟨.t [],[],[]⟩
 |none=>none
theorem runK_step {R:Type} {ops:List Oper} {i:Nat} {o:Oper} {l:List (Nat×Oper)} {st:St} {lg:List Log} {k:St→List Log→Option R} :
  runK P Γ ops ((i,o)::l) st lg k=(stepD P Γ ops i o st).bind fun e=>runK P Γ ops l (st.eff o.dst e) (⟨i,e.rd,e.wr.map (·.1)⟩::lg) k:=by
 unfold stepD
 rw [runK]
 cases h:runs ops o st with
 |none=>rfl
 |some b=>
  cases b with
  |false=>rfl
  |true=>
   simp only
   rw [opK_bind]
   cases h1:opK P Γ o st some with
   |none=>rfl
   |some e=>
    simp only [Option.bind_some]
    cases hg:guards ops i with
    |false=>rfl
    |true=>
     simp only [normE]
     rw [←qfg]
     rfl
def RunL (P:Program) (Γ:Env) (ops:List Oper) (E:Nat→Eff):List Nat→St→St→Prop
 |[],st,st'=>st'=st
 |i::l,st,st'=>∃o,ops[i]?=some o∧stepD P Γ ops i o st=some (E i)∧RunL P Γ ops E l (st.eff o.dst (E i)) st'
theorem RunL.congr {ops:List Oper} {E E':Nat→Eff}:∀{l:List Nat} {st st':St},(∀i∈l,E' i=E i)→RunL P Γ ops E l st st'→RunL P Γ ops E' l st st'
 |[],_,_,_,h=>h
 |i::l,st,st',he,⟨o,h1,h2,h3⟩=>by
  have hi:=he i List.mem_cons_self
  exact ⟨o,h1,by rw [hi];exact h2,by rw [hi];exact RunL.congr (fun j hj=>he j (List.mem_cons_of_mem _ hj)) h3⟩
theorem runK_run {R:Type} {ops:List Oper}:∀(l pre:List Oper) {st:St} {lg:List Log} {k:St→List Log→Option R} {r:R},ops=pre++l→runK P Γ ops (ixs pre.length l) st lg k=some r→
  ∃E st' lg',RunL P Γ ops E (List.range' pre.length l.length) st st'∧k st' lg'=some r∧(∀x∈lg,x∈lg')∧∀i∈List.range' pre.length l.length,⟨i,(E i).rd,(E i).wr.map (·.1)⟩∈lg'
 |[],pre,st,lg,k,r,ho,h=>⟨fun _=>⟨.u,[],[]⟩,st,lg,rfl,h,fun _ h=>h,fun i hi=>by simp at hi⟩
 |o::l,pre,st,lg,k,r,ho,h=>by
  rw [ixs,runK_step] at h
  cases h1:stepD P Γ ops pre.length o st with
  |none=>rw [h1] at h;cases h
  |some e=>
   rw [h1] at h
   simp only [Option.bind_some] at h
   have hl:pre.length+1=(pre++[o]).length:=by simp
   rw [hl] at h
   obtain ⟨E,st',lg',q1,q2,q3,q4⟩:=runK_run l (pre++[o]) (by rw [ho];simp) h
   rw [←hl] at q1 q4
   have hne:∀i∈List.range' (pre.length+1) l.length,i≠pre.length:=by
    intro i hi
    rw [List.mem_range'] at hi
    obtain ⟨j,hj,rfl⟩:=hi
    omega
   refine ⟨fun i=>if i=pre.length then e else E i,st',lg',?_,q2,fun x hx=>q3 x (List.mem_cons_of_mem _ hx),?_⟩
   ·rw [List.length_cons,List.range'_succ]
    have he:(fun i=>if i=pre.length then e else E i) pre.length=e:=if_pos rfl
    refine ⟨o,by rw [ho];simp,by rw [he];exact h1,?_⟩
    rw [he]
    exact RunL.congr (fun i hi=>if_neg (hne i hi)) q1
   ·intro i hi
    rw [List.length_cons,List.range'_succ] at hi
    rcases List.mem_cons.1 hi with rfl|hi
    ·simp only [if_true]
     exact q3 _ List.mem_cons_self
    ·simp only [if_neg (hne i hi)]
     exact q4 i hi
theorem qcV {a b:List Nat} (h:meets a b=false):∀x∈a,x∉b:=by
 intro x hx hb
 have:meets a b=true:=by
  unfold meets
  exact List.any_eq_true.2 ⟨x,hx,List.any_eq_true.2 ⟨x,hb,Nat.beq_refl x⟩⟩
 rw [h] at this;cases this
theorem runs_loc {ops:List Oper} {o:Oper} {st st':St} (h:∀t∈qcW ops o,st'.t t=st.t t):runs ops o st'=runs ops o st:=by
 unfold runs
 cases hg:o.guard with
 |none=>rfl
 |some jw=>
  obtain ⟨j,want⟩:=jw
  simp only
  cases ho:ops[j]? with
  |none=>rfl
  |some g=>
   simp only
   cases hd:g.dst with
   |none=>rfl
   |some d=>
    simp only
    rw [h d (by unfold qcW;rw [hg];simp only [ho,hd];simp)]
theorem stepD_loc {ops:List Oper} {i:Nat} {o:Oper} {st st':St} {e:Eff} (h:stepD P Γ ops i o st=some e) (hv:∀t∈tmpsOf o.op.operands.toList,st'.t t=st.t t) (hg:∀t∈qcW ops o,st'.t t=st.t t) (hs:Same st.o st'.o e.rd):stepD P Γ ops i o st'=some e:=by
 unfold stepD at h ⊢
 rw [runs_loc hg]
 cases hr:runs ops o st with
 |none=>rw [hr] at h;cases h
 |some b=>
  rw [hr] at h
  cases b with
  |false=>exact h
  |true=>
   simp only at h ⊢
   cases h1:opK P Γ o st some with
   |none=>rw [h1] at h;cases h
   |some e0=>
    rw [h1] at h
    simp only [Option.bind_some] at h
    have hrd:e0.rd=e.rd:=by
     unfold normE at h
     split at h
     ·unfold splitB at h
      split at h<;>first|(cases h;rfl)|skip
      ·split at h<;>(cases h;rfl)
      ·split at h<;>(cases h;rfl)
      ·split at h<;>(cases h;rfl)
      ·cases h
     ·cases h;rfl
    rw [opK_loc h1 (evs_of hv) (by rw [hrd];exact hs)]
    exact h
theorem upds_comm {α:Type} (f:Nat→α) (l m:List (Nat×α)) (h:∀x∈l.map (·.1),x∉m.map (·.1)):upds (upds f l) m=upds (upds f m) l:=by
 funext k
 rcases qbM m (upds f l) k with ⟨h1,h2⟩|⟨v,h1,h2⟩
 ·rw [h2]
  have key:∀(l:List (Nat×α)) (g g':Nat→α),g k=g' k→upds g l k=upds g' l k:=by
   intro l
   induction l with
   |nil=>intro g g' e;exact e
   |cons x l ih=>
    intro g g' e
    obtain ⟨d,v⟩:=x
    refine ih _ _ ?_
    unfold upd
    cases Nat.beq k d<;>simp [e]
  exact key l f (upds f m) (qbA h1).symm
 ·have hk:k∈m.map (·.1):=List.mem_map.2 ⟨_,h1,rfl⟩
  have hl:k∉l.map (·.1):=fun hl=>h k hl hk
  rw [qbA hl]
  have key:∀(m:List (Nat×α)) (g g':Nat→α),g k=g' k→upds g m k=upds g' m k:=by
   intro m
   induction m with
   |nil=>intro g g' e;exact e
   |cons x m ih=>
    intro g g' e
    obtain ⟨d,v⟩:=x
    refine ih _ _ ?_
    unfold upd
    cases Nat.beq k d<;>simp [e]
  exact key m (upds f l) f (qbA hl)
theorem upd_comm {α:Type} (f:Nat→α) {d d':Nat} (v v':α) (h:d≠d'):upd (upd f d v) d' v'=upd (upd f d' v') d v:=by
 funext k
 by_cases h1:k=d'
 ·subst h1
  rw [qad,upd_ne _ _ (Ne.symm h),qad]
 ·rw [upd_ne _ _ h1]
  by_cases h2:k=d
  ·subst h2
   rw [qad,qad]
  ·rw [upd_ne _ _ h2,upd_ne _ _ h2,upd_ne _ _ h1]
theorem clash_false {ops:List Oper} {x y:Oper} {lx ly:Log} (h:clash ops x y lx ly=false) :
  (∀d,x.dst=some d→y.dst≠some d∧d∉tmpsOf y.op.operands.toList∧d∉qcW ops y)∧(∀d,y.dst=some d→d∉tmpsOf x.op.operands.toList∧d∉qcW ops x)∧
   (∀k∈lx.wr,k∉ly.rd∧k∉ly.wr)∧∀k∈ly.wr,k∉lx.rd∧k∉lx.wr:=by
 unfold clash at h
 simp only [Bool.or_eq_false_iff] at h
 obtain ⟨⟨⟨h1,h2⟩,h3⟩,h4⟩:=h
 refine ⟨fun d hd=>?_,fun d hd=>?_,fun k hk=>?_,fun k hk=>?_⟩
 ·have:=qcV h1 d (by rw [hd];simp)
  simp only [List.mem_append,not_or] at this
  obtain ⟨⟨q1,q2⟩,q3⟩:=this
  exact ⟨fun e=>q1 (by rw [e];simp),q2,q3⟩
 ·have:=qcV h2 d (by rw [hd];simp)
  simp only [List.mem_append,not_or] at this
  exact this
 ·have:=qcV h3 k hk
  simp only [List.mem_append,not_or] at this
  exact this
 ·have:=qcV h4 k hk
  simp only [List.mem_append,not_or] at this
  exact this
theorem St.eff_t {st:St} {dst:Option Tmp} {e:Eff} {t:Nat} (h:∀d,dst=some d→t≠d):(st.eff dst e).t t=st.t t:=by
 cases dst with
 |none=>rfl
 |some d=>exact upd_ne _ _ (h d rfl)
theorem St.eff_comm {st:St} {dx dy:Option Tmp} {ex ey:Eff} (h:∀d,dx=some d→dy≠some d) (hw:∀k∈ex.wr.map (·.1),k∉ey.wr.map (·.1)):(st.eff dx ex).eff dy ey=(st.eff dy ey).eff dx ex:=by
 unfold St.eff
 congr 1
 ·cases dx with
  |none=>rfl
  |some d=>
   cases dy with
   |none=>rfl
   |some d'=>exact upd_comm _ _ _ (fun e=>h d rfl (by rw [e]))
 ·exact upds_comm _ _ _ hw
theorem RunL.swap {ops:List Oper} {E:Nat→Eff} {i j:Nat} {l:List Nat} {st st':St} (h:RunL P Γ ops E (j::i::l) st st')
  (hc:∀x y,ops[j]?=some x→ops[i]?=some y→clash ops x y ⟨j,(E j).rd,(E j).wr.map (·.1)⟩ ⟨i,(E i).rd,(E i).wr.map (·.1)⟩=false):RunL P Γ ops E (i::j::l) st st':=by
 obtain ⟨x,hx,h1,y,hy,h2,h3⟩:=h
 obtain ⟨c1,c2,c3,c4⟩:=clash_false (hc x y hx hy)
 refine ⟨y,hy,stepD_loc h2 (fun t ht=>?_) (fun t ht=>?_) (fun k hk=>?_),x,hx,stepD_loc h1 (fun t ht=>?_) (fun t ht=>?_) (fun k hk=>?_),?_⟩
 ·exact (St.eff_t (fun d hd e=>(c1 d hd).2.1 (e▸ht))).symm
 ·exact (St.eff_t (fun d hd e=>(c1 d hd).2.2 (e▸ht))).symm
 ·exact (qbA (fun hm=>(c3 k hm).1 hk)).symm
 ·exact St.eff_t (fun d hd e=>(c2 d hd).1 (e▸ht))
 ·exact St.eff_t (fun d hd e=>(c2 d hd).2 (e▸ht))
 ·exact qbA (fun hm=>(c4 k hm).1 hk)
 ·rw [←St.eff_comm (fun d hd=>(c1 d hd).1) (fun k hk=>(c3 k hk).2)]
  exact h3
theorem RunL.front {ops:List Oper} {E:Nat→Eff} {i:Nat}:∀{l:List Nat} {st st':St},l.Pairwise (· < ·)→i∈l→RunL P Γ ops E l st st'→
  (∀j∈l,j<i→∀x y,ops[j]?=some x→ops[i]?=some y→clash ops x y ⟨j,(E j).rd,(E j).wr.map (·.1)⟩ ⟨i,(E i).rd,(E i).wr.map (·.1)⟩=false)→RunL P Γ ops E (i::l.filter (fun j=>j !=i)) st st'
 |j::l,st,st',hp,hi,h,hc=>by
  rw [List.pairwise_cons] at hp
  rcases List.mem_cons.1 hi with rfl|hi
  ·have:(i::l).filter (fun j=>j !=i)=l:=by
    rw [List.filter_cons_of_neg (by simp)]
    refine List.filter_eq_self.2 fun k hk=>?_
    have:=hp.1 k hk
    simp;omega
   rw [this]
   exact h
  ·have hji:=hp.1 i hi
   obtain ⟨x,hx,h1,h2⟩:=h
   have ih:=RunL.front hp.2 hi h2 (fun k hk=>hc k (List.mem_cons_of_mem _ hk))
   have hf:(j::l).filter (fun j=>j !=i)=j::l.filter (fun j=>j !=i):=List.filter_cons_of_pos (by simp;omega)
   rw [hf]
   exact RunL.swap ⟨x,hx,h1,ih⟩ (hc j List.mem_cons_self hji)
def bitF (acc:List Nat) (o:Oper):Nat:=o.after.toList.foldl (fun s e=>if Region.binds .any e∧e.on<acc.length then s ||| 2 ^ e.on ||| acc.getD e.on 0 else s) 0
theorem bitF_test (acc:List Nat) (j:Nat):∀(l:List Edge) (s:Nat),(l.foldl (fun s e=>if Region.binds .any e∧e.on<acc.length then s ||| 2 ^ e.on ||| acc.getD e.on 0 else s) s).testBit j=true→s.testBit j=true∨∃e∈l,Region.binds .any e=true∧e.on<acc.length∧(j=e.on∨(acc.getD e.on 0).testBit j=true)
 |[],s,h=>Or.inl h
 |e::l,s,h=>by
  rw [List.foldl_cons] at h
  rcases bitF_test acc j l _ h with h1|⟨e',h1,h2⟩
  ·by_cases hc:Region.binds .any e∧e.on<acc.length
   ·rw [if_pos hc] at h1
    rw [Nat.testBit_or,Nat.testBit_or,Bool.or_eq_true,Bool.or_eq_true] at h1
    rcases h1 with (h1|h1)|h1
    ·exact Or.inl h1
    ·refine Or.inr ⟨e,List.mem_cons_self,hc.1,hc.2,Or.inl ?_⟩
     rw [Nat.testBit_two_pow] at h1
     exact (of_decide_eq_true h1).symm
    ·exact Or.inr ⟨e,List.mem_cons_self,hc.1,hc.2,Or.inr h1⟩
   ·rw [if_neg hc] at h1
    exact Or.inl h1
  ·exact Or.inr ⟨e',List.mem_cons_of_mem _ h1,h2⟩
theorem bitsOf_eq:∀(l:List Oper) (acc:List Nat),∃r,bitsOf l acc=acc++r∧∀k o,l[k]?=some o→(bitsOf l acc)[acc.length+k]?=some (bitF ((bitsOf l acc).take (acc.length+k)) o)
 |[],acc=>⟨[],by simp [bitsOf],fun k o h=>by simp at h⟩
 |o::l,acc=>by
  unfold bitsOf
  obtain ⟨r,h1,h2⟩:=bitsOf_eq l (acc++[bitF acc o])
  refine ⟨bitF acc o::r,by show bitsOf l (acc++[bitF acc o])=_;rw [h1];simp,fun k o' hk=>?_⟩
  cases k with
  |zero=>
   simp only [List.getElem?_cons_zero,Option.some.injEq] at hk
   subst hk
   have e1:(bitsOf l (acc++[bitF acc o]))=acc++bitF acc o::r:=by rw [h1];simp
   show (bitsOf l (acc++[bitF acc o]))[acc.length+0]?=some (bitF ((bitsOf l (acc++[bitF acc o])).take (acc.length+0)) o)
   rw [e1]
   simp
  |succ k=>
   rw [List.getElem?_cons_succ] at hk
   have:=h2 k o' hk
   rw [List.length_append,List.length_singleton] at this
   have e2:acc.length+(k+1)=acc.length+1+k:=by omega
   rw [e2]
   exact this
theorem bits_closed {ops:List Oper} {L:Nat→Prop} (hL:∀j o,L j→ops[j]?=some o→∀e∈o.after.toList,Region.binds .any e=true→L e.on):∀(i:Nat) (o:Oper),ops[i]?=some o→(∀e∈o.after.toList,Region.binds .any e=true→L e.on)→∀j,((bitsOf ops []).getD i 0).testBit j=true→L j:=by
 intro i
 induction i using Nat.strongRecOn with
 |ind i ih=>
  intro o ho he j hj
  obtain ⟨r,h1,h2⟩:=bitsOf_eq ops []
  have h3:=h2 i o ho
  simp only [List.length_nil,Nat.zero_add] at h3
  rw [List.getD_eq_getElem?_getD,h3] at hj
  have hlen:((bitsOf ops []).take i).length≤i:=by rw [List.length_take];omega
  rcases bitF_test _ j _ _ hj with h4|⟨e,h4,h5,h6,h7⟩
  ·simp at h4
  ·have hLe:=he e h4 h5
   rcases h7 with h7|h7
   ·rw [h7];exact hLe
   ·have hei:e.on<i:=by omega
    have hil:i<ops.length:=(List.getElem?_eq_some_iff.1 ho).1
    obtain ⟨o',ho'⟩:∃o',ops[e.on]?=some o':=⟨_,List.getElem?_eq_getElem (by omega)⟩
    refine ih e.on hei o' ho' (hL e.on o' hLe ho') j ?_
    rw [List.getD_eq_getElem?_getD] at h7 ⊢
    rw [List.getElem?_take,if_pos hei] at h7
    exact h7
theorem qf7 {ops:Array Oper} {tmps:Array Value} {j:Nat} {g:Oper} {d:Nat} {b:Bool} (hj:ops.toList[j]?=some g) (hd:g.dst=some d) (hv:tmps.getD d undef=.bool b):yielded ops tmps j=some b:=by
 have h1:ops[j]?=some g:=by rw [←Array.getElem?_toList];exact hj
 have h2:tmps[d]?=some (.bool b):=by
  cases e:tmps[d]? with
  |none=>
   rw [Array.getD_eq_getD_getElem?,e] at hv
   cases hv
  |some v=>
   rw [Array.getD_eq_getD_getElem?,e] at hv
   rw [show v=.bool b from hv]
 simp [yielded,h1,hd,h2]
theorem yielded_no {ops:Array Oper} {tmps:Array Value} {j:Nat} {g:Oper} {d:Nat} {vs:Array Value} (hj:ops.toList[j]?=some g) (hd:g.dst=some d) (hv:tmps.getD d undef=.tuple vs):yielded ops tmps j=none:=by
 have h1:ops[j]?=some g:=by rw [←Array.getElem?_toList];exact hj
 cases e:tmps[d]? with
 |none=>simp [yielded,h1,hd,e]
 |some v=>
  have:v=.tuple vs:=by
   rw [Array.getD_eq_getD_getElem?,e] at hv
   exact hv
  subst this
  simp [yielded,h1,hd,e]
theorem runs_wanted {ops:Array Oper} {o:Oper} {b:Bool} (ht:TmR G st w a.tmps) (h:runs ops.toList o st=some b):Region.wanted o (yielded ops a.tmps)=b:=by
 unfold runs at h
 unfold Region.wanted
 cases hg:o.guard with
 |none=>rw [hg] at h;cases h;rfl
 |some jw=>
  obtain ⟨j,want⟩:=jw
  rw [hg] at h
  simp only at h ⊢
  cases ho:ops.toList[j]? with
  |none=>rw [ho] at h;cases h
  |some g=>
   rw [ho] at h
   simp only at h
   cases hd:g.dst with
   |none=>rw [hd] at h;cases h
   |some d=>
    rw [hd] at h
    simp only at h
    have hT:=ht d
    split at h
    ·rename_i hq
     rw [hq] at hT
     have hv:a.tmps.getD d undef=.bool true:=(show LfR G st.o w (.bl true) _ from hT).2
     rw [qf7 ho hd hv]
     cases want<;>cases h<;>rfl
    ·rename_i hq
     rw [hq] at hT
     have hv:a.tmps.getD d undef=.bool false:=(show LfR G st.o w (.bl false) _ from hT).2
     rw [qf7 ho hd hv]
     cases want<;>cases h<;>rfl
    ·rename_i hq
     rw [hq] at hT
     obtain ⟨vs,hv,_⟩:=hT
     rw [yielded_no ho hd hv]
     cases h;rfl
    ·cases h
theorem normE_R {g:Bool} {e e':Eff} {v:Value} {w':World} {O:Nat→Obj} (h:normE g e=some e') (hs:StepR C G O w e v w'):StepR C G O w e' v w':=by
 cases g with
 |false=>cases h;exact hs
 |true=>
  obtain ⟨G',k1,k2,k3⟩:=hs
  have hl:=fun y hy=>SVR.leaf (y:=y) k3 hy
  unfold normE at h
  simp only at h
  unfold splitB at h
  split at h
  ·rename_i q;cases h;exact ⟨G',k1,k2,hl _ q⟩
  ·rename_i q;cases h;exact ⟨G',k1,k2,hl _ q⟩
  ·rename_i p i q
   have hv:v=.bool (@decide p i):=(hl _ q).2
   by_cases hp:p
   ·rw [if_pos hp] at h
    cases h
    exact ⟨G',k1,k2,(hl _ q).1,by rw [hv,@decide_eq_true _ i hp];rfl⟩
   ·rw [if_neg hp] at h
    cases h
    exact ⟨G',k1,k2,(hl _ q).1,by rw [hv,@decide_eq_false _ i hp];rfl⟩
  ·rename_i p i q
   have hv:v=.bool (!@decide p i):=(hl _ q).2
   by_cases hp:p
   ·rw [if_pos hp] at h
    cases h
    exact ⟨G',k1,k2,(hl _ q).1,by rw [hv,@decide_eq_true _ i hp];rfl⟩
   ·rw [if_neg hp] at h
    cases h
    exact ⟨G',k1,k2,(hl _ q).1,by rw [hv,@decide_eq_false _ i hp];rfl⟩
  ·rename_i z q
   have hz:[v]=[.bool z]:=(hl _ q).2
   have hv:v=.bool z:=by simpa using hz
   by_cases hp:(z:Bool)=true
   ·rw [if_pos hp] at h
    cases h
    exact ⟨G',k1,k2,(hl _ q).1,by rw [hv,hp];rfl⟩
   ·rw [if_neg hp] at h
    cases h
    exact ⟨G',k1,k2,(hl _ q).1,by rw [hv,Bool.eq_false_iff.2 hp];rfl⟩
  ·cases h
structure Inv (C:Ctx) (st:St) (w:World) (n:Nat) (a:Act) (G:Gh):Prop where
 core:Core C G st.o w
 tm:TmR G st w a.tmps
 size:a.tmps.size=n
 defers:a.defers=[]
theorem Inv.put {n:Nat} (h:Inv C st w n a G) {dst:Option Tmp} {e:Eff} {v:Value} {w':World} (hd:∀d,dst=some d→d<n) (hs:StepR C G st.o w e v w'):∃G',Inv C (st.eff dst e) w' n (a.put dst v) G':=by
 obtain ⟨G',k1,k2,k3⟩:=hs
 refine ⟨G',k1,fun t=>?_,?_,?_⟩
 ·have hold:SVR G' (upds st.o e.wr) w' (st.t t) (a.tmps.getD t undef):=(h.tm t).mono k2
  cases dst with
  |none=>exact hold
  |some d=>
   show SVR G' (upds st.o e.wr) w' (upd st.t d e.sv t) ((a.tmps.setIfInBounds d v).getD t undef)
   by_cases htd:t=d
   ·subst htd
    rw [qad]
    have hlt:t<a.tmps.size:=by rw [h.size];exact hd t rfl
    simp [hlt]
    exact k3
   ·rw [upd_ne _ _ htd]
    have:(a.tmps.setIfInBounds d v).getD t undef=a.tmps.getD t undef:=by
     rw [Array.getD_eq_getD_getElem?,Array.getD_eq_getD_getElem?,Array.getElem?_setIfInBounds_ne (Ne.symm htd)]
    rw [this]
    exact hold
 ·cases dst with
  |none=>exact h.size
  |some d=>show (a.tmps.setIfInBounds d v).size=n;rw [Array.size_setIfInBounds];exact h.size
 ·cases dst with
  |none=>exact h.defers
  |some d=>exact h.defers
theorem qff (hΓ:ΓOk P Γ) {n:Nat} (h:Inv C st w n a G) {ops:Array Oper} {i:Nat} {o:Oper} {e:Eff} (e1:stepD P Γ ops.toList i o st=some e) {K:Act→World→Prop} {Q:Exit→Act→World→Prop}
  (k:∀v w',StepR C G st.o w e v w'→K (a.put o.dst v) w'):if Region.wanted o (yielded ops a.tmps) then o.wp P a w K Q∨(o.asks P a w∧LetsOut Q) else K (a.put o.dst undef) w:=by
 unfold stepD at e1
 cases hr:runs ops.toList o st with
 |none=>rw [hr] at e1;cases e1
 |some b=>
  rw [hr] at e1
  rw [runs_wanted h.tm hr]
  cases b with
  |false=>
   cases e1
   simp only [Bool.false_eq_true,if_false]
   exact k undef w (StepR.pure h.core ⟨#[],rfl,trivial⟩)
  |true=>
   simp only at e1
   simp only [if_true]
   cases h1:opK P Γ o st some with
   |none=>rw [h1] at e1;cases e1
   |some e0=>
    rw [h1] at e1
    exact Or.inl (op_sound hΓ h.core h.tm h1 fun v w' hs=>k v w' (normE_R e1 hs))
theorem qgi (hΓ:ΓOk P Γ) {n:Nat} {ops:Array Oper} {E:Nat→Eff} (hd:∀o∈ops.toList,∀d,o.dst=some d→d<n) {Q:Exit→Act→World→Prop}:∀(l:List Nat) {st st':St} {a:Act} {w:World} {G:Gh},Inv C st w n a G→RunL P Γ ops.toList E l st st'→
  (∀a' w' G',Inv C st' w' n a' G'→Q .normal a' w')→wpOps P ops Q l a w
 |[],st,st',a,w,G,h,hr,k=>by
  cases hr
  exact k a w G h
 |i::l,st,st',a,w,G,h,⟨o,ho,hs,hr⟩,k=>by
  have ho':ops[i]?=some o:=by rw [←Array.getElem?_toList];exact ho
  rw [wpOps_cons]
  unfold wpOp
  rw [ho']
  simp only
  refine qff hΓ h hs fun v w' hst=>?_
  obtain ⟨G',h'⟩:=h.put (fun d hdd=>hd o (List.mem_of_getElem? ho) d hdd) hst
  exact qgi hΓ hd l h' hr k
theorem orderOk_spec {ops:List Oper} {lg:List Log} (h:orderOk ops lg=true) {la lb:Log} (ha:la∈lg) (hb:lb∈lg) (hlt:la.i<lb.i) (hbit:((bitsOf ops []).getD lb.i 0).testBit la.i=false) {x y:Oper} (hx:ops[la.i]?=some x) (hy:ops[lb.i]?=some y):clash ops x y la lb=false:=by
 unfold orderOk at h
 have h1:=List.all_eq_true.1 (List.all_eq_true.1 h lb hb) la ha
 rw [if_pos hlt,hbit,hx,hy] at h1
 simpa using h1
def qcd (n:Nat) (listed:Array Bool):List Nat:=(List.range n).filter fun j=>!listed.getD j false
def qed (ops:List Oper):Bool:=(ixs 0 ops).all fun p=>p.2.after.toList.all fun e=>!Region.binds .any e || decide (e.on<p.1)
theorem ixs_mem:∀(l:List Oper) (n k:Nat) (o:Oper),l[k]?=some o→(n+k,o)∈ixs n l
 |[],_,_,_,h=>by simp at h
 |x::l,n,0,o,h=>by
  simp only [List.getElem?_cons_zero,Option.some.injEq] at h
  subst h
  exact List.mem_cons_self
 |x::l,n,k+1,o,h=>by
  rw [List.getElem?_cons_succ] at h
  have:=ixs_mem l (n+1) k o h
  have e:n+1+k=n+(k+1):=by omega
  rw [e] at this
  exact List.mem_cons_of_mem _ this
theorem elders {ops:List Oper} (h:qed ops=true) {i:Nat} {o:Oper} (ho:ops[i]?=some o):∀e∈o.after.toList,Region.binds .any e=true→e.on<i:=by
 intro e he hb
 have h1:=List.all_eq_true.1 h _ (ixs_mem ops 0 i o ho)
 have h2:=List.all_eq_true.1 h1 e he
 rw [hb] at h2
 simpa using h2
theorem getD_set {l:Array Bool} {i j:Nat} (hi:i<l.size):(l.setIfInBounds i true).getD j false=if j=i then true else l.getD j false:=by
 rw [Array.getD_eq_getD_getElem?,Array.getD_eq_getD_getElem?]
 by_cases h:j=i
 ·subst h
  simp [hi]
 ·rw [if_neg h,Array.getElem?_setIfInBounds_ne (Ne.symm h)]
theorem rest_set {n:Nat} {l:Array Bool} {i:Nat} (hl:l.size=n) (hi:i<n):qcd n (l.setIfInBounds i true)=(qcd n l).filter (fun j=>j !=i):=by
 unfold qcd
 rw [List.filter_filter]
 apply List.filter_congr
 intro j _
 rw [getD_set (by omega)]
 by_cases h:j=i
 ·subst h;simp
 ·simp [h]
theorem any_sound (hΓ:ΓOk P Γ) {n:Nat} {ops:Array Oper} {E:Nat→Eff} (hd:∀o∈ops.toList,∀d,o.dst=some d→d<n) (hel:qed ops.toList=true) {Q:Exit→Act→World→Prop}
  (hcl:∀j i x y,j<i→i<ops.size→((bitsOf ops.toList []).getD i 0).testBit j=false→ops.toList[j]?=some x→ops.toList[i]?=some y→clash ops.toList x y ⟨j,(E j).rd,(E j).wr.map (·.1)⟩ ⟨i,(E i).rd,(E i).wr.map (·.1)⟩=false) {st':St}
  (k:∀a' w' G',Inv C st' w' n a' G'→Q .normal a' w'):∀(fuel:Nat) (listed:Array Bool) {st:St} {a:Act} {w:World} {G:Gh},listed.size=ops.size→(qcd ops.size listed).length≤fuel→
  (∀j o,listed.getD j false=true→ops.toList[j]?=some o→∀e∈o.after.toList,Region.binds .any e=true→listed.getD e.on false=true)→
  RunL P Γ ops.toList E (qcd ops.size listed) st st'→Inv C st w n a G→wpAny P .any ops Q fuel listed a w:=by
 have mem_ready:∀(listed:Array Bool) (i:Nat),listed.size=ops.size→(i∈Region.ready .any ops listed↔i<ops.size∧listed.getD i false=false∧∃o,ops.toList[i]?=some o∧∀e∈o.after.toList,Region.binds .any e=true→listed.getD e.on false=true):=by
  intro listed i hsz
  unfold Region.ready
  rw [List.mem_filter,List.mem_range,Bool.and_eq_true]
  constructor
  ·rintro ⟨h1,h2,h3⟩
   refine ⟨h1,?_,?_⟩
   ·rw [Array.getD_eq_getD_getElem?] at h2 ⊢
    have:listed[i]?=some listed[i]:=Array.getElem?_eq_getElem (by omega)
    rw [this] at h2 ⊢
    simpa using h2
   ·have ho:ops[i]?=some ops[i]:=Array.getElem?_eq_getElem h1
    rw [ho] at h3
    refine ⟨ops[i],by rw [Array.getElem?_toList];exact ho,fun e he hb=>?_⟩
    simp only [Option.map_some,Option.getD_some] at h3
    rw [Array.all_eq_true_iff_forall_mem] at h3
    have:=h3 e (by simpa using he)
    rw [hb] at this
    simpa using this
  ·rintro ⟨h1,h2,o,ho,h3⟩
   refine ⟨h1,?_,?_⟩
   ·rw [Array.getD_eq_getD_getElem?] at h2 ⊢
    have:listed[i]?=some listed[i]:=Array.getElem?_eq_getElem (by omega)
    rw [this] at h2 ⊢
    simpa using h2
   ·have ho':ops[i]?=some o:=by rw [←Array.getElem?_toList];exact ho
    rw [ho']
    simp only [Option.map_some,Option.getD_some]
    rw [Array.all_eq_true_iff_forall_mem]
    intro e he
    cases hb:Region.binds .any e with
    |false=>rfl
    |true=>simpa using h3 e (by simpa using he) hb
 have ready_rest:∀(listed:Array Bool),listed.size=ops.size→Region.ready .any ops listed=[]→qcd ops.size listed=[]:=by
  intro listed hsz hr
  -- the least one that is left is ready
  have hnone:∀i,i<ops.size→listed.getD i false=true:=by
   intro i
   induction i using Nat.strongRecOn with
   |ind i ih=>
    intro hi
    cases hli:listed.getD i false with
    |true=>rfl
    |false=>
     have hmem:i∈Region.ready .any ops listed:=by
      rw [mem_ready listed i hsz]
      have ho:ops.toList[i]?=some ops[i]:=by rw [Array.getElem?_toList];exact Array.getElem?_eq_getElem hi
      refine ⟨hi,hli,ops[i],ho,fun e he hb=>?_⟩
      have hlt:=elders hel ho e he hb
      exact ih e.on hlt (by omega)
     rw [hr] at hmem;cases hmem
  unfold qcd
  rw [List.filter_eq_nil_iff]
  intro j hj
  rw [hnone j (List.mem_range.1 hj)]
  simp
 intro fuel
 induction fuel with
 |zero=>
  intro listed st a w G hsz hlen hclosed hrun h
  have hrest:qcd ops.size listed=[]:=List.eq_nil_of_length_eq_zero (by omega)
  have hready:Region.ready .any ops listed=[]:=by
   apply List.eq_nil_iff_forall_not_mem.2
   intro i hi
   obtain ⟨h1,h2,_⟩:=(mem_ready listed i hsz).1 hi
   have:i∈qcd ops.size listed:=by
    unfold qcd
    rw [List.mem_filter]
    exact ⟨List.mem_range.2 h1,by rw [h2];rfl⟩
   rw [hrest] at this;cases this
  refine ⟨hready,?_⟩
  rw [hrest] at hrun
  cases hrun
  exact k a w G h
 |succ fuel ih=>
  intro listed st a w G hsz hlen hclosed hrun h
  refine ⟨fun hr=>?_,fun i hi=>?_⟩
  ·rw [ready_rest listed hsz hr] at hrun
   cases hrun
   exact k a w G h
  ·obtain ⟨hin,hli,o,ho,hpre⟩:=(mem_ready listed i hsz).1 hi
   have hmem:i∈qcd ops.size listed:=by
    unfold qcd
    rw [List.mem_filter]
    exact ⟨List.mem_range.2 hin,by rw [hli];rfl⟩
   have hpair:(qcd ops.size listed).Pairwise (· < ·):=List.Pairwise.filter _ List.pairwise_lt_range
   have hfront:=RunL.front hpair hmem hrun (fun j hj hji x y hx hy=>by
    refine hcl j i x y hji hin ?_ hx hy
    cases hb:((bitsOf ops.toList []).getD i 0).testBit j with
    |false=>rfl
    |true=>
     have:=bits_closed (L:=fun j=>listed.getD j false=true) (fun j o hl hjo=>hclosed j o hl hjo) i o ho hpre j hb
     unfold qcd at hj
     rw [List.mem_filter,this] at hj
     simp at hj)
   rw [←rest_set hsz hin] at hfront
   obtain ⟨o',ho',hst,hrun'⟩:=hfront
   have:o'=o:=by rw [ho] at ho';exact (Option.some.inj ho').symm
   subst this
   have hoa:ops[i]?=some o':=by rw [←Array.getElem?_toList];exact ho
   unfold wpOp
   rw [hoa]
   simp only
   refine qff hΓ h hst fun v w' hs=>?_
   obtain ⟨G',h'⟩:=h.put (fun d hdd=>hd o' (List.mem_of_getElem? ho) d hdd) hs
   refine ih _ (by rw [Array.size_setIfInBounds];exact hsz) ?_ ?_ hrun' h'
   ·rw [rest_set hsz hin]
    have h1:((qcd ops.size listed).filter (fun j=>j !=i)).length<(qcd ops.size listed).length:=by
     refine List.length_filter_lt_length_iff_exists.2 ⟨i,hmem,by simp⟩
    omega
   ·intro j o2 hl hj e he hb
    rw [getD_set (by omega)] at hl ⊢
    by_cases hji:j=i
    ·subst hji
     have:o2=o':=by rw [ho] at hj;exact (Option.some.inj hj).symm
     subst this
     by_cases hei:e.on=j
     ·rw [if_pos hei]
     ·rw [if_neg hei];exact hpre e he hb
    ·rw [if_neg hji] at hl
     by_cases hei:e.on=i
     ·rw [if_pos hei]
     ·rw [if_neg hei];exact hclosed j o2 hl hj e he hb
theorem reg_sound (hΓ:ΓOk P Γ) (hm:P.follows .mixedOrders=true) {R:Type} {n:Nat} {id:Nat} {ops:Array Oper} {draw:Bool} (hd:∀o∈ops.toList,∀d,o.dst=some d→d<n) (hel:qed ops.toList=true) (h:Inv C st w n a G) {k:St→Option R} {r:R}
  (hk:regK P Γ ops.toList draw st k=some r):∃st',k st'=some r∧(Code.region id ops draw).wp P (fun e a' w'=>e=.normal∧∃G',Inv C st' w' n a' G') a w:=by
 unfold regK at hk
 obtain ⟨E,st',lg,h1,h2,_,h4⟩:=runK_run (P:=P) (Γ:=Γ) (ops:=ops.toList) ops.toList [] rfl hk
 simp only [List.length_nil,Array.length_toList] at h1 h4
 have hr:List.range' 0 ops.size=List.range ops.size:=(List.range_eq_range' (n:=ops.size)).symm
 rw [hr] at h1 h4
 cases draw with
 |false=>
  exact ⟨st',h2,wp_region (qgi hΓ hd _ h h1 fun a' w' G' hI=>⟨rfl,G',hI⟩)⟩
 |true=>
  simp only at h2
  cases ho:orderOk ops.toList lg with
  |false=>rw [ho] at h2;cases h2
  |true=>
   rw [ho] at h2
   refine ⟨st',h2,wp_region_any hm ?_⟩
   have hrest:qcd ops.size (Array.replicate ops.size false)=List.range ops.size:=by
    unfold qcd
    rw [List.filter_eq_self]
    intro j hj
    have:=List.mem_range.1 hj
    simp [Array.getD_eq_getD_getElem?,this]
   have hdraw:Inv C st {w with drawn:=w.drawn+1} n a G:=by
    obtain ⟨c1,c2⟩:=h.core.world (w':={w with drawn:=w.drawn+1}) rfl rfl rfl rfl
    exact ⟨c1,fun t=>(h.tm t).mono c2,h.size,h.defers⟩
   refine any_sound hΓ hd hel (E:=E) (fun j i x y hji hi hb hx hy=>?_) (fun a' w' G' hI=>⟨rfl,G',hI⟩) ops.size _ (by simp) (by rw [hrest];simp) (fun j o hl=>by
    rw [Array.getD_eq_getD_getElem?] at hl
    by_cases hj:j<ops.size
    ·simp [hj] at hl
    ·simp [hj] at hl) (by rw [hrest];exact h1) hdraw
   exact orderOk_spec ho (h4 j (List.mem_range.2 (by omega))) (h4 i (List.mem_range.2 hi)) hji hb hx hy
end
end Go.Proofs.YtfobeapcmgjhbaaGreatDoor.VE
namespace Go.Proofs.YtfobeapcmgjhbaaGreatDoor.VE
open Go Go.RowKit
section
variable {P:Program} {C:Ctx} {G:Gh} {st:St} {w:World} {a:Act}
theorem view_core {O:Nat→Obj} (h:Core C G O w) {c:Cut} {g:Gr} {cms:List Cm} {os:List (Nat×Obj)} {vs:List Value} (V:View C G O w c C.fx g cms os vs) (hk:kxOk C.kx O=true):Core C (renG G O g) (ofL os) w where
 ob:=V.objs C (fun d d' b hd hl hm=>(h.qbR hl hm).2.1)
 injB:=V.inj
 F1:=V.F1
 F2 b hb:=V.ren.F b (h.F2 b hb)
 F3 b hb:=(V.F3 b hb).elim (h.F3 b) Or.inr
 keep:=h.keep
 size:=h.size
 fix d hd:=by
  have hl:=V.fixed d hd
  refine ⟨(V.keys d).2 ⟨_,hl⟩,fun hlv=>?_⟩
  obtain ⟨v1,v2⟩:=V.live d d hl
  have hlv':(O d).live=true:=by rw [←v1];exact hlv
  obtain ⟨q1,q2,q3⟩:=(h.fix d hd).2 hlv'
  exact ⟨by simp only [renG,hl];exact q1,by simp only [renG,hl];exact q2,v2.trans q3⟩
 kept d v e e2 t xss pd hd hx hO:=by
  have hl:=V.fixed d hd
  obtain ⟨_,_,_,r4,_,r6⟩:=V.ren.obj d d hl
  have hO':upds (fun _=>Obj.no) os d=.deep v e e2 t xss pd:=hO
  have hv:=(V.okd d _ _ _ _ _ _ hO').1
  rw [hO'] at r4
  cases e0:O d with
  |deep u a b t0 xs pd0=>
   rw [e0] at r4 r6
   obtain ⟨_,rfl,_,r7⟩:=r4
   have hu:u=0:=by
    have:=List.all_eq_true.1 hk d hx
    rw [e0] at this
    exact Nat.eq_of_beq_eq_true this
   subst hu
   obtain ⟨q1,q2⟩:=h.kept d _ _ _ _ _ _ hd hx e0
   refine ⟨r6.trans q1,fun _ i=>(r7 i).symm.trans (q2 rfl i)⟩
  |_=>rw [e0] at r4;exact r4.elim
theorem zip_get {α β:Type}:∀{l:List α} {m:List β} {x:α×β},x∈l.zip m→∃i:Nat,l[i]?=some x.1∧m[i]?=some x.2
 |[],_,_,h=>by simp at h
 |_::_,[],_,h=>by simp at h
 |a::l,b::m,x,h=>by
  rw [List.zip_cons_cons] at h
  rcases List.mem_cons.1 h with rfl|h
  ·exact ⟨0,rfl,rfl⟩
  ·obtain ⟨i,h1,h2⟩:=zip_get h
   exact ⟨i+1,by simpa using h1,by simpa using h2⟩
theorem cmsAt_R (ht:TmR G st w a.tmps):∀l:List Nat,All2 (CmR G st.o w) (cmsAt st l) (l.map fun t=>a.tmps.getD t undef)
 |[]=>trivial
 |t::l=>⟨(ht t).cm,cmsAt_R ht l⟩
theorem toK_sound {R:Type} {n:Nat} (h:Inv C st w n a G) {hh:Hint R} {r:R} (e:toK hh C.fx C.kx st=some r):∃x G',hh.k x=some r∧Inv C (hh.c.st x) w n a G':=by
 unfold toK at e
 obtain ⟨G1,c1,hcm⟩:=normA_ok (qcG hh.c.objs) (hh.c.slots.map (·.2)) hh.c.objs _ h.core (cmsAt_R h.tm (hh.c.slots.map (·.1)))
 revert c1 hcm e
 generalize norm (qcG hh.c.objs) (hh.c.slots.map (·.2)) (cmsAt st (hh.c.slots.map (·.1))) st.o=nr
 obtain ⟨cs,o⟩:=nr
 intro e c1 hcm
 simp only at e c1 hcm
 split at e
 ·cases e
 rename_i hkx
 split at e
 ·rename_i g x hg
  obtain ⟨cms,os,hp,V⟩:=grab_ok c1 hcm hg
  refine ⟨x,renG G1 (normB (qcG hh.c.objs) hh.c.objs o) g,e,?_,?_,h.size,h.defers⟩
  ·unfold Cut.st;rw [hp]
   exact view_core c1 V hkx
  ·intro t
   unfold Cut.st;rw [hp]
   show SVR (renG G1 (normB (qcG hh.c.objs) hh.c.objs o) g) (ofL os) w (upds (fun _=>SV.u) ((hh.c.slots.map (·.1)).zip (cms.map .c)) t) _
   rcases qbM ((hh.c.slots.map (·.1)).zip (cms.map .c)) (fun _=>SV.u) t with ⟨_,h2⟩|⟨v,h1,h2⟩
   ·rw [h2];trivial
   ·rw [h2]
    obtain ⟨i,i1,i2⟩:=zip_get h1
    simp only at i1 i2
    rw [List.getElem?_map] at i2
    cases hc:cms[i]? with
    |none=>rw [hc] at i2;cases i2
    |some cm=>
     rw [hc] at i2
     cases i2
     refine V.slots.get i hc ?_
     rw [List.getElem?_map,i1];rfl
 ·cases e
def Runs (P:Program) (f:FuncId) (todo:List Item) (a:Act) (w:World) (Q:Ending→World→Prop):Prop:=
 ∀(b:Frame) (cs:List Frame),b.fn=f→b.kind=.normal→∃e w' fr,Q e w'∧Comes P (lone (b.at a todo) cs w) (lone fr cs w') e∧fr.fn=f∧fr.leaving P w' e
theorem Runs.one {f:FuncId} {todo todo':List Item} {a:Act} {w:World} {Q:Ending→World→Prop} (hs:∀(b:Frame) cs,step P (lone (b.at a todo) cs w)=.next (lone (b.at a todo') cs w)) (h:Runs P f todo' a w Q):Runs P f todo a w Q:=by
 intro b cs hb hk
 obtain ⟨e,w',fr,h1,h2,h3,h4⟩:=h b cs hb hk
 exact ⟨e,w',fr,h1,Comes.of_steps (.one (hs b cs)) h2,h3,h4⟩
theorem Runs.region {f:FuncId} {c:Code} {k:List Item} {a:Act} {w:World} {Q:Ending→World→Prop} {R:Act→World→Prop} (hc:c.wp P (fun e a' w'=>e=.normal∧R a' w') a w) (h:∀a' w',R a' w'→Runs P f k a' w' Q):Runs P f (.code c::k) a w Q:=by
 intro b cs hb hk
 obtain ⟨e,a',w',⟨rfl,hR⟩,harr⟩:=hc b k cs
 obtain ⟨e2,w2,fr,h1,h2,h3,h4⟩:=h a' w' hR b cs hb hk
 exact ⟨e2,w2,fr,h1,Comes.of_steps harr h2,h3,h4⟩
theorem Runs.ends {f:FuncId} {fn:Func} {todo todo':List Item} {a:Act} {w:World} {Q:Ending→World→Prop} {v:Value} (hf:P.funcs[f]?=some fn) (hd:a.defers=[]) (hr:(results fn a.tmps).run P w=.ok v w)
  (hs:∀(b:Frame) cs,step P (lone (b.at a todo) cs w)=.next (lone {b.at a todo' with mode:=.returning} cs w)) (hq:Q (.returned v) w):Runs P f todo a w Q:=by
 intro b cs hb hk
 refine ⟨.returned v,w,{b.at a todo' with mode:=.returning},hq,Steps.one (hs b cs),hb,rfl,hd,hk,fn,?_,hr⟩
 show P.funcs[b.fn]?=some fn
 rw [hb];exact hf
def Post (C:Ctx) (cout:Cut) (y:prods cout.tys) (e:Ending) (w':World):Prop:=
 ∃vs G' cms' os',e=.returned (qgb vs)∧cout.put y=some (cms',os')∧Core C G' (ofL os') w'∧All2 (CmR G' (ofL os') w') cms' vs
def resOne (tmps:Array Value):ResultVar→Sem Value
 |.tmp t=>pure (tmps.getD t undef)
 |.cell x t=>do loadVar t (←asAddr (tmps.getD x undef))
theorem results_eq (fn:Func) (tmps:Array Value):results fn tmps=(do
  let vs ←fn.results.mapM (resOne tmps)
  return if h:vs.size=1 then vs[0] else .tuple vs):=rfl
theorem res_R {n:Nat} (h:Inv C st w n a G):∀{l:List ResultVar} {cs:List Cm},qde P st l=some cs→
  ∃vs:List Value,(l.mapM (resOne a.tmps)).run P w=.ok vs w∧All2 (CmR G st.o w) cs vs
 |[],cs,e=>by cases e;exact ⟨[],rfl,trivial⟩
 |r::l,cs,e=>by
  unfold qde at e
  cases e1:qde P st l with
  |none=>rw [e1] at e;cases e
  |some cs1=>
   rw [e1] at e
   obtain ⟨vs,h1,h2⟩:=res_R h e1
   cases r with
   |tmp t=>
    cases e
    refine ⟨a.tmps.getD t undef::vs,?_,(h.tm t).cm,h2⟩
    rw [List.mapM_cons,Sem.run_bind]
    show ((pure (a.tmps.getD t undef):Sem Value).run P w).andThen _=_
    rw [Sem.run_pure,Result.andThen_ok,Sem.run_bind,h1]
    rfl
   |cell x t=>
    simp only at e
    split at e
    ·rename_i ef hl
     cases e
     obtain ⟨v,v1,v2,_⟩:=qgk (P:=P) (w:=w) (a:=a.tmps.getD x undef) h.core hl (fun y hy=>(h.tm x).leaf hy)
     refine ⟨v::vs,?_,v2.cm,h2⟩
     have hp:∃q,a.tmps.getD x undef=.pointer (some q):=by
      unfold Instr.loadAt Instr.sureAddr at v1
      split at v1
      ·rename_i q hq;exact ⟨q,hq⟩
      ·simp at v1
     obtain ⟨q,hq⟩:=hp
     rw [hq] at v1
     rw [List.mapM_cons,Sem.run_bind]
     have:(resOne a.tmps (.cell x t)).run P w=.ok v w:=by
      show (do loadVar t (←asAddr (a.tmps.getD x undef)):Sem Value).run P w=.ok v w
      rw [hq]
      simpa [Instr.loadAt,Instr.sureAddr,asAddr] using v1
     rw [this,Result.andThen_ok,Sem.run_bind,h1]
     rfl
    ·cases e
theorem retVal_eq (vs:List Value):(if h:vs.toArray.size=1 then vs.toArray[0] else .tuple vs.toArray)=qgb vs:=by
 match vs with
 |[]=>rfl
 |[v]=>rfl
 |_::_::_=>rfl
theorem go_sound {n:Nat} (h:Inv C st w n a G) {fn:Func} {F:Fin P} (hfx:F.fixed=C.fx) (hkx:F.kx=C.kx) (hres:fn.results.toList=F.res) {y:prods F.cout.tys} (e:F.go st=some y):∃v,(results fn a.tmps).run P w=.ok v w∧Post C F.cout y (.returned v) w:=by
 unfold Fin.go at e
 split at e
 ·rename_i cs hcs
  obtain ⟨vs,h1,h2⟩:=res_R h hcs
  obtain ⟨G1,c1,hcm⟩:=normA_ok (qcG F.cout.objs) (F.cout.slots.map (·.2)) F.cout.objs _ h.core h2
  revert c1 hcm e
  generalize norm (qcG F.cout.objs) (F.cout.slots.map (·.2)) cs st.o=nr
  obtain ⟨cs',o⟩:=nr
  intro e c1 hcm
  simp only at e c1 hcm
  split at e
  ·cases e
  rename_i hk
  rw [hkx] at hk
  split at e
  ·rename_i g x hg
   cases e
   rw [hfx] at hg
   obtain ⟨cms,os,hp,V⟩:=grab_ok c1 hcm hg
   refine ⟨qgb vs,?_,vs,renG G1 _ g,cms,os,rfl,hp,view_core c1 V hk,V.slots⟩
   rw [results_eq,Sem.run_bind,Array.mapM_eq_mapM_toList,hres,Sem.run_map,h1]
   simp only [Result.andThen_ok,Sem.run_pure]
   rw [←retVal_eq]
  ·cases e
 ·cases e
def WF (S:List (Nat×List Oper×Bool×List Item)):List Item→Prop
 |[]=>True
 |.code c::k=>(∀s∈sites c k,s∈S)∧WF S k
 |.inBlock _::k=>WF S k
 |.inLoop b::k=>(∀s∈sites b (.inLoop b::k),s∈S)∧WF S k
 |_::_=>False
theorem exit_WF {S:List (Nat×List Oper×Bool×List Item)} {id:Nat}:∀{k k':List Item},exitTo id k=some k'→WF S k→WF S k'
 |[],_,e,_=>by cases e
 |.inBlock j::k,k',e,h=>by
  unfold exitTo at e
  split at e
  ·cases e;exact h
  ·exact exit_WF e h
 |.code c::k,k',e,h=>exit_WF (k:=k) e h.2
 |.inLoop b::k,k',e,h=>exit_WF (k:=k) e h.2
 |.inRegion _ _::_,_,_,h=>h.elim
 |.inScope _::_,_,_,h=>h.elim
 |.inRangeFunc _::_,_,_,h=>h.elim
 |.endRangeFunc _::_,_,_,h=>h.elim
 |.beginRound::_,_,_,h=>h.elim
 |.call _ _ _ _::_,_,_,h=>h.elim
 |.extern _ _::_,_,_,h=>h.elim
theorem qdN {S:List (Nat×List Oper×Bool×List Item)}:∀(c:Code) {k:List Item},WF S k→(∀s∈sites c k,s∈S)→∀s∈sites c k,WF S s.2.2.2
 |.region id ops draw,k,hk,_,s,hs=>by
  rw [List.mem_singleton.1 hs];exact hk
 |.seq x y,k,hk,hS,s,hs=>by
  have h1:∀s∈sites y k,s∈S:=fun s hs=>hS s (List.mem_append_right _ hs)
  rcases List.mem_append.1 hs with hs|hs
  ·exact qdN x (k:=.code y::k) ⟨h1,hk⟩ (fun s hs=>hS s (List.mem_append_left _ hs)) s hs
  ·exact qdN y hk h1 s hs
 |.cond c x y,k,hk,hS,s,hs=>by
  rcases List.mem_append.1 hs with hs|hs
  ·exact qdN x hk (fun s hs=>hS s (List.mem_append_left _ hs)) s hs
  ·exact qdN y hk (fun s hs=>hS s (List.mem_append_right _ hs)) s hs
 |.block id b,k,hk,hS,s,hs=>qdN b (k:=.inBlock id::k) hk hS s hs
 |.loop b,k,hk,hS,s,hs=>qdN b (k:=.inLoop b::k) ⟨hS,hk⟩ hS s hs
 |.skip,_,_,_,_,hs=>by cases hs
 |.rangeFunc _ _ _ _,_,_,_,_,hs=>by cases hs
 |.exit _,_,_,_,_,hs=>by cases hs
 |.scope _,_,_,_,_,hs=>by cases hs
 |.label _,_,_,_,_,hs=>by cases hs
 |.goto _,_,_,_,_,hs=>by cases hs
 |.ret,_,_,_,_,hs=>by cases hs
 |.refuse _,_,_,_,_,hs=>by cases hs
def sitesOk (N:Nat) (S:List (Nat×List Oper×Bool×List Item)):Bool:=S.all fun s=>(s.2.1.all fun o=>match o.dst with|some d=>decide (d<N)|none=>true) && qed s.2.1
theorem qfk {N:Nat} {S:List (Nat×List Oper×Bool×List Item)} (h:sitesOk N S=true) {s:Nat×List Oper×Bool×List Item} (hs:s∈S):(∀o∈s.2.1,∀d,o.dst=some d→d<N)∧qed s.2.1=true:=by
 have h1:=List.all_eq_true.1 h s hs
 rw [Bool.and_eq_true] at h1
 refine ⟨fun o ho d hd=>?_,h1.2⟩
 have:=List.all_eq_true.1 h1.1 o ho
 rw [hd] at this
 exact of_decide_eq_true this
theorem mem_look {α:Type}:∀{l:List (Nat×α)} {d:Nat} {v:α},nodupB (l.map (·.1))=true→(d,v)∈l→look l d=some v
 |(k,v')::l,d,v,hn,h=>by
  obtain ⟨h1,h2⟩:=qdQ hn
  rw [qcC]
  rcases List.mem_cons.1 h with h|h
  ·cases h;rw [if_pos rfl]
  ·have:d≠k:=fun hk=>h1 (hk▸List.mem_map.2 ⟨(d,v),h,rfl⟩)
   rw [if_neg this]
   exact mem_look h2 h
def SoundK (P:Program) (C:Ctx) (f:FuncId) (N:Nat) (F:Fin P) (S:List (Nat×List Oper×Bool×List Item)) (T:Nat→Option (Hint (prods F.cout.tys))):Prop:=
 ∀id h x r,T id=some h→h.k x=some r→∀(ops:Array Oper) draw k,(id,ops.toList,draw,k)∈S→∀(a:Act) (w:World) (G:Gh),Inv C (h.c.st x) w N a G→Runs P f (.code (.region id ops draw)::k) a w (Post C F.cout r)
variable {Γ:Env}
theorem cond_R {x:Operand} {n:Nat} (h:Inv C st w n a G) {R:Type} {X:Bool→Option R} {r:R} (e:splitB (ev st x).leaf X=some r):∃d,a.eval x=.bool d∧X d=some r:=by
 have hl:=qaT h.tm x
 unfold splitB at e
 split at e
 ·rename_i q;exact ⟨true,(hl _ q).2,e⟩
 ·rename_i q;exact ⟨false,(hl _ q).2,e⟩
 ·rename_i p i q
  have hv:a.eval x=.bool (@decide p i):=(hl _ q).2
  by_cases hp:p
  ·rw [if_pos hp] at e
   exact ⟨true,by rw [hv,@decide_eq_true _ i hp],e⟩
  ·rw [if_neg hp] at e
   exact ⟨false,by rw [hv,@decide_eq_false _ i hp],e⟩
 ·rename_i p i q
  have hv:a.eval x=.bool (!@decide p i):=(hl _ q).2
  by_cases hp:p
  ·rw [if_pos hp] at e
   exact ⟨false,by rw [hv,@decide_eq_true _ i hp];rfl,e⟩
  ·rw [if_neg hp] at e
   exact ⟨true,by rw [hv,@decide_eq_false _ i hp];rfl,e⟩
 ·rename_i z q
  have hz:[a.eval x]=[.bool z]:=(hl _ q).2
  have hv:a.eval x=.bool z:=by simpa using hz
  by_cases hp:(z:Bool)=true
  ·rw [if_pos hp] at e
   exact ⟨true,by rw [hv,hp],e⟩
  ·rw [if_neg hp] at e
   exact ⟨false,by rw [hv,Bool.eq_false_iff.2 hp],e⟩
 ·cases e
theorem qbL (hΓ:ΓOk P Γ) (hm:P.follows .mixedOrders=true) {f:FuncId} {fn:Func} {N:Nat} {F:Fin P} {S:List (Nat×List Oper×Bool×List Item)} {T:Nat→Option (Hint (prods F.cout.tys))} (hf:P.funcs[f]?=some fn) (hfx:F.fixed=C.fx∧F.kx=C.kx) (hres:fn.results.toList=F.res)
  (hS:sitesOk N S=true) (hK:SoundK P C f N F S T):∀(m:Nat) (todo:List Item) {st:St} {a:Act} {w:World} {G:Gh} {r:prods F.cout.tys},goK Γ F T m todo st=some r→WF S todo→Inv C st w N a G→Runs P f todo a w (Post C F.cout r)
 |0,_,st,a,w,G,r,e,_,_=>by cases e
 |m+1,[],st,a,w,G,r,e,_,h=>by
  obtain ⟨v,h1,h2⟩:=go_sound h hfx.1 hfx.2 hres (show F.go st=some r from e)
  exact Runs.ends hf h.defers h1 (fun b cs=>step_end) h2
 |m+1,.inBlock id::k,st,a,w,G,r,e,hw,h=>Runs.one (fun b cs=>step_inBlock) (qbL hΓ hm hf hfx hres hS hK m k e hw h)
 |m+1,.inLoop b::k,st,a,w,G,r,e,hw,h=>Runs.one (fun b' cs=>step_inLoop) (qbL hΓ hm hf hfx hres hS hK m (.code b::.inLoop b::k) e ⟨hw.1,hw⟩ h)
 |m+1,.code c::k,st,a,w,G,r,e,hw,h=>by
  cases c with
  |skip=>exact Runs.one (fun b cs=>step_skip) (qbL hΓ hm hf hfx hres hS hK m k e hw.2 h)
  |region id ops draw=>
   have hin:(id,ops.toList,draw,k)∈S:=hw.1 _ (List.mem_singleton.2 rfl)
   have e':(match T id with
    |some h=>toK h F.fixed F.kx st
    |none=>regK P Γ ops.toList draw st fun st'=>goK Γ F T m k st')=some r:=e
   cases hT:T id with
   |some hh=>
    rw [hT] at e'
    simp only at e'
    rw [hfx.1,hfx.2] at e'
    obtain ⟨x,G',hx,h'⟩:=toK_sound h e'
    exact hK id hh x r hT hx ops draw k hin a w G' h'
   |none=>
    rw [hT] at e'
    simp only at e'
    obtain ⟨hd,hel⟩:=qfk hS hin
    obtain ⟨st',h1,h2⟩:=reg_sound (id:=id) hΓ hm hd hel h e'
    exact Runs.region h2 fun a' w' ⟨G',h'⟩=>qbL hΓ hm hf hfx hres hS hK m k h1 hw.2 h'
  |seq x y=>
   refine Runs.one (fun b cs=>step_seq) (qbL hΓ hm hf hfx hres hS hK m (.code x::.code y::k) e ⟨fun s hs=>hw.1 s (List.mem_append_left _ hs),fun s hs=>hw.1 s (List.mem_append_right _ hs),hw.2⟩ h)
  |cond c x y=>
   have hx:WF S (.code x::k):=⟨fun s hs=>hw.1 s (List.mem_append_left _ hs),hw.2⟩
   have hy:WF S (.code y::k):=⟨fun s hs=>hw.1 s (List.mem_append_right _ hs),hw.2⟩
   have key:∀d,a.eval c=.bool d→(match d with|true=>goK Γ F T m (.code x::k) st|false=>goK Γ F T m (.code y::k) st)=some r→Runs P f (.code (.cond c x y)::k) a w (Post C F.cout r):=by
    intro d hd he
    cases d with
    |true=>exact Runs.one (fun b cs=>step_cond hd) (qbL hΓ hm hf hfx hres hS hK m (.code x::k) he hx h)
    |false=>exact Runs.one (fun b cs=>step_cond hd) (qbL hΓ hm hf hfx hres hS hK m (.code y::k) he hy h)
   have e':(match (ev st c).leaf with
    |some (.q n p i)=>@ite _ p i (@both _ (prodsDeq F.cout.tys) (goK Γ F T m (.code x::k) st) (goK Γ F T m (.code y::k) st)) (match n with
     |true=>goK Γ F T m (.code x::k) st
     |false=>goK Γ F T m (.code y::k) st)
    |z=>splitB z fun d=>match d with
     |true=>goK Γ F T m (.code x::k) st
     |false=>goK Γ F T m (.code y::k) st)=some r:=e
   split at e'
   ·rename_i nn p i hq
    obtain ⟨d,hd,hne⟩:=(qaT h.tm c _ hq).2
    refine key d hd ?_
    by_cases hp:p
    ·rw [if_pos hp] at e'
     unfold both at e'
     by_cases hb:goK Γ F T m (.code x::k) st=goK Γ F T m (.code y::k) st
     ·rw [if_pos hb] at e'
      cases d with
      |true=>exact e'
      |false=>rw [hb] at e';exact e'
     ·rw [if_neg hb] at e';cases e'
    ·rw [if_neg hp] at e'
     have:d=nn:=by
      cases d<;>cases nn<;>first|rfl|exact absurd (hne (by simp)) hp
     rw [this]
     exact e'
   ·obtain ⟨d,hd,he⟩:=cond_R h e'
    exact key d hd he
  |block id b=>exact Runs.one (fun b' cs=>step_block) (qbL hΓ hm hf hfx hres hS hK m (.code b::.inBlock id::k) e hw h)
  |loop b=>exact Runs.one (fun b' cs=>step_loop) (qbL hΓ hm hf hfx hres hS hK m (.code b::.inLoop b::k) e ⟨hw.1,hw⟩ h)
  |exit id=>
   have e':(match exitTo id k with
    |some k'=>goK Γ F T m k' st
    |none=>none)=some r:=e
   cases hx:exitTo id k with
   |none=>rw [hx] at e';cases e'
   |some k'=>
    rw [hx] at e'
    exact Runs.one (fun b cs=>step_exit hx) (qbL hΓ hm hf hfx hres hS hK m k' e' (exit_WF hx hw.2) h)
  |ret=>
   obtain ⟨v,h1,h2⟩:=go_sound h hfx.1 hfx.2 hres (show F.go st=some r from e)
   exact Runs.ends hf h.defers h1 (fun b cs=>step_ret) h2
  |_=>cases e
 |m+1,.inRegion _ _::_,_,_,_,_,_,e,_,_=>by cases e
 |m+1,.inScope _::_,_,_,_,_,_,e,_,_=>by cases e
 |m+1,.inRangeFunc _::_,_,_,_,_,_,e,_,_=>by cases e
 |m+1,.endRangeFunc _::_,_,_,_,_,_,e,_,_=>by cases e
 |m+1,.beginRound::_,_,_,_,_,_,e,_,_=>by cases e
 |m+1,.call _ _ _ _::_,_,_,_,_,_,e,_,_=>by cases e
 |m+1,.extern _ _::_,_,_,_,_,_,e,_,_=>by cases e
end
end Go.Proofs.YtfobeapcmgjhbaaGreatDoor.VE
namespace Go.Proofs.YtfobeapcmgjhbaaGreatDoor.VE
open Go Go.RowKit
section
variable {P:Program}
theorem soundK {Γ:Nat→Env} {C:Ctx} {f:FuncId} {fn:Func} {body:Code} {F:Fin P} {T:Nat→Nat→Option (Hint (prods F.cout.tys))} (hm:P.follows .mixedOrders=true) (hf:P.funcs[f]?=some fn) (hres:fn.results.toList=F.res) (hfx:F.fixed=C.fx∧F.kx=C.kx)
  (hnd:nodupB ((sites body []).map (·.1))=true) (hS:sitesOk fn.ntmps (sites body [])=true) (h0:∀id h x r,T 0 id=some h→h.k x=some r→False):∀n,(∀m,m<n→ΓOk P (Γ m))→
  (∀m,m<n→∀id h x r,T (m+1) id=some h→h.k x=some r→segK (Γ m) F (T m) body id (h.c.st x)=some r)→SoundK P C f fn.ntmps F (sites body []) (T n)
 |0,_,_=>fun id h x r hT hx=>(h0 id h x r hT hx).elim
 |n+1,hΓ,hs=>by
  have ih:=soundK (C:=C) hm hf hres hfx hnd hS h0 n (fun m hm=>hΓ m (by omega)) (fun m hm=>hs m (by omega))
  intro id h x r hT hx ops draw k hin a w G hI
  have e:=hs n (by omega) id h x r hT hx
  unfold segK at e
  rw [mem_look hnd hin] at e
  simp only at e
  obtain ⟨hd,hel⟩:=qfk hS hin
  obtain ⟨st',h1,h2⟩:=reg_sound (id:=id) (hΓ n (by omega)) hm hd hel hI e
  have hw:WF (sites body []) k:=qdN body (k:=[]) trivial (fun s hs=>hs) _ hin
  exact Runs.region h2 fun a' w' ⟨G',h'⟩=>qbL (hΓ n (by omega)) hm hf hfx hres hS ih 2000 k h1 hw h'
theorem qeH:∀{ss:List CSh} {l l':List TV} {cs:List Cm},putCs ss l=some (cs,l')→cs.length=ss.length
 |[],_,_,_,e=>by cases e;rfl
 |s::ss,l,l',cs,e=>by
  unfold putCs at e
  split at e
  ·split at e
   ·rename_i h
    cases e
    simp only [List.length_cons,qeH h]
   ·cases e
  ·cases e
theorem put_st {c:Cut} {x:prods c.tys} {cms:List Cm} {os:List (Nat×Obj)} (e:c.put x=some (cms,os)):cms.length=c.slots.length∧c.st x=⟨upds (fun _=>.u) ((c.slots.map (·.1)).zip (cms.map .c)),ofL os⟩:=by
 refine ⟨?_,by unfold Cut.st;rw [e]⟩
 unfold Cut.put at e
 split at e
 ·split at e
  ·rename_i h _ _ _
   cases e
   rw [qeH h,List.length_map]
  ·cases e
 ·cases e
theorem range_get {n i k:Nat} (h:(List.range n)[i]?=some k):k=i:=by
 by_cases hi:i<n
 ·rw [List.getElem?_range hi] at h;cases h;rfl
 ·rw [List.getElem?_eq_none (by simp;omega)] at h;cases h
theorem qai {Γ:Nat→Env} {f:FuncId} {fn:Func} {body:Code} {cin:Cut} {F:Fin P} {T:Nat→Nat→Option (Hint (prods F.cout.tys))} (hm:P.follows .mixedOrders=true) (hf:P.funcs[f]?=some fn) (hb:fn.body=some body) (hres:fn.results.toList=F.res)
  (hfx:F.fixed=fxOf cin.objs) (hsl:cin.slots.map (·.1)=List.range cin.slots.length) (hN:cin.slots.length≤fn.ntmps) (hnd:nodupB ((sites body []).map (·.1))=true) (hS:sitesOk fn.ntmps (sites body [])=true)
  (h0:∀id h x r,T 0 id=some h→h.k x=some r→False) (n:Nat) (hΓ:∀m,m≤n→ΓOk P (Γ m))
  (hs:∀m,m<n→∀id h x r,T (m+1) id=some h→h.k x=some r→segK (Γ m) F (T m) body id (h.c.st x)=some r) {sem:prods cin.tys→Option (prods F.cout.tys)}
  (he:∀x y,sem x=some y→goK (Γ n) F (T n) 2000 [.code body] (cin.st x)=some y):qaj P f ⟨cin,F.cout,sem,F.kx⟩:=by
 intro x y hy G cms os w vals hput hcore hcm
 obtain ⟨hlen,hst⟩:=put_st hput
 have e:=he x y hy
 have hK:=soundK (C:=ctxOf w G (ofL os) (fxOf cin.objs) F.kx) (Γ:=Γ) hm hf hres ⟨hfx,rfl⟩ hnd hS h0 n (fun m hm=>hΓ m (by omega)) hs
 have hvl:vals.size=cin.slots.length:=by
  have:=All2.length hcm
  rw [Array.length_toList] at this
  exact this.symm.trans hlen
 let a:Act:={tmps:=vals++Array.replicate (fn.ntmps - vals.size) undef,defers:=[]}
 have hI:Inv (ctxOf w G (ofL os) (fxOf cin.objs) F.kx) (cin.st x) w fn.ntmps a G:=by
  refine ⟨?_,?_,?_,rfl⟩
  ·rw [hst];exact hcore
  ·intro t
   rw [hst]
   show SVR G (ofL os) w (upds (fun _=>SV.u) ((cin.slots.map (·.1)).zip (cms.map .c)) t) _
   rcases qbM ((cin.slots.map (·.1)).zip (cms.map .c)) (fun _=>SV.u) t with ⟨_,h2⟩|⟨v,h1,h2⟩
   ·rw [h2];trivial
   ·rw [h2]
    obtain ⟨i,i1,i2⟩:=zip_get h1
    simp only at i1 i2
    rw [hsl] at i1
    have hti:=range_get i1
    subst hti
    rw [List.getElem?_map] at i2
    cases hc:cms[t]? with
    |none=>rw [hc] at i2;cases i2
    |some cm=>
     rw [hc] at i2
     cases i2
     have hlt:t<vals.size:=by
      have:=List.getElem?_eq_some_iff.1 hc
      obtain ⟨h,_⟩:=this
      rw [hvl];exact hlen▸h
     have hg:a.tmps.getD t undef=vals[t]:=by
      show (vals++Array.replicate (fn.ntmps - vals.size) undef).getD t undef=_
      rw [Array.getD_eq_getD_getElem?,Array.getElem?_append_left hlt,Array.getElem?_eq_getElem hlt]
      rfl
     rw [hg]
     refine All2.get hcm t hc ?_
     rw [Array.getElem?_toList,Array.getElem?_eq_getElem hlt]
  ·show (vals++Array.replicate (fn.ntmps - vals.size) undef).size=_
   rw [Array.size_append,Array.size_replicate]
   omega
 have hrun:=qbL (hΓ n (Nat.le_refl _)) hm hf ⟨hfx,rfl⟩ hres hS hK 2000 [.code body] e ⟨fun s hs=>hs,trivial⟩ hI
 intro cs
 let b:Frame:={(default:Frame) with fn:=f,kind:=.normal}
 have henter:Frame.enter P f vals .normal=b.at a [.code body]:=by
  simp [Frame.enter,Frame.at,hf,hb,b,a]
 obtain ⟨e',w',fr,hq,h2,h3,h4⟩:=hrun b cs rfl rfl
 rw [←henter] at h2
 exact ⟨e',w',fr,hq,h2,h3,h4⟩
end
end Go.Proofs.YtfobeapcmgjhbaaGreatDoor.VE
namespace Go.Proofs.YtfobeapcmgjhbaaGreatDoor.VE
open Go Go.RowKit
theorem follows:Go.Proofs.Tryz.prog.follows .mixedOrders=true:=by kernel_rfl
def lookE:List ((Nat×Nat)×Con)→Env
 |[],_,_=>none
 |((k,j),v)::l,f,key=>bif Nat.beq k f && Nat.beq j key then some v else lookE l f key
theorem Γnil {P:Program}:ΓOk P (lookE []):=fun _ _ _ h=>by cases h
theorem Γcons {P:Program} {f key:Nat} {c:Con} {l:List ((Nat×Nat)×Con)} (h:qaj P f c) (hf:∃fn,P.funcs[f]?=some fn∧(fn.name== "runtime.NumGoroutine")=false∧fn.body.isSome=true) (hl:ΓOk P (lookE l)):ΓOk P (lookE (((f,key),c)::l)):=by
 intro g k c' h'
 have h':(bif Nat.beq f g && Nat.beq key k then some c else lookE l g k)=some c':=h'
 cases hg:Nat.beq f g && Nat.beq key k with
 |true=>
  rw [hg] at h'
  cases h'
  simp only [Bool.and_eq_true] at hg
  have:=Nat.eq_of_beq_eq_true hg.1
  subst this
  exact ⟨h,hf⟩
 |false=>
  rw [hg] at h'
  exact hl g k c' h'
def TZero {R:Type}:List (Nat×Hint R)→Prop
 |[]=>True
 |(_,h)::l=>(∀x,h.k x=none)∧TZero l
theorem tzero {R:Type}:∀{l:List (Nat×Hint R)},TZero l→∀id h x r,look l id=some h→h.k x=some r→False
 |[],_,_,_,_,_,e,_=>by cases e
 |(i,h')::l,⟨h1,h2⟩,id,h,x,r,e,hx=>by
  rw [qcC] at e
  by_cases hi:id=i
  ·rw [if_pos hi] at e;cases e;rw [h1 x] at hx;cases hx
  ·rw [if_neg hi] at e;exact tzero h2 id h x r e hx
def TStep {P:Program} (Γ:Env) (F:Fin P) (T:Nat→Option (Hint (prods F.cout.tys))) (body:Code):List (Nat×Hint (prods F.cout.tys))→Prop
 |[]=>True
 |(id,h)::l=>(∀x,h.k x=segK Γ F T body id (h.c.st x))∧TStep Γ F T body l
theorem tstep {P:Program} {Γ:Env} {F:Fin P} {T:Nat→Option (Hint (prods F.cout.tys))} {body:Code}:∀{l:List (Nat×Hint (prods F.cout.tys))},TStep Γ F T body l→
  ∀id h x r,look l id=some h→h.k x=some r→segK Γ F T body id (h.c.st x)=some r
 |[],_,_,_,_,_,e,_=>by cases e
 |(i,h')::l,⟨h1,h2⟩,id,h,x,r,e,hx=>by
  rw [qcC] at e
  by_cases hi:id=i
  ·rw [if_pos hi] at e;cases e;subst hi;rw [←h1 x];exact hx
  ·rw [if_neg hi] at e;exact tstep h2 id h x r e hx
end Go.Proofs.YtfobeapcmgjhbaaGreatDoor.VE
namespace Go.Proofs.YtfobeapcmgjhbaaGreatDoor.VE
open Go Go.RowKit
def Ev {α:Type} (g:Nat→Option α) (r:α):Prop:=∃K,∀k,K≤k→g k=some r
theorem Ev.now {α:Type} (r:α):Ev (fun _=>some r) r:=⟨0,fun _ _=>rfl⟩
theorem Ev.rounds {α:Type} {g:Nat→Option α} {r:α} (h:Ev g r):∃k,g k=some r:=by
 obtain ⟨K,h⟩:=h
 exact ⟨K,h K (Nat.le_refl _)⟩
theorem Ev.bind {α β:Type} {g:Nat→Option α} {f:Nat→α→Option β} {a:α} {r:β} (h:Ev g a) (k:Ev (fun n=>f n a) r):Ev (fun n=>(g n).bind (f n)) r:=by
 obtain ⟨K,h⟩:=h
 obtain ⟨K',k⟩:=k
 refine ⟨max K K',fun n hn=>?_⟩
 show (g n).bind (f n)=some r
 rw [h n (by omega)]
 exact k n (by omega)
theorem Ev.step {α:Type} {g f:Nat→Option α} {r:α} (h:∀k,g (k+1)=f k) (k:Ev f r):Ev g r:=by
 obtain ⟨K,k⟩:=k
 refine ⟨K+1,fun n hn=>?_⟩
 obtain ⟨m,rfl⟩:∃m,n=m+1:=⟨n - 1,by omega⟩
 rw [h]
 exact k m (by omega)
theorem Ev.congr {α:Type} {g f:Nat→Option α} {r:α} (h:∀k,g k=f k) (k:Ev f r):Ev g r:=by
 obtain ⟨K,k⟩:=k
 exact ⟨K,fun n hn=>(h n).trans (k n hn)⟩
theorem Ev.far {α:Type} {g:Nat→Option α} {r:α} (n:Nat) (h:∀k,g (k+n)=some r):Ev g r:=⟨n,fun k hk=>by
 have:=h (k - n)
 rwa [Nat.sub_add_cancel hk] at this⟩
theorem Ev.pos {α:Type} {c:Prop} [Decidable c] {a b:Nat→Option α} {r:α} (h:c) (k:Ev a r):Ev (fun n=>if c then a n else b n) r:=by
 simpa only [if_pos h] using k
theorem Ev.neg {α:Type} {c:Prop} [Decidable c] {a b:Nat→Option α} {r:α} (h:¬c) (k:Ev b r):Ev (fun n=>if c then a n else b n) r:=by
 simpa only [if_neg h] using k
theorem Ev.ite {α:Type} {c:Prop} [Decidable c] {a b:Nat→Option α} {r:α} (h1:c→Ev a r) (h2:¬c→Ev b r):Ev (fun n=>if c then a n else b n) r:=by
 by_cases h:c
 ·exact Ev.pos h (h1 h)
 ·exact Ev.neg h (h2 h)
theorem Ev.binds {α β:Type} {f:Nat→α→Option β} {a:α} {r:β} (k:Ev (fun n=>f n a) r):Ev (fun n=>(some a).bind (f n)) r:=by
 simpa only [Option.bind_some] using k
def EvP {α:Type} (g:Nat→Option α) (P:α→Prop):Prop:=∃r,Ev g r∧P r
theorem EvP.of {α:Type} {g:Nat→Option α} {r:α} {P:α→Prop} (h:Ev g r) (hp:P r):EvP g P:=⟨r,h,hp⟩
theorem EvP.ret {α:Type} {r:α} {P:α→Prop} (hp:P r):EvP (fun _=>some r) P:=⟨r,Ev.now r,hp⟩
theorem EvP.mono {α:Type} {g:Nat→Option α} {P Q:α→Prop} (h:EvP g P) (hq:∀r,P r→Q r):EvP g Q:=by
 obtain ⟨r,h,hp⟩:=h
 exact ⟨r,h,hq r hp⟩
theorem EvP.bind {α β:Type} {g:Nat→Option α} {f:Nat→α→Option β} {P:α→Prop} {Q:β→Prop} (h:EvP g P) (k:∀a,P a→EvP (fun n=>f n a) Q):EvP (fun n=>(g n).bind (f n)) Q:=by
 obtain ⟨a,h,hp⟩:=h
 obtain ⟨r,hr,hq⟩:=k a hp
 exact ⟨r,Ev.bind h hr,hq⟩
theorem EvP.bindE {α β:Type} {g:Nat→Option α} {f:Nat→α→Option β} {a:α} {Q:β→Prop} (h:Ev g a) (k:EvP (fun n=>f n a) Q):EvP (fun n=>(g n).bind (f n)) Q:=by
 obtain ⟨r,hr,hq⟩:=k
 exact ⟨r,Ev.bind h hr,hq⟩
theorem EvP.binds {α β:Type} {f:Nat→α→Option β} {a:α} {Q:β→Prop} (k:EvP (fun n=>f n a) Q):EvP (fun n=>(some a).bind (f n)) Q:=by
 simpa only [Option.bind_some] using k
theorem EvP.step {α:Type} {g f:Nat→Option α} {P:α→Prop} (h:∀k,g (k+1)=f k) (k:EvP f P):EvP g P:=by
 obtain ⟨r,hr,hp⟩:=k
 exact ⟨r,Ev.step h hr,hp⟩
theorem EvP.pos {α:Type} {c:Prop} [Decidable c] {a b:Nat→Option α} {P:α→Prop} (h:c) (k:EvP a P):EvP (fun n=>if c then a n else b n) P:=by
 simpa only [if_pos h] using k
theorem EvP.neg {α:Type} {c:Prop} [Decidable c] {a b:Nat→Option α} {P:α→Prop} (h:¬c) (k:EvP b P):EvP (fun n=>if c then a n else b n) P:=by
 simpa only [if_neg h] using k
theorem EvP.ite {α:Type} {c:Prop} [Decidable c] {a b:Nat→Option α} {P:α→Prop} (h1:c→EvP a P) (h2:¬c→EvP b P):EvP (fun n=>if c then a n else b n) P:=by
 by_cases h:c
 ·exact EvP.pos h (h1 h)
 ·exact EvP.neg h (h2 h)
theorem EvP.rounds {α:Type} {g:Nat→Option α} {r:α} (h:EvP g (fun x=>x=r)):∃k,g k=some r:=by
 obtain ⟨x,h,rfl⟩:=h
 exact Ev.rounds h
theorem EvP.ev {α:Type} {g:Nat→Option α} {r:α} (h:EvP g (fun x=>x=r)):Ev g r:=by
 obtain ⟨x,h,rfl⟩:=h
 exact h
theorem w64 {x:Int} (h1:-9223372036854775808≤x) (h2:x≤9223372036854775807):wrap64 x=x:=by
 unfold wrap64
 omega
theorem mul_abs {a b A B:Int} (h1:-A≤a) (h2:a≤A) (h3:-B≤b) (h4:b≤B):-(A*B)≤a*b∧a*b≤A*B:=by
 have hA:0≤A:=by omega
 have hB:0≤B:=by omega
 have e1:0≤(A - a)*(B+b):=Int.mul_nonneg (by omega) (by omega)
 have e2:0≤(A+a)*(B - b):=Int.mul_nonneg (by omega) (by omega)
 have e3:0≤(A - a)*(B - b):=Int.mul_nonneg (by omega) (by omega)
 have e4:0≤(A+a)*(B+b):=Int.mul_nonneg (by omega) (by omega)
 have f1:(A - a)*(B+b)=A*B+A*b - a*B - a*b:=by
  rw [Int.sub_mul,Int.mul_add,Int.mul_add];omega
 have f2:(A+a)*(B - b)=A*B - A*b+a*B - a*b:=by
  rw [Int.add_mul,Int.mul_sub,Int.mul_sub];omega
 have f3:(A - a)*(B - b)=A*B - A*b - a*B+a*b:=by
  rw [Int.sub_mul,Int.mul_sub,Int.mul_sub];omega
 have f4:(A+a)*(B+b)=A*B+A*b+a*B+a*b:=by
  rw [Int.add_mul,Int.mul_add,Int.mul_add];omega
 omega
theorem mx_ge (a b:Int):a≤mx a b∧b≤mx a b∧(mx a b=a∨mx a b=b):=by
 unfold mx
 split<;>omega
theorem qgd {t:Ty} (xs:List t.T) (j:Nat) (x:t.T) (h:xs[j]?=some x):rd t xs (j:Int)=x:=by
 unfold rd
 rw [List.getD_eq_getElem?_getD,show ((j:Int).toNat)=j from rfl,h]
 rfl
theorem qd0 {t:Ty} {xs:List t.T} {i:Int} (h0:0≤i) (h1:i<(xs.length:Int)):rd t xs i∈xs:=by
 unfold rd
 rw [List.getD_eq_getElem?_getD,List.getElem?_eq_getElem (by omega)]
 exact List.getElem_mem _
theorem qdk {t:Ty} {xs:List t.T} {i:Int} (h0:0≤i) (h1:i<(xs.length:Int)):xs.drop i.toNat=rd t xs i::xs.drop (i+1).toNat:=by
 have e:(i+1).toNat=i.toNat+1:=by omega
 have hl:i.toNat<xs.length:=by omega
 unfold rd
 rw [e,List.drop_eq_getElem_cons hl,List.getD_eq_getElem?_getD,List.getElem?_eq_getElem hl]
 rfl
theorem rd_some {t:Ty} {xs:List t.T} {i:Int} (h0:0≤i) (h1:i<(xs.length:Int)):xs[i.toNat]?=some (rd t xs i):=by
 unfold rd
 rw [List.getD_eq_getElem?_getD,List.getElem?_eq_getElem (by omega)]
 rfl
theorem rd_set {t:Ty} {xs:List t.T} {i:Int} (v:t.T) (h0:0≤i) (h1:i<(xs.length:Int)) {j:Int} (hj:0≤j):rd t (xs.set i.toNat v) j=if j=i then v else rd t xs j:=by
 unfold rd
 rw [List.getD_eq_getElem?_getD,List.getD_eq_getElem?_getD,List.getElem?_set]
 by_cases h:j=i
 ·subst h
  rw [if_pos rfl,if_pos rfl,if_pos (by omega)];rfl
 ·rw [if_neg h,if_neg (by omega)]
theorem EvP.no {α:Type} {P:α→Prop} {g:Nat→Option α} (h:False):EvP g P:=h.elim
end Go.Proofs.YtfobeapcmgjhbaaGreatDoor.VE
namespace Go.Proofs.YtfobeapcmgjhbaaGreatDoor.VE
set_option linter.unusedVariables false
open Go Go.RowKit
abbrev Y0:Ty:=.pair .bool .bool
abbrev Y1:Ty:=.pair .str Y0
abbrev Y2:Ty:=.pair .str Y1
abbrev Y3:Ty:=.pair .str Y2
abbrev Y4:Ty:=.pair (.int .i64) (.int .i64)
abbrev Y5:Ty:=.pair (.int .i64) Y4
abbrev Y6:Ty:=.pair (.int .i64) Y5
abbrev Y7:Ty:=.pair (.int .i64) Y6
abbrev Y8:Ty:=.pair (.int .i64) Y7
abbrev Y9:Ty:=.pair .str Y8
abbrev Y10:Ty:=.pair .str Y9
abbrev Y11:Ty:=.pair .str Y10
abbrev Y12:Ty:=.pair .str Y5
abbrev Y13:Ty:=.pair .str Y12
abbrev Y14:Ty:=.pair .str (.int .i64)
abbrev Y15:Ty:=.pair .str Y14
abbrev Y16:Ty:=.pair (.list 246 (.int .u32)) (.list 246 (.int .u32))
abbrev Y17:Ty:=.pair .bool Y16
abbrev Y18:Ty:=.pair .str (.list 94 Y4)
abbrev Y19:Ty:=.pair (.list 51 Y15) (.list 240 Y13)
abbrev Y20:Ty:=.pair (.list 48 Y13) Y19
abbrev Y21:Ty:=.pair (.list 60 Y11) Y20
abbrev Y22:Ty:=.pair (.list 190 Y3) Y21
abbrev Y23:Ty:=.pair (.list 9 .str) Y22
abbrev Y25:Ty:=.pair (.list 3 (.int .i64)) (.list 3 (.int .i64))
abbrev Y26:Ty:=.pair (.list 3 (.int .i64)) (.int .i64)
abbrev Y27:Ty:=.pair (.list 122 Y17) Y26
abbrev Y28:Ty:=.pair (.list 122 Y17) Y27
abbrev Y29:Ty:=.pair (.list 211 Y4) Y28
abbrev Y30:Ty:=.pair Y25 Y29
abbrev Y31:Ty:=.pair (.list 39 .str) (.list 39 .str)
abbrev Y32:Ty:=.pair (.list 114 (.list 122 Y17)) Y27
abbrev Y33:Ty:=.pair (.list 3 (.int .i64)) Y32
abbrev Y34:Ty:=.pair (.list 3 (.int .i64)) Y33
abbrev Y35:Ty:=.pair (.int .i64) Y34
abbrev rI64 (xs:List Int) (i:Int):Int:=rd (.int .i64) xs i
theorem qd4 {xs:List Int} {i:Int} (h0:0≤i) (h1:i<(xs.length:Int)):rI64 xs i∈xs:=qd0 (t:=(.int .i64)) h0 h1
theorem qb6 (xs:List Int) (j:Nat) (x:Int) (h:xs[j]?=some x):rI64 xs (j:Int)=x:=qgd (t:=(.int .i64)) xs j x h
theorem rI64_drop {xs:List Int} {i:Int} (h0:0≤i) (h1:i<(xs.length:Int)):xs.drop i.toNat=rI64 xs i::xs.drop (i+1).toNat:=qdk (t:=(.int .i64)) h0 h1
theorem rI64_some {xs:List Int} {i:Int} (h0:0≤i) (h1:i<(xs.length:Int)):xs[i.toNat]?=some (rI64 xs i):=rd_some (t:=(.int .i64)) h0 h1
theorem qeY {xs:List Int} {i:Int} (v:Int) (h0:0≤i) (h1:i<(xs.length:Int)) {j:Int} (hj:0≤j):rI64 (xs.set i.toNat v) j=if j=i then v else rI64 xs j:=rd_set (t:=(.int .i64)) v h0 h1 hj
abbrev rL122 (xs:List (List (Bool×List Int×List Int))) (i:Int):List (Bool×List Int×List Int):=rd (.list 122 Y17) xs i
theorem rL122_get (xs:List (List (Bool×List Int×List Int))) (j:Nat) (x:List (Bool×List Int×List Int)) (h:xs[j]?=some x):rL122 xs (j:Int)=x:=qgd (t:=(.list 122 Y17)) xs j x h
theorem qge {xs:List (List (Bool×List Int×List Int))} {i:Int} (h0:0≤i) (h1:i<(xs.length:Int)):xs[i.toNat]?=some (rL122 xs i):=rd_some (t:=(.list 122 Y17)) h0 h1
theorem qd3 {xs:List (List (Bool×List Int×List Int))} {i:Int} (v:List (Bool×List Int×List Int)) (h0:0≤i) (h1:i<(xs.length:Int)) {j:Int} (hj:0≤j):rL122 (xs.set i.toNat v) j=if j=i then v else rL122 xs j:=rd_set (t:=(.list 122 Y17)) v h0 h1 hj
abbrev rL39 (xs:List (List ByteArray)) (i:Int):List ByteArray:=rd (.list 39 .str) xs i
theorem rL39_get (xs:List (List ByteArray)) (j:Nat) (x:List ByteArray) (h:xs[j]?=some x):rL39 xs (j:Int)=x:=qgd (t:=(.list 39 .str)) xs j x h
theorem rL39_some {xs:List (List ByteArray)} {i:Int} (h0:0≤i) (h1:i<(xs.length:Int)):xs[i.toNat]?=some (rL39 xs i):=rd_some (t:=(.list 39 .str)) h0 h1
abbrev rStr (xs:List ByteArray) (i:Int):ByteArray:=rd .str xs i
theorem qeW {xs:List ByteArray} {i:Int} (h0:0≤i) (h1:i<(xs.length:Int)):rStr xs i∈xs:=qd0 (t:=.str) h0 h1
theorem qeX (xs:List ByteArray) (j:Nat) (x:ByteArray) (h:xs[j]?=some x):rStr xs (j:Int)=x:=qgd (t:=.str) xs j x h
theorem qfu {xs:List ByteArray} {i:Int} (h0:0≤i) (h1:i<(xs.length:Int)):xs.drop i.toNat=rStr xs i::xs.drop (i+1).toNat:=qdk (t:=.str) h0 h1
theorem rStr_some {xs:List ByteArray} {i:Int} (h0:0≤i) (h1:i<(xs.length:Int)):xs[i.toNat]?=some (rStr xs i):=rd_some (t:=.str) h0 h1
abbrev rU32 (xs:List Int) (i:Int):Int:=rd (.int .u32) xs i
theorem rU32_mem {xs:List Int} {i:Int} (h0:0≤i) (h1:i<(xs.length:Int)):rU32 xs i∈xs:=qd0 (t:=(.int .u32)) h0 h1
theorem rU32_drop {xs:List Int} {i:Int} (h0:0≤i) (h1:i<(xs.length:Int)):xs.drop i.toNat=rU32 xs i::xs.drop (i+1).toNat:=qdk (t:=(.int .u32)) h0 h1
theorem qdg {xs:List Int} {i:Int} (h0:0≤i) (h1:i<(xs.length:Int)):xs[i.toNat]?=some (rU32 xs i):=rd_some (t:=(.int .u32)) h0 h1
abbrev rU8 (xs:List Int) (i:Int):Int:=rd (.int .u8) xs i
theorem rU8_mem {xs:List Int} {i:Int} (h0:0≤i) (h1:i<(xs.length:Int)):rU8 xs i∈xs:=qd0 (t:=(.int .u8)) h0 h1
theorem rU8_drop {xs:List Int} {i:Int} (h0:0≤i) (h1:i<(xs.length:Int)):xs.drop i.toNat=rU8 xs i::xs.drop (i+1).toNat:=qdk (t:=(.int .u8)) h0 h1
theorem rU8_some {xs:List Int} {i:Int} (h0:0≤i) (h1:i<(xs.length:Int)):xs[i.toNat]?=some (rU8 xs i):=rd_some (t:=(.int .u8)) h0 h1
abbrev rY11 (xs:List (ByteArray×ByteArray×ByteArray×Int×Int×Int×Int×Int×Int)) (i:Int):ByteArray×ByteArray×ByteArray×Int×Int×Int×Int×Int×Int:=rd Y11 xs i
theorem qeV {xs:List (ByteArray×ByteArray×ByteArray×Int×Int×Int×Int×Int×Int)} {i:Int} (h0:0≤i) (h1:i<(xs.length:Int)):rY11 xs i∈xs:=qd0 (t:=Y11) h0 h1
theorem rY11_drop {xs:List (ByteArray×ByteArray×ByteArray×Int×Int×Int×Int×Int×Int)} {i:Int} (h0:0≤i) (h1:i<(xs.length:Int)):xs.drop i.toNat=rY11 xs i::xs.drop (i+1).toNat:=qdk (t:=Y11) h0 h1
abbrev rY13 (xs:List (ByteArray×ByteArray×Int×Int×Int)) (i:Int):ByteArray×ByteArray×Int×Int×Int:=rd Y13 xs i
theorem rY13_mem {xs:List (ByteArray×ByteArray×Int×Int×Int)} {i:Int} (h0:0≤i) (h1:i<(xs.length:Int)):rY13 xs i∈xs:=qd0 (t:=Y13) h0 h1
theorem rY13_drop {xs:List (ByteArray×ByteArray×Int×Int×Int)} {i:Int} (h0:0≤i) (h1:i<(xs.length:Int)):xs.drop i.toNat=rY13 xs i::xs.drop (i+1).toNat:=qdk (t:=Y13) h0 h1
abbrev rY15 (xs:List (ByteArray×ByteArray×Int)) (i:Int):ByteArray×ByteArray×Int:=rd Y15 xs i
theorem rY15_mem {xs:List (ByteArray×ByteArray×Int)} {i:Int} (h0:0≤i) (h1:i<(xs.length:Int)):rY15 xs i∈xs:=qd0 (t:=Y15) h0 h1
theorem rY15_drop {xs:List (ByteArray×ByteArray×Int)} {i:Int} (h0:0≤i) (h1:i<(xs.length:Int)):xs.drop i.toNat=rY15 xs i::xs.drop (i+1).toNat:=qdk (t:=Y15) h0 h1
abbrev rY17 (xs:List (Bool×List Int×List Int)) (i:Int):Bool×List Int×List Int:=rd Y17 xs i
theorem qd2 (xs:List (Bool×List Int×List Int)) (j:Nat) (x:Bool×List Int×List Int) (h:xs[j]?=some x):rY17 xs (j:Int)=x:=qgd (t:=Y17) xs j x h
theorem qdf {xs:List (Bool×List Int×List Int)} {i:Int} (h0:0≤i) (h1:i<(xs.length:Int)):xs[i.toNat]?=some (rY17 xs i):=rd_some (t:=Y17) h0 h1
theorem rY17_set {xs:List (Bool×List Int×List Int)} {i:Int} (v:Bool×List Int×List Int) (h0:0≤i) (h1:i<(xs.length:Int)) {j:Int} (hj:0≤j):rY17 (xs.set i.toNat v) j=if j=i then v else rY17 xs j:=rd_set (t:=Y17) v h0 h1 hj
abbrev rY3 (xs:List (ByteArray×ByteArray×ByteArray×Bool×Bool)) (i:Int):ByteArray×ByteArray×ByteArray×Bool×Bool:=rd Y3 xs i
theorem rY3_mem {xs:List (ByteArray×ByteArray×ByteArray×Bool×Bool)} {i:Int} (h0:0≤i) (h1:i<(xs.length:Int)):rY3 xs i∈xs:=qd0 (t:=Y3) h0 h1
theorem rY3_drop {xs:List (ByteArray×ByteArray×ByteArray×Bool×Bool)} {i:Int} (h0:0≤i) (h1:i<(xs.length:Int)):xs.drop i.toNat=rY3 xs i::xs.drop (i+1).toNat:=qdk (t:=Y3) h0 h1
abbrev rY4 (xs:List (Int×Int)) (i:Int):Int×Int:=rd Y4 xs i
theorem qem {xs:List (Int×Int)} {i:Int} (h0:0≤i) (h1:i<(xs.length:Int)):rY4 xs i∈xs:=qd0 (t:=Y4) h0 h1
theorem rY4_get (xs:List (Int×Int)) (j:Nat) (x:Int×Int) (h:xs[j]?=some x):rY4 xs (j:Int)=x:=qgd (t:=Y4) xs j x h
theorem rY4_some {xs:List (Int×Int)} {i:Int} (h0:0≤i) (h1:i<(xs.length:Int)):xs[i.toNat]?=some (rY4 xs i):=rd_some (t:=Y4) h0 h1
def BY (e:Nat):Nat:=(look [(3,8),(9,16),(48,56),(51,40),(56,40),(60,96),(85,40),(94,16),(190,56),(240,56)] e).getD 0
def qbe.f (k:Nat) (a0:Int):Option ((List ByteArray×(List (ByteArray×ByteArray×ByteArray×Bool×Bool))×(List (ByteArray×ByteArray×ByteArray×Int×Int×Int×Int×Int×Int))×(List (ByteArray×ByteArray×Int×Int×Int))×(List (ByteArray×ByteArray×Int))×List (ByteArray×ByteArray×Int×Int×Int))×List (ByteArray×List (Int×Int))):=
 some (([ByteArray.mk #[78,49],ByteArray.mk #[78,50]],[],[(ByteArray.mk #[76,49],ByteArray.mk #[78,49],ByteArray.mk #[78,50],1000,1000,0,a0,a0,1)],[(ByteArray.mk #[71,49],ByteArray.mk #[78,49],0,20,1),(ByteArray.mk #[71,50],ByteArray.mk #[78,50],0,20,1)],[(ByteArray.mk #[68,49],ByteArray.mk #[78,50],15)],[]),[(ByteArray.mk #[71,49],[(20,5)]),(ByteArray.mk #[71,50],[(20,8)])])
def qbF.f (k:Nat) (a0:List ByteArray×(List (ByteArray×ByteArray×ByteArray×Bool×Bool))×(List (ByteArray×ByteArray×ByteArray×Int×Int×Int×Int×Int×Int))×(List (ByteArray×ByteArray×Int×Int×Int))×(List (ByteArray×ByteArray×Int))×List (ByteArray×ByteArray×Int×Int×Int)):Option Int:=
 if 24<(a0.1.length:Int) then
 some 2
 else if 32<(a0.2.1.length:Int) then
 some 2
 else if 24<(a0.2.2.1.length:Int) then
 some 2
 else if 10<(a0.2.2.2.1.length:Int) then
 some 2
 else if 12<(a0.2.2.2.2.1.length:Int) then
 some 2
 else if 4<(a0.2.2.2.2.2.length:Int) then
 some 2
 else some 0
def qaI.l2:Nat→ByteArray→List Int→Int→Int→Option Bool
 |0,_,_,_,_=>none
 |k+1,x0,x7,x8,x9=>if x9<x8 then
 if 0≤x9 then
 if x9<(x7.length:Int) then
 if 65≤(rU8 x7 x9) then
 if (rU8 x7 x9)≤90 then
 qaI.l2 k x0 x7 x8 (wrap64 (x9+1))
 else if x9=0 then
 some false
 else if (rU8 x7 x9)<48 then
 some false
 else if 57<(rU8 x7 x9) then
 some false
 else qaI.l2 k x0 x7 x8 (wrap64 (x9+1))
 else if x9=0 then
 some false
 else if (rU8 x7 x9)<48 then
 some false
 else if 57<(rU8 x7 x9) then
 some false
 else qaI.l2 k x0 x7 x8 (wrap64 (x9+1))
 else none
 else none
 else if x0=ByteArray.empty then
 some false
 else some (decide ((x0.size:Int)≤8))
theorem qaI.l2_eq (k:Nat) (x0:ByteArray) (x7:List Int) (x8:Int) (x9:Int):qaI.l2 (k+1) x0 x7 x8 x9=if x9<x8 then
 if 0≤x9 then
 if x9<(x7.length:Int) then
 if 65≤(rU8 x7 x9) then
 if (rU8 x7 x9)≤90 then
 qaI.l2 k x0 x7 x8 (wrap64 (x9+1))
 else if x9=0 then
 some false
 else if (rU8 x7 x9)<48 then
 some false
 else if 57<(rU8 x7 x9) then
 some false
 else qaI.l2 k x0 x7 x8 (wrap64 (x9+1))
 else if x9=0 then
 some false
 else if (rU8 x7 x9)<48 then
 some false
 else if 57<(rU8 x7 x9) then
 some false
 else qaI.l2 k x0 x7 x8 (wrap64 (x9+1))
 else none
 else none
 else if x0=ByteArray.empty then
 some false
 else some (decide ((x0.size:Int)≤8)):=rfl
def qaI.f (k:Nat) (a0:ByteArray):Option Bool:=
 qaI.l2 k a0 (qaD a0) ((qaD a0).length:Int) 0
def slices_Index_string.l2:Nat→List ByteArray→ByteArray→Int→Int→Option Int
 |0,_,_,_,_=>none
 |k+1,x0,x1,x7,x8=>if x8<x7 then
 if 0≤x8 then
 if x8<(x0.length:Int) then
 if x1=(rStr x0 x8) then
 some x8
 else slices_Index_string.l2 k x0 x1 x7 (wrap64 (x8+1))
 else none
 else none
 else some (-1)
theorem slices_Index_string.l2_eq (k:Nat) (x0:List ByteArray) (x1:ByteArray) (x7:Int) (x8:Int):slices_Index_string.l2 (k+1) x0 x1 x7 x8=if x8<x7 then
 if 0≤x8 then
 if x8<(x0.length:Int) then
 if x1=(rStr x0 x8) then
 some x8
 else slices_Index_string.l2 k x0 x1 x7 (wrap64 (x8+1))
 else none
 else none
 else some (-1):=rfl
def slices_Index_string.f (k:Nat) (a0:List ByteArray) (a1:ByteArray):Option Int:=
 slices_Index_string.l2 k a0 a1 (a0.length:Int) 0
def slices_Contains_string.f (k:Nat) (a0:List ByteArray) (a1:ByteArray):Option Bool:=
 (slices_Index_string.f k a0 a1).bind fun r1=>
 some (decide (0≤r1))
def qaS.f (k:Nat) (a1:ByteArray) (ao1:List ByteArray):Option (Int×List ByteArray):=
 (qaI.f k a1).bind fun r1=>
 if r1=true then
 (slices_Contains_string.f k ao1 a1).bind fun r2=>
 if r2=true then
 some (7,ao1)
 else if (ao1.length+[a1].length)*16≤140737488355328 then
 some (0,ao1++[a1])
 else none
 else some (5,ao1)
def qaY.l2:Nat→List ByteArray→Int→Int→List ByteArray→(List (ByteArray×ByteArray×ByteArray×Bool×Bool))→(List (ByteArray×ByteArray×ByteArray×Int×Int×Int×Int×Int×Int))→(List (ByteArray×ByteArray×Int×Int×Int))→(List (ByteArray×ByteArray×Int))→(List (ByteArray×ByteArray×Int×Int×Int))→Option Int
 |0,_,_,_,_,_,_,_,_,_=>none
 |k+1,x7,x8,x9,xo0_0,xo0_1,xo0_2,xo0_3,xo0_4,xo0_5=>if x9<x8 then
 if 0≤x9 then
 if x9<(x7.length:Int) then
 (slices_Contains_string.f k xo0_0 (rStr x7 x9)).bind fun r1=>
 if r1=true then
 qaY.l2 k x7 x8 (wrap64 (x9+1)) xo0_0 xo0_1 xo0_2 xo0_3 xo0_4 xo0_5
 else some 6
 else none
 else none
 else some 0
theorem qaY.l2_eq (k:Nat) (x7:List ByteArray) (x8:Int) (x9:Int) (xo0_0:List ByteArray) (xo0_1:List (ByteArray×ByteArray×ByteArray×Bool×Bool)) (xo0_2:List (ByteArray×ByteArray×ByteArray×Int×Int×Int×Int×Int×Int)) (xo0_3:List (ByteArray×ByteArray×Int×Int×Int)) (xo0_4:List (ByteArray×ByteArray×Int)) (xo0_5:List (ByteArray×ByteArray×Int×Int×Int)):qaY.l2 (k+1) x7 x8 x9 xo0_0 xo0_1 xo0_2 xo0_3 xo0_4 xo0_5=if x9<x8 then
 if 0≤x9 then
 if x9<(x7.length:Int) then
 (slices_Contains_string.f k xo0_0 (rStr x7 x9)).bind fun r1=>
 if r1=true then
 qaY.l2 k x7 x8 (wrap64 (x9+1)) xo0_0 xo0_1 xo0_2 xo0_3 xo0_4 xo0_5
 else some 6
 else none
 else none
 else some 0:=rfl
def qaY.f (k:Nat) (a0:List ByteArray×(List (ByteArray×ByteArray×ByteArray×Bool×Bool))×(List (ByteArray×ByteArray×ByteArray×Int×Int×Int×Int×Int×Int))×(List (ByteArray×ByteArray×Int×Int×Int))×(List (ByteArray×ByteArray×Int))×List (ByteArray×ByteArray×Int×Int×Int)) (a1:List ByteArray):Option Int:=
 qaY.l2 k a1 (a1.length:Int) 0 a0.1 a0.2.1 a0.2.2.1 a0.2.2.2.1 a0.2.2.2.2.1 a0.2.2.2.2.2
def qaN.f (k:Nat) (a0:List ByteArray×(List (ByteArray×ByteArray×ByteArray×Bool×Bool))×(List (ByteArray×ByteArray×ByteArray×Int×Int×Int×Int×Int×Int))×(List (ByteArray×ByteArray×Int×Int×Int))×(List (ByteArray×ByteArray×Int))×List (ByteArray×ByteArray×Int×Int×Int)) (a2:ByteArray) (a3:List ByteArray) (ao1:List ByteArray):Option (Int×List ByteArray):=
 (qaS.f k a2 ao1).bind fun r1=>
 if r1.1=0 then
 (qaY.f k a0 a3).bind fun r2=>
 some (r2,r1.2)
 else some r1
def qau.f (k:Nat) (a0:Int) (a1:Int) (a2:Int):Option Bool:=
 if a1≤a0 then
 some (decide (a0≤a2))
 else some false
def qbn.f (k:Nat) (a0:ByteArray×ByteArray×ByteArray×Int×Int×Int×Int×Int×Int):Option Int:=
 (qau.f k a0.2.2.2.1 1 10000).bind fun r1=>
 if r1=true then
 (qau.f k a0.2.2.2.2.1 500 1500).bind fun r2=>
 if r2=true then
 (qau.f k a0.2.2.2.2.2.1 (-1000) 1000).bind fun r3=>
 if r3=true then
 (qau.f k a0.2.2.2.2.2.2.1 0 100000).bind fun r4=>
 if r4=true then
 (qau.f k a0.2.2.2.2.2.2.2.1 a0.2.2.2.2.2.2.1 100000).bind fun r5=>
 if r5=true then
 (qau.f k a0.2.2.2.2.2.2.2.2 0 200000).bind fun r6=>
 if r6=true then
 some 0
 else some 4
 else some 4
 else some 4
 else some 4
 else some 4
 else some 4
def qah.l20:Nat→(List (ByteArray×ByteArray×Int×Int×Int))→Int→Int→List ByteArray→(List (ByteArray×ByteArray×ByteArray×Bool×Bool))→(List (ByteArray×ByteArray×ByteArray×Int×Int×Int×Int×Int×Int))→(List (ByteArray×ByteArray×Int×Int×Int))→(List (ByteArray×ByteArray×Int))→(List (ByteArray×ByteArray×Int×Int×Int))→List ByteArray→Option (Int×List ByteArray)
 |0,_,_,_,_,_,_,_,_,_,_=>none
 |k+1,x75,x76,x77,xo2_0,xo2_1,xo2_2,xo2_3,xo2_4,xo2_5,xo3=>if x77<x76 then
 if 0≤x77 then
 if x77<(x75.length:Int) then
 (qaN.f k (xo2_0,xo2_1,xo2_2,xo2_3,xo2_4,xo2_5) (rY13 x75 x77).1 [(rY13 x75 x77).2.1] xo3).bind fun r7=>
 if r7.1=0 then
 (qau.f k (rY13 x75 x77).2.2.1 0 100000).bind fun r8=>
 if r8=true then
 (qau.f k (rY13 x75 x77).2.2.2.1 0 100000).bind fun r9=>
 if r9=true then
 (qau.f k (rY13 x75 x77).2.2.2.2 0 100000).bind fun r10=>
 if r10=true then
 qah.l20 k x75 x76 (wrap64 (x77+1)) xo2_0 xo2_1 xo2_2 xo2_3 xo2_4 xo2_5 r7.2
 else some (4,r7.2)
 else some (4,r7.2)
 else some (4,r7.2)
 else some r7
 else none
 else none
 else some (0,xo3)
theorem qah.qfC (k:Nat) (x75:List (ByteArray×ByteArray×Int×Int×Int)) (x76:Int) (x77:Int) (xo2_0:List ByteArray) (xo2_1:List (ByteArray×ByteArray×ByteArray×Bool×Bool)) (xo2_2:List (ByteArray×ByteArray×ByteArray×Int×Int×Int×Int×Int×Int)) (xo2_3:List (ByteArray×ByteArray×Int×Int×Int)) (xo2_4:List (ByteArray×ByteArray×Int)) (xo2_5:List (ByteArray×ByteArray×Int×Int×Int)) (xo3:List ByteArray):qah.l20 (k+1) x75 x76 x77 xo2_0 xo2_1 xo2_2 xo2_3 xo2_4 xo2_5 xo3=if x77<x76 then
 if 0≤x77 then
 if x77<(x75.length:Int) then
 (qaN.f k (xo2_0,xo2_1,xo2_2,xo2_3,xo2_4,xo2_5) (rY13 x75 x77).1 [(rY13 x75 x77).2.1] xo3).bind fun r7=>
 if r7.1=0 then
 (qau.f k (rY13 x75 x77).2.2.1 0 100000).bind fun r8=>
 if r8=true then
 (qau.f k (rY13 x75 x77).2.2.2.1 0 100000).bind fun r9=>
 if r9=true then
 (qau.f k (rY13 x75 x77).2.2.2.2 0 100000).bind fun r10=>
 if r10=true then
 qah.l20 k x75 x76 (wrap64 (x77+1)) xo2_0 xo2_1 xo2_2 xo2_3 xo2_4 xo2_5 r7.2
 else some (4,r7.2)
 else some (4,r7.2)
 else some (4,r7.2)
 else some r7
 else none
 else none
 else some (0,xo3):=rfl
def qah.l11:Nat→(List (ByteArray×ByteArray×Int))→Int→Int→List ByteArray→(List (ByteArray×ByteArray×ByteArray×Bool×Bool))→(List (ByteArray×ByteArray×ByteArray×Int×Int×Int×Int×Int×Int))→(List (ByteArray×ByteArray×Int×Int×Int))→(List (ByteArray×ByteArray×Int))→(List (ByteArray×ByteArray×Int×Int×Int))→List ByteArray→Option (Int×List ByteArray)
 |0,_,_,_,_,_,_,_,_,_,_=>none
 |k+1,x52,x53,x54,xo2_0,xo2_1,xo2_2,xo2_3,xo2_4,xo2_5,xo3=>if x54<x53 then
 if 0≤x54 then
 if x54<(x52.length:Int) then
 (qaN.f k (xo2_0,xo2_1,xo2_2,xo2_3,xo2_4,xo2_5) (rY15 x52 x54).1 [(rY15 x52 x54).2.1] xo3).bind fun r5=>
 if r5.1=0 then
 (qau.f k (rY15 x52 x54).2.2 0 100000).bind fun r6=>
 if r6=true then
 qah.l11 k x52 x53 (wrap64 (x54+1)) xo2_0 xo2_1 xo2_2 xo2_3 xo2_4 xo2_5 r5.2
 else some (4,r5.2)
 else some r5
 else none
 else none
 else qah.l20 k xo2_5 (xo2_5.length:Int) 0 xo2_0 xo2_1 xo2_2 xo2_3 xo2_4 xo2_5 xo3
theorem qah.l11_eq (k:Nat) (x52:List (ByteArray×ByteArray×Int)) (x53:Int) (x54:Int) (xo2_0:List ByteArray) (xo2_1:List (ByteArray×ByteArray×ByteArray×Bool×Bool)) (xo2_2:List (ByteArray×ByteArray×ByteArray×Int×Int×Int×Int×Int×Int)) (xo2_3:List (ByteArray×ByteArray×Int×Int×Int)) (xo2_4:List (ByteArray×ByteArray×Int)) (xo2_5:List (ByteArray×ByteArray×Int×Int×Int)) (xo3:List ByteArray):qah.l11 (k+1) x52 x53 x54 xo2_0 xo2_1 xo2_2 xo2_3 xo2_4 xo2_5 xo3=if x54<x53 then
 if 0≤x54 then
 if x54<(x52.length:Int) then
 (qaN.f k (xo2_0,xo2_1,xo2_2,xo2_3,xo2_4,xo2_5) (rY15 x52 x54).1 [(rY15 x52 x54).2.1] xo3).bind fun r5=>
 if r5.1=0 then
 (qau.f k (rY15 x52 x54).2.2 0 100000).bind fun r6=>
 if r6=true then
 qah.l11 k x52 x53 (wrap64 (x54+1)) xo2_0 xo2_1 xo2_2 xo2_3 xo2_4 xo2_5 r5.2
 else some (4,r5.2)
 else some r5
 else none
 else none
 else qah.l20 k xo2_5 (xo2_5.length:Int) 0 xo2_0 xo2_1 xo2_2 xo2_3 xo2_4 xo2_5 xo3:=rfl
def qah.l2:Nat→(List (ByteArray×ByteArray×Int×Int×Int))→Int→Int→List ByteArray→(List (ByteArray×ByteArray×ByteArray×Bool×Bool))→(List (ByteArray×ByteArray×ByteArray×Int×Int×Int×Int×Int×Int))→(List (ByteArray×ByteArray×Int×Int×Int))→(List (ByteArray×ByteArray×Int))→(List (ByteArray×ByteArray×Int×Int×Int))→List ByteArray→Option (Int×List ByteArray)
 |0,_,_,_,_,_,_,_,_,_,_=>none
 |k+1,x15,x16,x17,xo2_0,xo2_1,xo2_2,xo2_3,xo2_4,xo2_5,xo3=>if x17<x16 then
 if 0≤x17 then
 if x17<(x15.length:Int) then
 (qaN.f k (xo2_0,xo2_1,xo2_2,xo2_3,xo2_4,xo2_5) (rY13 x15 x17).1 [(rY13 x15 x17).2.1] xo3).bind fun r1=>
 if r1.1=0 then
 (qau.f k (rY13 x15 x17).2.2.1 0 100000).bind fun r2=>
 if r2=true then
 (qau.f k (rY13 x15 x17).2.2.2.1 (rY13 x15 x17).2.2.1 100000).bind fun r3=>
 if r3=true then
 (qau.f k (rY13 x15 x17).2.2.2.2 0 100000).bind fun r4=>
 if r4=true then
 qah.l2 k x15 x16 (wrap64 (x17+1)) xo2_0 xo2_1 xo2_2 xo2_3 xo2_4 xo2_5 r1.2
 else some (4,r1.2)
 else some (4,r1.2)
 else some (4,r1.2)
 else some r1
 else none
 else none
 else qah.l11 k xo2_4 (xo2_4.length:Int) 0 xo2_0 xo2_1 xo2_2 xo2_3 xo2_4 xo2_5 xo3
theorem qah.l2_eq (k:Nat) (x15:List (ByteArray×ByteArray×Int×Int×Int)) (x16:Int) (x17:Int) (xo2_0:List ByteArray) (xo2_1:List (ByteArray×ByteArray×ByteArray×Bool×Bool)) (xo2_2:List (ByteArray×ByteArray×ByteArray×Int×Int×Int×Int×Int×Int)) (xo2_3:List (ByteArray×ByteArray×Int×Int×Int)) (xo2_4:List (ByteArray×ByteArray×Int)) (xo2_5:List (ByteArray×ByteArray×Int×Int×Int)) (xo3:List ByteArray):qah.l2 (k+1) x15 x16 x17 xo2_0 xo2_1 xo2_2 xo2_3 xo2_4 xo2_5 xo3=if x17<x16 then
 if 0≤x17 then
 if x17<(x15.length:Int) then
 (qaN.f k (xo2_0,xo2_1,xo2_2,xo2_3,xo2_4,xo2_5) (rY13 x15 x17).1 [(rY13 x15 x17).2.1] xo3).bind fun r1=>
 if r1.1=0 then
 (qau.f k (rY13 x15 x17).2.2.1 0 100000).bind fun r2=>
 if r2=true then
 (qau.f k (rY13 x15 x17).2.2.2.1 (rY13 x15 x17).2.2.1 100000).bind fun r3=>
 if r3=true then
 (qau.f k (rY13 x15 x17).2.2.2.2 0 100000).bind fun r4=>
 if r4=true then
 qah.l2 k x15 x16 (wrap64 (x17+1)) xo2_0 xo2_1 xo2_2 xo2_3 xo2_4 xo2_5 r1.2
 else some (4,r1.2)
 else some (4,r1.2)
 else some (4,r1.2)
 else some r1
 else none
 else none
 else qah.l11 k xo2_4 (xo2_4.length:Int) 0 xo2_0 xo2_1 xo2_2 xo2_3 xo2_4 xo2_5 xo3:=rfl
def qah.f (k:Nat) (a0:List ByteArray×(List (ByteArray×ByteArray×ByteArray×Bool×Bool))×(List (ByteArray×ByteArray×ByteArray×Int×Int×Int×Int×Int×Int))×(List (ByteArray×ByteArray×Int×Int×Int))×(List (ByteArray×ByteArray×Int))×List (ByteArray×ByteArray×Int×Int×Int)) (ao1:List ByteArray):Option (Int×List ByteArray):=
 qah.l2 k a0.2.2.2.1 (a0.2.2.2.1.length:Int) 0 a0.1 a0.2.1 a0.2.2.1 a0.2.2.2.1 a0.2.2.2.2.1 a0.2.2.2.2.2 ao1
def qaf.l22:Nat→(List (ByteArray×ByteArray×ByteArray×Int×Int×Int×Int×Int×Int))→Int→Int→List ByteArray→(List (ByteArray×ByteArray×ByteArray×Bool×Bool))→(List (ByteArray×ByteArray×ByteArray×Int×Int×Int×Int×Int×Int))→(List (ByteArray×ByteArray×Int×Int×Int))→(List (ByteArray×ByteArray×Int))→(List (ByteArray×ByteArray×Int×Int×Int))→List ByteArray→Option Int
 |0,_,_,_,_,_,_,_,_,_,_=>none
 |k+1,x59,x60,x61,xo0_0,xo0_1,xo0_2,xo0_3,xo0_4,xo0_5,xo2=>if x61<x60 then
 if 0≤x61 then
 if x61<(x59.length:Int) then
 (qaN.f k (xo0_0,xo0_1,xo0_2,xo0_3,xo0_4,xo0_5) (rY11 x59 x61).1 [(rY11 x59 x61).2.1,(rY11 x59 x61).2.2.1] xo2).bind fun r4=>
 if r4.1=0 then
 if (rY11 x59 x61).2.1=(rY11 x59 x61).2.2.1 then
 some 3
 else (qbn.f k (rY11 x59 x61)).bind fun r5=>
 if r5=0 then
 qaf.l22 k x59 x60 (wrap64 (x61+1)) xo0_0 xo0_1 xo0_2 xo0_3 xo0_4 xo0_5 r4.2
 else some r5
 else some r4.1
 else none
 else none
 else (qah.f k (xo0_0,xo0_1,xo0_2,xo0_3,xo0_4,xo0_5) xo2).bind fun r6=>
 some r6.1
theorem qaf.l22_eq (k:Nat) (x59:List (ByteArray×ByteArray×ByteArray×Int×Int×Int×Int×Int×Int)) (x60:Int) (x61:Int) (xo0_0:List ByteArray) (xo0_1:List (ByteArray×ByteArray×ByteArray×Bool×Bool)) (xo0_2:List (ByteArray×ByteArray×ByteArray×Int×Int×Int×Int×Int×Int)) (xo0_3:List (ByteArray×ByteArray×Int×Int×Int)) (xo0_4:List (ByteArray×ByteArray×Int)) (xo0_5:List (ByteArray×ByteArray×Int×Int×Int)) (xo2:List ByteArray):qaf.l22 (k+1) x59 x60 x61 xo0_0 xo0_1 xo0_2 xo0_3 xo0_4 xo0_5 xo2=if x61<x60 then
 if 0≤x61 then
 if x61<(x59.length:Int) then
 (qaN.f k (xo0_0,xo0_1,xo0_2,xo0_3,xo0_4,xo0_5) (rY11 x59 x61).1 [(rY11 x59 x61).2.1,(rY11 x59 x61).2.2.1] xo2).bind fun r4=>
 if r4.1=0 then
 if (rY11 x59 x61).2.1=(rY11 x59 x61).2.2.1 then
 some 3
 else (qbn.f k (rY11 x59 x61)).bind fun r5=>
 if r5=0 then
 qaf.l22 k x59 x60 (wrap64 (x61+1)) xo0_0 xo0_1 xo0_2 xo0_3 xo0_4 xo0_5 r4.2
 else some r5
 else some r4.1
 else none
 else none
 else (qah.f k (xo0_0,xo0_1,xo0_2,xo0_3,xo0_4,xo0_5) xo2).bind fun r6=>
 some r6.1:=rfl
def qaf.l13:Nat→(List (ByteArray×ByteArray×ByteArray×Bool×Bool))→Int→Int→List ByteArray→(List (ByteArray×ByteArray×ByteArray×Bool×Bool))→(List (ByteArray×ByteArray×ByteArray×Int×Int×Int×Int×Int×Int))→(List (ByteArray×ByteArray×Int×Int×Int))→(List (ByteArray×ByteArray×Int))→(List (ByteArray×ByteArray×Int×Int×Int))→List ByteArray→Option Int
 |0,_,_,_,_,_,_,_,_,_,_=>none
 |k+1,x34,x35,x36,xo0_0,xo0_1,xo0_2,xo0_3,xo0_4,xo0_5,xo2=>if x36<x35 then
 if 0≤x36 then
 if x36<(x34.length:Int) then
 (qaN.f k (xo0_0,xo0_1,xo0_2,xo0_3,xo0_4,xo0_5) (rY3 x34 x36).1 [(rY3 x34 x36).2.1,(rY3 x34 x36).2.2.1] xo2).bind fun r3=>
 if r3.1=0 then
 if (rY3 x34 x36).2.1=(rY3 x34 x36).2.2.1 then
 some 3
 else qaf.l13 k x34 x35 (wrap64 (x36+1)) xo0_0 xo0_1 xo0_2 xo0_3 xo0_4 xo0_5 r3.2
 else some r3.1
 else none
 else none
 else qaf.l22 k xo0_2 (xo0_2.length:Int) 0 xo0_0 xo0_1 xo0_2 xo0_3 xo0_4 xo0_5 xo2
theorem qaf.l13_eq (k:Nat) (x34:List (ByteArray×ByteArray×ByteArray×Bool×Bool)) (x35:Int) (x36:Int) (xo0_0:List ByteArray) (xo0_1:List (ByteArray×ByteArray×ByteArray×Bool×Bool)) (xo0_2:List (ByteArray×ByteArray×ByteArray×Int×Int×Int×Int×Int×Int)) (xo0_3:List (ByteArray×ByteArray×Int×Int×Int)) (xo0_4:List (ByteArray×ByteArray×Int)) (xo0_5:List (ByteArray×ByteArray×Int×Int×Int)) (xo2:List ByteArray):qaf.l13 (k+1) x34 x35 x36 xo0_0 xo0_1 xo0_2 xo0_3 xo0_4 xo0_5 xo2=if x36<x35 then
 if 0≤x36 then
 if x36<(x34.length:Int) then
 (qaN.f k (xo0_0,xo0_1,xo0_2,xo0_3,xo0_4,xo0_5) (rY3 x34 x36).1 [(rY3 x34 x36).2.1,(rY3 x34 x36).2.2.1] xo2).bind fun r3=>
 if r3.1=0 then
 if (rY3 x34 x36).2.1=(rY3 x34 x36).2.2.1 then
 some 3
 else qaf.l13 k x34 x35 (wrap64 (x36+1)) xo0_0 xo0_1 xo0_2 xo0_3 xo0_4 xo0_5 r3.2
 else some r3.1
 else none
 else none
 else qaf.l22 k xo0_2 (xo0_2.length:Int) 0 xo0_0 xo0_1 xo0_2 xo0_3 xo0_4 xo0_5 xo2:=rfl
def qaf.l6:Nat→List ByteArray→Int→Int→List ByteArray→(List (ByteArray×ByteArray×ByteArray×Bool×Bool))→(List (ByteArray×ByteArray×ByteArray×Int×Int×Int×Int×Int×Int))→(List (ByteArray×ByteArray×Int×Int×Int))→(List (ByteArray×ByteArray×Int))→(List (ByteArray×ByteArray×Int×Int×Int))→List ByteArray→Option Int
 |0,_,_,_,_,_,_,_,_,_,_=>none
 |k+1,x21,x22,x23,xo0_0,xo0_1,xo0_2,xo0_3,xo0_4,xo0_5,xo2=>if x23<x22 then
 if 0≤x23 then
 if x23<(x21.length:Int) then
 (qaS.f k (rStr x21 x23) xo2).bind fun r2=>
 if r2.1=0 then
 qaf.l6 k x21 x22 (wrap64 (x23+1)) xo0_0 xo0_1 xo0_2 xo0_3 xo0_4 xo0_5 r2.2
 else some r2.1
 else none
 else none
 else qaf.l13 k xo0_1 (xo0_1.length:Int) 0 xo0_0 xo0_1 xo0_2 xo0_3 xo0_4 xo0_5 xo2
theorem qaf.l6_eq (k:Nat) (x21:List ByteArray) (x22:Int) (x23:Int) (xo0_0:List ByteArray) (xo0_1:List (ByteArray×ByteArray×ByteArray×Bool×Bool)) (xo0_2:List (ByteArray×ByteArray×ByteArray×Int×Int×Int×Int×Int×Int)) (xo0_3:List (ByteArray×ByteArray×Int×Int×Int)) (xo0_4:List (ByteArray×ByteArray×Int)) (xo0_5:List (ByteArray×ByteArray×Int×Int×Int)) (xo2:List ByteArray):qaf.l6 (k+1) x21 x22 x23 xo0_0 xo0_1 xo0_2 xo0_3 xo0_4 xo0_5 xo2=if x23<x22 then
 if 0≤x23 then
 if x23<(x21.length:Int) then
 (qaS.f k (rStr x21 x23) xo2).bind fun r2=>
 if r2.1=0 then
 qaf.l6 k x21 x22 (wrap64 (x23+1)) xo0_0 xo0_1 xo0_2 xo0_3 xo0_4 xo0_5 r2.2
 else some r2.1
 else none
 else none
 else qaf.l13 k xo0_1 (xo0_1.length:Int) 0 xo0_0 xo0_1 xo0_2 xo0_3 xo0_4 xo0_5 xo2:=rfl
def qaf.f (k:Nat) (a0:List ByteArray×(List (ByteArray×ByteArray×ByteArray×Bool×Bool))×(List (ByteArray×ByteArray×ByteArray×Int×Int×Int×Int×Int×Int))×(List (ByteArray×ByteArray×Int×Int×Int))×(List (ByteArray×ByteArray×Int))×List (ByteArray×ByteArray×Int×Int×Int)):Option Int:=
 (qbF.f k a0).bind fun r1=>
 if r1=0 then
 qaf.l6 k a0.1 (a0.1.length:Int) 0 a0.1 a0.2.1 a0.2.2.1 a0.2.2.2.1 a0.2.2.2.2.1 a0.2.2.2.2.2 []
 else some r1
def qbE.f (k:Nat) (a0:List ByteArray×(List (ByteArray×ByteArray×ByteArray×Bool×Bool))×(List (ByteArray×ByteArray×ByteArray×Int×Int×Int×Int×Int×Int))×(List (ByteArray×ByteArray×Int×Int×Int))×(List (ByteArray×ByteArray×Int))×List (ByteArray×ByteArray×Int×Int×Int)) (a1:ByteArray):Option (Int×Int):=
 (qaf.f k a0).bind fun r1=>
 if r1=0 then
 (slices_Index_string.f k a0.1 a1).bind fun r2=>
 if r2<0 then
 some (0,6)
 else some (r2,0)
 else some (0,r1)
def qaX.l3:Nat→(List (ByteArray×ByteArray×ByteArray×Bool×Bool))→Int→Int→List ByteArray→(List (ByteArray×ByteArray×ByteArray×Bool×Bool))→(List (ByteArray×ByteArray×ByteArray×Int×Int×Int×Int×Int×Int))→(List (ByteArray×ByteArray×Int×Int×Int))→(List (ByteArray×ByteArray×Int))→(List (ByteArray×ByteArray×Int×Int×Int))→(List (Int×Int))→Option (List (Int×Int))
 |0,_,_,_,_,_,_,_,_,_,_=>none
 |k+1,x7,x8,x9,xo0_0,xo0_1,xo0_2,xo0_3,xo0_4,xo0_5,xo1=>if x9<x8 then
 if 0≤x9 then
 if x9<(x7.length:Int) then
 (slices_Index_string.f k xo0_0 (rY3 x7 x9).2.1).bind fun r1=>
 (slices_Index_string.f k xo0_0 (rY3 x7 x9).2.2.1).bind fun r2=>
 if (xo1.length+[(r1,r2)].length)*16≤140737488355328 then
 qaX.l3 k x7 x8 (wrap64 (x9+1)) xo0_0 xo0_1 xo0_2 xo0_3 xo0_4 xo0_5 (xo1++[(r1,r2)])
 else none
 else none
 else none
 else some xo1
theorem qaX.l3_eq (k:Nat) (x7:List (ByteArray×ByteArray×ByteArray×Bool×Bool)) (x8:Int) (x9:Int) (xo0_0:List ByteArray) (xo0_1:List (ByteArray×ByteArray×ByteArray×Bool×Bool)) (xo0_2:List (ByteArray×ByteArray×ByteArray×Int×Int×Int×Int×Int×Int)) (xo0_3:List (ByteArray×ByteArray×Int×Int×Int)) (xo0_4:List (ByteArray×ByteArray×Int)) (xo0_5:List (ByteArray×ByteArray×Int×Int×Int)) (xo1:List (Int×Int)):qaX.l3 (k+1) x7 x8 x9 xo0_0 xo0_1 xo0_2 xo0_3 xo0_4 xo0_5 xo1=if x9<x8 then
 if 0≤x9 then
 if x9<(x7.length:Int) then
 (slices_Index_string.f k xo0_0 (rY3 x7 x9).2.1).bind fun r1=>
 (slices_Index_string.f k xo0_0 (rY3 x7 x9).2.2.1).bind fun r2=>
 if (xo1.length+[(r1,r2)].length)*16≤140737488355328 then
 qaX.l3 k x7 x8 (wrap64 (x9+1)) xo0_0 xo0_1 xo0_2 xo0_3 xo0_4 xo0_5 (xo1++[(r1,r2)])
 else none
 else none
 else none
 else some xo1:=rfl
def qaX.f (k:Nat) (a0:List ByteArray×(List (ByteArray×ByteArray×ByteArray×Bool×Bool))×(List (ByteArray×ByteArray×ByteArray×Int×Int×Int×Int×Int×Int))×(List (ByteArray×ByteArray×Int×Int×Int))×(List (ByteArray×ByteArray×Int))×List (ByteArray×ByteArray×Int×Int×Int)):Option (List (Int×Int)):=
 qaX.l3 k a0.2.1 (a0.2.1.length:Int) 0 a0.1 a0.2.1 a0.2.2.1 a0.2.2.2.1 a0.2.2.2.2.1 a0.2.2.2.2.2 []
def bits_Mul64.f (k:Nat) (a0:Int) (a1:Int):Option (Int×Int):=
 if (0:Int)≤32 then
 if (0:Int)≤32 then
 if (0:Int)≤32 then
 if (0:Int)≤32 then
 if (0:Int)≤32 then
 some (IntKind.wrap .u64 ((IntKind.wrap .u64 ((IntKind.wrap .u64 ((shrI .u64 a0 32)*(shrI .u64 a1 32)))+(shrI .u64 (IntKind.wrap .u64 ((IntKind.wrap .u64 ((shrI .u64 a0 32)*(andI .u64 a1 4294967295)))+(shrI .u64 (IntKind.wrap .u64 ((andI .u64 a0 4294967295)*(andI .u64 a1 4294967295))) 32))) 32)))+(shrI .u64 (IntKind.wrap .u64 ((andI .u64 (IntKind.wrap .u64 ((IntKind.wrap .u64 ((shrI .u64 a0 32)*(andI .u64 a1 4294967295)))+(shrI .u64 (IntKind.wrap .u64 ((andI .u64 a0 4294967295)*(andI .u64 a1 4294967295))) 32))) 4294967295)+(IntKind.wrap .u64 ((andI .u64 a0 4294967295)*(shrI .u64 a1 32))))) 32)),IntKind.wrap .u64 (a0*a1))
 else none
 else none
 else none
 else none
 else none
def bits_Mul.f (k:Nat) (a0:Int) (a1:Int):Option (Int×Int):=
 (bits_Mul64.f k a0 a1).bind fun r1=>
 some r1
def qav.l8:Nat→Int→List Int→Option (List Int)
 |0,_,_=>none
 |k+1,x8,xo0=>if x8<(xo0.length:Int) then
 if 0≤x8 then
 if x8≤(xo0.length:Int) then
 if x8≤(xo0.length:Int) then
 if 0≤x8 then
 qav.l8 k (wrap64 (x8+((min ((Int.toNat (xo0.length:Int)) - (Int.toNat x8)) ((xo0.drop (Int.toNat 0)).take ((Int.toNat x8) - (Int.toNat 0)):List Int).length:Nat):Int))) (xo0.take (Int.toNat x8)++((xo0.drop (Int.toNat 0)).take ((Int.toNat x8) - (Int.toNat 0)):List Int).take (min ((Int.toNat (xo0.length:Int)) - (Int.toNat x8)) ((xo0.drop (Int.toNat 0)).take ((Int.toNat x8) - (Int.toNat 0)):List Int).length)++xo0.drop ((Int.toNat x8)+min ((Int.toNat (xo0.length:Int)) - (Int.toNat x8)) ((xo0.drop (Int.toNat 0)).take ((Int.toNat x8) - (Int.toNat 0)):List Int).length))
 else none
 else none
 else none
 else none
 else some xo0
def qav.l6:Nat→List Int→Int→Option (List Int)
 |0,_,_=>none
 |k+1,x0,x6=>if 0≤(wrap64 (x6)) then
 if (wrap64 (x6))*8≤140737488355328 then
 if (wrap64 (x6))≤140737488355328 then
 qav.l8 k ((min (List.replicate (wrap64 (x6)).toNat 0:List Int).length x0.length:Nat):Int) ((List.replicate (wrap64 (x6)).toNat 0:List Int).take 0++x0.take (min (List.replicate (wrap64 (x6)).toNat 0:List Int).length x0.length)++(List.replicate (wrap64 (x6)).toNat 0:List Int).drop (0+min (List.replicate (wrap64 (x6)).toNat 0:List Int).length x0.length))
 else none
 else none
 else none
def qav.l3:Nat→List Int→Int→Option (List Int)
 |0,_,_=>none
 |k+1,x0,x1=>(bits_Mul.f k (IntKind.wrap .u64 ((x0.length:Int))) (IntKind.wrap .u64 (x1))).bind fun r1=>
 if 0<r1.1 then
 none
 else if 9223372036854775807<r1.2 then
 none
 else qav.l6 k x0 r1.2
def qav.f (k:Nat) (a0:List Int) (a1:Int):Option (List Int):=
 if a1<0 then
 none
 else qav.l3 k a0 a1
def qbt.f (k:Nat) (a0:Int) (ao0_0:List ByteArray) (ao0_1:List (ByteArray×ByteArray×ByteArray×Bool×Bool)) (ao0_2:List (ByteArray×ByteArray×ByteArray×Int×Int×Int×Int×Int×Int)) (ao0_3:List (ByteArray×ByteArray×Int×Int×Int)) (ao0_4:List (ByteArray×ByteArray×Int)) (ao0_5:List (ByteArray×ByteArray×Int×Int×Int)):Option (Bool×List ByteArray×(List (ByteArray×ByteArray×ByteArray×Bool×Bool))×(List (ByteArray×ByteArray×ByteArray×Int×Int×Int×Int×Int×Int))×(List (ByteArray×ByteArray×Int×Int×Int))×(List (ByteArray×ByteArray×Int))×List (ByteArray×ByteArray×Int×Int×Int)):=
 if 0≤a0 then
 if a0<(ao0_1.length:Int) then
 some (!decide ((rY3 ao0_1 a0).2.2.2.2=true),ao0_0,ao0_1,ao0_2,ao0_3,ao0_4,ao0_5)
 else none
 else none
mutual
def qas.l4:Nat→(List (Int×Int))→Int→Int→Int→List ByteArray→(List (ByteArray×ByteArray×ByteArray×Bool×Bool))→(List (ByteArray×ByteArray×ByteArray×Int×Int×Int×Int×Int×Int))→(List (ByteArray×ByteArray×Int×Int×Int))→(List (ByteArray×ByteArray×Int))→(List (ByteArray×ByteArray×Int×Int×Int))→List Int→Option (List Int×List ByteArray×(List (ByteArray×ByteArray×ByteArray×Bool×Bool))×(List (ByteArray×ByteArray×ByteArray×Int×Int×Int×Int×Int×Int))×(List (ByteArray×ByteArray×Int×Int×Int))×(List (ByteArray×ByteArray×Int))×List (ByteArray×ByteArray×Int×Int×Int))
 |0,_,_,_,_,_,_,_,_,_,_,_=>none
 |k+1,x1,x8,x18,x19,xo0_0,xo0_1,xo0_2,xo0_3,xo0_4,xo0_5,xo2=>if x19<x18 then
 if 0≤x19 then
 if x19<(xo2.length:Int) then
 if 0≤(rI64 xo2 x19) then
 qas.l4 k x1 x8 x18 (wrap64 (x19+1)) xo0_0 xo0_1 xo0_2 xo0_3 xo0_4 xo0_5 xo2
 else if 0≤x19 then
 if x19<(xo2.length:Int) then
 qas.l9 k x1 x8 true x18 x19 xo0_0 xo0_1 xo0_2 xo0_3 xo0_4 xo0_5 (xo2.set x19.toNat x8)
 else none
 else none
 else none
 else none
 else some (xo2,xo0_0,xo0_1,xo0_2,xo0_3,xo0_4,xo0_5)
def qas.l9:Nat→(List (Int×Int))→Int→Bool→Int→Int→List ByteArray→(List (ByteArray×ByteArray×ByteArray×Bool×Bool))→(List (ByteArray×ByteArray×ByteArray×Int×Int×Int×Int×Int×Int))→(List (ByteArray×ByteArray×Int×Int×Int))→(List (ByteArray×ByteArray×Int))→(List (ByteArray×ByteArray×Int×Int×Int))→List Int→Option (List Int×List ByteArray×(List (ByteArray×ByteArray×ByteArray×Bool×Bool))×(List (ByteArray×ByteArray×ByteArray×Int×Int×Int×Int×Int×Int))×(List (ByteArray×ByteArray×Int×Int×Int))×(List (ByteArray×ByteArray×Int))×List (ByteArray×ByteArray×Int×Int×Int))
 |0,_,_,_,_,_,_,_,_,_,_,_,_=>none
 |k+1,x1,x8,x10,x18,x19,xo0_0,xo0_1,xo0_2,xo0_3,xo0_4,xo0_5,xo2=>if x10=true then
 qas.l12 k x1 x8 false x18 x19 x1 (x1.length:Int) 0 xo0_0 xo0_1 xo0_2 xo0_3 xo0_4 xo0_5 xo2
 else qas.l4 k x1 (wrap64 (x8+1)) x18 (wrap64 (x19+1)) xo0_0 xo0_1 xo0_2 xo0_3 xo0_4 xo0_5 xo2
def qas.l12:Nat→(List (Int×Int))→Int→Bool→Int→Int→(List (Int×Int))→Int→Int→List ByteArray→(List (ByteArray×ByteArray×ByteArray×Bool×Bool))→(List (ByteArray×ByteArray×ByteArray×Int×Int×Int×Int×Int×Int))→(List (ByteArray×ByteArray×Int×Int×Int))→(List (ByteArray×ByteArray×Int))→(List (ByteArray×ByteArray×Int×Int×Int))→List Int→Option (List Int×List ByteArray×(List (ByteArray×ByteArray×ByteArray×Bool×Bool))×(List (ByteArray×ByteArray×ByteArray×Int×Int×Int×Int×Int×Int))×(List (ByteArray×ByteArray×Int×Int×Int))×(List (ByteArray×ByteArray×Int))×List (ByteArray×ByteArray×Int×Int×Int))
 |0,_,_,_,_,_,_,_,_,_,_,_,_,_,_,_=>none
 |k+1,x1,x8,x10,x18,x19,x32,x33,x34,xo0_0,xo0_1,xo0_2,xo0_3,xo0_4,xo0_5,xo2=>if x34<x33 then
 if 0≤x34 then
 if x34<(x32.length:Int) then
 if [0,0].length=2 then
 if (0:Int)≤0 then
 if (0:Int)<2 then
 if 0<([(rY4 x32 x34).1,(rY4 x32 x34).2].length:Int) then
 if 0≤(rI64 [(rY4 x32 x34).1,(rY4 x32 x34).2] 0) then
 if (rI64 [(rY4 x32 x34).1,(rY4 x32 x34).2] 0)<(xo2.length:Int) then
 if (0:Int)≤1 then
 if (1:Int)<2 then
 if 1<([(rY4 x32 x34).1,(rY4 x32 x34).2].length:Int) then
 if 0≤(rI64 [(rY4 x32 x34).1,(rY4 x32 x34).2] 1) then
 if (rI64 [(rY4 x32 x34).1,(rY4 x32 x34).2] 1)<(xo2.length:Int) then
 if (decide ((rI64 xo2 (rI64 [(rY4 x32 x34).1,(rY4 x32 x34).2] 0))=x8))=(decide ((rI64 xo2 (rI64 [(rY4 x32 x34).1,(rY4 x32 x34).2] 1))=x8)) then
 qas.l12 k x1 x8 x10 x18 x19 x32 x33 (wrap64 (x34+1)) xo0_0 xo0_1 xo0_2 xo0_3 xo0_4 xo0_5 xo2
 else (qbt.f k x34 xo0_0 xo0_1 xo0_2 xo0_3 xo0_4 xo0_5).bind fun r2=>
 if r2.1=true then
 if (0:Int)≤0 then
 if (0:Int)<2 then
 if 0<([(rY4 x32 x34).1,(rY4 x32 x34).2].length:Int) then
 if (0:Int)≤1 then
 if (1:Int)<2 then
 if 1<([(rY4 x32 x34).1,(rY4 x32 x34).2].length:Int) then
 if 0≤(rI64 [(rY4 x32 x34).1,(rY4 x32 x34).2] 0) then
 if (rI64 [(rY4 x32 x34).1,(rY4 x32 x34).2] 0)<(xo2.length:Int) then
 if 0≤(rI64 [(rY4 x32 x34).1,(rY4 x32 x34).2] 1) then
 if (rI64 [(rY4 x32 x34).1,(rY4 x32 x34).2] 1)<((xo2.set (rI64 [(rY4 x32 x34).1,(rY4 x32 x34).2] 0).toNat x8).length:Int) then
 qas.l12 k x1 x8 true x18 x19 x32 x33 (wrap64 (x34+1)) r2.2.1 r2.2.2.1 r2.2.2.2.1 r2.2.2.2.2.1 r2.2.2.2.2.2.1 r2.2.2.2.2.2.2 ((xo2.set (rI64 [(rY4 x32 x34).1,(rY4 x32 x34).2] 0).toNat x8).set (rI64 [(rY4 x32 x34).1,(rY4 x32 x34).2] 1).toNat x8)
 else none
 else none
 else none
 else none
 else none
 else none
 else none
 else none
 else none
 else none
 else qas.l12 k x1 x8 x10 x18 x19 x32 x33 (wrap64 (x34+1)) r2.2.1 r2.2.2.1 r2.2.2.2.1 r2.2.2.2.2.1 r2.2.2.2.2.2.1 r2.2.2.2.2.2.2 xo2
 else none
 else none
 else none
 else none
 else none
 else none
 else none
 else none
 else none
 else none
 else none
 else none
 else none
 else qas.l9 k x1 x8 x10 x18 x19 xo0_0 xo0_1 xo0_2 xo0_3 xo0_4 xo0_5 xo2
end
theorem qas.l4_eq (k:Nat) (x1:List (Int×Int)) (x8:Int) (x18:Int) (x19:Int) (xo0_0:List ByteArray) (xo0_1:List (ByteArray×ByteArray×ByteArray×Bool×Bool)) (xo0_2:List (ByteArray×ByteArray×ByteArray×Int×Int×Int×Int×Int×Int)) (xo0_3:List (ByteArray×ByteArray×Int×Int×Int)) (xo0_4:List (ByteArray×ByteArray×Int)) (xo0_5:List (ByteArray×ByteArray×Int×Int×Int)) (xo2:List Int):qas.l4 (k+1) x1 x8 x18 x19 xo0_0 xo0_1 xo0_2 xo0_3 xo0_4 xo0_5 xo2=if x19<x18 then
 if 0≤x19 then
 if x19<(xo2.length:Int) then
 if 0≤(rI64 xo2 x19) then
 qas.l4 k x1 x8 x18 (wrap64 (x19+1)) xo0_0 xo0_1 xo0_2 xo0_3 xo0_4 xo0_5 xo2
 else if 0≤x19 then
 if x19<(xo2.length:Int) then
 qas.l9 k x1 x8 true x18 x19 xo0_0 xo0_1 xo0_2 xo0_3 xo0_4 xo0_5 (xo2.set x19.toNat x8)
 else none
 else none
 else none
 else none
 else some (xo2,xo0_0,xo0_1,xo0_2,xo0_3,xo0_4,xo0_5):=rfl
theorem qas.l9_eq (k:Nat) (x1:List (Int×Int)) (x8:Int) (x10:Bool) (x18:Int) (x19:Int) (xo0_0:List ByteArray) (xo0_1:List (ByteArray×ByteArray×ByteArray×Bool×Bool)) (xo0_2:List (ByteArray×ByteArray×ByteArray×Int×Int×Int×Int×Int×Int)) (xo0_3:List (ByteArray×ByteArray×Int×Int×Int)) (xo0_4:List (ByteArray×ByteArray×Int)) (xo0_5:List (ByteArray×ByteArray×Int×Int×Int)) (xo2:List Int):qas.l9 (k+1) x1 x8 x10 x18 x19 xo0_0 xo0_1 xo0_2 xo0_3 xo0_4 xo0_5 xo2=if x10=true then
 qas.l12 k x1 x8 false x18 x19 x1 (x1.length:Int) 0 xo0_0 xo0_1 xo0_2 xo0_3 xo0_4 xo0_5 xo2
 else qas.l4 k x1 (wrap64 (x8+1)) x18 (wrap64 (x19+1)) xo0_0 xo0_1 xo0_2 xo0_3 xo0_4 xo0_5 xo2:=rfl
theorem qas.qb9 (k:Nat) (x1:List (Int×Int)) (x8:Int) (x10:Bool) (x18:Int) (x19:Int) (x32:List (Int×Int)) (x33:Int) (x34:Int) (xo0_0:List ByteArray) (xo0_1:List (ByteArray×ByteArray×ByteArray×Bool×Bool)) (xo0_2:List (ByteArray×ByteArray×ByteArray×Int×Int×Int×Int×Int×Int)) (xo0_3:List (ByteArray×ByteArray×Int×Int×Int)) (xo0_4:List (ByteArray×ByteArray×Int)) (xo0_5:List (ByteArray×ByteArray×Int×Int×Int)) (xo2:List Int):qas.l12 (k+1) x1 x8 x10 x18 x19 x32 x33 x34 xo0_0 xo0_1 xo0_2 xo0_3 xo0_4 xo0_5 xo2=if x34<x33 then
 if 0≤x34 then
 if x34<(x32.length:Int) then
 if [0,0].length=2 then
 if (0:Int)≤0 then
 if (0:Int)<2 then
 if 0<([(rY4 x32 x34).1,(rY4 x32 x34).2].length:Int) then
 if 0≤(rI64 [(rY4 x32 x34).1,(rY4 x32 x34).2] 0) then
 if (rI64 [(rY4 x32 x34).1,(rY4 x32 x34).2] 0)<(xo2.length:Int) then
 if (0:Int)≤1 then
 if (1:Int)<2 then
 if 1<([(rY4 x32 x34).1,(rY4 x32 x34).2].length:Int) then
 if 0≤(rI64 [(rY4 x32 x34).1,(rY4 x32 x34).2] 1) then
 if (rI64 [(rY4 x32 x34).1,(rY4 x32 x34).2] 1)<(xo2.length:Int) then
 if (decide ((rI64 xo2 (rI64 [(rY4 x32 x34).1,(rY4 x32 x34).2] 0))=x8))=(decide ((rI64 xo2 (rI64 [(rY4 x32 x34).1,(rY4 x32 x34).2] 1))=x8)) then
 qas.l12 k x1 x8 x10 x18 x19 x32 x33 (wrap64 (x34+1)) xo0_0 xo0_1 xo0_2 xo0_3 xo0_4 xo0_5 xo2
 else (qbt.f k x34 xo0_0 xo0_1 xo0_2 xo0_3 xo0_4 xo0_5).bind fun r2=>
 if r2.1=true then
 if (0:Int)≤0 then
 if (0:Int)<2 then
 if 0<([(rY4 x32 x34).1,(rY4 x32 x34).2].length:Int) then
 if (0:Int)≤1 then
 if (1:Int)<2 then
 if 1<([(rY4 x32 x34).1,(rY4 x32 x34).2].length:Int) then
 if 0≤(rI64 [(rY4 x32 x34).1,(rY4 x32 x34).2] 0) then
 if (rI64 [(rY4 x32 x34).1,(rY4 x32 x34).2] 0)<(xo2.length:Int) then
 if 0≤(rI64 [(rY4 x32 x34).1,(rY4 x32 x34).2] 1) then
 if (rI64 [(rY4 x32 x34).1,(rY4 x32 x34).2] 1)<((xo2.set (rI64 [(rY4 x32 x34).1,(rY4 x32 x34).2] 0).toNat x8).length:Int) then
 qas.l12 k x1 x8 true x18 x19 x32 x33 (wrap64 (x34+1)) r2.2.1 r2.2.2.1 r2.2.2.2.1 r2.2.2.2.2.1 r2.2.2.2.2.2.1 r2.2.2.2.2.2.2 ((xo2.set (rI64 [(rY4 x32 x34).1,(rY4 x32 x34).2] 0).toNat x8).set (rI64 [(rY4 x32 x34).1,(rY4 x32 x34).2] 1).toNat x8)
 else none
 else none
 else none
 else none
 else none
 else none
 else none
 else none
 else none
 else none
 else qas.l12 k x1 x8 x10 x18 x19 x32 x33 (wrap64 (x34+1)) r2.2.1 r2.2.2.1 r2.2.2.2.1 r2.2.2.2.2.1 r2.2.2.2.2.2.1 r2.2.2.2.2.2.2 xo2
 else none
 else none
 else none
 else none
 else none
 else none
 else none
 else none
 else none
 else none
 else none
 else none
 else none
 else qas.l9 k x1 x8 x10 x18 x19 xo0_0 xo0_1 xo0_2 xo0_3 xo0_4 xo0_5 xo2:=rfl
def qas.f (k:Nat) (a0:Int) (a1:List (Int×Int)) (ao1_0:List ByteArray) (ao1_1:List (ByteArray×ByteArray×ByteArray×Bool×Bool)) (ao1_2:List (ByteArray×ByteArray×ByteArray×Int×Int×Int×Int×Int×Int)) (ao1_3:List (ByteArray×ByteArray×Int×Int×Int)) (ao1_4:List (ByteArray×ByteArray×Int)) (ao1_5:List (ByteArray×ByteArray×Int×Int×Int)):Option (List Int×List ByteArray×(List (ByteArray×ByteArray×ByteArray×Bool×Bool))×(List (ByteArray×ByteArray×ByteArray×Int×Int×Int×Int×Int×Int))×(List (ByteArray×ByteArray×Int×Int×Int))×(List (ByteArray×ByteArray×Int))×List (ByteArray×ByteArray×Int×Int×Int)):=
 (qav.f k [(-1)] a0).bind fun r1=>
 qas.l4 k a1 0 a0 0 ao1_0 ao1_1 ao1_2 ao1_3 ao1_4 ao1_5 r1
def qbD.f (k:Nat) (a0:List ByteArray×(List (ByteArray×ByteArray×ByteArray×Bool×Bool))×(List (ByteArray×ByteArray×ByteArray×Int×Int×Int×Int×Int×Int))×(List (ByteArray×ByteArray×Int×Int×Int))×(List (ByteArray×ByteArray×Int))×List (ByteArray×ByteArray×Int×Int×Int)):Option (List Int):=
 (qaX.f k a0).bind fun r1=>
 (qas.f k (a0.1.length:Int) r1 a0.1 a0.2.1 a0.2.2.1 a0.2.2.2.1 a0.2.2.2.2.1 a0.2.2.2.2.2).bind fun r2=>
 some r2.1
def qa1.l3:Nat→Int→List Int→Int→Int→Option Int
 |0,_,_,_,_=>none
 |k+1,x3,x6,x7,x8=>if x8<x7 then
 if 0≤x8 then
 if x8<(x6.length:Int) then
 qa1.l3 k (mx x3 (wrap64 ((rI64 x6 x8)+1))) x6 x7 (wrap64 (x8+1))
 else none
 else none
 else some x3
theorem qa1.l3_eq (k:Nat) (x3:Int) (x6:List Int) (x7:Int) (x8:Int):qa1.l3 (k+1) x3 x6 x7 x8=if x8<x7 then
 if 0≤x8 then
 if x8<(x6.length:Int) then
 qa1.l3 k (mx x3 (wrap64 ((rI64 x6 x8)+1))) x6 x7 (wrap64 (x8+1))
 else none
 else none
 else some x3:=rfl
def qa1.f (k:Nat) (a0:List Int):Option Int:=
 qa1.l3 k 0 a0 (a0.length:Int) 0
def qaL.l3:Nat→List Int→(List (ByteArray×ByteArray×ByteArray×Int×Int×Int×Int×Int×Int))→Int→Int→List ByteArray→(List (ByteArray×ByteArray×ByteArray×Bool×Bool))→(List (ByteArray×ByteArray×ByteArray×Int×Int×Int×Int×Int×Int))→(List (ByteArray×ByteArray×Int×Int×Int))→(List (ByteArray×ByteArray×Int))→(List (ByteArray×ByteArray×Int×Int×Int))→(List (Int×Int))→Option (List (Int×Int))
 |0,_,_,_,_,_,_,_,_,_,_,_=>none
 |k+1,x1,x9,x10,x11,xo0_0,xo0_1,xo0_2,xo0_3,xo0_4,xo0_5,xo1=>if x11<x10 then
 if 0≤x11 then
 if x11<(x9.length:Int) then
 (slices_Index_string.f k xo0_0 (rY11 x9 x11).2.1).bind fun r1=>
 if 0≤r1 then
 if r1<(x1.length:Int) then
 (slices_Index_string.f k xo0_0 (rY11 x9 x11).2.2.1).bind fun r2=>
 if 0≤r2 then
 if r2<(x1.length:Int) then
 if (xo1.length+[(rI64 x1 r1,rI64 x1 r2)].length)*16≤140737488355328 then
 qaL.l3 k x1 x9 x10 (wrap64 (x11+1)) xo0_0 xo0_1 xo0_2 xo0_3 xo0_4 xo0_5 (xo1++[(rI64 x1 r1,rI64 x1 r2)])
 else none
 else none
 else none
 else none
 else none
 else none
 else none
 else some xo1
theorem qaL.l3_eq (k:Nat) (x1:List Int) (x9:List (ByteArray×ByteArray×ByteArray×Int×Int×Int×Int×Int×Int)) (x10:Int) (x11:Int) (xo0_0:List ByteArray) (xo0_1:List (ByteArray×ByteArray×ByteArray×Bool×Bool)) (xo0_2:List (ByteArray×ByteArray×ByteArray×Int×Int×Int×Int×Int×Int)) (xo0_3:List (ByteArray×ByteArray×Int×Int×Int)) (xo0_4:List (ByteArray×ByteArray×Int)) (xo0_5:List (ByteArray×ByteArray×Int×Int×Int)) (xo1:List (Int×Int)):qaL.l3 (k+1) x1 x9 x10 x11 xo0_0 xo0_1 xo0_2 xo0_3 xo0_4 xo0_5 xo1=if x11<x10 then
 if 0≤x11 then
 if x11<(x9.length:Int) then
 (slices_Index_string.f k xo0_0 (rY11 x9 x11).2.1).bind fun r1=>
 if 0≤r1 then
 if r1<(x1.length:Int) then
 (slices_Index_string.f k xo0_0 (rY11 x9 x11).2.2.1).bind fun r2=>
 if 0≤r2 then
 if r2<(x1.length:Int) then
 if (xo1.length+[(rI64 x1 r1,rI64 x1 r2)].length)*16≤140737488355328 then
 qaL.l3 k x1 x9 x10 (wrap64 (x11+1)) xo0_0 xo0_1 xo0_2 xo0_3 xo0_4 xo0_5 (xo1++[(rI64 x1 r1,rI64 x1 r2)])
 else none
 else none
 else none
 else none
 else none
 else none
 else none
 else some xo1:=rfl
def qaL.f (k:Nat) (a0:List ByteArray×(List (ByteArray×ByteArray×ByteArray×Bool×Bool))×(List (ByteArray×ByteArray×ByteArray×Int×Int×Int×Int×Int×Int))×(List (ByteArray×ByteArray×Int×Int×Int))×(List (ByteArray×ByteArray×Int))×List (ByteArray×ByteArray×Int×Int×Int)) (a1:List Int):Option (List (Int×Int)):=
 qaL.l3 k a1 a0.2.2.1 (a0.2.2.1.length:Int) 0 a0.1 a0.2.1 a0.2.2.1 a0.2.2.2.1 a0.2.2.2.2.1 a0.2.2.2.2.2 []
def qbq.f (k:Nat) (a0:Int):Option Bool:=
 some true
mutual
def qak.l4:Nat→(List (Int×Int))→Int→Int→Int→List Int→Option (List Int)
 |0,_,_,_,_,_=>none
 |k+1,x1,x8,x18,x19,xo0=>if x19<x18 then
 if 0≤x19 then
 if x19<(xo0.length:Int) then
 if 0≤(rI64 xo0 x19) then
 qak.l4 k x1 x8 x18 (wrap64 (x19+1)) xo0
 else if 0≤x19 then
 if x19<(xo0.length:Int) then
 qak.l9 k x1 x8 true x18 x19 (xo0.set x19.toNat x8)
 else none
 else none
 else none
 else none
 else some xo0
def qak.l9:Nat→(List (Int×Int))→Int→Bool→Int→Int→List Int→Option (List Int)
 |0,_,_,_,_,_,_=>none
 |k+1,x1,x8,x10,x18,x19,xo0=>if x10=true then
 qak.l12 k x1 x8 false x18 x19 x1 (x1.length:Int) 0 xo0
 else qak.l4 k x1 (wrap64 (x8+1)) x18 (wrap64 (x19+1)) xo0
def qak.l12:Nat→(List (Int×Int))→Int→Bool→Int→Int→(List (Int×Int))→Int→Int→List Int→Option (List Int)
 |0,_,_,_,_,_,_,_,_,_=>none
 |k+1,x1,x8,x10,x18,x19,x32,x33,x34,xo0=>if x34<x33 then
 if 0≤x34 then
 if x34<(x32.length:Int) then
 if [0,0].length=2 then
 if (0:Int)≤0 then
 if (0:Int)<2 then
 if 0<([(rY4 x32 x34).1,(rY4 x32 x34).2].length:Int) then
 if 0≤(rI64 [(rY4 x32 x34).1,(rY4 x32 x34).2] 0) then
 if (rI64 [(rY4 x32 x34).1,(rY4 x32 x34).2] 0)<(xo0.length:Int) then
 if (0:Int)≤1 then
 if (1:Int)<2 then
 if 1<([(rY4 x32 x34).1,(rY4 x32 x34).2].length:Int) then
 if 0≤(rI64 [(rY4 x32 x34).1,(rY4 x32 x34).2] 1) then
 if (rI64 [(rY4 x32 x34).1,(rY4 x32 x34).2] 1)<(xo0.length:Int) then
 if (decide ((rI64 xo0 (rI64 [(rY4 x32 x34).1,(rY4 x32 x34).2] 0))=x8))=(decide ((rI64 xo0 (rI64 [(rY4 x32 x34).1,(rY4 x32 x34).2] 1))=x8)) then
 qak.l12 k x1 x8 x10 x18 x19 x32 x33 (wrap64 (x34+1)) xo0
 else (qbq.f k x34).bind fun r2=>
 if r2=true then
 if (0:Int)≤0 then
 if (0:Int)<2 then
 if 0<([(rY4 x32 x34).1,(rY4 x32 x34).2].length:Int) then
 if (0:Int)≤1 then
 if (1:Int)<2 then
 if 1<([(rY4 x32 x34).1,(rY4 x32 x34).2].length:Int) then
 if 0≤(rI64 [(rY4 x32 x34).1,(rY4 x32 x34).2] 0) then
 if (rI64 [(rY4 x32 x34).1,(rY4 x32 x34).2] 0)<(xo0.length:Int) then
 if 0≤(rI64 [(rY4 x32 x34).1,(rY4 x32 x34).2] 1) then
 if (rI64 [(rY4 x32 x34).1,(rY4 x32 x34).2] 1)<((xo0.set (rI64 [(rY4 x32 x34).1,(rY4 x32 x34).2] 0).toNat x8).length:Int) then
 qak.l12 k x1 x8 true x18 x19 x32 x33 (wrap64 (x34+1)) ((xo0.set (rI64 [(rY4 x32 x34).1,(rY4 x32 x34).2] 0).toNat x8).set (rI64 [(rY4 x32 x34).1,(rY4 x32 x34).2] 1).toNat x8)
 else none
 else none
 else none
 else none
 else none
 else none
 else none
 else none
 else none
 else none
 else qak.l12 k x1 x8 x10 x18 x19 x32 x33 (wrap64 (x34+1)) xo0
 else none
 else none
 else none
 else none
 else none
 else none
 else none
 else none
 else none
 else none
 else none
 else none
 else none
 else qak.l9 k x1 x8 x10 x18 x19 xo0
end
theorem qak.l4_eq (k:Nat) (x1:List (Int×Int)) (x8:Int) (x18:Int) (x19:Int) (xo0:List Int):qak.l4 (k+1) x1 x8 x18 x19 xo0=if x19<x18 then
 if 0≤x19 then
 if x19<(xo0.length:Int) then
 if 0≤(rI64 xo0 x19) then
 qak.l4 k x1 x8 x18 (wrap64 (x19+1)) xo0
 else if 0≤x19 then
 if x19<(xo0.length:Int) then
 qak.l9 k x1 x8 true x18 x19 (xo0.set x19.toNat x8)
 else none
 else none
 else none
 else none
 else some xo0:=rfl
theorem qak.l9_eq (k:Nat) (x1:List (Int×Int)) (x8:Int) (x10:Bool) (x18:Int) (x19:Int) (xo0:List Int):qak.l9 (k+1) x1 x8 x10 x18 x19 xo0=if x10=true then
 qak.l12 k x1 x8 false x18 x19 x1 (x1.length:Int) 0 xo0
 else qak.l4 k x1 (wrap64 (x8+1)) x18 (wrap64 (x19+1)) xo0:=rfl
theorem qak.qb9 (k:Nat) (x1:List (Int×Int)) (x8:Int) (x10:Bool) (x18:Int) (x19:Int) (x32:List (Int×Int)) (x33:Int) (x34:Int) (xo0:List Int):qak.l12 (k+1) x1 x8 x10 x18 x19 x32 x33 x34 xo0=if x34<x33 then
 if 0≤x34 then
 if x34<(x32.length:Int) then
 if [0,0].length=2 then
 if (0:Int)≤0 then
 if (0:Int)<2 then
 if 0<([(rY4 x32 x34).1,(rY4 x32 x34).2].length:Int) then
 if 0≤(rI64 [(rY4 x32 x34).1,(rY4 x32 x34).2] 0) then
 if (rI64 [(rY4 x32 x34).1,(rY4 x32 x34).2] 0)<(xo0.length:Int) then
 if (0:Int)≤1 then
 if (1:Int)<2 then
 if 1<([(rY4 x32 x34).1,(rY4 x32 x34).2].length:Int) then
 if 0≤(rI64 [(rY4 x32 x34).1,(rY4 x32 x34).2] 1) then
 if (rI64 [(rY4 x32 x34).1,(rY4 x32 x34).2] 1)<(xo0.length:Int) then
 if (decide ((rI64 xo0 (rI64 [(rY4 x32 x34).1,(rY4 x32 x34).2] 0))=x8))=(decide ((rI64 xo0 (rI64 [(rY4 x32 x34).1,(rY4 x32 x34).2] 1))=x8)) then
 qak.l12 k x1 x8 x10 x18 x19 x32 x33 (wrap64 (x34+1)) xo0
 else (qbq.f k x34).bind fun r2=>
 if r2=true then
 if (0:Int)≤0 then
 if (0:Int)<2 then
 if 0<([(rY4 x32 x34).1,(rY4 x32 x34).2].length:Int) then
 if (0:Int)≤1 then
 if (1:Int)<2 then
 if 1<([(rY4 x32 x34).1,(rY4 x32 x34).2].length:Int) then
 if 0≤(rI64 [(rY4 x32 x34).1,(rY4 x32 x34).2] 0) then
 if (rI64 [(rY4 x32 x34).1,(rY4 x32 x34).2] 0)<(xo0.length:Int) then
 if 0≤(rI64 [(rY4 x32 x34).1,(rY4 x32 x34).2] 1) then
 if (rI64 [(rY4 x32 x34).1,(rY4 x32 x34).2] 1)<((xo0.set (rI64 [(rY4 x32 x34).1,(rY4 x32 x34).2] 0).toNat x8).length:Int) then
 qak.l12 k x1 x8 true x18 x19 x32 x33 (wrap64 (x34+1)) ((xo0.set (rI64 [(rY4 x32 x34).1,(rY4 x32 x34).2] 0).toNat x8).set (rI64 [(rY4 x32 x34).1,(rY4 x32 x34).2] 1).toNat x8)
 else none
 else none
 else none
 else none
 else none
 else none
 else none
 else none
 else none
 else none
 else qak.l12 k x1 x8 x10 x18 x19 x32 x33 (wrap64 (x34+1)) xo0
 else none
 else none
 else none
 else none
 else none
 else none
 else none
 else none
 else none
 else none
 else none
 else none
 else none
 else qak.l9 k x1 x8 x10 x18 x19 xo0:=rfl
def qak.f (k:Nat) (a0:Int) (a1:List (Int×Int)):Option (List Int):=
 (qav.f k [(-1)] a0).bind fun r1=>
 qak.l4 k a1 0 a0 0 r1
def qaM.f (k:Nat) (a0:List ByteArray×(List (ByteArray×ByteArray×ByteArray×Bool×Bool))×(List (ByteArray×ByteArray×ByteArray×Int×Int×Int×Int×Int×Int))×(List (ByteArray×ByteArray×Int×Int×Int))×(List (ByteArray×ByteArray×Int))×List (ByteArray×ByteArray×Int×Int×Int)):Option (List Int×List Int):=
 (qbD.f k a0).bind fun r1=>
 (qa1.f k r1).bind fun r2=>
 (qaL.f k a0 r1).bind fun r3=>
 (qak.f k r2 r3).bind fun r4=>
 some (r1,r4)
def qbv.f (k:Nat) (a0:List ByteArray×(List (ByteArray×ByteArray×ByteArray×Bool×Bool))×(List (ByteArray×ByteArray×ByteArray×Int×Int×Int×Int×Int×Int))×(List (ByteArray×ByteArray×Int×Int×Int))×(List (ByteArray×ByteArray×Int))×List (ByteArray×ByteArray×Int×Int×Int)):Option ((List Int×List Int)×Int):=
 (qaf.f k a0).bind fun r1=>
 if r1=0 then
 (qaM.f k a0).bind fun r2=>
 some (r2,0)
 else some (([],[]),r1)
def qbb.f (k:Nat) (a0:ByteArray) (ao0_0:List ByteArray) (ao0_1:List (ByteArray×ByteArray×ByteArray×Bool×Bool)) (ao0_2:List (ByteArray×ByteArray×ByteArray×Int×Int×Int×Int×Int×Int)) (ao0_3:List (ByteArray×ByteArray×Int×Int×Int)) (ao0_4:List (ByteArray×ByteArray×Int)) (ao0_5:List (ByteArray×ByteArray×Int×Int×Int)) (ao1_0:List Int) (ao1_1:List Int):Option (Int×List ByteArray×(List (ByteArray×ByteArray×ByteArray×Bool×Bool))×(List (ByteArray×ByteArray×ByteArray×Int×Int×Int×Int×Int×Int))×(List (ByteArray×ByteArray×Int×Int×Int))×(List (ByteArray×ByteArray×Int))×(List (ByteArray×ByteArray×Int×Int×Int))×List Int×List Int):=
 (qbE.f k (ao0_0,ao0_1,ao0_2,ao0_3,ao0_4,ao0_5) a0).bind fun r1=>
 if 0≤r1.1 then
 if r1.1<(ao1_0.length:Int) then
 some (rI64 ao1_0 r1.1,ao0_0,ao0_1,ao0_2,ao0_3,ao0_4,ao0_5,ao1_0,ao1_1)
 else none
 else none
def qbf.l2:Nat→Int→List Int→Option (List Int)
 |0,_,_=>none
 |k+1,x0,xo0=>if 0<x0 then
 if (1000000000:Int)≠0 then
 if (xo0.length+[IntKind.wrap .u32 (Int.tmod x0 1000000000)].length)*4≤140737488355328 then
 if (1000000000:Int)≠0 then
 qbf.l2 k (wrap64 (Int.tdiv x0 1000000000)) (xo0++[IntKind.wrap .u32 (Int.tmod x0 1000000000)])
 else none
 else none
 else none
 else some xo0
theorem qbf.l2_eq (k:Nat) (x0:Int) (xo0:List Int):qbf.l2 (k+1) x0 xo0=if 0<x0 then
 if (1000000000:Int)≠0 then
 if (xo0.length+[IntKind.wrap .u32 (Int.tmod x0 1000000000)].length)*4≤140737488355328 then
 if (1000000000:Int)≠0 then
 qbf.l2 k (wrap64 (Int.tdiv x0 1000000000)) (xo0++[IntKind.wrap .u32 (Int.tmod x0 1000000000)])
 else none
 else none
 else none
 else some xo0:=rfl
def qbf.f (k:Nat) (a0:Int):Option (List Int):=
 qbf.l2 k a0 []
def qbh.f (k:Nat) (a0:Int):Option (Bool×List Int×List Int):=
 if a0<0 then
 (qbf.f k (wrap64 (0 - a0))).bind fun r1=>
 (qbf.f k 1).bind fun r2=>
 some (true,r1,r2)
 else (qbf.f k a0).bind fun r3=>
 (qbf.f k 1).bind fun r4=>
 some (false,r3,r4)
def qaW.f (k:Nat) (a0:Bool×List Int×List Int):Option (List Int):=
 if (a0.2.2.length:Int)=0 then
 (qbf.f k 1).bind fun r1=>
 some r1
 else some a0.2.2
def qaE.l1:Nat→List Int→Option (List Int)
 |0,_=>none
 |k+1,xo1=>if 0<(xo1.length:Int) then
 if 0≤(wrap64 ((xo1.length:Int) - 1)) then
 if (wrap64 ((xo1.length:Int) - 1))<(xo1.length:Int) then
 if (rU32 xo1 (wrap64 ((xo1.length:Int) - 1)))=0 then
 if (wrap64 ((xo1.length:Int) - 1))≤(xo1.length:Int) then
 if 0≤(wrap64 ((xo1.length:Int) - 1)) then
 qaE.l1 k (xo1.take ((Int.toNat (wrap64 ((xo1.length:Int) - 1))) - (Int.toNat 0)))
 else none
 else none
 else some xo1
 else none
 else none
 else some xo1
theorem qaE.l1_eq (k:Nat) (xo1:List Int):qaE.l1 (k+1) xo1=if 0<(xo1.length:Int) then
 if 0≤(wrap64 ((xo1.length:Int) - 1)) then
 if (wrap64 ((xo1.length:Int) - 1))<(xo1.length:Int) then
 if (rU32 xo1 (wrap64 ((xo1.length:Int) - 1)))=0 then
 if (wrap64 ((xo1.length:Int) - 1))≤(xo1.length:Int) then
 if 0≤(wrap64 ((xo1.length:Int) - 1)) then
 qaE.l1 k (xo1.take ((Int.toNat (wrap64 ((xo1.length:Int) - 1))) - (Int.toNat 0)))
 else none
 else none
 else some xo1
 else none
 else none
 else some xo1:=rfl
def qaE.f (k:Nat) (ao0:List Int):Option (List Int):=
 qaE.l1 k ao0
mutual
def qaw.l3:Nat→List Int→List Int→Int→Int→List Int→Option (List Int)
 |0,_,_,_,_,_=>none
 |k+1,x1,x18,x19,x20,xo0=>if x20<x19 then
 if 0≤x20 then
 if x20<(x18.length:Int) then
 qaw.l7 k x1 x20 (rU32 x18 x20) 0 x18 x19 x20 x1 (x1.length:Int) 0 xo0
 else none
 else none
 else (qaE.f k xo0).bind fun r1=>
 some r1
def qaw.l7:Nat→List Int→Int→Int→Int→List Int→Int→Int→List Int→Int→Int→List Int→Option (List Int)
 |0,_,_,_,_,_,_,_,_,_,_,_=>none
 |k+1,x1,x6,x7,x8,x18,x19,x20,x25,x26,x27,xo0=>if x27<x26 then
 if 0≤x27 then
 if x27<(x25.length:Int) then
 if 0≤(wrap64 (x6+x27)) then
 if (wrap64 (x6+x27))<(xo0.length:Int) then
 if (1000000000:Int)≠0 then
 if 0≤(wrap64 (x6+x27)) then
 if (wrap64 (x6+x27))<(xo0.length:Int) then
 if (1000000000:Int)≠0 then
 qaw.l7 k x1 x6 x7 (IntKind.wrap .u64 (Int.tdiv (IntKind.wrap .u64 ((IntKind.wrap .u64 ((IntKind.wrap .u64 ((IntKind.wrap .u64 (x7))*(IntKind.wrap .u64 (rU32 x25 x27))))+(IntKind.wrap .u64 (rU32 xo0 (wrap64 (x6+x27))))))+x8)) 1000000000)) x18 x19 x20 x25 x26 (wrap64 (x27+1)) (xo0.set (wrap64 (x6+x27)).toNat (IntKind.wrap .u32 (Int.tmod (IntKind.wrap .u64 ((IntKind.wrap .u64 ((IntKind.wrap .u64 ((IntKind.wrap .u64 (x7))*(IntKind.wrap .u64 (rU32 x25 x27))))+(IntKind.wrap .u64 (rU32 xo0 (wrap64 (x6+x27))))))+x8)) 1000000000)))
 else none
 else none
 else none
 else none
 else none
 else none
 else none
 else none
 else if 0≤(wrap64 (x6+(x1.length:Int))) then
 if (wrap64 (x6+(x1.length:Int)))<(xo0.length:Int) then
 qaw.l3 k x1 x18 x19 (wrap64 (x20+1)) (xo0.set (wrap64 (x6+(x1.length:Int))).toNat (IntKind.wrap .u32 (x8)))
 else none
 else none
end
theorem qaw.l3_eq (k:Nat) (x1:List Int) (x18:List Int) (x19:Int) (x20:Int) (xo0:List Int):qaw.l3 (k+1) x1 x18 x19 x20 xo0=if x20<x19 then
 if 0≤x20 then
 if x20<(x18.length:Int) then
 qaw.l7 k x1 x20 (rU32 x18 x20) 0 x18 x19 x20 x1 (x1.length:Int) 0 xo0
 else none
 else none
 else (qaE.f k xo0).bind fun r1=>
 some r1:=rfl
theorem qaw.l7_eq (k:Nat) (x1:List Int) (x6:Int) (x7:Int) (x8:Int) (x18:List Int) (x19:Int) (x20:Int) (x25:List Int) (x26:Int) (x27:Int) (xo0:List Int):qaw.l7 (k+1) x1 x6 x7 x8 x18 x19 x20 x25 x26 x27 xo0=if x27<x26 then
 if 0≤x27 then
 if x27<(x25.length:Int) then
 if 0≤(wrap64 (x6+x27)) then
 if (wrap64 (x6+x27))<(xo0.length:Int) then
 if (1000000000:Int)≠0 then
 if 0≤(wrap64 (x6+x27)) then
 if (wrap64 (x6+x27))<(xo0.length:Int) then
 if (1000000000:Int)≠0 then
 qaw.l7 k x1 x6 x7 (IntKind.wrap .u64 (Int.tdiv (IntKind.wrap .u64 ((IntKind.wrap .u64 ((IntKind.wrap .u64 ((IntKind.wrap .u64 (x7))*(IntKind.wrap .u64 (rU32 x25 x27))))+(IntKind.wrap .u64 (rU32 xo0 (wrap64 (x6+x27))))))+x8)) 1000000000)) x18 x19 x20 x25 x26 (wrap64 (x27+1)) (xo0.set (wrap64 (x6+x27)).toNat (IntKind.wrap .u32 (Int.tmod (IntKind.wrap .u64 ((IntKind.wrap .u64 ((IntKind.wrap .u64 ((IntKind.wrap .u64 (x7))*(IntKind.wrap .u64 (rU32 x25 x27))))+(IntKind.wrap .u64 (rU32 xo0 (wrap64 (x6+x27))))))+x8)) 1000000000)))
 else none
 else none
 else none
 else none
 else none
 else none
 else none
 else none
 else if 0≤(wrap64 (x6+(x1.length:Int))) then
 if (wrap64 (x6+(x1.length:Int)))<(xo0.length:Int) then
 qaw.l3 k x1 x18 x19 (wrap64 (x20+1)) (xo0.set (wrap64 (x6+(x1.length:Int))).toNat (IntKind.wrap .u32 (x8)))
 else none
 else none:=rfl
def qaw.l0:Nat→List Int→List Int→Option (List Int)
 |0,_,_=>none
 |k+1,x0,x1=>if 0≤(wrap64 ((x0.length:Int)+(x1.length:Int))) then
 if (wrap64 ((x0.length:Int)+(x1.length:Int)))*4≤140737488355328 then
 if (wrap64 ((x0.length:Int)+(x1.length:Int)))≤140737488355328 then
 qaw.l3 k x1 x0 (x0.length:Int) 0 (List.replicate (wrap64 ((x0.length:Int)+(x1.length:Int))).toNat 0)
 else none
 else none
 else none
theorem qaw.l0_eq (k:Nat) (x0:List Int) (x1:List Int):qaw.l0 (k+1) x0 x1=if 0≤(wrap64 ((x0.length:Int)+(x1.length:Int))) then
 if (wrap64 ((x0.length:Int)+(x1.length:Int)))*4≤140737488355328 then
 if (wrap64 ((x0.length:Int)+(x1.length:Int)))≤140737488355328 then
 qaw.l3 k x1 x0 (x0.length:Int) 0 (List.replicate (wrap64 ((x0.length:Int)+(x1.length:Int))).toNat 0)
 else none
 else none
 else none:=rfl
def qaw.f (k:Nat) (a0:List Int) (a1:List Int):Option (List Int):=
 qaw.l0 k a0 a1
def qaQ.l6:Nat→List Int→List Int→Int→Option Int
 |0,_,_,_=>none
 |k+1,x0,x1,x5=>if 0≤x5 then
 if 0≤x5 then
 if x5<(x0.length:Int) then
 if 0≤x5 then
 if x5<(x1.length:Int) then
 if (rU32 x0 x5)<(rU32 x1 x5) then
 some (-1)
 else if 0≤x5 then
 if x5<(x0.length:Int) then
 if 0≤x5 then
 if x5<(x1.length:Int) then
 if (rU32 x1 x5)<(rU32 x0 x5) then
 some 1
 else qaQ.l6 k x0 x1 (wrap64 (x5 - 1))
 else none
 else none
 else none
 else none
 else none
 else none
 else none
 else none
 else some 0
theorem qaQ.l6_eq (k:Nat) (x0:List Int) (x1:List Int) (x5:Int):qaQ.l6 (k+1) x0 x1 x5=if 0≤x5 then
 if 0≤x5 then
 if x5<(x0.length:Int) then
 if 0≤x5 then
 if x5<(x1.length:Int) then
 if (rU32 x0 x5)<(rU32 x1 x5) then
 some (-1)
 else if 0≤x5 then
 if x5<(x0.length:Int) then
 if 0≤x5 then
 if x5<(x1.length:Int) then
 if (rU32 x1 x5)<(rU32 x0 x5) then
 some 1
 else qaQ.l6 k x0 x1 (wrap64 (x5 - 1))
 else none
 else none
 else none
 else none
 else none
 else none
 else none
 else none
 else some 0:=rfl
def qaQ.f (k:Nat) (a0:List Int) (a1:List Int):Option Int:=
 if (a0.length:Int)=(a1.length:Int) then
 qaQ.l6 k a0 a1 (wrap64 ((a0.length:Int) - 1))
 else if (a0.length:Int)<(a1.length:Int) then
 some (-1)
 else some 1
def qaK.l4:Nat→List Int→Int→Int→Int→List Int→Option (List Int×List Int)
 |0,_,_,_,_,_=>none
 |k+1,x0,x1,x7,x8,xo0=>if 0≤x8 then
 if 0≤x8 then
 if x8<(x0.length:Int) then
 if (IntKind.wrap .u64 (x1))≠0 then
 if 0≤x8 then
 if x8<(xo0.length:Int) then
 if (IntKind.wrap .u64 (x1))≠0 then
 qaK.l4 k x0 x1 (Int.tmod (IntKind.wrap .u64 ((IntKind.wrap .u64 (x7*1000000000))+(IntKind.wrap .u64 (rU32 x0 x8)))) (IntKind.wrap .u64 (x1))) (wrap64 (x8 - 1)) (xo0.set x8.toNat (IntKind.wrap .u32 (IntKind.wrap .u64 (Int.tdiv (IntKind.wrap .u64 ((IntKind.wrap .u64 (x7*1000000000))+(IntKind.wrap .u64 (rU32 x0 x8)))) (IntKind.wrap .u64 (x1))))))
 else none
 else none
 else none
 else none
 else none
 else none
 else (qaE.f k xo0).bind fun r1=>
 (qaE.f k [IntKind.wrap .u32 (x7)]).bind fun r2=>
 some (r1,r2)
theorem qaK.l4_eq (k:Nat) (x0:List Int) (x1:Int) (x7:Int) (x8:Int) (xo0:List Int):qaK.l4 (k+1) x0 x1 x7 x8 xo0=if 0≤x8 then
 if 0≤x8 then
 if x8<(x0.length:Int) then
 if (IntKind.wrap .u64 (x1))≠0 then
 if 0≤x8 then
 if x8<(xo0.length:Int) then
 if (IntKind.wrap .u64 (x1))≠0 then
 qaK.l4 k x0 x1 (Int.tmod (IntKind.wrap .u64 ((IntKind.wrap .u64 (x7*1000000000))+(IntKind.wrap .u64 (rU32 x0 x8)))) (IntKind.wrap .u64 (x1))) (wrap64 (x8 - 1)) (xo0.set x8.toNat (IntKind.wrap .u32 (IntKind.wrap .u64 (Int.tdiv (IntKind.wrap .u64 ((IntKind.wrap .u64 (x7*1000000000))+(IntKind.wrap .u64 (rU32 x0 x8)))) (IntKind.wrap .u64 (x1))))))
 else none
 else none
 else none
 else none
 else none
 else none
 else (qaE.f k xo0).bind fun r1=>
 (qaE.f k [IntKind.wrap .u32 (x7)]).bind fun r2=>
 some (r1,r2):=rfl
def qaK.l0:Nat→List Int→Int→Option (List Int×List Int)
 |0,_,_=>none
 |k+1,x0,x1=>if 0≤(x0.length:Int) then
 if (x0.length:Int)*4≤140737488355328 then
 if (x0.length:Int)≤140737488355328 then
 qaK.l4 k x0 x1 0 (wrap64 ((x0.length:Int) - 1)) (List.replicate (x0.length:Int).toNat 0)
 else none
 else none
 else none
theorem qaK.l0_eq (k:Nat) (x0:List Int) (x1:Int):qaK.l0 (k+1) x0 x1=if 0≤(x0.length:Int) then
 if (x0.length:Int)*4≤140737488355328 then
 if (x0.length:Int)≤140737488355328 then
 qaK.l4 k x0 x1 0 (wrap64 ((x0.length:Int) - 1)) (List.replicate (x0.length:Int).toNat 0)
 else none
 else none
 else none:=rfl
def qaK.f (k:Nat) (a0:List Int) (a1:Int):Option (List Int×List Int):=
 qaK.l0 k a0 a1
mutual
def qaz.l4:Nat→List Int→Int→Int→Int→Int→Int→List Int→Option (Bool×List Int)
 |0,_,_,_,_,_,_,_=>none
 |k+1,x1,x2,x3,x9,x10,x11,xo0=>if x11≤(x1.length:Int) then
 if x11<(x1.length:Int) then
 if 0≤x11 then
 if x11<(x1.length:Int) then
 qaz.l9 k x1 x2 x3 x9 x11 (IntKind.wrap .u64 (x10+(IntKind.wrap .u64 (x3*(IntKind.wrap .u64 (rU32 x1 x11)))))) xo0
 else none
 else none
 else qaz.l9 k x1 x2 x3 x9 x11 x10 xo0
 else some (decide (0<x9),xo0)
def qaz.l9:Nat→List Int→Int→Int→Int→Int→Int→List Int→Option (Bool×List Int)
 |0,_,_,_,_,_,_,_=>none
 |k+1,x1,x2,x3,x9,x11,x12,xo0=>if (1000000000:Int)≠0 then
 if 0≤(wrap64 (x2+x11)) then
 if (wrap64 (x2+x11))<(xo0.length:Int) then
 if (1000000000:Int)≠0 then
 if (wrap64 ((wrap64 ((wrap64 (rU32 xo0 (wrap64 (x2+x11)))) - (wrap64 (Int.tmod x12 1000000000)))) - x9))<0 then
 if 0≤(wrap64 (x2+x11)) then
 if (wrap64 (x2+x11))<(xo0.length:Int) then
 qaz.l4 k x1 x2 x3 1 (IntKind.wrap .u64 (Int.tdiv x12 1000000000)) (wrap64 (x11+1)) (xo0.set (wrap64 (x2+x11)).toNat (IntKind.wrap .u32 (wrap64 ((wrap64 ((wrap64 ((wrap64 (rU32 xo0 (wrap64 (x2+x11)))) - (wrap64 (Int.tmod x12 1000000000)))) - x9))+1000000000))))
 else none
 else none
 else if 0≤(wrap64 (x2+x11)) then
 if (wrap64 (x2+x11))<(xo0.length:Int) then
 qaz.l4 k x1 x2 x3 0 (IntKind.wrap .u64 (Int.tdiv x12 1000000000)) (wrap64 (x11+1)) (xo0.set (wrap64 (x2+x11)).toNat (IntKind.wrap .u32 (wrap64 ((wrap64 ((wrap64 (rU32 xo0 (wrap64 (x2+x11)))) - (wrap64 (Int.tmod x12 1000000000)))) - x9))))
 else none
 else none
 else none
 else none
 else none
 else none
end
theorem qaz.l4_eq (k:Nat) (x1:List Int) (x2:Int) (x3:Int) (x9:Int) (x10:Int) (x11:Int) (xo0:List Int):qaz.l4 (k+1) x1 x2 x3 x9 x10 x11 xo0=if x11≤(x1.length:Int) then
 if x11<(x1.length:Int) then
 if 0≤x11 then
 if x11<(x1.length:Int) then
 qaz.l9 k x1 x2 x3 x9 x11 (IntKind.wrap .u64 (x10+(IntKind.wrap .u64 (x3*(IntKind.wrap .u64 (rU32 x1 x11)))))) xo0
 else none
 else none
 else qaz.l9 k x1 x2 x3 x9 x11 x10 xo0
 else some (decide (0<x9),xo0):=rfl
theorem qaz.l9_eq (k:Nat) (x1:List Int) (x2:Int) (x3:Int) (x9:Int) (x11:Int) (x12:Int) (xo0:List Int):qaz.l9 (k+1) x1 x2 x3 x9 x11 x12 xo0=if (1000000000:Int)≠0 then
 if 0≤(wrap64 (x2+x11)) then
 if (wrap64 (x2+x11))<(xo0.length:Int) then
 if (1000000000:Int)≠0 then
 if (wrap64 ((wrap64 ((wrap64 (rU32 xo0 (wrap64 (x2+x11)))) - (wrap64 (Int.tmod x12 1000000000)))) - x9))<0 then
 if 0≤(wrap64 (x2+x11)) then
 if (wrap64 (x2+x11))<(xo0.length:Int) then
 qaz.l4 k x1 x2 x3 1 (IntKind.wrap .u64 (Int.tdiv x12 1000000000)) (wrap64 (x11+1)) (xo0.set (wrap64 (x2+x11)).toNat (IntKind.wrap .u32 (wrap64 ((wrap64 ((wrap64 ((wrap64 (rU32 xo0 (wrap64 (x2+x11)))) - (wrap64 (Int.tmod x12 1000000000)))) - x9))+1000000000))))
 else none
 else none
 else if 0≤(wrap64 (x2+x11)) then
 if (wrap64 (x2+x11))<(xo0.length:Int) then
 qaz.l4 k x1 x2 x3 0 (IntKind.wrap .u64 (Int.tdiv x12 1000000000)) (wrap64 (x11+1)) (xo0.set (wrap64 (x2+x11)).toNat (IntKind.wrap .u32 (wrap64 ((wrap64 ((wrap64 (rU32 xo0 (wrap64 (x2+x11)))) - (wrap64 (Int.tmod x12 1000000000)))) - x9))))
 else none
 else none
 else none
 else none
 else none
 else none:=rfl
def qaz.f (k:Nat) (a1:List Int) (a2:Int) (a3:Int) (ao0:List Int):Option (Bool×List Int):=
 qaz.l4 k a1 a2 a3 0 0 0 ao0
def qaV.l2:Nat→List Int→Int→Int→Int→List Int→Option (List Int)
 |0,_,_,_,_,_=>none
 |k+1,x1,x2,x6,x7,xo0=>if x7≤(x1.length:Int) then
 if 0≤(wrap64 (x2+x7)) then
 if (wrap64 (x2+x7))<(xo0.length:Int) then
 if x7<(x1.length:Int) then
 if 0≤x7 then
 if x7<(x1.length:Int) then
 if (1000000000:Int)≠0 then
 if (1000000000:Int)≠0 then
 if 0≤(wrap64 (x2+x7)) then
 if (wrap64 (x2+x7))<(xo0.length:Int) then
 qaV.l2 k x1 x2 (IntKind.wrap .u32 (Int.tdiv (IntKind.wrap .u32 ((IntKind.wrap .u32 ((rU32 xo0 (wrap64 (x2+x7)))+x6))+(rU32 x1 x7))) 1000000000)) (wrap64 (x7+1)) (xo0.set (wrap64 (x2+x7)).toNat (Int.tmod (IntKind.wrap .u32 ((IntKind.wrap .u32 ((rU32 xo0 (wrap64 (x2+x7)))+x6))+(rU32 x1 x7))) 1000000000))
 else none
 else none
 else none
 else none
 else none
 else none
 else if (1000000000:Int)≠0 then
 if (1000000000:Int)≠0 then
 if 0≤(wrap64 (x2+x7)) then
 if (wrap64 (x2+x7))<(xo0.length:Int) then
 qaV.l2 k x1 x2 (IntKind.wrap .u32 (Int.tdiv (IntKind.wrap .u32 ((rU32 xo0 (wrap64 (x2+x7)))+x6)) 1000000000)) (wrap64 (x7+1)) (xo0.set (wrap64 (x2+x7)).toNat (Int.tmod (IntKind.wrap .u32 ((rU32 xo0 (wrap64 (x2+x7)))+x6)) 1000000000))
 else none
 else none
 else none
 else none
 else none
 else none
 else some xo0
theorem qaV.l2_eq (k:Nat) (x1:List Int) (x2:Int) (x6:Int) (x7:Int) (xo0:List Int):qaV.l2 (k+1) x1 x2 x6 x7 xo0=if x7≤(x1.length:Int) then
 if 0≤(wrap64 (x2+x7)) then
 if (wrap64 (x2+x7))<(xo0.length:Int) then
 if x7<(x1.length:Int) then
 if 0≤x7 then
 if x7<(x1.length:Int) then
 if (1000000000:Int)≠0 then
 if (1000000000:Int)≠0 then
 if 0≤(wrap64 (x2+x7)) then
 if (wrap64 (x2+x7))<(xo0.length:Int) then
 qaV.l2 k x1 x2 (IntKind.wrap .u32 (Int.tdiv (IntKind.wrap .u32 ((IntKind.wrap .u32 ((rU32 xo0 (wrap64 (x2+x7)))+x6))+(rU32 x1 x7))) 1000000000)) (wrap64 (x7+1)) (xo0.set (wrap64 (x2+x7)).toNat (Int.tmod (IntKind.wrap .u32 ((IntKind.wrap .u32 ((rU32 xo0 (wrap64 (x2+x7)))+x6))+(rU32 x1 x7))) 1000000000))
 else none
 else none
 else none
 else none
 else none
 else none
 else if (1000000000:Int)≠0 then
 if (1000000000:Int)≠0 then
 if 0≤(wrap64 (x2+x7)) then
 if (wrap64 (x2+x7))<(xo0.length:Int) then
 qaV.l2 k x1 x2 (IntKind.wrap .u32 (Int.tdiv (IntKind.wrap .u32 ((rU32 xo0 (wrap64 (x2+x7)))+x6)) 1000000000)) (wrap64 (x7+1)) (xo0.set (wrap64 (x2+x7)).toNat (Int.tmod (IntKind.wrap .u32 ((rU32 xo0 (wrap64 (x2+x7)))+x6)) 1000000000))
 else none
 else none
 else none
 else none
 else none
 else none
 else some xo0:=rfl
def qaV.f (k:Nat) (a1:List Int) (a2:Int) (ao0:List Int):Option (List Int):=
 qaV.l2 k a1 a2 0 0 ao0
mutual
def qan.l12:Nat→Int→Int→Int→List Int→List Int→List Int→Option (List Int×List Int)
 |0,_,_,_,_,_,_=>none
 |k+1,x6,x9,x11,xo0,xo1,xo2=>if 0≤x11 then
 if 0≤(wrap64 (x11+x9)) then
 if (wrap64 (x11+x9))<(xo0.length:Int) then
 if 0≤(wrap64 ((wrap64 (x11+x9)) - 1)) then
 if (wrap64 ((wrap64 (x11+x9)) - 1))<(xo0.length:Int) then
 if 0≤(wrap64 (x9 - 1)) then
 if (wrap64 (x9 - 1))<(xo1.length:Int) then
 if (IntKind.wrap .u64 (rU32 xo1 (wrap64 (x9 - 1))))≠0 then
 if 0≤(wrap64 (x9 - 1)) then
 if (wrap64 (x9 - 1))<(xo1.length:Int) then
 if (IntKind.wrap .u64 (rU32 xo1 (wrap64 (x9 - 1))))≠0 then
 qan.l16 k x6 x9 x11 (IntKind.wrap .u64 (Int.tdiv (IntKind.wrap .u64 ((IntKind.wrap .u64 ((IntKind.wrap .u64 (rU32 xo0 (wrap64 (x11+x9))))*1000000000))+(IntKind.wrap .u64 (rU32 xo0 (wrap64 ((wrap64 (x11+x9)) - 1)))))) (IntKind.wrap .u64 (rU32 xo1 (wrap64 (x9 - 1)))))) (Int.tmod (IntKind.wrap .u64 ((IntKind.wrap .u64 ((IntKind.wrap .u64 (rU32 xo0 (wrap64 (x11+x9))))*1000000000))+(IntKind.wrap .u64 (rU32 xo0 (wrap64 ((wrap64 (x11+x9)) - 1)))))) (IntKind.wrap .u64 (rU32 xo1 (wrap64 (x9 - 1))))) xo0 xo1 xo2
 else none
 else none
 else none
 else none
 else none
 else none
 else none
 else none
 else none
 else none
 else (qaE.f k xo0).bind fun r5=>
 (qaK.f k r5 x6).bind fun r6=>
 (qaE.f k xo2).bind fun r7=>
 some (r7,r6.1)
def qan.l16:Nat→Int→Int→Int→Int→Int→List Int→List Int→List Int→Option (List Int×List Int)
 |0,_,_,_,_,_,_,_,_=>none
 |k+1,x6,x9,x11,x13,x14,xo0,xo1,xo2=>if 1000000000≤x13 then
 if 0≤(wrap64 (x9 - 1)) then
 if (wrap64 (x9 - 1))<(xo1.length:Int) then
 if 1000000000≤(IntKind.wrap .u64 (x14+(IntKind.wrap .u64 (rU32 xo1 (wrap64 (x9 - 1)))))) then
 (qaz.f k xo1 x11 (IntKind.wrap .u64 (x13 - 1)) xo0).bind fun r8=>
 if r8.1=true then
 (qaV.f k xo1 x11 r8.2).bind fun r9=>
 if 0≤x11 then
 if x11<(xo2.length:Int) then
 qan.l12 k x6 x9 (wrap64 (x11 - 1)) r9 xo1 (xo2.set x11.toNat (IntKind.wrap .u32 (IntKind.wrap .u64 ((IntKind.wrap .u64 (x13 - 1)) - 1))))
 else none
 else none
 else if 0≤x11 then
 if x11<(xo2.length:Int) then
 qan.l12 k x6 x9 (wrap64 (x11 - 1)) r8.2 xo1 (xo2.set x11.toNat (IntKind.wrap .u32 (IntKind.wrap .u64 (x13 - 1))))
 else none
 else none
 else qan.l16 k x6 x9 x11 (IntKind.wrap .u64 (x13 - 1)) (IntKind.wrap .u64 (x14+(IntKind.wrap .u64 (rU32 xo1 (wrap64 (x9 - 1)))))) xo0 xo1 xo2
 else none
 else none
 else if 0≤(wrap64 (x9 - 2)) then
 if (wrap64 (x9 - 2))<(xo1.length:Int) then
 if 0≤(wrap64 ((wrap64 (x11+x9)) - 2)) then
 if (wrap64 ((wrap64 (x11+x9)) - 2))<(xo0.length:Int) then
 if (IntKind.wrap .u64 ((IntKind.wrap .u64 (x14*1000000000))+(IntKind.wrap .u64 (rU32 xo0 (wrap64 ((wrap64 (x11+x9)) - 2))))))<(IntKind.wrap .u64 (x13*(IntKind.wrap .u64 (rU32 xo1 (wrap64 (x9 - 2)))))) then
 if 0≤(wrap64 (x9 - 1)) then
 if (wrap64 (x9 - 1))<(xo1.length:Int) then
 if 1000000000≤(IntKind.wrap .u64 (x14+(IntKind.wrap .u64 (rU32 xo1 (wrap64 (x9 - 1)))))) then
 (qaz.f k xo1 x11 (IntKind.wrap .u64 (x13 - 1)) xo0).bind fun r10=>
 if r10.1=true then
 (qaV.f k xo1 x11 r10.2).bind fun r11=>
 if 0≤x11 then
 if x11<(xo2.length:Int) then
 qan.l12 k x6 x9 (wrap64 (x11 - 1)) r11 xo1 (xo2.set x11.toNat (IntKind.wrap .u32 (IntKind.wrap .u64 ((IntKind.wrap .u64 (x13 - 1)) - 1))))
 else none
 else none
 else if 0≤x11 then
 if x11<(xo2.length:Int) then
 qan.l12 k x6 x9 (wrap64 (x11 - 1)) r10.2 xo1 (xo2.set x11.toNat (IntKind.wrap .u32 (IntKind.wrap .u64 (x13 - 1))))
 else none
 else none
 else qan.l16 k x6 x9 x11 (IntKind.wrap .u64 (x13 - 1)) (IntKind.wrap .u64 (x14+(IntKind.wrap .u64 (rU32 xo1 (wrap64 (x9 - 1)))))) xo0 xo1 xo2
 else none
 else none
 else (qaz.f k xo1 x11 x13 xo0).bind fun r12=>
 if r12.1=true then
 (qaV.f k xo1 x11 r12.2).bind fun r13=>
 if 0≤x11 then
 if x11<(xo2.length:Int) then
 qan.l12 k x6 x9 (wrap64 (x11 - 1)) r13 xo1 (xo2.set x11.toNat (IntKind.wrap .u32 (IntKind.wrap .u64 (x13 - 1))))
 else none
 else none
 else if 0≤x11 then
 if x11<(xo2.length:Int) then
 qan.l12 k x6 x9 (wrap64 (x11 - 1)) r12.2 xo1 (xo2.set x11.toNat (IntKind.wrap .u32 (x13)))
 else none
 else none
 else none
 else none
 else none
 else none
end
theorem qan.qb9 (k:Nat) (x6:Int) (x9:Int) (x11:Int) (xo0:List Int) (xo1:List Int) (xo2:List Int):qan.l12 (k+1) x6 x9 x11 xo0 xo1 xo2=if 0≤x11 then
 if 0≤(wrap64 (x11+x9)) then
 if (wrap64 (x11+x9))<(xo0.length:Int) then
 if 0≤(wrap64 ((wrap64 (x11+x9)) - 1)) then
 if (wrap64 ((wrap64 (x11+x9)) - 1))<(xo0.length:Int) then
 if 0≤(wrap64 (x9 - 1)) then
 if (wrap64 (x9 - 1))<(xo1.length:Int) then
 if (IntKind.wrap .u64 (rU32 xo1 (wrap64 (x9 - 1))))≠0 then
 if 0≤(wrap64 (x9 - 1)) then
 if (wrap64 (x9 - 1))<(xo1.length:Int) then
 if (IntKind.wrap .u64 (rU32 xo1 (wrap64 (x9 - 1))))≠0 then
 qan.l16 k x6 x9 x11 (IntKind.wrap .u64 (Int.tdiv (IntKind.wrap .u64 ((IntKind.wrap .u64 ((IntKind.wrap .u64 (rU32 xo0 (wrap64 (x11+x9))))*1000000000))+(IntKind.wrap .u64 (rU32 xo0 (wrap64 ((wrap64 (x11+x9)) - 1)))))) (IntKind.wrap .u64 (rU32 xo1 (wrap64 (x9 - 1)))))) (Int.tmod (IntKind.wrap .u64 ((IntKind.wrap .u64 ((IntKind.wrap .u64 (rU32 xo0 (wrap64 (x11+x9))))*1000000000))+(IntKind.wrap .u64 (rU32 xo0 (wrap64 ((wrap64 (x11+x9)) - 1)))))) (IntKind.wrap .u64 (rU32 xo1 (wrap64 (x9 - 1))))) xo0 xo1 xo2
 else none
 else none
 else none
 else none
 else none
 else none
 else none
 else none
 else none
 else none
 else (qaE.f k xo0).bind fun r5=>
 (qaK.f k r5 x6).bind fun r6=>
 (qaE.f k xo2).bind fun r7=>
 some (r7,r6.1):=rfl
theorem qan.qfD (k:Nat) (x6:Int) (x9:Int) (x11:Int) (x13:Int) (x14:Int) (xo0:List Int) (xo1:List Int) (xo2:List Int):qan.l16 (k+1) x6 x9 x11 x13 x14 xo0 xo1 xo2=if 1000000000≤x13 then
 if 0≤(wrap64 (x9 - 1)) then
 if (wrap64 (x9 - 1))<(xo1.length:Int) then
 if 1000000000≤(IntKind.wrap .u64 (x14+(IntKind.wrap .u64 (rU32 xo1 (wrap64 (x9 - 1)))))) then
 (qaz.f k xo1 x11 (IntKind.wrap .u64 (x13 - 1)) xo0).bind fun r8=>
 if r8.1=true then
 (qaV.f k xo1 x11 r8.2).bind fun r9=>
 if 0≤x11 then
 if x11<(xo2.length:Int) then
 qan.l12 k x6 x9 (wrap64 (x11 - 1)) r9 xo1 (xo2.set x11.toNat (IntKind.wrap .u32 (IntKind.wrap .u64 ((IntKind.wrap .u64 (x13 - 1)) - 1))))
 else none
 else none
 else if 0≤x11 then
 if x11<(xo2.length:Int) then
 qan.l12 k x6 x9 (wrap64 (x11 - 1)) r8.2 xo1 (xo2.set x11.toNat (IntKind.wrap .u32 (IntKind.wrap .u64 (x13 - 1))))
 else none
 else none
 else qan.l16 k x6 x9 x11 (IntKind.wrap .u64 (x13 - 1)) (IntKind.wrap .u64 (x14+(IntKind.wrap .u64 (rU32 xo1 (wrap64 (x9 - 1)))))) xo0 xo1 xo2
 else none
 else none
 else if 0≤(wrap64 (x9 - 2)) then
 if (wrap64 (x9 - 2))<(xo1.length:Int) then
 if 0≤(wrap64 ((wrap64 (x11+x9)) - 2)) then
 if (wrap64 ((wrap64 (x11+x9)) - 2))<(xo0.length:Int) then
 if (IntKind.wrap .u64 ((IntKind.wrap .u64 (x14*1000000000))+(IntKind.wrap .u64 (rU32 xo0 (wrap64 ((wrap64 (x11+x9)) - 2))))))<(IntKind.wrap .u64 (x13*(IntKind.wrap .u64 (rU32 xo1 (wrap64 (x9 - 2)))))) then
 if 0≤(wrap64 (x9 - 1)) then
 if (wrap64 (x9 - 1))<(xo1.length:Int) then
 if 1000000000≤(IntKind.wrap .u64 (x14+(IntKind.wrap .u64 (rU32 xo1 (wrap64 (x9 - 1)))))) then
 (qaz.f k xo1 x11 (IntKind.wrap .u64 (x13 - 1)) xo0).bind fun r10=>
 if r10.1=true then
 (qaV.f k xo1 x11 r10.2).bind fun r11=>
 if 0≤x11 then
 if x11<(xo2.length:Int) then
 qan.l12 k x6 x9 (wrap64 (x11 - 1)) r11 xo1 (xo2.set x11.toNat (IntKind.wrap .u32 (IntKind.wrap .u64 ((IntKind.wrap .u64 (x13 - 1)) - 1))))
 else none
 else none
 else if 0≤x11 then
 if x11<(xo2.length:Int) then
 qan.l12 k x6 x9 (wrap64 (x11 - 1)) r10.2 xo1 (xo2.set x11.toNat (IntKind.wrap .u32 (IntKind.wrap .u64 (x13 - 1))))
 else none
 else none
 else qan.l16 k x6 x9 x11 (IntKind.wrap .u64 (x13 - 1)) (IntKind.wrap .u64 (x14+(IntKind.wrap .u64 (rU32 xo1 (wrap64 (x9 - 1)))))) xo0 xo1 xo2
 else none
 else none
 else (qaz.f k xo1 x11 x13 xo0).bind fun r12=>
 if r12.1=true then
 (qaV.f k xo1 x11 r12.2).bind fun r13=>
 if 0≤x11 then
 if x11<(xo2.length:Int) then
 qan.l12 k x6 x9 (wrap64 (x11 - 1)) r13 xo1 (xo2.set x11.toNat (IntKind.wrap .u32 (IntKind.wrap .u64 (x13 - 1))))
 else none
 else none
 else if 0≤x11 then
 if x11<(xo2.length:Int) then
 qan.l12 k x6 x9 (wrap64 (x11 - 1)) r12.2 xo1 (xo2.set x11.toNat (IntKind.wrap .u32 (x13)))
 else none
 else none
 else none
 else none
 else none
 else none:=rfl
def qan.l7:Nat→List Int→Int→List Int→List Int→Option (List Int×List Int)
 |0,_,_,_,_=>none
 |k+1,x0,x6,xo0,xo1=>if (xo0.length:Int)≤(x0.length:Int) then
 if (xo0.length+[0].length)*4≤140737488355328 then
 qan.l7 k x0 x6 (xo0++[0]) xo1
 else none
 else if 0≤(wrap64 ((xo0.length:Int) - (xo1.length:Int))) then
 if (wrap64 ((xo0.length:Int) - (xo1.length:Int)))*4≤140737488355328 then
 if (wrap64 ((xo0.length:Int) - (xo1.length:Int)))≤140737488355328 then
 qan.l12 k x6 (xo1.length:Int) (wrap64 ((wrap64 ((xo0.length:Int) - (xo1.length:Int))) - 1)) xo0 xo1 (List.replicate (wrap64 ((xo0.length:Int) - (xo1.length:Int))).toNat 0)
 else none
 else none
 else none
theorem qan.l7_eq (k:Nat) (x0:List Int) (x6:Int) (xo0:List Int) (xo1:List Int):qan.l7 (k+1) x0 x6 xo0 xo1=if (xo0.length:Int)≤(x0.length:Int) then
 if (xo0.length+[0].length)*4≤140737488355328 then
 qan.l7 k x0 x6 (xo0++[0]) xo1
 else none
 else if 0≤(wrap64 ((xo0.length:Int) - (xo1.length:Int))) then
 if (wrap64 ((xo0.length:Int) - (xo1.length:Int)))*4≤140737488355328 then
 if (wrap64 ((xo0.length:Int) - (xo1.length:Int)))≤140737488355328 then
 qan.l12 k x6 (xo1.length:Int) (wrap64 ((wrap64 ((xo0.length:Int) - (xo1.length:Int))) - 1)) xo0 xo1 (List.replicate (wrap64 ((xo0.length:Int) - (xo1.length:Int))).toNat 0)
 else none
 else none
 else none:=rfl
def qan.l0:Nat→List Int→List Int→Option (List Int×List Int)
 |0,_,_=>none
 |k+1,x0,x1=>(qaQ.f k x0 x1).bind fun r1=>
 if r1<0 then
 some ([],x0)
 else if (x1.length:Int)=1 then
 if (0:Int)≤0 then
 if 0<(x1.length:Int) then
 (qaK.f k x0 (rU32 x1 0)).bind fun r2=>
 some r2
 else none
 else none
 else if 0≤(wrap64 ((x1.length:Int) - 1)) then
 if (wrap64 ((x1.length:Int) - 1))<(x1.length:Int) then
 if (IntKind.wrap .u64 ((IntKind.wrap .u64 (rU32 x1 (wrap64 ((x1.length:Int) - 1))))+1))≠0 then
 (qaw.f k x0 [IntKind.wrap .u32 (IntKind.wrap .u64 (Int.tdiv 1000000000 (IntKind.wrap .u64 ((IntKind.wrap .u64 (rU32 x1 (wrap64 ((x1.length:Int) - 1))))+1))))]).bind fun r3=>
 if (r3.length+[0].length)*4≤140737488355328 then
 (qaw.f k x1 [IntKind.wrap .u32 (IntKind.wrap .u64 (Int.tdiv 1000000000 (IntKind.wrap .u64 ((IntKind.wrap .u64 (rU32 x1 (wrap64 ((x1.length:Int) - 1))))+1))))]).bind fun r4=>
 qan.l7 k x0 (IntKind.wrap .u32 (IntKind.wrap .u64 (Int.tdiv 1000000000 (IntKind.wrap .u64 ((IntKind.wrap .u64 (rU32 x1 (wrap64 ((x1.length:Int) - 1))))+1))))) (r3++[0]) r4
 else none
 else none
 else none
 else none
theorem qan.l0_eq (k:Nat) (x0:List Int) (x1:List Int):qan.l0 (k+1) x0 x1=(qaQ.f k x0 x1).bind fun r1=>
 if r1<0 then
 some ([],x0)
 else if (x1.length:Int)=1 then
 if (0:Int)≤0 then
 if 0<(x1.length:Int) then
 (qaK.f k x0 (rU32 x1 0)).bind fun r2=>
 some r2
 else none
 else none
 else if 0≤(wrap64 ((x1.length:Int) - 1)) then
 if (wrap64 ((x1.length:Int) - 1))<(x1.length:Int) then
 if (IntKind.wrap .u64 ((IntKind.wrap .u64 (rU32 x1 (wrap64 ((x1.length:Int) - 1))))+1))≠0 then
 (qaw.f k x0 [IntKind.wrap .u32 (IntKind.wrap .u64 (Int.tdiv 1000000000 (IntKind.wrap .u64 ((IntKind.wrap .u64 (rU32 x1 (wrap64 ((x1.length:Int) - 1))))+1))))]).bind fun r3=>
 if (r3.length+[0].length)*4≤140737488355328 then
 (qaw.f k x1 [IntKind.wrap .u32 (IntKind.wrap .u64 (Int.tdiv 1000000000 (IntKind.wrap .u64 ((IntKind.wrap .u64 (rU32 x1 (wrap64 ((x1.length:Int) - 1))))+1))))]).bind fun r4=>
 qan.l7 k x0 (IntKind.wrap .u32 (IntKind.wrap .u64 (Int.tdiv 1000000000 (IntKind.wrap .u64 ((IntKind.wrap .u64 (rU32 x1 (wrap64 ((x1.length:Int) - 1))))+1))))) (r3++[0]) r4
 else none
 else none
 else none
 else none:=rfl
def qan.f (k:Nat) (a0:List Int) (a1:List Int):Option (List Int×List Int):=
 qan.l0 k a0 a1
def qa8.l1:Nat→List Int→List Int→Option (List Int)
 |0,_,_=>none
 |k+1,x0,x1=>if 0<(x1.length:Int) then
 (qan.f k x0 x1).bind fun r1=>
 qa8.l1 k x1 r1.2
 else some x0
theorem qa8.l1_eq (k:Nat) (x0:List Int) (x1:List Int):qa8.l1 (k+1) x0 x1=if 0<(x1.length:Int) then
 (qan.f k x0 x1).bind fun r1=>
 qa8.l1 k x1 r1.2
 else some x0:=rfl
def qa8.f (k:Nat) (a0:List Int) (a1:List Int):Option (List Int):=
 qa8.l1 k a0 a1
def qbG.f (k:Nat) (a0:Bool) (a1:List Int) (a2:List Int):Option (Bool×List Int×List Int):=
 if (a1.length:Int)=0 then
 some (false,[],[])
 else (qa8.f k a1 a2).bind fun r1=>
 (qbf.f k 1).bind fun r2=>
 (qaQ.f k r1 r2).bind fun r3=>
 if 0<r3 then
 (qan.f k a1 r1).bind fun r4=>
 (qan.f k a2 r1).bind fun r5=>
 some (a0,r4.1,r5.1)
 else some (a0,a1,a2)
def qbw.f (k:Nat) (a0:Bool×List Int×List Int) (a1:Bool×List Int×List Int):Option (Bool×List Int×List Int):=
 if (a0.2.1.length:Int)=0 then
 some (false,[],[])
 else if (a1.2.1.length:Int)=0 then
 some (false,[],[])
 else (qaW.f k a1).bind fun r1=>
 (qaw.f k a0.2.1 r1).bind fun r2=>
 (qaW.f k a0).bind fun r3=>
 (qaw.f k r3 a1.2.1).bind fun r4=>
 (qbG.f k (!decide (a0.1=a1.1)) r2 r4).bind fun r5=>
 some r5
def qaH.l11:Nat→Int→List Int→Int→Int→Int→List Int→List Int→(List (Int×Int))→Int→(List (Bool×List Int×List Int))→(List (Bool×List Int×List Int))→List Int→Option ((List Int×List Int)×(List (Int×Int))×(List (Bool×List Int×List Int))×(List (Bool×List Int×List Int))×List Int×Int)
 |0,_,_,_,_,_,_,_,_,_,_,_,_=>none
 |k+1,x7,x50,x51,x52,xo0,xo1_0,xo1_1,xo1_2,xo1_3,xo2,xo3,xo4=>if x52<x51 then
 if 0≤x52 then
 if x52<(x50.length:Int) then
 if x7<(rI64 x50 x52) then
 if (xo4.length+[(-1)].length)*8≤140737488355328 then
 qaH.l11 k (rI64 x50 x52) x50 x51 (wrap64 (x52+1)) xo0 xo1_0 xo1_1 xo1_2 xo1_3 xo2 xo3 (xo4++[(-1)])
 else none
 else if (xo4.length+[xo1_3].length)*8≤140737488355328 then
 qaH.l11 k x7 x50 x51 (wrap64 (x52+1)) xo0 xo1_0 xo1_1 xo1_2 (wrap64 (xo1_3+1)) xo2 xo3 (xo4++[xo1_3])
 else none
 else none
 else none
 else some ((xo1_0,xo1_1),xo1_2,xo2,xo3,xo4,xo1_3)
theorem qaH.l11_eq (k:Nat) (x7:Int) (x50:List Int) (x51:Int) (x52:Int) (xo0:Int) (xo1_0:List Int) (xo1_1:List Int) (xo1_2:List (Int×Int)) (xo1_3:Int) (xo2:List (Bool×List Int×List Int)) (xo3:List (Bool×List Int×List Int)) (xo4:List Int):qaH.l11 (k+1) x7 x50 x51 x52 xo0 xo1_0 xo1_1 xo1_2 xo1_3 xo2 xo3 xo4=if x52<x51 then
 if 0≤x52 then
 if x52<(x50.length:Int) then
 if x7<(rI64 x50 x52) then
 if (xo4.length+[(-1)].length)*8≤140737488355328 then
 qaH.l11 k (rI64 x50 x52) x50 x51 (wrap64 (x52+1)) xo0 xo1_0 xo1_1 xo1_2 xo1_3 xo2 xo3 (xo4++[(-1)])
 else none
 else if (xo4.length+[xo1_3].length)*8≤140737488355328 then
 qaH.l11 k x7 x50 x51 (wrap64 (x52+1)) xo0 xo1_0 xo1_1 xo1_2 (wrap64 (xo1_3+1)) xo2 xo3 (xo4++[xo1_3])
 else none
 else none
 else none
 else some ((xo1_0,xo1_1),xo1_2,xo2,xo3,xo4,xo1_3):=rfl
def qaH.l4:Nat→(List (ByteArray×ByteArray×ByteArray×Int×Int×Int×Int×Int×Int))→Int→Int→Int→List Int→List Int→List Int→List Int→(List (Int×Int))→Int→(List (Bool×List Int×List Int))→(List (Bool×List Int×List Int))→Option ((List Int×List Int)×(List (Int×Int))×(List (Bool×List Int×List Int))×(List (Bool×List Int×List Int))×List Int×Int)
 |0,_,_,_,_,_,_,_,_,_,_,_,_=>none
 |k+1,x19,x20,x21,xo0,xo1_0,xo1_1,xo2_0,xo2_1,xo2_2,xo2_3,xo3,xo4=>if x21<x20 then
 if 0≤x21 then
 if x21<(x19.length:Int) then
 (qbh.f k 1000000).bind fun r3=>
 (qbh.f k (wrap64 ((rY11 x19 x21).2.2.2.1*(rY11 x19 x21).2.2.2.2.1))).bind fun r4=>
 (qbw.f k r3 r4).bind fun r5=>
 if (xo3.length+[r5].length)*56≤140737488355328 then
 (qbh.f k (rY11 x19 x21).2.2.2.2.2.1).bind fun r6=>
 (qbh.f k 1000).bind fun r7=>
 (qbw.f k r6 r7).bind fun r8=>
 if (xo4.length+[r8].length)*56≤140737488355328 then
 qaH.l4 k x19 x20 (wrap64 (x21+1)) xo0 xo1_0 xo1_1 xo2_0 xo2_1 xo2_2 xo2_3 (xo3++[r5]) (xo4++[r8])
 else none
 else none
 else none
 else none
 else qaH.l11 k (-1) xo1_1 (xo1_1.length:Int) 0 xo0 xo2_0 xo2_1 xo2_2 xo2_3 xo3 xo4 []
theorem qaH.l4_eq (k:Nat) (x19:List (ByteArray×ByteArray×ByteArray×Int×Int×Int×Int×Int×Int)) (x20:Int) (x21:Int) (xo0:Int) (xo1_0:List Int) (xo1_1:List Int) (xo2_0:List Int) (xo2_1:List Int) (xo2_2:List (Int×Int)) (xo2_3:Int) (xo3:List (Bool×List Int×List Int)) (xo4:List (Bool×List Int×List Int)):qaH.l4 (k+1) x19 x20 x21 xo0 xo1_0 xo1_1 xo2_0 xo2_1 xo2_2 xo2_3 xo3 xo4=if x21<x20 then
 if 0≤x21 then
 if x21<(x19.length:Int) then
 (qbh.f k 1000000).bind fun r3=>
 (qbh.f k (wrap64 ((rY11 x19 x21).2.2.2.1*(rY11 x19 x21).2.2.2.2.1))).bind fun r4=>
 (qbw.f k r3 r4).bind fun r5=>
 if (xo3.length+[r5].length)*56≤140737488355328 then
 (qbh.f k (rY11 x19 x21).2.2.2.2.2.1).bind fun r6=>
 (qbh.f k 1000).bind fun r7=>
 (qbw.f k r6 r7).bind fun r8=>
 if (xo4.length+[r8].length)*56≤140737488355328 then
 qaH.l4 k x19 x20 (wrap64 (x21+1)) xo0 xo1_0 xo1_1 xo2_0 xo2_1 xo2_2 xo2_3 (xo3++[r5]) (xo4++[r8])
 else none
 else none
 else none
 else none
 else qaH.l11 k (-1) xo1_1 (xo1_1.length:Int) 0 xo0 xo2_0 xo2_1 xo2_2 xo2_3 xo3 xo4 []:=rfl
def qaH.f (k:Nat) (a0:List ByteArray×(List (ByteArray×ByteArray×ByteArray×Bool×Bool))×(List (ByteArray×ByteArray×ByteArray×Int×Int×Int×Int×Int×Int))×(List (ByteArray×ByteArray×Int×Int×Int))×(List (ByteArray×ByteArray×Int))×List (ByteArray×ByteArray×Int×Int×Int)):Option ((List Int×List Int)×(List (Int×Int))×(List (Bool×List Int×List Int))×(List (Bool×List Int×List Int))×List Int×Int):=
 (qaM.f k a0).bind fun r1=>
 (qaL.f k a0 r1.1).bind fun r2=>
 qaH.l4 k a0.2.2.1 (a0.2.2.1.length:Int) 0 0 r1.1 r1.2 r1.1 r1.2 r2 0 [] []
def qaF.l6:Nat→List Int→Int→List Int→Int→Int→List Int→Option (List Int)
 |0,_,_,_,_,_,_=>none
 |k+1,x1,x6,x20,x21,x22,xo0=>if x22<x21 then
 if 0≤x22 then
 if x22<(x20.length:Int) then
 if x22<(x1.length:Int) then
 if 0≤x22 then
 if x22<(x1.length:Int) then
 if (1000000000:Int)≠0 then
 if (1000000000:Int)≠0 then
 if (xo0.length+[Int.tmod (IntKind.wrap .u32 ((IntKind.wrap .u32 ((rU32 x20 x22)+x6))+(rU32 x1 x22))) 1000000000].length)*4≤140737488355328 then
 qaF.l6 k x1 (IntKind.wrap .u32 (Int.tdiv (IntKind.wrap .u32 ((IntKind.wrap .u32 ((rU32 x20 x22)+x6))+(rU32 x1 x22))) 1000000000)) x20 x21 (wrap64 (x22+1)) (xo0++[Int.tmod (IntKind.wrap .u32 ((IntKind.wrap .u32 ((rU32 x20 x22)+x6))+(rU32 x1 x22))) 1000000000])
 else none
 else none
 else none
 else none
 else none
 else if (1000000000:Int)≠0 then
 if (1000000000:Int)≠0 then
 if (xo0.length+[Int.tmod (IntKind.wrap .u32 ((rU32 x20 x22)+x6)) 1000000000].length)*4≤140737488355328 then
 qaF.l6 k x1 (IntKind.wrap .u32 (Int.tdiv (IntKind.wrap .u32 ((rU32 x20 x22)+x6)) 1000000000)) x20 x21 (wrap64 (x22+1)) (xo0++[Int.tmod (IntKind.wrap .u32 ((rU32 x20 x22)+x6)) 1000000000])
 else none
 else none
 else none
 else none
 else none
 else if 0<x6 then
 if (xo0.length+[x6].length)*4≤140737488355328 then
 some (xo0++[x6])
 else none
 else some xo0
theorem qaF.l6_eq (k:Nat) (x1:List Int) (x6:Int) (x20:List Int) (x21:Int) (x22:Int) (xo0:List Int):qaF.l6 (k+1) x1 x6 x20 x21 x22 xo0=if x22<x21 then
 if 0≤x22 then
 if x22<(x20.length:Int) then
 if x22<(x1.length:Int) then
 if 0≤x22 then
 if x22<(x1.length:Int) then
 if (1000000000:Int)≠0 then
 if (1000000000:Int)≠0 then
 if (xo0.length+[Int.tmod (IntKind.wrap .u32 ((IntKind.wrap .u32 ((rU32 x20 x22)+x6))+(rU32 x1 x22))) 1000000000].length)*4≤140737488355328 then
 qaF.l6 k x1 (IntKind.wrap .u32 (Int.tdiv (IntKind.wrap .u32 ((IntKind.wrap .u32 ((rU32 x20 x22)+x6))+(rU32 x1 x22))) 1000000000)) x20 x21 (wrap64 (x22+1)) (xo0++[Int.tmod (IntKind.wrap .u32 ((IntKind.wrap .u32 ((rU32 x20 x22)+x6))+(rU32 x1 x22))) 1000000000])
 else none
 else none
 else none
 else none
 else none
 else if (1000000000:Int)≠0 then
 if (1000000000:Int)≠0 then
 if (xo0.length+[Int.tmod (IntKind.wrap .u32 ((rU32 x20 x22)+x6)) 1000000000].length)*4≤140737488355328 then
 qaF.l6 k x1 (IntKind.wrap .u32 (Int.tdiv (IntKind.wrap .u32 ((rU32 x20 x22)+x6)) 1000000000)) x20 x21 (wrap64 (x22+1)) (xo0++[Int.tmod (IntKind.wrap .u32 ((rU32 x20 x22)+x6)) 1000000000])
 else none
 else none
 else none
 else none
 else none
 else if 0<x6 then
 if (xo0.length+[x6].length)*4≤140737488355328 then
 some (xo0++[x6])
 else none
 else some xo0:=rfl
def qaF.l3:Nat→List Int→List Int→Option (List Int)
 |0,_,_=>none
 |k+1,x0,x1=>if (0:Int)≤0 then
 if 0≤(wrap64 ((x0.length:Int)+1)) then
 if (wrap64 ((x0.length:Int)+1))*4≤140737488355328 then
 if (wrap64 ((x0.length:Int)+1))≤140737488355328 then
 qaF.l6 k x1 0 x0 (x0.length:Int) 0 (List.replicate (Int.toNat 0) 0)
 else none
 else none
 else none
 else none
theorem qaF.l3_eq (k:Nat) (x0:List Int) (x1:List Int):qaF.l3 (k+1) x0 x1=if (0:Int)≤0 then
 if 0≤(wrap64 ((x0.length:Int)+1)) then
 if (wrap64 ((x0.length:Int)+1))*4≤140737488355328 then
 if (wrap64 ((x0.length:Int)+1))≤140737488355328 then
 qaF.l6 k x1 0 x0 (x0.length:Int) 0 (List.replicate (Int.toNat 0) 0)
 else none
 else none
 else none
 else none:=rfl
def qaF.l0:Nat→List Int→List Int→Option (List Int)
 |0,_,_=>none
 |k+1,x0,x1=>if (x0.length:Int)<(x1.length:Int) then
 qaF.l3 k x1 x0
 else qaF.l3 k x0 x1
theorem qaF.l0_eq (k:Nat) (x0:List Int) (x1:List Int):qaF.l0 (k+1) x0 x1=if (x0.length:Int)<(x1.length:Int) then
 qaF.l3 k x1 x0
 else qaF.l3 k x0 x1:=rfl
def qaF.f (k:Nat) (a0:List Int) (a1:List Int):Option (List Int):=
 qaF.l0 k a0 a1
def qaP.l4:Nat→List Int→List Int→Int→Int→Int→List Int→Option (List Int)
 |0,_,_,_,_,_,_=>none
 |k+1,x0,x1,x6,x13,x14,xo0=>if x14<x13 then
 if 0≤x14 then
 if x14<(x0.length:Int) then
 if x14<(x1.length:Int) then
 if 0≤x14 then
 if x14<(x1.length:Int) then
 if (wrap64 ((wrap64 ((wrap64 (rU32 x0 x14)) - x6)) - (wrap64 (rU32 x1 x14))))<0 then
 if 0≤x14 then
 if x14<(xo0.length:Int) then
 qaP.l4 k x0 x1 1 x13 (wrap64 (x14+1)) (xo0.set x14.toNat (IntKind.wrap .u32 (wrap64 ((wrap64 ((wrap64 ((wrap64 (rU32 x0 x14)) - x6)) - (wrap64 (rU32 x1 x14))))+1000000000))))
 else none
 else none
 else if 0≤x14 then
 if x14<(xo0.length:Int) then
 qaP.l4 k x0 x1 0 x13 (wrap64 (x14+1)) (xo0.set x14.toNat (IntKind.wrap .u32 (wrap64 ((wrap64 ((wrap64 (rU32 x0 x14)) - x6)) - (wrap64 (rU32 x1 x14))))))
 else none
 else none
 else none
 else none
 else if (wrap64 ((wrap64 (rU32 x0 x14)) - x6))<0 then
 if 0≤x14 then
 if x14<(xo0.length:Int) then
 qaP.l4 k x0 x1 1 x13 (wrap64 (x14+1)) (xo0.set x14.toNat (IntKind.wrap .u32 (wrap64 ((wrap64 ((wrap64 (rU32 x0 x14)) - x6))+1000000000))))
 else none
 else none
 else if 0≤x14 then
 if x14<(xo0.length:Int) then
 qaP.l4 k x0 x1 0 x13 (wrap64 (x14+1)) (xo0.set x14.toNat (IntKind.wrap .u32 (wrap64 ((wrap64 (rU32 x0 x14)) - x6))))
 else none
 else none
 else none
 else none
 else (qaE.f k xo0).bind fun r1=>
 some r1
theorem qaP.l4_eq (k:Nat) (x0:List Int) (x1:List Int) (x6:Int) (x13:Int) (x14:Int) (xo0:List Int):qaP.l4 (k+1) x0 x1 x6 x13 x14 xo0=if x14<x13 then
 if 0≤x14 then
 if x14<(x0.length:Int) then
 if x14<(x1.length:Int) then
 if 0≤x14 then
 if x14<(x1.length:Int) then
 if (wrap64 ((wrap64 ((wrap64 (rU32 x0 x14)) - x6)) - (wrap64 (rU32 x1 x14))))<0 then
 if 0≤x14 then
 if x14<(xo0.length:Int) then
 qaP.l4 k x0 x1 1 x13 (wrap64 (x14+1)) (xo0.set x14.toNat (IntKind.wrap .u32 (wrap64 ((wrap64 ((wrap64 ((wrap64 (rU32 x0 x14)) - x6)) - (wrap64 (rU32 x1 x14))))+1000000000))))
 else none
 else none
 else if 0≤x14 then
 if x14<(xo0.length:Int) then
 qaP.l4 k x0 x1 0 x13 (wrap64 (x14+1)) (xo0.set x14.toNat (IntKind.wrap .u32 (wrap64 ((wrap64 ((wrap64 (rU32 x0 x14)) - x6)) - (wrap64 (rU32 x1 x14))))))
 else none
 else none
 else none
 else none
 else if (wrap64 ((wrap64 (rU32 x0 x14)) - x6))<0 then
 if 0≤x14 then
 if x14<(xo0.length:Int) then
 qaP.l4 k x0 x1 1 x13 (wrap64 (x14+1)) (xo0.set x14.toNat (IntKind.wrap .u32 (wrap64 ((wrap64 ((wrap64 (rU32 x0 x14)) - x6))+1000000000))))
 else none
 else none
 else if 0≤x14 then
 if x14<(xo0.length:Int) then
 qaP.l4 k x0 x1 0 x13 (wrap64 (x14+1)) (xo0.set x14.toNat (IntKind.wrap .u32 (wrap64 ((wrap64 (rU32 x0 x14)) - x6))))
 else none
 else none
 else none
 else none
 else (qaE.f k xo0).bind fun r1=>
 some r1:=rfl
def qaP.l0:Nat→List Int→List Int→Option (List Int)
 |0,_,_=>none
 |k+1,x0,x1=>if 0≤(x0.length:Int) then
 if (x0.length:Int)*4≤140737488355328 then
 if (x0.length:Int)≤140737488355328 then
 qaP.l4 k x0 x1 0 (x0.length:Int) 0 (List.replicate (x0.length:Int).toNat 0)
 else none
 else none
 else none
theorem qaP.l0_eq (k:Nat) (x0:List Int) (x1:List Int):qaP.l0 (k+1) x0 x1=if 0≤(x0.length:Int) then
 if (x0.length:Int)*4≤140737488355328 then
 if (x0.length:Int)≤140737488355328 then
 qaP.l4 k x0 x1 0 (x0.length:Int) 0 (List.replicate (x0.length:Int).toNat 0)
 else none
 else none
 else none:=rfl
def qaP.f (k:Nat) (a0:List Int) (a1:List Int):Option (List Int):=
 qaP.l0 k a0 a1
def qa6.f (k:Nat) (a0:Bool×List Int×List Int) (a1:Bool×List Int×List Int):Option (Bool×List Int×List Int):=
 if (a0.2.1.length:Int)=0 then
 some a1
 else if (a1.2.1.length:Int)=0 then
 some a0
 else (qaW.f k a1).bind fun r1=>
 (qaw.f k a0.2.1 r1).bind fun r2=>
 (qaW.f k a0).bind fun r3=>
 (qaw.f k a1.2.1 r3).bind fun r4=>
 (qaW.f k a0).bind fun r5=>
 (qaW.f k a1).bind fun r6=>
 (qaw.f k r5 r6).bind fun r7=>
 if a0.1=a1.1 then
 (qaF.f k r2 r4).bind fun r8=>
 (qbG.f k a0.1 r8 r7).bind fun r9=>
 some r9
 else (qaQ.f k r2 r4).bind fun r10=>
 if 0≤r10 then
 (qaP.f k r2 r4).bind fun r11=>
 (qbG.f k a0.1 r11 r7).bind fun r12=>
 some r12
 else (qaP.f k r4 r2).bind fun r13=>
 (qbG.f k a1.1 r13 r7).bind fun r14=>
 some r14
def qco.f (k:Nat) (a0:Bool×List Int×List Int):Option (Bool×List Int×List Int):=
 if (a0.2.1.length:Int)=0 then
 some a0
 else some (!decide (a0.1=true),a0.2)
def qaU.f (k:Nat) (a0:Bool×List Int×List Int) (a1:Bool×List Int×List Int):Option (Bool×List Int×List Int):=
 (qco.f k a1).bind fun r1=>
 (qa6.f k a0 r1).bind fun r2=>
 some r2
mutual
def qab.l8:Nat→(List (Int×Int))→Int→Int→List Int→List Int→(List (Int×Int))→(List (Bool×List Int×List Int))→(List (Bool×List Int×List Int))→List Int→Int→(List (List (Bool×List Int×List Int)))→Option (List (List (Bool×List Int×List Int)))
 |0,_,_,_,_,_,_,_,_,_,_,_=>none
 |k+1,x25,x26,x27,xo0_0,xo0_1,xo0_2,xo0_3,xo0_4,xo0_5,xo0_6,xo1=>if x27<x26 then
 if 0≤x27 then
 if x27<(x25.length:Int) then
 if [0,0].length=2 then
 if (0:Int)≤0 then
 if (0:Int)<2 then
 if 0<([(rY4 x25 x27).1,(rY4 x25 x27).2].length:Int) then
 if 0≤(rI64 [(rY4 x25 x27).1,(rY4 x25 x27).2] 0) then
 if (rI64 [(rY4 x25 x27).1,(rY4 x25 x27).2] 0)<(xo0_5.length:Int) then
 if (0:Int)≤1 then
 if (1:Int)<2 then
 if 1<([(rY4 x25 x27).1,(rY4 x25 x27).2].length:Int) then
 if 0≤(rI64 [(rY4 x25 x27).1,(rY4 x25 x27).2] 1) then
 if (rI64 [(rY4 x25 x27).1,(rY4 x25 x27).2] 1)<(xo0_5.length:Int) then
 if (0:Int)≤0 then
 if (0:Int)<2 then
 if 0<([(rY4 x25 x27).1,(rY4 x25 x27).2].length:Int) then
 if (0:Int)≤1 then
 if (1:Int)<2 then
 if 1<([(rY4 x25 x27).1,(rY4 x25 x27).2].length:Int) then
 if (rI64 [(rY4 x25 x27).1,(rY4 x25 x27).2] 0)=(rI64 [(rY4 x25 x27).1,(rY4 x25 x27).2] 1) then
 qab.l8 k x25 x26 (wrap64 (x27+1)) xo0_0 xo0_1 xo0_2 xo0_3 xo0_4 xo0_5 xo0_6 xo1
 else if 0≤(rI64 xo0_5 (rI64 [(rY4 x25 x27).1,(rY4 x25 x27).2] 0)) then
 if 0≤(rI64 xo0_5 (rI64 [(rY4 x25 x27).1,(rY4 x25 x27).2] 0)) then
 if (rI64 xo0_5 (rI64 [(rY4 x25 x27).1,(rY4 x25 x27).2] 0))<(xo1.length:Int) then
 if 0≤(rI64 xo0_5 (rI64 [(rY4 x25 x27).1,(rY4 x25 x27).2] 0)) then
 if (rI64 xo0_5 (rI64 [(rY4 x25 x27).1,(rY4 x25 x27).2] 0))<(xo1.length:Int) then
 if 0≤(rI64 xo0_5 (rI64 [(rY4 x25 x27).1,(rY4 x25 x27).2] 0)) then
 if (rI64 xo0_5 (rI64 [(rY4 x25 x27).1,(rY4 x25 x27).2] 0))<((rL122 xo1 (rI64 xo0_5 (rI64 [(rY4 x25 x27).1,(rY4 x25 x27).2] 0))).length:Int) then
 if 0≤x27 then
 if x27<(xo0_3.length:Int) then
 (qa6.f k (rY17 (rL122 xo1 (rI64 xo0_5 (rI64 [(rY4 x25 x27).1,(rY4 x25 x27).2] 0))) (rI64 xo0_5 (rI64 [(rY4 x25 x27).1,(rY4 x25 x27).2] 0))) (rY17 xo0_3 x27)).bind fun r1=>
 if 0≤(rI64 xo0_5 (rI64 [(rY4 x25 x27).1,(rY4 x25 x27).2] 0)) then
 if (rI64 xo0_5 (rI64 [(rY4 x25 x27).1,(rY4 x25 x27).2] 0))<((rL122 xo1 (rI64 xo0_5 (rI64 [(rY4 x25 x27).1,(rY4 x25 x27).2] 0))).length:Int) then
 qab.l14 k x27 (rI64 xo0_5 (rI64 [(rY4 x25 x27).1,(rY4 x25 x27).2] 0)) (rI64 xo0_5 (rI64 [(rY4 x25 x27).1,(rY4 x25 x27).2] 1)) x25 x26 x27 xo0_0 xo0_1 xo0_2 xo0_3 xo0_4 xo0_5 xo0_6 (xo1.set (rI64 xo0_5 (rI64 [(rY4 x25 x27).1,(rY4 x25 x27).2] 0)).toNat ((rL122 xo1 (rI64 xo0_5 (rI64 [(rY4 x25 x27).1,(rY4 x25 x27).2] 0))).set (rI64 xo0_5 (rI64 [(rY4 x25 x27).1,(rY4 x25 x27).2] 0)).toNat r1))
 else none
 else none
 else none
 else none
 else none
 else none
 else none
 else none
 else none
 else none
 else qab.l14 k x27 (rI64 xo0_5 (rI64 [(rY4 x25 x27).1,(rY4 x25 x27).2] 0)) (rI64 xo0_5 (rI64 [(rY4 x25 x27).1,(rY4 x25 x27).2] 1)) x25 x26 x27 xo0_0 xo0_1 xo0_2 xo0_3 xo0_4 xo0_5 xo0_6 xo1
 else none
 else none
 else none
 else none
 else none
 else none
 else none
 else none
 else none
 else none
 else none
 else none
 else none
 else none
 else none
 else none
 else none
 else none
 else none
 else some xo1
def qab.l14:Nat→Int→Int→Int→(List (Int×Int))→Int→Int→List Int→List Int→(List (Int×Int))→(List (Bool×List Int×List Int))→(List (Bool×List Int×List Int))→List Int→Int→(List (List (Bool×List Int×List Int)))→Option (List (List (Bool×List Int×List Int)))
 |0,_,_,_,_,_,_,_,_,_,_,_,_,_,_=>none
 |k+1,x5,x7,x8,x25,x26,x27,xo0_0,xo0_1,xo0_2,xo0_3,xo0_4,xo0_5,xo0_6,xo1=>if 0≤x8 then
 if 0≤x8 then
 if x8<(xo1.length:Int) then
 if 0≤x8 then
 if x8<(xo1.length:Int) then
 if 0≤x8 then
 if x8<((rL122 xo1 x8).length:Int) then
 if 0≤x5 then
 if x5<(xo0_3.length:Int) then
 (qa6.f k (rY17 (rL122 xo1 x8) x8) (rY17 xo0_3 x5)).bind fun r2=>
 if 0≤x8 then
 if x8<((rL122 xo1 x8).length:Int) then
 qab.l16 k x5 x7 x8 x25 x26 x27 xo0_0 xo0_1 xo0_2 xo0_3 xo0_4 xo0_5 xo0_6 (xo1.set x8.toNat ((rL122 xo1 x8).set x8.toNat r2))
 else none
 else none
 else none
 else none
 else none
 else none
 else none
 else none
 else none
 else none
 else qab.l16 k x5 x7 x8 x25 x26 x27 xo0_0 xo0_1 xo0_2 xo0_3 xo0_4 xo0_5 xo0_6 xo1
def qab.l16:Nat→Int→Int→Int→(List (Int×Int))→Int→Int→List Int→List Int→(List (Int×Int))→(List (Bool×List Int×List Int))→(List (Bool×List Int×List Int))→List Int→Int→(List (List (Bool×List Int×List Int)))→Option (List (List (Bool×List Int×List Int)))
 |0,_,_,_,_,_,_,_,_,_,_,_,_,_,_=>none
 |k+1,x5,x7,x8,x25,x26,x27,xo0_0,xo0_1,xo0_2,xo0_3,xo0_4,xo0_5,xo0_6,xo1=>if 0≤x7 then
 if 0≤x8 then
 if 0≤x7 then
 if x7<(xo1.length:Int) then
 if 0≤x7 then
 if x7<(xo1.length:Int) then
 if 0≤x8 then
 if x8<((rL122 xo1 x7).length:Int) then
 if 0≤x5 then
 if x5<(xo0_3.length:Int) then
 (qaU.f k (rY17 (rL122 xo1 x7) x8) (rY17 xo0_3 x5)).bind fun r3=>
 if 0≤x8 then
 if x8<((rL122 xo1 x7).length:Int) then
 if 0≤x8 then
 if x8<((xo1.set x7.toNat ((rL122 xo1 x7).set x8.toNat r3)).length:Int) then
 if 0≤x8 then
 if x8<((xo1.set x7.toNat ((rL122 xo1 x7).set x8.toNat r3)).length:Int) then
 if 0≤x7 then
 if x7<((rL122 (xo1.set x7.toNat ((rL122 xo1 x7).set x8.toNat r3)) x8).length:Int) then
 if 0≤x5 then
 if x5<(xo0_3.length:Int) then
 (qaU.f k (rY17 (rL122 (xo1.set x7.toNat ((rL122 xo1 x7).set x8.toNat r3)) x8) x7) (rY17 xo0_3 x5)).bind fun r4=>
 if 0≤x7 then
 if x7<((rL122 (xo1.set x7.toNat ((rL122 xo1 x7).set x8.toNat r3)) x8).length:Int) then
 qab.l8 k x25 x26 (wrap64 (x27+1)) xo0_0 xo0_1 xo0_2 xo0_3 xo0_4 xo0_5 xo0_6 ((xo1.set x7.toNat ((rL122 xo1 x7).set x8.toNat r3)).set x8.toNat ((rL122 (xo1.set x7.toNat ((rL122 xo1 x7).set x8.toNat r3)) x8).set x7.toNat r4))
 else none
 else none
 else none
 else none
 else none
 else none
 else none
 else none
 else none
 else none
 else none
 else none
 else none
 else none
 else none
 else none
 else none
 else none
 else none
 else none
 else qab.l8 k x25 x26 (wrap64 (x27+1)) xo0_0 xo0_1 xo0_2 xo0_3 xo0_4 xo0_5 xo0_6 xo1
 else qab.l8 k x25 x26 (wrap64 (x27+1)) xo0_0 xo0_1 xo0_2 xo0_3 xo0_4 xo0_5 xo0_6 xo1
end
theorem qab.l8_eq (k:Nat) (x25:List (Int×Int)) (x26:Int) (x27:Int) (xo0_0:List Int) (xo0_1:List Int) (xo0_2:List (Int×Int)) (xo0_3:List (Bool×List Int×List Int)) (xo0_4:List (Bool×List Int×List Int)) (xo0_5:List Int) (xo0_6:Int) (xo1:List (List (Bool×List Int×List Int))):qab.l8 (k+1) x25 x26 x27 xo0_0 xo0_1 xo0_2 xo0_3 xo0_4 xo0_5 xo0_6 xo1=if x27<x26 then
 if 0≤x27 then
 if x27<(x25.length:Int) then
 if [0,0].length=2 then
 if (0:Int)≤0 then
 if (0:Int)<2 then
 if 0<([(rY4 x25 x27).1,(rY4 x25 x27).2].length:Int) then
 if 0≤(rI64 [(rY4 x25 x27).1,(rY4 x25 x27).2] 0) then
 if (rI64 [(rY4 x25 x27).1,(rY4 x25 x27).2] 0)<(xo0_5.length:Int) then
 if (0:Int)≤1 then
 if (1:Int)<2 then
 if 1<([(rY4 x25 x27).1,(rY4 x25 x27).2].length:Int) then
 if 0≤(rI64 [(rY4 x25 x27).1,(rY4 x25 x27).2] 1) then
 if (rI64 [(rY4 x25 x27).1,(rY4 x25 x27).2] 1)<(xo0_5.length:Int) then
 if (0:Int)≤0 then
 if (0:Int)<2 then
 if 0<([(rY4 x25 x27).1,(rY4 x25 x27).2].length:Int) then
 if (0:Int)≤1 then
 if (1:Int)<2 then
 if 1<([(rY4 x25 x27).1,(rY4 x25 x27).2].length:Int) then
 if (rI64 [(rY4 x25 x27).1,(rY4 x25 x27).2] 0)=(rI64 [(rY4 x25 x27).1,(rY4 x25 x27).2] 1) then
 qab.l8 k x25 x26 (wrap64 (x27+1)) xo0_0 xo0_1 xo0_2 xo0_3 xo0_4 xo0_5 xo0_6 xo1
 else if 0≤(rI64 xo0_5 (rI64 [(rY4 x25 x27).1,(rY4 x25 x27).2] 0)) then
 if 0≤(rI64 xo0_5 (rI64 [(rY4 x25 x27).1,(rY4 x25 x27).2] 0)) then
 if (rI64 xo0_5 (rI64 [(rY4 x25 x27).1,(rY4 x25 x27).2] 0))<(xo1.length:Int) then
 if 0≤(rI64 xo0_5 (rI64 [(rY4 x25 x27).1,(rY4 x25 x27).2] 0)) then
 if (rI64 xo0_5 (rI64 [(rY4 x25 x27).1,(rY4 x25 x27).2] 0))<(xo1.length:Int) then
 if 0≤(rI64 xo0_5 (rI64 [(rY4 x25 x27).1,(rY4 x25 x27).2] 0)) then
 if (rI64 xo0_5 (rI64 [(rY4 x25 x27).1,(rY4 x25 x27).2] 0))<((rL122 xo1 (rI64 xo0_5 (rI64 [(rY4 x25 x27).1,(rY4 x25 x27).2] 0))).length:Int) then
 if 0≤x27 then
 if x27<(xo0_3.length:Int) then
 (qa6.f k (rY17 (rL122 xo1 (rI64 xo0_5 (rI64 [(rY4 x25 x27).1,(rY4 x25 x27).2] 0))) (rI64 xo0_5 (rI64 [(rY4 x25 x27).1,(rY4 x25 x27).2] 0))) (rY17 xo0_3 x27)).bind fun r1=>
 if 0≤(rI64 xo0_5 (rI64 [(rY4 x25 x27).1,(rY4 x25 x27).2] 0)) then
 if (rI64 xo0_5 (rI64 [(rY4 x25 x27).1,(rY4 x25 x27).2] 0))<((rL122 xo1 (rI64 xo0_5 (rI64 [(rY4 x25 x27).1,(rY4 x25 x27).2] 0))).length:Int) then
 qab.l14 k x27 (rI64 xo0_5 (rI64 [(rY4 x25 x27).1,(rY4 x25 x27).2] 0)) (rI64 xo0_5 (rI64 [(rY4 x25 x27).1,(rY4 x25 x27).2] 1)) x25 x26 x27 xo0_0 xo0_1 xo0_2 xo0_3 xo0_4 xo0_5 xo0_6 (xo1.set (rI64 xo0_5 (rI64 [(rY4 x25 x27).1,(rY4 x25 x27).2] 0)).toNat ((rL122 xo1 (rI64 xo0_5 (rI64 [(rY4 x25 x27).1,(rY4 x25 x27).2] 0))).set (rI64 xo0_5 (rI64 [(rY4 x25 x27).1,(rY4 x25 x27).2] 0)).toNat r1))
 else none
 else none
 else none
 else none
 else none
 else none
 else none
 else none
 else none
 else none
 else qab.l14 k x27 (rI64 xo0_5 (rI64 [(rY4 x25 x27).1,(rY4 x25 x27).2] 0)) (rI64 xo0_5 (rI64 [(rY4 x25 x27).1,(rY4 x25 x27).2] 1)) x25 x26 x27 xo0_0 xo0_1 xo0_2 xo0_3 xo0_4 xo0_5 xo0_6 xo1
 else none
 else none
 else none
 else none
 else none
 else none
 else none
 else none
 else none
 else none
 else none
 else none
 else none
 else none
 else none
 else none
 else none
 else none
 else none
 else some xo1:=rfl
theorem qab.l14_eq (k:Nat) (x5:Int) (x7:Int) (x8:Int) (x25:List (Int×Int)) (x26:Int) (x27:Int) (xo0_0:List Int) (xo0_1:List Int) (xo0_2:List (Int×Int)) (xo0_3:List (Bool×List Int×List Int)) (xo0_4:List (Bool×List Int×List Int)) (xo0_5:List Int) (xo0_6:Int) (xo1:List (List (Bool×List Int×List Int))):qab.l14 (k+1) x5 x7 x8 x25 x26 x27 xo0_0 xo0_1 xo0_2 xo0_3 xo0_4 xo0_5 xo0_6 xo1=if 0≤x8 then
 if 0≤x8 then
 if x8<(xo1.length:Int) then
 if 0≤x8 then
 if x8<(xo1.length:Int) then
 if 0≤x8 then
 if x8<((rL122 xo1 x8).length:Int) then
 if 0≤x5 then
 if x5<(xo0_3.length:Int) then
 (qa6.f k (rY17 (rL122 xo1 x8) x8) (rY17 xo0_3 x5)).bind fun r2=>
 if 0≤x8 then
 if x8<((rL122 xo1 x8).length:Int) then
 qab.l16 k x5 x7 x8 x25 x26 x27 xo0_0 xo0_1 xo0_2 xo0_3 xo0_4 xo0_5 xo0_6 (xo1.set x8.toNat ((rL122 xo1 x8).set x8.toNat r2))
 else none
 else none
 else none
 else none
 else none
 else none
 else none
 else none
 else none
 else none
 else qab.l16 k x5 x7 x8 x25 x26 x27 xo0_0 xo0_1 xo0_2 xo0_3 xo0_4 xo0_5 xo0_6 xo1:=rfl
theorem qab.qfD (k:Nat) (x5:Int) (x7:Int) (x8:Int) (x25:List (Int×Int)) (x26:Int) (x27:Int) (xo0_0:List Int) (xo0_1:List Int) (xo0_2:List (Int×Int)) (xo0_3:List (Bool×List Int×List Int)) (xo0_4:List (Bool×List Int×List Int)) (xo0_5:List Int) (xo0_6:Int) (xo1:List (List (Bool×List Int×List Int))):qab.l16 (k+1) x5 x7 x8 x25 x26 x27 xo0_0 xo0_1 xo0_2 xo0_3 xo0_4 xo0_5 xo0_6 xo1=if 0≤x7 then
 if 0≤x8 then
 if 0≤x7 then
 if x7<(xo1.length:Int) then
 if 0≤x7 then
 if x7<(xo1.length:Int) then
 if 0≤x8 then
 if x8<((rL122 xo1 x7).length:Int) then
 if 0≤x5 then
 if x5<(xo0_3.length:Int) then
 (qaU.f k (rY17 (rL122 xo1 x7) x8) (rY17 xo0_3 x5)).bind fun r3=>
 if 0≤x8 then
 if x8<((rL122 xo1 x7).length:Int) then
 if 0≤x8 then
 if x8<((xo1.set x7.toNat ((rL122 xo1 x7).set x8.toNat r3)).length:Int) then
 if 0≤x8 then
 if x8<((xo1.set x7.toNat ((rL122 xo1 x7).set x8.toNat r3)).length:Int) then
 if 0≤x7 then
 if x7<((rL122 (xo1.set x7.toNat ((rL122 xo1 x7).set x8.toNat r3)) x8).length:Int) then
 if 0≤x5 then
 if x5<(xo0_3.length:Int) then
 (qaU.f k (rY17 (rL122 (xo1.set x7.toNat ((rL122 xo1 x7).set x8.toNat r3)) x8) x7) (rY17 xo0_3 x5)).bind fun r4=>
 if 0≤x7 then
 if x7<((rL122 (xo1.set x7.toNat ((rL122 xo1 x7).set x8.toNat r3)) x8).length:Int) then
 qab.l8 k x25 x26 (wrap64 (x27+1)) xo0_0 xo0_1 xo0_2 xo0_3 xo0_4 xo0_5 xo0_6 ((xo1.set x7.toNat ((rL122 xo1 x7).set x8.toNat r3)).set x8.toNat ((rL122 (xo1.set x7.toNat ((rL122 xo1 x7).set x8.toNat r3)) x8).set x7.toNat r4))
 else none
 else none
 else none
 else none
 else none
 else none
 else none
 else none
 else none
 else none
 else none
 else none
 else none
 else none
 else none
 else none
 else none
 else none
 else none
 else none
 else qab.l8 k x25 x26 (wrap64 (x27+1)) xo0_0 xo0_1 xo0_2 xo0_3 xo0_4 xo0_5 xo0_6 xo1
 else qab.l8 k x25 x26 (wrap64 (x27+1)) xo0_0 xo0_1 xo0_2 xo0_3 xo0_4 xo0_5 xo0_6 xo1:=rfl
def qab.l3:Nat→Int→Int→List Int→List Int→(List (Int×Int))→(List (Bool×List Int×List Int))→(List (Bool×List Int×List Int))→List Int→Int→(List (List (Bool×List Int×List Int)))→Option (List (List (Bool×List Int×List Int)))
 |0,_,_,_,_,_,_,_,_,_,_=>none
 |k+1,x13,x14,xo0_0,xo0_1,xo0_2,xo0_3,xo0_4,xo0_5,xo0_6,xo1=>if x14<x13 then
 if 0≤xo0_6 then
 if xo0_6*56≤140737488355328 then
 if xo0_6≤140737488355328 then
 if 0≤x14 then
 if x14<(xo1.length:Int) then
 qab.l3 k x13 (wrap64 (x14+1)) xo0_0 xo0_1 xo0_2 xo0_3 xo0_4 xo0_5 xo0_6 (xo1.set x14.toNat (List.replicate xo0_6.toNat (false,[],[]):List (Bool×List Int×List Int)))
 else none
 else none
 else none
 else none
 else none
 else qab.l8 k xo0_2 (xo0_2.length:Int) 0 xo0_0 xo0_1 xo0_2 xo0_3 xo0_4 xo0_5 xo0_6 xo1
theorem qab.l3_eq (k:Nat) (x13:Int) (x14:Int) (xo0_0:List Int) (xo0_1:List Int) (xo0_2:List (Int×Int)) (xo0_3:List (Bool×List Int×List Int)) (xo0_4:List (Bool×List Int×List Int)) (xo0_5:List Int) (xo0_6:Int) (xo1:List (List (Bool×List Int×List Int))):qab.l3 (k+1) x13 x14 xo0_0 xo0_1 xo0_2 xo0_3 xo0_4 xo0_5 xo0_6 xo1=if x14<x13 then
 if 0≤xo0_6 then
 if xo0_6*56≤140737488355328 then
 if xo0_6≤140737488355328 then
 if 0≤x14 then
 if x14<(xo1.length:Int) then
 qab.l3 k x13 (wrap64 (x14+1)) xo0_0 xo0_1 xo0_2 xo0_3 xo0_4 xo0_5 xo0_6 (xo1.set x14.toNat (List.replicate xo0_6.toNat (false,[],[]):List (Bool×List Int×List Int)))
 else none
 else none
 else none
 else none
 else none
 else qab.l8 k xo0_2 (xo0_2.length:Int) 0 xo0_0 xo0_1 xo0_2 xo0_3 xo0_4 xo0_5 xo0_6 xo1:=rfl
def qab.f (k:Nat) (a0:(List Int×List Int)×(List (Int×Int))×(List (Bool×List Int×List Int))×(List (Bool×List Int×List Int))×List Int×Int):Option (List (List (Bool×List Int×List Int))):=
 if 0≤a0.2.2.2.2.2 then
 if a0.2.2.2.2.2*24≤140737488355328 then
 if a0.2.2.2.2.2≤140737488355328 then
 qab.l3 k ((List.replicate a0.2.2.2.2.2.toNat ([]:List (Bool×List Int×List Int))).length:Int) 0 a0.1.1 a0.1.2 a0.2.1 a0.2.2.1 a0.2.2.2.1 a0.2.2.2.2.1 a0.2.2.2.2.2 (List.replicate a0.2.2.2.2.2.toNat ([]:List (Bool×List Int×List Int)))
 else none
 else none
 else none
def qa9.f (k:Nat) (a0:Bool×List Int×List Int):Option Int:=
 if (a0.2.1.length:Int)=0 then
 some 0
 else if a0.1=true then
 some (-1)
 else some 1
def qa5.f (k:Nat) (a0:Bool×List Int×List Int) (a1:Bool×List Int×List Int):Option (Bool×List Int×List Int):=
 if (a0.2.1.length:Int)=0 then
 some (false,[],[])
 else if (a1.2.1.length:Int)=0 then
 some (false,[],[])
 else (qaw.f k a0.2.1 a1.2.1).bind fun r1=>
 (qaW.f k a0).bind fun r2=>
 (qaW.f k a1).bind fun r3=>
 (qaw.f k r2 r3).bind fun r4=>
 (qbG.f k (!decide (a0.1=a1.1)) r1 r4).bind fun r5=>
 some r5
mutual
def qao.l7:Nat→Int→Int→Int→Int→(List (List (Bool×List Int×List Int)))→Option (List (List (Bool×List Int×List Int)))
 |0,_,_,_,_,_=>none
 |k+1,x1,x2,x43,x44,xo0=>if x44<x43 then
 if 0≤x44 then
 if x44<(xo0.length:Int) then
 if 0≤x2 then
 if x2<((rL122 xo0 x44).length:Int) then
 if x44=x1 then
 qao.l7 k x1 x2 x43 (wrap64 (x44+1)) xo0
 else (qa9.f k (rY17 (rL122 xo0 x44) x2)).bind fun r2=>
 if r2=0 then
 qao.l7 k x1 x2 x43 (wrap64 (x44+1)) xo0
 else if 0≤x44 then
 if x44<(xo0.length:Int) then
 qao.l12 k x1 x2 x44 x43 x44 ((rL122 xo0 x44).length:Int) 0 xo0 (rY17 (rL122 xo0 x44) x2).1 (rY17 (rL122 xo0 x44) x2).2.1 (rY17 (rL122 xo0 x44) x2).2.2
 else none
 else none
 else none
 else none
 else none
 else none
 else some xo0
def qao.l12:Nat→Int→Int→Int→Int→Int→Int→Int→(List (List (Bool×List Int×List Int)))→Bool→List Int→List Int→Option (List (List (Bool×List Int×List Int)))
 |0,_,_,_,_,_,_,_,_,_,_,_=>none
 |k+1,x1,x2,x8,x43,x44,x66,x67,xo0,xo1_0,xo1_1,xo1_2=>if x67<x66 then
 if 0≤x8 then
 if x8<(xo0.length:Int) then
 if 0≤x8 then
 if x8<(xo0.length:Int) then
 if 0≤x67 then
 if x67<((rL122 xo0 x8).length:Int) then
 if 0≤x1 then
 if x1<(xo0.length:Int) then
 if 0≤x67 then
 if x67<((rL122 xo0 x1).length:Int) then
 (qa5.f k (xo1_0,xo1_1,xo1_2) (rY17 (rL122 xo0 x1) x67)).bind fun r3=>
 (qaU.f k (rY17 (rL122 xo0 x8) x67) r3).bind fun r4=>
 if 0≤x67 then
 if x67<((rL122 xo0 x8).length:Int) then
 qao.l12 k x1 x2 x8 x43 x44 x66 (wrap64 (x67+1)) (xo0.set x8.toNat ((rL122 xo0 x8).set x67.toNat r4)) xo1_0 xo1_1 xo1_2
 else none
 else none
 else none
 else none
 else none
 else none
 else none
 else none
 else none
 else none
 else none
 else none
 else qao.l7 k x1 x2 x43 (wrap64 (x44+1)) xo0
end
theorem qao.l7_eq (k:Nat) (x1:Int) (x2:Int) (x43:Int) (x44:Int) (xo0:List (List (Bool×List Int×List Int))):qao.l7 (k+1) x1 x2 x43 x44 xo0=if x44<x43 then
 if 0≤x44 then
 if x44<(xo0.length:Int) then
 if 0≤x2 then
 if x2<((rL122 xo0 x44).length:Int) then
 if x44=x1 then
 qao.l7 k x1 x2 x43 (wrap64 (x44+1)) xo0
 else (qa9.f k (rY17 (rL122 xo0 x44) x2)).bind fun r2=>
 if r2=0 then
 qao.l7 k x1 x2 x43 (wrap64 (x44+1)) xo0
 else if 0≤x44 then
 if x44<(xo0.length:Int) then
 qao.l12 k x1 x2 x44 x43 x44 ((rL122 xo0 x44).length:Int) 0 xo0 (rY17 (rL122 xo0 x44) x2).1 (rY17 (rL122 xo0 x44) x2).2.1 (rY17 (rL122 xo0 x44) x2).2.2
 else none
 else none
 else none
 else none
 else none
 else none
 else some xo0:=rfl
theorem qao.qb9 (k:Nat) (x1:Int) (x2:Int) (x8:Int) (x43:Int) (x44:Int) (x66:Int) (x67:Int) (xo0:List (List (Bool×List Int×List Int))) (xo1_0:Bool) (xo1_1:List Int) (xo1_2:List Int):qao.l12 (k+1) x1 x2 x8 x43 x44 x66 x67 xo0 xo1_0 xo1_1 xo1_2=if x67<x66 then
 if 0≤x8 then
 if x8<(xo0.length:Int) then
 if 0≤x8 then
 if x8<(xo0.length:Int) then
 if 0≤x67 then
 if x67<((rL122 xo0 x8).length:Int) then
 if 0≤x1 then
 if x1<(xo0.length:Int) then
 if 0≤x67 then
 if x67<((rL122 xo0 x1).length:Int) then
 (qa5.f k (xo1_0,xo1_1,xo1_2) (rY17 (rL122 xo0 x1) x67)).bind fun r3=>
 (qaU.f k (rY17 (rL122 xo0 x8) x67) r3).bind fun r4=>
 if 0≤x67 then
 if x67<((rL122 xo0 x8).length:Int) then
 qao.l12 k x1 x2 x8 x43 x44 x66 (wrap64 (x67+1)) (xo0.set x8.toNat ((rL122 xo0 x8).set x67.toNat r4)) xo1_0 xo1_1 xo1_2
 else none
 else none
 else none
 else none
 else none
 else none
 else none
 else none
 else none
 else none
 else none
 else none
 else qao.l7 k x1 x2 x43 (wrap64 (x44+1)) xo0:=rfl
def qao.l2:Nat→Int→Int→Int→Int→(List (List (Bool×List Int×List Int)))→Bool→List Int→List Int→Option (List (List (Bool×List Int×List Int)))
 |0,_,_,_,_,_,_,_,_=>none
 |k+1,x1,x2,x22,x23,xo0,xo1_0,xo1_1,xo1_2=>if x23<x22 then
 if 0≤x1 then
 if x1<(xo0.length:Int) then
 if 0≤x1 then
 if x1<(xo0.length:Int) then
 if 0≤x23 then
 if x23<((rL122 xo0 x1).length:Int) then
 (qbw.f k (rY17 (rL122 xo0 x1) x23) (xo1_0,xo1_1,xo1_2)).bind fun r1=>
 if 0≤x23 then
 if x23<((rL122 xo0 x1).length:Int) then
 qao.l2 k x1 x2 x22 (wrap64 (x23+1)) (xo0.set x1.toNat ((rL122 xo0 x1).set x23.toNat r1)) xo1_0 xo1_1 xo1_2
 else none
 else none
 else none
 else none
 else none
 else none
 else none
 else none
 else qao.l7 k x1 x2 (xo0.length:Int) 0 xo0
theorem qao.l2_eq (k:Nat) (x1:Int) (x2:Int) (x22:Int) (x23:Int) (xo0:List (List (Bool×List Int×List Int))) (xo1_0:Bool) (xo1_1:List Int) (xo1_2:List Int):qao.l2 (k+1) x1 x2 x22 x23 xo0 xo1_0 xo1_1 xo1_2=if x23<x22 then
 if 0≤x1 then
 if x1<(xo0.length:Int) then
 if 0≤x1 then
 if x1<(xo0.length:Int) then
 if 0≤x23 then
 if x23<((rL122 xo0 x1).length:Int) then
 (qbw.f k (rY17 (rL122 xo0 x1) x23) (xo1_0,xo1_1,xo1_2)).bind fun r1=>
 if 0≤x23 then
 if x23<((rL122 xo0 x1).length:Int) then
 qao.l2 k x1 x2 x22 (wrap64 (x23+1)) (xo0.set x1.toNat ((rL122 xo0 x1).set x23.toNat r1)) xo1_0 xo1_1 xo1_2
 else none
 else none
 else none
 else none
 else none
 else none
 else none
 else none
 else qao.l7 k x1 x2 (xo0.length:Int) 0 xo0:=rfl
def qao.f (k:Nat) (a1:Int) (a2:Int) (ao0:List (List (Bool×List Int×List Int))):Option (List (List (Bool×List Int×List Int))):=
 if 0≤a1 then
 if a1<(ao0.length:Int) then
 if 0≤a2 then
 if a2<((rL122 ao0 a1).length:Int) then
 if 0≤a1 then
 if a1<(ao0.length:Int) then
 qao.l2 k a1 a2 ((rL122 ao0 a1).length:Int) 0 ao0 (rY17 (rL122 ao0 a1) a2).1 (rY17 (rL122 ao0 a1) a2).2.1 (rY17 (rL122 ao0 a1) a2).2.2
 else none
 else none
 else none
 else none
 else none
 else none
mutual
def qap.l3:Nat→Int→Int→(List (List (Bool×List Int×List Int)))→List Int→Option (List Int×List (List (Bool×List Int×List Int)))
 |0,_,_,_,_=>none
 |k+1,x1,x6,xo0,xo1=>if x6<x1 then
 if (xo1.length:Int)<(xo0.length:Int) then
 qap.l7 k x1 x6 (xo1.length:Int) (xo1.length:Int) xo0 xo1
 else some (xo1,xo0)
 else some (xo1,xo0)
def qap.l7:Nat→Int→Int→Int→Int→(List (List (Bool×List Int×List Int)))→List Int→Option (List Int×List (List (Bool×List Int×List Int)))
 |0,_,_,_,_,_,_=>none
 |k+1,x1,x6,x7,x8,xo0,xo1=>if x8<(xo0.length:Int) then
 if 0≤x8 then
 if x8<(xo0.length:Int) then
 if 0≤x6 then
 if x6<((rL122 xo0 x8).length:Int) then
 (qa9.f k (rY17 (rL122 xo0 x8) x6)).bind fun r1=>
 if r1=0 then
 qap.l7 k x1 x6 x7 (wrap64 (x8+1)) xo0 xo1
 else if x8=(xo0.length:Int) then
 qap.l3 k x1 (wrap64 (x6+1)) xo0 xo1
 else if 0≤x8 then
 if x8<(xo0.length:Int) then
 if 0≤x7 then
 if x7<(xo0.length:Int) then
 if 0≤x7 then
 if x7<(xo0.length:Int) then
 if 0≤x8 then
 if x8<(xo0.length:Int) then
 if x7=x7 then
 if x8=x8 then
 (qao.f k x7 x6 ((xo0.set x7.toNat (rL122 xo0 x8)).set x8.toNat (rL122 xo0 x7))).bind fun r2=>
 if (xo1.length+[x6].length)*8≤140737488355328 then
 qap.l3 k x1 (wrap64 (x6+1)) r2 (xo1++[x6])
 else none
 else none
 else none
 else none
 else none
 else none
 else none
 else none
 else none
 else none
 else none
 else none
 else none
 else none
 else none
 else if x8=(xo0.length:Int) then
 qap.l3 k x1 (wrap64 (x6+1)) xo0 xo1
 else if 0≤x8 then
 if x8<(xo0.length:Int) then
 if 0≤x7 then
 if x7<(xo0.length:Int) then
 if 0≤x7 then
 if x7<(xo0.length:Int) then
 if 0≤x8 then
 if x8<(xo0.length:Int) then
 if x7=x7 then
 if x8=x8 then
 (qao.f k x7 x6 ((xo0.set x7.toNat (rL122 xo0 x8)).set x8.toNat (rL122 xo0 x7))).bind fun r3=>
 if (xo1.length+[x6].length)*8≤140737488355328 then
 qap.l3 k x1 (wrap64 (x6+1)) r3 (xo1++[x6])
 else none
 else none
 else none
 else none
 else none
 else none
 else none
 else none
 else none
 else none
 else none
end
theorem qap.l3_eq (k:Nat) (x1:Int) (x6:Int) (xo0:List (List (Bool×List Int×List Int))) (xo1:List Int):qap.l3 (k+1) x1 x6 xo0 xo1=if x6<x1 then
 if (xo1.length:Int)<(xo0.length:Int) then
 qap.l7 k x1 x6 (xo1.length:Int) (xo1.length:Int) xo0 xo1
 else some (xo1,xo0)
 else some (xo1,xo0):=rfl
theorem qap.l7_eq (k:Nat) (x1:Int) (x6:Int) (x7:Int) (x8:Int) (xo0:List (List (Bool×List Int×List Int))) (xo1:List Int):qap.l7 (k+1) x1 x6 x7 x8 xo0 xo1=if x8<(xo0.length:Int) then
 if 0≤x8 then
 if x8<(xo0.length:Int) then
 if 0≤x6 then
 if x6<((rL122 xo0 x8).length:Int) then
 (qa9.f k (rY17 (rL122 xo0 x8) x6)).bind fun r1=>
 if r1=0 then
 qap.l7 k x1 x6 x7 (wrap64 (x8+1)) xo0 xo1
 else if x8=(xo0.length:Int) then
 qap.l3 k x1 (wrap64 (x6+1)) xo0 xo1
 else if 0≤x8 then
 if x8<(xo0.length:Int) then
 if 0≤x7 then
 if x7<(xo0.length:Int) then
 if 0≤x7 then
 if x7<(xo0.length:Int) then
 if 0≤x8 then
 if x8<(xo0.length:Int) then
 if x7=x7 then
 if x8=x8 then
 (qao.f k x7 x6 ((xo0.set x7.toNat (rL122 xo0 x8)).set x8.toNat (rL122 xo0 x7))).bind fun r2=>
 if (xo1.length+[x6].length)*8≤140737488355328 then
 qap.l3 k x1 (wrap64 (x6+1)) r2 (xo1++[x6])
 else none
 else none
 else none
 else none
 else none
 else none
 else none
 else none
 else none
 else none
 else none
 else none
 else none
 else none
 else none
 else if x8=(xo0.length:Int) then
 qap.l3 k x1 (wrap64 (x6+1)) xo0 xo1
 else if 0≤x8 then
 if x8<(xo0.length:Int) then
 if 0≤x7 then
 if x7<(xo0.length:Int) then
 if 0≤x7 then
 if x7<(xo0.length:Int) then
 if 0≤x8 then
 if x8<(xo0.length:Int) then
 if x7=x7 then
 if x8=x8 then
 (qao.f k x7 x6 ((xo0.set x7.toNat (rL122 xo0 x8)).set x8.toNat (rL122 xo0 x7))).bind fun r3=>
 if (xo1.length+[x6].length)*8≤140737488355328 then
 qap.l3 k x1 (wrap64 (x6+1)) r3 (xo1++[x6])
 else none
 else none
 else none
 else none
 else none
 else none
 else none
 else none
 else none
 else none
 else none:=rfl
def qap.f (k:Nat) (a1:Int) (ao0:List (List (Bool×List Int×List Int))):Option (List Int×List (List (Bool×List Int×List Int))):=
 qap.l3 k a1 0 ao0 []
def qay.l12:Nat→Int→Int→Int→(List (List (Bool×List Int×List Int)))→Option (List (List (Bool×List Int×List Int)))
 |0,_,_,_,_=>none
 |k+1,x4,x37,x38,xo0=>if x38<x37 then
 if 0≤x38 then
 if x38<(xo0.length:Int) then
 if 0≤x4 then
 if x4≤((rL122 xo0 x38).length:Int) then
 if 0≤x38 then
 if x38<(xo0.length:Int) then
 if x38=x38 then
 qay.l12 k x4 x37 (wrap64 (x38+1)) (xo0.set x38.toNat (((rL122 xo0 x38).drop (Int.toNat x4)).take ((Int.toNat ((rL122 xo0 x38).length:Int)) - (Int.toNat x4))))
 else none
 else none
 else none
 else none
 else none
 else none
 else none
 else some xo0
theorem qay.qb9 (k:Nat) (x4:Int) (x37:Int) (x38:Int) (xo0:List (List (Bool×List Int×List Int))):qay.l12 (k+1) x4 x37 x38 xo0=if x38<x37 then
 if 0≤x38 then
 if x38<(xo0.length:Int) then
 if 0≤x4 then
 if x4≤((rL122 xo0 x38).length:Int) then
 if 0≤x38 then
 if x38<(xo0.length:Int) then
 if x38=x38 then
 qay.l12 k x4 x37 (wrap64 (x38+1)) (xo0.set x38.toNat (((rL122 xo0 x38).drop (Int.toNat x4)).take ((Int.toNat ((rL122 xo0 x38).length:Int)) - (Int.toNat x4))))
 else none
 else none
 else none
 else none
 else none
 else none
 else none
 else some xo0:=rfl
def qay.l4:Nat→Int→Int→Int→(List (List (Bool×List Int×List Int)))→Option (List (List (Bool×List Int×List Int)))
 |0,_,_,_,_=>none
 |k+1,x4,x13,x14,xo0=>if x14<x13 then
 if 0≤x4 then
 if x4*56≤140737488355328 then
 if x4≤140737488355328 then
 (qbh.f k 1).bind fun r2=>
 if 0≤x14 then
 if x14<((List.replicate x4.toNat (false,[],[]):List (Bool×List Int×List Int)).length:Int) then
 if 0≤x14 then
 if x14<(xo0.length:Int) then
 if ((rL122 xo0 x14).length+((List.replicate x4.toNat (false,[],[]):List (Bool×List Int×List Int)).set x14.toNat r2).length)*56≤140737488355328 then
 if 0≤x14 then
 if x14<(xo0.length:Int) then
 if x14=x14 then
 qay.l4 k x4 x13 (wrap64 (x14+1)) (xo0.set x14.toNat ((rL122 xo0 x14)++((List.replicate x4.toNat (false,[],[]):List (Bool×List Int×List Int)).set x14.toNat r2)))
 else none
 else none
 else none
 else none
 else none
 else none
 else none
 else none
 else none
 else none
 else none
 else (qap.f k x4 xo0).bind fun r3=>
 qay.l12 k x4 (r3.2.length:Int) 0 r3.2
theorem qay.l4_eq (k:Nat) (x4:Int) (x13:Int) (x14:Int) (xo0:List (List (Bool×List Int×List Int))):qay.l4 (k+1) x4 x13 x14 xo0=if x14<x13 then
 if 0≤x4 then
 if x4*56≤140737488355328 then
 if x4≤140737488355328 then
 (qbh.f k 1).bind fun r2=>
 if 0≤x14 then
 if x14<((List.replicate x4.toNat (false,[],[]):List (Bool×List Int×List Int)).length:Int) then
 if 0≤x14 then
 if x14<(xo0.length:Int) then
 if ((rL122 xo0 x14).length+((List.replicate x4.toNat (false,[],[]):List (Bool×List Int×List Int)).set x14.toNat r2).length)*56≤140737488355328 then
 if 0≤x14 then
 if x14<(xo0.length:Int) then
 if x14=x14 then
 qay.l4 k x4 x13 (wrap64 (x14+1)) (xo0.set x14.toNat ((rL122 xo0 x14)++((List.replicate x4.toNat (false,[],[]):List (Bool×List Int×List Int)).set x14.toNat r2)))
 else none
 else none
 else none
 else none
 else none
 else none
 else none
 else none
 else none
 else none
 else none
 else (qap.f k x4 xo0).bind fun r3=>
 qay.l12 k x4 (r3.2.length:Int) 0 r3.2:=rfl
def qay.f (k:Nat) (a0:(List Int×List Int)×(List (Int×Int))×(List (Bool×List Int×List Int))×(List (Bool×List Int×List Int))×List Int×Int):Option (List (List (Bool×List Int×List Int))):=
 (qab.f k a0).bind fun r1=>
 qay.l4 k (r1.length:Int) (r1.length:Int) 0 r1
def qa4.f (k:Nat) (a0:(List Int×List Int)×(List (Int×Int))×(List (Bool×List Int×List Int))×(List (Bool×List Int×List Int))×List Int×Int) (a1:Int):Option Int:=
 if 0≤a1 then
 if a1<(a0.2.2.2.2.1.length:Int) then
 some (rI64 a0.2.2.2.2.1 a1)
 else none
 else none
mutual
def qal.l5:Nat→(List (List (Bool×List Int×List Int)))→Int→(List (Int×Int))→Int→Int→(List (List (Bool×List Int×List Int)))→List Int→List Int→(List (Int×Int))→(List (Bool×List Int×List Int))→(List (Bool×List Int×List Int))→List Int→Int→Option (List (List (Bool×List Int×List Int)))
 |0,_,_,_,_,_,_,_,_,_,_,_,_,_=>none
 |k+1,x3,x5,x21,x22,x23,xo0,xo1_0,xo1_1,xo1_2,xo1_3,xo1_4,xo1_5,xo1_6=>if x23<x22 then
 if 0≤x23 then
 if x23<(x21.length:Int) then
 if [0,0].length=2 then
 if 0≤x5 then
 if x5*56≤140737488355328 then
 if x5≤140737488355328 then
 qal.l9 k x3 x5 x23 x21 x22 x23 ((List.replicate x5.toNat (false,[],[]):List (Bool×List Int×List Int)).length:Int) 0 xo1_0 xo1_1 xo1_2 xo1_3 xo1_4 xo1_5 xo1_6 xo0 [(rY4 x21 x23).1,(rY4 x21 x23).2] (List.replicate x5.toNat (false,[],[]):List (Bool×List Int×List Int))
 else none
 else none
 else none
 else none
 else none
 else none
 else some xo0
def qal.l9:Nat→(List (List (Bool×List Int×List Int)))→Int→Int→(List (Int×Int))→Int→Int→Int→Int→List Int→List Int→(List (Int×Int))→(List (Bool×List Int×List Int))→(List (Bool×List Int×List Int))→List Int→Int→(List (List (Bool×List Int×List Int)))→List Int→(List (Bool×List Int×List Int))→Option (List (List (Bool×List Int×List Int)))
 |0,_,_,_,_,_,_,_,_,_,_,_,_,_,_,_,_,_,_=>none
 |k+1,x3,x5,x6,x21,x22,x23,x31,x32,xo0_0,xo0_1,xo0_2,xo0_3,xo0_4,xo0_5,xo0_6,xo1,xo2,xo3=>if x32<x31 then
 (qa4.f k ((xo0_0,xo0_1),xo0_2,xo0_3,xo0_4,xo0_5,xo0_6) x32).bind fun r2=>
 if r2<0 then
 qal.l9 k x3 x5 x6 x21 x22 x23 x31 (wrap64 (x32+1)) xo0_0 xo0_1 xo0_2 xo0_3 xo0_4 xo0_5 xo0_6 xo1 xo2 xo3
 else if (0:Int)≤0 then
 if (0:Int)<2 then
 if 0<(xo2.length:Int) then
 (qa4.f k ((xo0_0,xo0_1),xo0_2,xo0_3,xo0_4,xo0_5,xo0_6) (rI64 xo2 0)).bind fun r3=>
 if 0≤r3 then
 if 0≤r3 then
 if r3<(x3.length:Int) then
 if 0≤r2 then
 if r2<((rL122 x3 r3).length:Int) then
 qal.l17 k x3 x5 x6 x32 r2 x21 x22 x23 x31 x32 xo0_0 xo0_1 xo0_2 xo0_3 xo0_4 xo0_5 xo0_6 xo1 xo2 xo3 (rY17 (rL122 x3 r3) r2).1 (rY17 (rL122 x3 r3) r2).2.1 (rY17 (rL122 x3 r3) r2).2.2
 else none
 else none
 else none
 else none
 else qal.l17 k x3 x5 x6 x32 r2 x21 x22 x23 x31 x32 xo0_0 xo0_1 xo0_2 xo0_3 xo0_4 xo0_5 xo0_6 xo1 xo2 xo3 false [] []
 else none
 else none
 else none
 else if (xo1.length+1)*24≤140737488355328 then
 qal.l5 k x3 x5 x21 x22 (wrap64 (x23+1)) (xo1++[xo3]) xo0_0 xo0_1 xo0_2 xo0_3 xo0_4 xo0_5 xo0_6
 else none
def qal.l17:Nat→(List (List (Bool×List Int×List Int)))→Int→Int→Int→Int→(List (Int×Int))→Int→Int→Int→Int→List Int→List Int→(List (Int×Int))→(List (Bool×List Int×List Int))→(List (Bool×List Int×List Int))→List Int→Int→(List (List (Bool×List Int×List Int)))→List Int→(List (Bool×List Int×List Int))→Bool→List Int→List Int→Option (List (List (Bool×List Int×List Int)))
 |0,_,_,_,_,_,_,_,_,_,_,_,_,_,_,_,_,_,_,_,_,_,_,_=>none
 |k+1,x3,x5,x6,x9,x10,x21,x22,x23,x31,x32,xo0_0,xo0_1,xo0_2,xo0_3,xo0_4,xo0_5,xo0_6,xo1,xo2,xo3,xo4_0,xo4_1,xo4_2=>if (0:Int)≤1 then
 if (1:Int)<2 then
 if 1<(xo2.length:Int) then
 (qa4.f k ((xo0_0,xo0_1),xo0_2,xo0_3,xo0_4,xo0_5,xo0_6) (rI64 xo2 1)).bind fun r4=>
 if 0≤r4 then
 if 0≤r4 then
 if r4<(x3.length:Int) then
 if 0≤x10 then
 if x10<((rL122 x3 r4).length:Int) then
 (qaU.f k (xo4_0,xo4_1,xo4_2) (rY17 (rL122 x3 r4) x10)).bind fun r5=>
 qal.l20 k x3 x5 x6 x9 x21 x22 x23 x31 x32 xo0_0 xo0_1 xo0_2 xo0_3 xo0_4 xo0_5 xo0_6 xo1 xo2 xo3 r5.1 r5.2.1 r5.2.2
 else none
 else none
 else none
 else none
 else qal.l20 k x3 x5 x6 x9 x21 x22 x23 x31 x32 xo0_0 xo0_1 xo0_2 xo0_3 xo0_4 xo0_5 xo0_6 xo1 xo2 xo3 xo4_0 xo4_1 xo4_2
 else none
 else none
 else none
def qal.l20:Nat→(List (List (Bool×List Int×List Int)))→Int→Int→Int→(List (Int×Int))→Int→Int→Int→Int→List Int→List Int→(List (Int×Int))→(List (Bool×List Int×List Int))→(List (Bool×List Int×List Int))→List Int→Int→(List (List (Bool×List Int×List Int)))→List Int→(List (Bool×List Int×List Int))→Bool→List Int→List Int→Option (List (List (Bool×List Int×List Int)))
 |0,_,_,_,_,_,_,_,_,_,_,_,_,_,_,_,_,_,_,_,_,_,_=>none
 |k+1,x3,x5,x6,x9,x21,x22,x23,x31,x32,xo0_0,xo0_1,xo0_2,xo0_3,xo0_4,xo0_5,xo0_6,xo1,xo2,xo3,xo4_0,xo4_1,xo4_2=>if 0≤x6 then
 if x6<(xo0_3.length:Int) then
 (qa5.f k (rY17 xo0_3 x6) (xo4_0,xo4_1,xo4_2)).bind fun r6=>
 if 0≤x9 then
 if x9<(xo3.length:Int) then
 qal.l9 k x3 x5 x6 x21 x22 x23 x31 (wrap64 (x32+1)) xo0_0 xo0_1 xo0_2 xo0_3 xo0_4 xo0_5 xo0_6 xo1 xo2 (xo3.set x9.toNat r6)
 else none
 else none
 else none
 else none
end
theorem qal.l5_eq (k:Nat) (x3:List (List (Bool×List Int×List Int))) (x5:Int) (x21:List (Int×Int)) (x22:Int) (x23:Int) (xo0:List (List (Bool×List Int×List Int))) (xo1_0:List Int) (xo1_1:List Int) (xo1_2:List (Int×Int)) (xo1_3:List (Bool×List Int×List Int)) (xo1_4:List (Bool×List Int×List Int)) (xo1_5:List Int) (xo1_6:Int):qal.l5 (k+1) x3 x5 x21 x22 x23 xo0 xo1_0 xo1_1 xo1_2 xo1_3 xo1_4 xo1_5 xo1_6=if x23<x22 then
 if 0≤x23 then
 if x23<(x21.length:Int) then
 if [0,0].length=2 then
 if 0≤x5 then
 if x5*56≤140737488355328 then
 if x5≤140737488355328 then
 qal.l9 k x3 x5 x23 x21 x22 x23 ((List.replicate x5.toNat (false,[],[]):List (Bool×List Int×List Int)).length:Int) 0 xo1_0 xo1_1 xo1_2 xo1_3 xo1_4 xo1_5 xo1_6 xo0 [(rY4 x21 x23).1,(rY4 x21 x23).2] (List.replicate x5.toNat (false,[],[]):List (Bool×List Int×List Int))
 else none
 else none
 else none
 else none
 else none
 else none
 else some xo0:=rfl
theorem qal.l9_eq (k:Nat) (x3:List (List (Bool×List Int×List Int))) (x5:Int) (x6:Int) (x21:List (Int×Int)) (x22:Int) (x23:Int) (x31:Int) (x32:Int) (xo0_0:List Int) (xo0_1:List Int) (xo0_2:List (Int×Int)) (xo0_3:List (Bool×List Int×List Int)) (xo0_4:List (Bool×List Int×List Int)) (xo0_5:List Int) (xo0_6:Int) (xo1:List (List (Bool×List Int×List Int))) (xo2:List Int) (xo3:List (Bool×List Int×List Int)):qal.l9 (k+1) x3 x5 x6 x21 x22 x23 x31 x32 xo0_0 xo0_1 xo0_2 xo0_3 xo0_4 xo0_5 xo0_6 xo1 xo2 xo3=if x32<x31 then
 (qa4.f k ((xo0_0,xo0_1),xo0_2,xo0_3,xo0_4,xo0_5,xo0_6) x32).bind fun r2=>
 if r2<0 then
 qal.l9 k x3 x5 x6 x21 x22 x23 x31 (wrap64 (x32+1)) xo0_0 xo0_1 xo0_2 xo0_3 xo0_4 xo0_5 xo0_6 xo1 xo2 xo3
 else if (0:Int)≤0 then
 if (0:Int)<2 then
 if 0<(xo2.length:Int) then
 (qa4.f k ((xo0_0,xo0_1),xo0_2,xo0_3,xo0_4,xo0_5,xo0_6) (rI64 xo2 0)).bind fun r3=>
 if 0≤r3 then
 if 0≤r3 then
 if r3<(x3.length:Int) then
 if 0≤r2 then
 if r2<((rL122 x3 r3).length:Int) then
 qal.l17 k x3 x5 x6 x32 r2 x21 x22 x23 x31 x32 xo0_0 xo0_1 xo0_2 xo0_3 xo0_4 xo0_5 xo0_6 xo1 xo2 xo3 (rY17 (rL122 x3 r3) r2).1 (rY17 (rL122 x3 r3) r2).2.1 (rY17 (rL122 x3 r3) r2).2.2
 else none
 else none
 else none
 else none
 else qal.l17 k x3 x5 x6 x32 r2 x21 x22 x23 x31 x32 xo0_0 xo0_1 xo0_2 xo0_3 xo0_4 xo0_5 xo0_6 xo1 xo2 xo3 false [] []
 else none
 else none
 else none
 else if (xo1.length+1)*24≤140737488355328 then
 qal.l5 k x3 x5 x21 x22 (wrap64 (x23+1)) (xo1++[xo3]) xo0_0 xo0_1 xo0_2 xo0_3 xo0_4 xo0_5 xo0_6
 else none:=rfl
theorem qal.l17_eq (k:Nat) (x3:List (List (Bool×List Int×List Int))) (x5:Int) (x6:Int) (x9:Int) (x10:Int) (x21:List (Int×Int)) (x22:Int) (x23:Int) (x31:Int) (x32:Int) (xo0_0:List Int) (xo0_1:List Int) (xo0_2:List (Int×Int)) (xo0_3:List (Bool×List Int×List Int)) (xo0_4:List (Bool×List Int×List Int)) (xo0_5:List Int) (xo0_6:Int) (xo1:List (List (Bool×List Int×List Int))) (xo2:List Int) (xo3:List (Bool×List Int×List Int)) (xo4_0:Bool) (xo4_1:List Int) (xo4_2:List Int):qal.l17 (k+1) x3 x5 x6 x9 x10 x21 x22 x23 x31 x32 xo0_0 xo0_1 xo0_2 xo0_3 xo0_4 xo0_5 xo0_6 xo1 xo2 xo3 xo4_0 xo4_1 xo4_2=if (0:Int)≤1 then
 if (1:Int)<2 then
 if 1<(xo2.length:Int) then
 (qa4.f k ((xo0_0,xo0_1),xo0_2,xo0_3,xo0_4,xo0_5,xo0_6) (rI64 xo2 1)).bind fun r4=>
 if 0≤r4 then
 if 0≤r4 then
 if r4<(x3.length:Int) then
 if 0≤x10 then
 if x10<((rL122 x3 r4).length:Int) then
 (qaU.f k (xo4_0,xo4_1,xo4_2) (rY17 (rL122 x3 r4) x10)).bind fun r5=>
 qal.l20 k x3 x5 x6 x9 x21 x22 x23 x31 x32 xo0_0 xo0_1 xo0_2 xo0_3 xo0_4 xo0_5 xo0_6 xo1 xo2 xo3 r5.1 r5.2.1 r5.2.2
 else none
 else none
 else none
 else none
 else qal.l20 k x3 x5 x6 x9 x21 x22 x23 x31 x32 xo0_0 xo0_1 xo0_2 xo0_3 xo0_4 xo0_5 xo0_6 xo1 xo2 xo3 xo4_0 xo4_1 xo4_2
 else none
 else none
 else none:=rfl
theorem qal.qfC (k:Nat) (x3:List (List (Bool×List Int×List Int))) (x5:Int) (x6:Int) (x9:Int) (x21:List (Int×Int)) (x22:Int) (x23:Int) (x31:Int) (x32:Int) (xo0_0:List Int) (xo0_1:List Int) (xo0_2:List (Int×Int)) (xo0_3:List (Bool×List Int×List Int)) (xo0_4:List (Bool×List Int×List Int)) (xo0_5:List Int) (xo0_6:Int) (xo1:List (List (Bool×List Int×List Int))) (xo2:List Int) (xo3:List (Bool×List Int×List Int)) (xo4_0:Bool) (xo4_1:List Int) (xo4_2:List Int):qal.l20 (k+1) x3 x5 x6 x9 x21 x22 x23 x31 x32 xo0_0 xo0_1 xo0_2 xo0_3 xo0_4 xo0_5 xo0_6 xo1 xo2 xo3 xo4_0 xo4_1 xo4_2=if 0≤x6 then
 if x6<(xo0_3.length:Int) then
 (qa5.f k (rY17 xo0_3 x6) (xo4_0,xo4_1,xo4_2)).bind fun r6=>
 if 0≤x9 then
 if x9<(xo3.length:Int) then
 qal.l9 k x3 x5 x6 x21 x22 x23 x31 (wrap64 (x32+1)) xo0_0 xo0_1 xo0_2 xo0_3 xo0_4 xo0_5 xo0_6 xo1 xo2 (xo3.set x9.toNat r6)
 else none
 else none
 else none
 else none:=rfl
def qal.f (k:Nat) (a0:(List Int×List Int)×(List (Int×Int))×(List (Bool×List Int×List Int))×(List (Bool×List Int×List Int))×List Int×Int):Option (List (List (Bool×List Int×List Int))):=
 (qay.f k a0).bind fun r1=>
 qal.l5 k r1 (a0.1.2.length:Int) a0.2.1 (a0.2.1.length:Int) 0 [] a0.1.1 a0.1.2 a0.2.1 a0.2.2.1 a0.2.2.2.1 a0.2.2.2.2.1 a0.2.2.2.2.2
def strings_trimLeftByte.l1:Nat→ByteArray→Int→Option ByteArray
 |0,_,_=>none
 |k+1,x0,x1=>if 0<(x0.size:Int) then
 if (0:Int)≤0 then
 if 0<(x0.size:Int) then
 if (bt x0 0)=x1 then
 if (0:Int)≤1 then
 if 1≤(x0.size:Int) then
 strings_trimLeftByte.l1 k (x0.extract (Int.toNat 1) (Int.toNat (x0.size:Int))) x1
 else none
 else none
 else some x0
 else none
 else none
 else some x0
theorem strings_trimLeftByte.l1_eq (k:Nat) (x0:ByteArray) (x1:Int):strings_trimLeftByte.l1 (k+1) x0 x1=if 0<(x0.size:Int) then
 if (0:Int)≤0 then
 if 0<(x0.size:Int) then
 if (bt x0 0)=x1 then
 if (0:Int)≤1 then
 if 1≤(x0.size:Int) then
 strings_trimLeftByte.l1 k (x0.extract (Int.toNat 1) (Int.toNat (x0.size:Int))) x1
 else none
 else none
 else some x0
 else none
 else none
 else some x0:=rfl
def strings_trimLeftByte.f (k:Nat) (a0:ByteArray) (a1:Int):Option ByteArray:=
 strings_trimLeftByte.l1 k a0 a1
def qbk.f (k:Nat) (a0:ByteArray) (a1:ByteArray):Option ByteArray:=
 if a0=ByteArray.empty then
 some a0
 else if a1=ByteArray.empty then
 some a0
 else if (a1.size:Int)=1 then
 if (0:Int)≤0 then
 if 0<(a1.size:Int) then
 if (bt a1 0)<128 then
 if (0:Int)≤0 then
 if 0<(a1.size:Int) then
 (strings_trimLeftByte.f k a0 (bt a1 0)).bind fun r1=>
 some r1
 else none
 else none
 else none
 else none
 else none
 else none
mutual
def qax.l5:Nat→List Int→Int→List Int→Option ByteArray
 |0,_,_,_=>none
 |k+1,x0,x4,xo0=>if 0≤x4 then
 if 0≤x4 then
 if x4<(x0.length:Int) then
 qax.l10 k x0 x4 (rU32 x0 x4) 8 xo0 [0,0,0,0,0,0,0,0,0]
 else none
 else none
 else (qbk.f k (ofBytes xo0) (ByteArray.mk #[48])).bind fun r1=>
 some r1
def qax.l10:Nat→List Int→Int→Int→Int→List Int→List Int→Option ByteArray
 |0,_,_,_,_,_,_=>none
 |k+1,x0,x4,x5,x7,xo0,xo1=>if 0≤x7 then
 if (10:Int)≠0 then
 if 0≤x7 then
 if x7<9 then
 if x7<(xo1.length:Int) then
 if (10:Int)≠0 then
 qax.l10 k x0 x4 (IntKind.wrap .u32 (Int.tdiv x5 10)) (wrap64 (x7 - 1)) xo0 (xo1.set x7.toNat (IntKind.wrap .u8 (IntKind.wrap .u32 (48+(Int.tmod x5 10)))))
 else none
 else none
 else none
 else none
 else none
 else if xo1.length=9 then
 if (xo0.length+xo1.length)*1≤140737488355328 then
 qax.l5 k x0 (wrap64 (x4 - 1)) (xo0++xo1)
 else none
 else none
end
theorem qax.l5_eq (k:Nat) (x0:List Int) (x4:Int) (xo0:List Int):qax.l5 (k+1) x0 x4 xo0=if 0≤x4 then
 if 0≤x4 then
 if x4<(x0.length:Int) then
 qax.l10 k x0 x4 (rU32 x0 x4) 8 xo0 [0,0,0,0,0,0,0,0,0]
 else none
 else none
 else (qbk.f k (ofBytes xo0) (ByteArray.mk #[48])).bind fun r1=>
 some r1:=rfl
theorem qax.qeK (k:Nat) (x0:List Int) (x4:Int) (x5:Int) (x7:Int) (xo0:List Int) (xo1:List Int):qax.l10 (k+1) x0 x4 x5 x7 xo0 xo1=if 0≤x7 then
 if (10:Int)≠0 then
 if 0≤x7 then
 if x7<9 then
 if x7<(xo1.length:Int) then
 if (10:Int)≠0 then
 qax.l10 k x0 x4 (IntKind.wrap .u32 (Int.tdiv x5 10)) (wrap64 (x7 - 1)) xo0 (xo1.set x7.toNat (IntKind.wrap .u8 (IntKind.wrap .u32 (48+(Int.tmod x5 10)))))
 else none
 else none
 else none
 else none
 else none
 else if xo1.length=9 then
 if (xo0.length+xo1.length)*1≤140737488355328 then
 qax.l5 k x0 (wrap64 (x4 - 1)) (xo0++xo1)
 else none
 else none:=rfl
def qax.l0:Nat→List Int→Option ByteArray
 |0,_=>none
 |k+1,x0=>if (x0.length:Int)=0 then
 some (ByteArray.mk #[48])
 else if (0:Int)≤0 then
 if 0≤(wrap64 (9*(x0.length:Int))) then
 if (wrap64 (9*(x0.length:Int)))*1≤140737488355328 then
 if (wrap64 (9*(x0.length:Int)))≤140737488355328 then
 qax.l5 k x0 (wrap64 ((x0.length:Int) - 1)) (List.replicate (Int.toNat 0) 0)
 else none
 else none
 else none
 else none
theorem qax.l0_eq (k:Nat) (x0:List Int):qax.l0 (k+1) x0=if (x0.length:Int)=0 then
 some (ByteArray.mk #[48])
 else if (0:Int)≤0 then
 if 0≤(wrap64 (9*(x0.length:Int))) then
 if (wrap64 (9*(x0.length:Int)))*1≤140737488355328 then
 if (wrap64 (9*(x0.length:Int)))≤140737488355328 then
 qax.l5 k x0 (wrap64 ((x0.length:Int) - 1)) (List.replicate (Int.toNat 0) 0)
 else none
 else none
 else none
 else none:=rfl
def qax.f (k:Nat) (a0:List Int):Option ByteArray:=
 qax.l0 k a0
def qbz.f (k:Nat) (a0:List Int):Option Int:=
 (qax.f k a0).bind fun r1=>
 some (r1.size:Int)
def qbX.f (k:Nat) (a0:Bool×List Int×List Int):Option Int:=
 (qbz.f k a0.2.1).bind fun r1=>
 if 2000<r1 then
 some 2
 else (qbz.f k a0.2.2).bind fun r2=>
 if 2000<r2 then
 some 2
 else some 0
def qbx.f (k:Nat) (a0:Bool×List Int×List Int):Option ByteArray:=
 if (a0.2.1.length:Int)=0 then
 some (ByteArray.mk #[48])
 else (qax.f k a0.2.1).bind fun r1=>
 if a0.1=true then
 if ((ByteArray.mk #[45]).size:Int)+(r1.size:Int)≤9223372036854775807 then
 (qaW.f k a0).bind fun r2=>
 (qax.f k r2).bind fun r3=>
 if r3=(ByteArray.mk #[49]) then
 some ((ByteArray.mk #[45])++r1)
 else if ((ByteArray.mk #[47]).size:Int)+(r3.size:Int)≤9223372036854775807 then
 if (((ByteArray.mk #[45])++r1).size:Int)+(((ByteArray.mk #[47])++r3).size:Int)≤9223372036854775807 then
 some (((ByteArray.mk #[45])++r1)++((ByteArray.mk #[47])++r3))
 else none
 else none
 else none
 else (qaW.f k a0).bind fun r4=>
 (qax.f k r4).bind fun r5=>
 if r5=(ByteArray.mk #[49]) then
 some r1
 else if ((ByteArray.mk #[47]).size:Int)+(r5.size:Int)≤9223372036854775807 then
 if (r1.size:Int)+(((ByteArray.mk #[47])++r5).size:Int)≤9223372036854775807 then
 some (r1++((ByteArray.mk #[47])++r5))
 else none
 else none
def qa3.l3:Nat→(List (Bool×List Int×List Int))→Int→Int→List ByteArray→Option (List ByteArray×Int)
 |0,_,_,_,_=>none
 |k+1,x8,x9,x10,xo0=>if x10<x9 then
 if 0≤x10 then
 if x10<(x8.length:Int) then
 (qbX.f k (rY17 x8 x10)).bind fun r1=>
 if r1=0 then
 (qbx.f k (rY17 x8 x10)).bind fun r2=>
 if (xo0.length+[r2].length)*16≤140737488355328 then
 qa3.l3 k x8 x9 (wrap64 (x10+1)) (xo0++[r2])
 else none
 else some ([],r1)
 else none
 else none
 else some (xo0,0)
theorem qa3.l3_eq (k:Nat) (x8:List (Bool×List Int×List Int)) (x9:Int) (x10:Int) (xo0:List ByteArray):qa3.l3 (k+1) x8 x9 x10 xo0=if x10<x9 then
 if 0≤x10 then
 if x10<(x8.length:Int) then
 (qbX.f k (rY17 x8 x10)).bind fun r1=>
 if r1=0 then
 (qbx.f k (rY17 x8 x10)).bind fun r2=>
 if (xo0.length+[r2].length)*16≤140737488355328 then
 qa3.l3 k x8 x9 (wrap64 (x10+1)) (xo0++[r2])
 else none
 else some ([],r1)
 else none
 else none
 else some (xo0,0):=rfl
def qa3.f (k:Nat) (a0:List (Bool×List Int×List Int)):Option (List ByteArray×Int):=
 qa3.l3 k a0 (a0.length:Int) 0 []
def qaR.l3:Nat→(List (List (Bool×List Int×List Int)))→Int→Int→List (List ByteArray)→Option (List (List ByteArray)×Int)
 |0,_,_,_,_=>none
 |k+1,x9,x10,x11,xo0=>if x11<x10 then
 if 0≤x11 then
 if x11<(x9.length:Int) then
 (qa3.f k (rL122 x9 x11)).bind fun r1=>
 if r1.2=0 then
 if (xo0.length+[r1.1].length)*24≤140737488355328 then
 qaR.l3 k x9 x10 (wrap64 (x11+1)) (xo0++[r1.1])
 else none
 else some ([],r1.2)
 else none
 else none
 else some (xo0,0)
theorem qaR.l3_eq (k:Nat) (x9:List (List (Bool×List Int×List Int))) (x10:Int) (x11:Int) (xo0:List (List ByteArray)):qaR.l3 (k+1) x9 x10 x11 xo0=if x11<x10 then
 if 0≤x11 then
 if x11<(x9.length:Int) then
 (qa3.f k (rL122 x9 x11)).bind fun r1=>
 if r1.2=0 then
 if (xo0.length+[r1.1].length)*24≤140737488355328 then
 qaR.l3 k x9 x10 (wrap64 (x11+1)) (xo0++[r1.1])
 else none
 else some ([],r1.2)
 else none
 else none
 else some (xo0,0):=rfl
def qaR.f (k:Nat) (a0:List (List (Bool×List Int×List Int))):Option (List (List ByteArray)×Int):=
 qaR.l3 k a0 (a0.length:Int) 0 []
def qby.f (k:Nat) (a0:List ByteArray×(List (ByteArray×ByteArray×ByteArray×Bool×Bool))×(List (ByteArray×ByteArray×ByteArray×Int×Int×Int×Int×Int×Int))×(List (ByteArray×ByteArray×Int×Int×Int))×(List (ByteArray×ByteArray×Int))×List (ByteArray×ByteArray×Int×Int×Int)):Option (List (List ByteArray)×Int):=
 (qaf.f k a0).bind fun r1=>
 if r1=0 then
 (qaH.f k a0).bind fun r2=>
 (qal.f k r2).bind fun r3=>
 (qaR.f k r3).bind fun r4=>
 some r4
 else some ([],r1)
def qaC.l20:Nat→Int→Int→List Int→Option Int
 |0,_,_,_=>none
 |k+1,x68,x69,xo0=>if x69<x68 then
 if 0≤x69 then
 if x69<(xo0.length:Int) then
 if (rI64 xo0 x69)=0 then
 qaC.l20 k x68 (wrap64 (x69+1)) xo0
 else some 14
 else none
 else none
 else some 0
theorem qaC.qfC (k:Nat) (x68:Int) (x69:Int) (xo0:List Int):qaC.l20 (k+1) x68 x69 xo0=if x69<x68 then
 if 0≤x69 then
 if x69<(xo0.length:Int) then
 if (rI64 xo0 x69)=0 then
 qaC.l20 k x68 (wrap64 (x69+1)) xo0
 else some 14
 else none
 else none
 else some 0:=rfl
def qaC.l15:Nat→List Int→Int→Int→List Int→List Int→List Int→Option Int
 |0,_,_,_,_,_,_=>none
 |k+1,x44,x45,x46,xo0_0,xo0_1,xo1=>if x46<x45 then
 if 0≤x46 then
 if x46<(x44.length:Int) then
 if 0≤x46 then
 if x46<(xo0_0.length:Int) then
 if 0≤(rI64 xo0_0 x46) then
 if (rI64 xo0_0 x46)<(xo0_1.length:Int) then
 if 0≤(rI64 xo0_1 (rI64 xo0_0 x46)) then
 if (rI64 xo0_1 (rI64 xo0_0 x46))<(xo1.length:Int) then
 if 0≤(rI64 xo0_1 (rI64 xo0_0 x46)) then
 if (rI64 xo0_1 (rI64 xo0_0 x46))<(xo1.length:Int) then
 qaC.l15 k x44 x45 (wrap64 (x46+1)) xo0_0 xo0_1 (xo1.set (rI64 xo0_1 (rI64 xo0_0 x46)).toNat (wrap64 ((rI64 xo1 (rI64 xo0_1 (rI64 xo0_0 x46)))+(rI64 x44 x46))))
 else none
 else none
 else none
 else none
 else none
 else none
 else none
 else none
 else none
 else none
 else qaC.l20 k (xo1.length:Int) 0 xo1
theorem qaC.l15_eq (k:Nat) (x44:List Int) (x45:Int) (x46:Int) (xo0_0:List Int) (xo0_1:List Int) (xo1:List Int):qaC.l15 (k+1) x44 x45 x46 xo0_0 xo0_1 xo1=if x46<x45 then
 if 0≤x46 then
 if x46<(x44.length:Int) then
 if 0≤x46 then
 if x46<(xo0_0.length:Int) then
 if 0≤(rI64 xo0_0 x46) then
 if (rI64 xo0_0 x46)<(xo0_1.length:Int) then
 if 0≤(rI64 xo0_1 (rI64 xo0_0 x46)) then
 if (rI64 xo0_1 (rI64 xo0_0 x46))<(xo1.length:Int) then
 if 0≤(rI64 xo0_1 (rI64 xo0_0 x46)) then
 if (rI64 xo0_1 (rI64 xo0_0 x46))<(xo1.length:Int) then
 qaC.l15 k x44 x45 (wrap64 (x46+1)) xo0_0 xo0_1 (xo1.set (rI64 xo0_1 (rI64 xo0_0 x46)).toNat (wrap64 ((rI64 xo1 (rI64 xo0_1 (rI64 xo0_0 x46)))+(rI64 x44 x46))))
 else none
 else none
 else none
 else none
 else none
 else none
 else none
 else none
 else none
 else none
 else qaC.l20 k (xo1.length:Int) 0 xo1:=rfl
def qaC.l7:Nat→List Int→List Int→Int→Int→List ByteArray→(List (ByteArray×ByteArray×ByteArray×Bool×Bool))→(List (ByteArray×ByteArray×ByteArray×Int×Int×Int×Int×Int×Int))→(List (ByteArray×ByteArray×Int×Int×Int))→(List (ByteArray×ByteArray×Int))→(List (ByteArray×ByteArray×Int×Int×Int))→Option Int
 |0,_,_,_,_,_,_,_,_,_,_=>none
 |k+1,x1,x25,x26,x27,xo0_0,xo0_1,xo0_2,xo0_3,xo0_4,xo0_5=>if x27<x26 then
 if 0≤x27 then
 if x27<(x25.length:Int) then
 if (rI64 x25 x27)<(-100000) then
 some 4
 else if 100000<(rI64 x25 x27) then
 some 4
 else qaC.l7 k x1 x25 x26 (wrap64 (x27+1)) xo0_0 xo0_1 xo0_2 xo0_3 xo0_4 xo0_5
 else none
 else none
 else (qaM.f k (xo0_0,xo0_1,xo0_2,xo0_3,xo0_4,xo0_5)).bind fun r2=>
 (qa1.f k r2.2).bind fun r3=>
 if 0≤r3 then
 if r3*8≤140737488355328 then
 if r3≤140737488355328 then
 qaC.l15 k x1 (x1.length:Int) 0 r2.1 r2.2 (List.replicate r3.toNat 0)
 else none
 else none
 else none
theorem qaC.l7_eq (k:Nat) (x1:List Int) (x25:List Int) (x26:Int) (x27:Int) (xo0_0:List ByteArray) (xo0_1:List (ByteArray×ByteArray×ByteArray×Bool×Bool)) (xo0_2:List (ByteArray×ByteArray×ByteArray×Int×Int×Int×Int×Int×Int)) (xo0_3:List (ByteArray×ByteArray×Int×Int×Int)) (xo0_4:List (ByteArray×ByteArray×Int)) (xo0_5:List (ByteArray×ByteArray×Int×Int×Int)):qaC.l7 (k+1) x1 x25 x26 x27 xo0_0 xo0_1 xo0_2 xo0_3 xo0_4 xo0_5=if x27<x26 then
 if 0≤x27 then
 if x27<(x25.length:Int) then
 if (rI64 x25 x27)<(-100000) then
 some 4
 else if 100000<(rI64 x25 x27) then
 some 4
 else qaC.l7 k x1 x25 x26 (wrap64 (x27+1)) xo0_0 xo0_1 xo0_2 xo0_3 xo0_4 xo0_5
 else none
 else none
 else (qaM.f k (xo0_0,xo0_1,xo0_2,xo0_3,xo0_4,xo0_5)).bind fun r2=>
 (qa1.f k r2.2).bind fun r3=>
 if 0≤r3 then
 if r3*8≤140737488355328 then
 if r3≤140737488355328 then
 qaC.l15 k x1 (x1.length:Int) 0 r2.1 r2.2 (List.replicate r3.toNat 0)
 else none
 else none
 else none:=rfl
def qaC.f (k:Nat) (a0:List ByteArray×(List (ByteArray×ByteArray×ByteArray×Bool×Bool))×(List (ByteArray×ByteArray×ByteArray×Int×Int×Int×Int×Int×Int))×(List (ByteArray×ByteArray×Int×Int×Int))×(List (ByteArray×ByteArray×Int))×List (ByteArray×ByteArray×Int×Int×Int)) (a1:List Int):Option Int:=
 (qaf.f k a0).bind fun r1=>
 if r1=0 then
 if (a1.length:Int)=(a0.1.length:Int) then
 qaC.l7 k a1 a1 (a1.length:Int) 0 a0.1 a0.2.1 a0.2.2.1 a0.2.2.2.1 a0.2.2.2.2.1 a0.2.2.2.2.2
 else some 3
 else some r1
def qam.l9:Nat→Int→Int→(List (Bool×List Int×List Int))→List Int→Option (List (Bool×List Int×List Int))
 |0,_,_,_,_=>none
 |k+1,x36,x37,xo0,xo1=>if x37<x36 then
 if 0≤x37 then
 if x37<(xo1.length:Int) then
 (qbh.f k (rI64 xo1 x37)).bind fun r1=>
 if (xo0.length+[r1].length)*56≤140737488355328 then
 qam.l9 k x36 (wrap64 (x37+1)) (xo0++[r1]) xo1
 else none
 else none
 else none
 else some xo0
theorem qam.l9_eq (k:Nat) (x36:Int) (x37:Int) (xo0:List (Bool×List Int×List Int)) (xo1:List Int):qam.l9 (k+1) x36 x37 xo0 xo1=if x37<x36 then
 if 0≤x37 then
 if x37<(xo1.length:Int) then
 (qbh.f k (rI64 xo1 x37)).bind fun r1=>
 if (xo0.length+[r1].length)*56≤140737488355328 then
 qam.l9 k x36 (wrap64 (x37+1)) (xo0++[r1]) xo1
 else none
 else none
 else none
 else some xo0:=rfl
def qam.l3:Nat→List Int→Int→Int→List Int→List Int→(List (Int×Int))→(List (Bool×List Int×List Int))→(List (Bool×List Int×List Int))→List Int→Int→List Int→Option (List (Bool×List Int×List Int))
 |0,_,_,_,_,_,_,_,_,_,_,_=>none
 |k+1,x15,x16,x17,xo0_0,xo0_1,xo0_2,xo0_3,xo0_4,xo0_5,xo0_6,xo1=>if x17<x16 then
 if 0≤x17 then
 if x17<(x15.length:Int) then
 if 0≤x17 then
 if x17<(xo0_0.length:Int) then
 if 0≤(rI64 xo0_0 x17) then
 if (rI64 xo0_0 x17)<(xo1.length:Int) then
 if 0≤(rI64 xo0_0 x17) then
 if (rI64 xo0_0 x17)<(xo1.length:Int) then
 qam.l3 k x15 x16 (wrap64 (x17+1)) xo0_0 xo0_1 xo0_2 xo0_3 xo0_4 xo0_5 xo0_6 (xo1.set (rI64 xo0_0 x17).toNat (wrap64 ((rI64 xo1 (rI64 xo0_0 x17))+(rI64 x15 x17))))
 else none
 else none
 else none
 else none
 else none
 else none
 else none
 else none
 else qam.l9 k (xo1.length:Int) 0 [] xo1
theorem qam.l3_eq (k:Nat) (x15:List Int) (x16:Int) (x17:Int) (xo0_0:List Int) (xo0_1:List Int) (xo0_2:List (Int×Int)) (xo0_3:List (Bool×List Int×List Int)) (xo0_4:List (Bool×List Int×List Int)) (xo0_5:List Int) (xo0_6:Int) (xo1:List Int):qam.l3 (k+1) x15 x16 x17 xo0_0 xo0_1 xo0_2 xo0_3 xo0_4 xo0_5 xo0_6 xo1=if x17<x16 then
 if 0≤x17 then
 if x17<(x15.length:Int) then
 if 0≤x17 then
 if x17<(xo0_0.length:Int) then
 if 0≤(rI64 xo0_0 x17) then
 if (rI64 xo0_0 x17)<(xo1.length:Int) then
 if 0≤(rI64 xo0_0 x17) then
 if (rI64 xo0_0 x17)<(xo1.length:Int) then
 qam.l3 k x15 x16 (wrap64 (x17+1)) xo0_0 xo0_1 xo0_2 xo0_3 xo0_4 xo0_5 xo0_6 (xo1.set (rI64 xo0_0 x17).toNat (wrap64 ((rI64 xo1 (rI64 xo0_0 x17))+(rI64 x15 x17))))
 else none
 else none
 else none
 else none
 else none
 else none
 else none
 else none
 else qam.l9 k (xo1.length:Int) 0 [] xo1:=rfl
def qam.f (k:Nat) (a0:(List Int×List Int)×(List (Int×Int))×(List (Bool×List Int×List Int))×(List (Bool×List Int×List Int))×List Int×Int) (a1:List Int):Option (List (Bool×List Int×List Int)):=
 if 0≤(a0.2.2.2.2.1.length:Int) then
 if (a0.2.2.2.2.1.length:Int)*8≤140737488355328 then
 if (a0.2.2.2.2.1.length:Int)≤140737488355328 then
 qam.l3 k a1 (a1.length:Int) 0 a0.1.1 a0.1.2 a0.2.1 a0.2.2.1 a0.2.2.2.1 a0.2.2.2.2.1 a0.2.2.2.2.2 (List.replicate (a0.2.2.2.2.1.length:Int).toNat 0)
 else none
 else none
 else none
def qat.l18:Nat→Int→(List (List (Bool×List Int×List Int)))→Int→Int→(List (Bool×List Int×List Int))→Option ((List (Bool×List Int×List Int))×Int)
 |0,_,_,_,_,_=>none
 |k+1,x2,x8,x61,x62,xo0=>if x62<x61 then
 if 0≤x62 then
 if x62<(x8.length:Int) then
 if 0≤x2 then
 if x2<((rL122 x8 x62).length:Int) then
 if 0≤x62 then
 if x62<(xo0.length:Int) then
 qat.l18 k x2 x8 x61 (wrap64 (x62+1)) (xo0.set x62.toNat (rY17 (rL122 x8 x62) x2))
 else none
 else none
 else none
 else none
 else none
 else none
 else some (xo0,1)
theorem qat.l18_eq (k:Nat) (x2:Int) (x8:List (List (Bool×List Int×List Int))) (x61:Int) (x62:Int) (xo0:List (Bool×List Int×List Int)):qat.l18 (k+1) x2 x8 x61 x62 xo0=if x62<x61 then
 if 0≤x62 then
 if x62<(x8.length:Int) then
 if 0≤x2 then
 if x2<((rL122 x8 x62).length:Int) then
 if 0≤x62 then
 if x62<(xo0.length:Int) then
 qat.l18 k x2 x8 x61 (wrap64 (x62+1)) (xo0.set x62.toNat (rY17 (rL122 x8 x62) x2))
 else none
 else none
 else none
 else none
 else none
 else none
 else some (xo0,1):=rfl
def qat.l9:Nat→Int→(List (List (Bool×List Int×List Int)))→List Int→(List (List (Bool×List Int×List Int)))→Int→Int→Option ((List (Bool×List Int×List Int))×Int)
 |0,_,_,_,_,_,_=>none
 |k+1,x2,x8,x11,x41,x42,x43=>if x43<x42 then
 if 0≤x43 then
 if x43<(x41.length:Int) then
 if 0≤x2 then
 if x2<((rL122 x41 x43).length:Int) then
 (qa9.f k (rY17 (rL122 x41 x43) x2)).bind fun r2=>
 if r2=0 then
 qat.l9 k x2 x8 x11 x41 x42 (wrap64 (x43+1))
 else some ([],0)
 else none
 else none
 else none
 else none
 else if (x11.length:Int)<x2 then
 some ([],2)
 else if 0≤x2 then
 if x2*56≤140737488355328 then
 if x2≤140737488355328 then
 qat.l18 k x2 x8 ((List.replicate x2.toNat (false,[],[]):List (Bool×List Int×List Int)).length:Int) 0 (List.replicate x2.toNat (false,[],[]):List (Bool×List Int×List Int))
 else none
 else none
 else none
theorem qat.l9_eq (k:Nat) (x2:Int) (x8:List (List (Bool×List Int×List Int))) (x11:List Int) (x41:List (List (Bool×List Int×List Int))) (x42:Int) (x43:Int):qat.l9 (k+1) x2 x8 x11 x41 x42 x43=if x43<x42 then
 if 0≤x43 then
 if x43<(x41.length:Int) then
 if 0≤x2 then
 if x2<((rL122 x41 x43).length:Int) then
 (qa9.f k (rY17 (rL122 x41 x43) x2)).bind fun r2=>
 if r2=0 then
 qat.l9 k x2 x8 x11 x41 x42 (wrap64 (x43+1))
 else some ([],0)
 else none
 else none
 else none
 else none
 else if (x11.length:Int)<x2 then
 some ([],2)
 else if 0≤x2 then
 if x2*56≤140737488355328 then
 if x2≤140737488355328 then
 qat.l18 k x2 x8 ((List.replicate x2.toNat (false,[],[]):List (Bool×List Int×List Int)).length:Int) 0 (List.replicate x2.toNat (false,[],[]):List (Bool×List Int×List Int))
 else none
 else none
 else none:=rfl
def qat.l3:Nat→(List (Bool×List Int×List Int))→Int→(List (List (Bool×List Int×List Int)))→Int→Int→(List (List (Bool×List Int×List Int)))→Option ((List (Bool×List Int×List Int))×Int)
 |0,_,_,_,_,_,_=>none
 |k+1,x1,x2,x16,x17,x18,xo0=>if x18<x17 then
 if 0≤x18 then
 if x18<(x16.length:Int) then
 if (([]:List (Bool×List Int×List Int)).length+(rL122 x16 x18).length)*56≤140737488355328 then
 if 0≤x18 then
 if x18<(x1.length:Int) then
 if (([]++(rL122 x16 x18)).length+[rY17 x1 x18].length)*56≤140737488355328 then
 if (xo0.length+1)*24≤140737488355328 then
 qat.l3 k x1 x2 x16 x17 (wrap64 (x18+1)) (xo0++[([]++(rL122 x16 x18))++[rY17 x1 x18]])
 else none
 else none
 else none
 else none
 else none
 else none
 else none
 else (qap.f k x2 xo0).bind fun r1=>
 if 0≤(r1.1.length:Int) then
 if (r1.1.length:Int)≤(r1.2.length:Int) then
 qat.l9 k x2 r1.2 r1.1 ((r1.2.drop (Int.toNat (r1.1.length:Int))).take ((Int.toNat (r1.2.length:Int)) - (Int.toNat (r1.1.length:Int)))) (((Int.toNat (r1.2.length:Int)) - (Int.toNat (r1.1.length:Int)):Nat):Int) 0
 else none
 else none
theorem qat.l3_eq (k:Nat) (x1:List (Bool×List Int×List Int)) (x2:Int) (x16:List (List (Bool×List Int×List Int))) (x17:Int) (x18:Int) (xo0:List (List (Bool×List Int×List Int))):qat.l3 (k+1) x1 x2 x16 x17 x18 xo0=if x18<x17 then
 if 0≤x18 then
 if x18<(x16.length:Int) then
 if (([]:List (Bool×List Int×List Int)).length+(rL122 x16 x18).length)*56≤140737488355328 then
 if 0≤x18 then
 if x18<(x1.length:Int) then
 if (([]++(rL122 x16 x18)).length+[rY17 x1 x18].length)*56≤140737488355328 then
 if (xo0.length+1)*24≤140737488355328 then
 qat.l3 k x1 x2 x16 x17 (wrap64 (x18+1)) (xo0++[([]++(rL122 x16 x18))++[rY17 x1 x18]])
 else none
 else none
 else none
 else none
 else none
 else none
 else none
 else (qap.f k x2 xo0).bind fun r1=>
 if 0≤(r1.1.length:Int) then
 if (r1.1.length:Int)≤(r1.2.length:Int) then
 qat.l9 k x2 r1.2 r1.1 ((r1.2.drop (Int.toNat (r1.1.length:Int))).take ((Int.toNat (r1.2.length:Int)) - (Int.toNat (r1.1.length:Int)))) (((Int.toNat (r1.2.length:Int)) - (Int.toNat (r1.1.length:Int)):Nat):Int) 0
 else none
 else none:=rfl
def qat.f (k:Nat) (a0:List (List (Bool×List Int×List Int))) (a1:List (Bool×List Int×List Int)) (a2:Int):Option ((List (Bool×List Int×List Int))×Int):=
 qat.l3 k a1 a2 a0 (a0.length:Int) 0 []
def qac.l23:Nat→(List (Bool×List Int×List Int))→List Int→Int→Int→(List (Bool×List Int×List Int))→Option (List (Bool×List Int×List Int))
 |0,_,_,_,_,_=>none
 |k+1,x14,x114,x115,x116,xo0=>if x116<x115 then
 if 0≤x116 then
 if x116<(x114.length:Int) then
 if 0≤(rI64 x114 x116) then
 if (rI64 x114 x116)<(x14.length:Int) then
 if 0≤(rI64 x114 x116) then
 if (rI64 x114 x116)<(x14.length:Int) then
 if 0≤x116 then
 if x116<(xo0.length:Int) then
 qac.l23 k x14 x114 x115 (wrap64 (x116+1)) (xo0.set x116.toNat (rY17 x14 (rI64 x114 x116)))
 else none
 else none
 else none
 else none
 else qac.l23 k x14 x114 x115 (wrap64 (x116+1)) xo0
 else qac.l23 k x14 x114 x115 (wrap64 (x116+1)) xo0
 else none
 else none
 else some xo0
theorem qac.l23_eq (k:Nat) (x14:List (Bool×List Int×List Int)) (x114:List Int) (x115:Int) (x116:Int) (xo0:List (Bool×List Int×List Int)):qac.l23 (k+1) x14 x114 x115 x116 xo0=if x116<x115 then
 if 0≤x116 then
 if x116<(x114.length:Int) then
 if 0≤(rI64 x114 x116) then
 if (rI64 x114 x116)<(x14.length:Int) then
 if 0≤(rI64 x114 x116) then
 if (rI64 x114 x116)<(x14.length:Int) then
 if 0≤x116 then
 if x116<(xo0.length:Int) then
 qac.l23 k x14 x114 x115 (wrap64 (x116+1)) (xo0.set x116.toNat (rY17 x14 (rI64 x114 x116)))
 else none
 else none
 else none
 else none
 else qac.l23 k x14 x114 x115 (wrap64 (x116+1)) xo0
 else qac.l23 k x14 x114 x115 (wrap64 (x116+1)) xo0
 else none
 else none
 else some xo0:=rfl
mutual
def qac.l10:Nat→(List (Int×Int))→Int→Int→List Int→List Int→(List (Int×Int))→(List (Bool×List Int×List Int))→(List (Bool×List Int×List Int))→List Int→Int→(List (Bool×List Int×List Int))→Option (List (Bool×List Int×List Int))
 |0,_,_,_,_,_,_,_,_,_,_,_=>none
 |k+1,x47,x48,x49,xo0_0,xo0_1,xo0_2,xo0_3,xo0_4,xo0_5,xo0_6,xo1=>if x49<x48 then
 if 0≤x49 then
 if x49<(x47.length:Int) then
 if [0,0].length=2 then
 if 0≤x49 then
 if x49<(xo0_3.length:Int) then
 if 0≤x49 then
 if x49<(xo0_4.length:Int) then
 (qa5.f k (rY17 xo0_3 x49) (rY17 xo0_4 x49)).bind fun r2=>
 if (0:Int)≤0 then
 if (0:Int)<2 then
 if 0<([(rY4 x47 x49).1,(rY4 x47 x49).2].length:Int) then
 if 0≤(rI64 [(rY4 x47 x49).1,(rY4 x47 x49).2] 0) then
 if (rI64 [(rY4 x47 x49).1,(rY4 x47 x49).2] 0)<(xo0_5.length:Int) then
 if 0≤(rI64 xo0_5 (rI64 [(rY4 x47 x49).1,(rY4 x47 x49).2] 0)) then
 if 0≤(rI64 xo0_5 (rI64 [(rY4 x47 x49).1,(rY4 x47 x49).2] 0)) then
 if (rI64 xo0_5 (rI64 [(rY4 x47 x49).1,(rY4 x47 x49).2] 0))<(xo1.length:Int) then
 (qa6.f k (rY17 xo1 (rI64 xo0_5 (rI64 [(rY4 x47 x49).1,(rY4 x47 x49).2] 0))) r2).bind fun r3=>
 if 0≤(rI64 xo0_5 (rI64 [(rY4 x47 x49).1,(rY4 x47 x49).2] 0)) then
 if (rI64 xo0_5 (rI64 [(rY4 x47 x49).1,(rY4 x47 x49).2] 0))<(xo1.length:Int) then
 qac.l16 k x47 x48 x49 xo0_0 xo0_1 xo0_2 xo0_3 xo0_4 xo0_5 xo0_6 (xo1.set (rI64 xo0_5 (rI64 [(rY4 x47 x49).1,(rY4 x47 x49).2] 0)).toNat r3) [(rY4 x47 x49).1,(rY4 x47 x49).2] r2.1 r2.2.1 r2.2.2
 else none
 else none
 else none
 else none
 else qac.l16 k x47 x48 x49 xo0_0 xo0_1 xo0_2 xo0_3 xo0_4 xo0_5 xo0_6 xo1 [(rY4 x47 x49).1,(rY4 x47 x49).2] r2.1 r2.2.1 r2.2.2
 else none
 else none
 else none
 else none
 else none
 else none
 else none
 else none
 else none
 else none
 else none
 else none
 else (qab.f k ((xo0_0,xo0_1),xo0_2,xo0_3,xo0_4,xo0_5,xo0_6)).bind fun r4=>
 (qat.f k r4 xo1 xo0_6).bind fun r5=>
 if 0≤(xo0_5.length:Int) then
 if (xo0_5.length:Int)*56≤140737488355328 then
 if (xo0_5.length:Int)≤140737488355328 then
 qac.l23 k r5.1 xo0_5 (xo0_5.length:Int) 0 (List.replicate (xo0_5.length:Int).toNat (false,[],[]):List (Bool×List Int×List Int))
 else none
 else none
 else none
def qac.l16:Nat→(List (Int×Int))→Int→Int→List Int→List Int→(List (Int×Int))→(List (Bool×List Int×List Int))→(List (Bool×List Int×List Int))→List Int→Int→(List (Bool×List Int×List Int))→List Int→Bool→List Int→List Int→Option (List (Bool×List Int×List Int))
 |0,_,_,_,_,_,_,_,_,_,_,_,_,_,_,_=>none
 |k+1,x47,x48,x49,xo0_0,xo0_1,xo0_2,xo0_3,xo0_4,xo0_5,xo0_6,xo1,xo2,xo3_0,xo3_1,xo3_2=>if (0:Int)≤1 then
 if (1:Int)<2 then
 if 1<(xo2.length:Int) then
 if 0≤(rI64 xo2 1) then
 if (rI64 xo2 1)<(xo0_5.length:Int) then
 if 0≤(rI64 xo0_5 (rI64 xo2 1)) then
 if 0≤(rI64 xo0_5 (rI64 xo2 1)) then
 if (rI64 xo0_5 (rI64 xo2 1))<(xo1.length:Int) then
 (qaU.f k (rY17 xo1 (rI64 xo0_5 (rI64 xo2 1))) (xo3_0,xo3_1,xo3_2)).bind fun r6=>
 if 0≤(rI64 xo0_5 (rI64 xo2 1)) then
 if (rI64 xo0_5 (rI64 xo2 1))<(xo1.length:Int) then
 qac.l10 k x47 x48 (wrap64 (x49+1)) xo0_0 xo0_1 xo0_2 xo0_3 xo0_4 xo0_5 xo0_6 (xo1.set (rI64 xo0_5 (rI64 xo2 1)).toNat r6)
 else none
 else none
 else none
 else none
 else qac.l10 k x47 x48 (wrap64 (x49+1)) xo0_0 xo0_1 xo0_2 xo0_3 xo0_4 xo0_5 xo0_6 xo1
 else none
 else none
 else none
 else none
 else none
end
theorem qac.qeK (k:Nat) (x47:List (Int×Int)) (x48:Int) (x49:Int) (xo0_0:List Int) (xo0_1:List Int) (xo0_2:List (Int×Int)) (xo0_3:List (Bool×List Int×List Int)) (xo0_4:List (Bool×List Int×List Int)) (xo0_5:List Int) (xo0_6:Int) (xo1:List (Bool×List Int×List Int)):qac.l10 (k+1) x47 x48 x49 xo0_0 xo0_1 xo0_2 xo0_3 xo0_4 xo0_5 xo0_6 xo1=if x49<x48 then
 if 0≤x49 then
 if x49<(x47.length:Int) then
 if [0,0].length=2 then
 if 0≤x49 then
 if x49<(xo0_3.length:Int) then
 if 0≤x49 then
 if x49<(xo0_4.length:Int) then
 (qa5.f k (rY17 xo0_3 x49) (rY17 xo0_4 x49)).bind fun r2=>
 if (0:Int)≤0 then
 if (0:Int)<2 then
 if 0<([(rY4 x47 x49).1,(rY4 x47 x49).2].length:Int) then
 if 0≤(rI64 [(rY4 x47 x49).1,(rY4 x47 x49).2] 0) then
 if (rI64 [(rY4 x47 x49).1,(rY4 x47 x49).2] 0)<(xo0_5.length:Int) then
 if 0≤(rI64 xo0_5 (rI64 [(rY4 x47 x49).1,(rY4 x47 x49).2] 0)) then
 if 0≤(rI64 xo0_5 (rI64 [(rY4 x47 x49).1,(rY4 x47 x49).2] 0)) then
 if (rI64 xo0_5 (rI64 [(rY4 x47 x49).1,(rY4 x47 x49).2] 0))<(xo1.length:Int) then
 (qa6.f k (rY17 xo1 (rI64 xo0_5 (rI64 [(rY4 x47 x49).1,(rY4 x47 x49).2] 0))) r2).bind fun r3=>
 if 0≤(rI64 xo0_5 (rI64 [(rY4 x47 x49).1,(rY4 x47 x49).2] 0)) then
 if (rI64 xo0_5 (rI64 [(rY4 x47 x49).1,(rY4 x47 x49).2] 0))<(xo1.length:Int) then
 qac.l16 k x47 x48 x49 xo0_0 xo0_1 xo0_2 xo0_3 xo0_4 xo0_5 xo0_6 (xo1.set (rI64 xo0_5 (rI64 [(rY4 x47 x49).1,(rY4 x47 x49).2] 0)).toNat r3) [(rY4 x47 x49).1,(rY4 x47 x49).2] r2.1 r2.2.1 r2.2.2
 else none
 else none
 else none
 else none
 else qac.l16 k x47 x48 x49 xo0_0 xo0_1 xo0_2 xo0_3 xo0_4 xo0_5 xo0_6 xo1 [(rY4 x47 x49).1,(rY4 x47 x49).2] r2.1 r2.2.1 r2.2.2
 else none
 else none
 else none
 else none
 else none
 else none
 else none
 else none
 else none
 else none
 else none
 else none
 else (qab.f k ((xo0_0,xo0_1),xo0_2,xo0_3,xo0_4,xo0_5,xo0_6)).bind fun r4=>
 (qat.f k r4 xo1 xo0_6).bind fun r5=>
 if 0≤(xo0_5.length:Int) then
 if (xo0_5.length:Int)*56≤140737488355328 then
 if (xo0_5.length:Int)≤140737488355328 then
 qac.l23 k r5.1 xo0_5 (xo0_5.length:Int) 0 (List.replicate (xo0_5.length:Int).toNat (false,[],[]):List (Bool×List Int×List Int))
 else none
 else none
 else none:=rfl
theorem qac.qfD (k:Nat) (x47:List (Int×Int)) (x48:Int) (x49:Int) (xo0_0:List Int) (xo0_1:List Int) (xo0_2:List (Int×Int)) (xo0_3:List (Bool×List Int×List Int)) (xo0_4:List (Bool×List Int×List Int)) (xo0_5:List Int) (xo0_6:Int) (xo1:List (Bool×List Int×List Int)) (xo2:List Int) (xo3_0:Bool) (xo3_1:List Int) (xo3_2:List Int):qac.l16 (k+1) x47 x48 x49 xo0_0 xo0_1 xo0_2 xo0_3 xo0_4 xo0_5 xo0_6 xo1 xo2 xo3_0 xo3_1 xo3_2=if (0:Int)≤1 then
 if (1:Int)<2 then
 if 1<(xo2.length:Int) then
 if 0≤(rI64 xo2 1) then
 if (rI64 xo2 1)<(xo0_5.length:Int) then
 if 0≤(rI64 xo0_5 (rI64 xo2 1)) then
 if 0≤(rI64 xo0_5 (rI64 xo2 1)) then
 if (rI64 xo0_5 (rI64 xo2 1))<(xo1.length:Int) then
 (qaU.f k (rY17 xo1 (rI64 xo0_5 (rI64 xo2 1))) (xo3_0,xo3_1,xo3_2)).bind fun r6=>
 if 0≤(rI64 xo0_5 (rI64 xo2 1)) then
 if (rI64 xo0_5 (rI64 xo2 1))<(xo1.length:Int) then
 qac.l10 k x47 x48 (wrap64 (x49+1)) xo0_0 xo0_1 xo0_2 xo0_3 xo0_4 xo0_5 xo0_6 (xo1.set (rI64 xo0_5 (rI64 xo2 1)).toNat r6)
 else none
 else none
 else none
 else none
 else qac.l10 k x47 x48 (wrap64 (x49+1)) xo0_0 xo0_1 xo0_2 xo0_3 xo0_4 xo0_5 xo0_6 xo1
 else none
 else none
 else none
 else none
 else none:=rfl
def qac.l3:Nat→(List (Bool×List Int×List Int))→Int→Int→List Int→List Int→(List (Int×Int))→(List (Bool×List Int×List Int))→(List (Bool×List Int×List Int))→List Int→Int→(List (Bool×List Int×List Int))→Option (List (Bool×List Int×List Int))
 |0,_,_,_,_,_,_,_,_,_,_,_=>none
 |k+1,x22,x23,x24,xo0_0,xo0_1,xo0_2,xo0_3,xo0_4,xo0_5,xo0_6,xo1=>if x24<x23 then
 if 0≤x24 then
 if x24<(x22.length:Int) then
 if 0≤x24 then
 if x24<(xo0_5.length:Int) then
 if 0≤(rI64 xo0_5 x24) then
 if 0≤(rI64 xo0_5 x24) then
 if (rI64 xo0_5 x24)<(xo1.length:Int) then
 (qa6.f k (rY17 xo1 (rI64 xo0_5 x24)) (rY17 x22 x24)).bind fun r1=>
 if 0≤(rI64 xo0_5 x24) then
 if (rI64 xo0_5 x24)<(xo1.length:Int) then
 qac.l3 k x22 x23 (wrap64 (x24+1)) xo0_0 xo0_1 xo0_2 xo0_3 xo0_4 xo0_5 xo0_6 (xo1.set (rI64 xo0_5 x24).toNat r1)
 else none
 else none
 else none
 else none
 else qac.l3 k x22 x23 (wrap64 (x24+1)) xo0_0 xo0_1 xo0_2 xo0_3 xo0_4 xo0_5 xo0_6 xo1
 else none
 else none
 else none
 else none
 else qac.l10 k xo0_2 (xo0_2.length:Int) 0 xo0_0 xo0_1 xo0_2 xo0_3 xo0_4 xo0_5 xo0_6 xo1
theorem qac.l3_eq (k:Nat) (x22:List (Bool×List Int×List Int)) (x23:Int) (x24:Int) (xo0_0:List Int) (xo0_1:List Int) (xo0_2:List (Int×Int)) (xo0_3:List (Bool×List Int×List Int)) (xo0_4:List (Bool×List Int×List Int)) (xo0_5:List Int) (xo0_6:Int) (xo1:List (Bool×List Int×List Int)):qac.l3 (k+1) x22 x23 x24 xo0_0 xo0_1 xo0_2 xo0_3 xo0_4 xo0_5 xo0_6 xo1=if x24<x23 then
 if 0≤x24 then
 if x24<(x22.length:Int) then
 if 0≤x24 then
 if x24<(xo0_5.length:Int) then
 if 0≤(rI64 xo0_5 x24) then
 if 0≤(rI64 xo0_5 x24) then
 if (rI64 xo0_5 x24)<(xo1.length:Int) then
 (qa6.f k (rY17 xo1 (rI64 xo0_5 x24)) (rY17 x22 x24)).bind fun r1=>
 if 0≤(rI64 xo0_5 x24) then
 if (rI64 xo0_5 x24)<(xo1.length:Int) then
 qac.l3 k x22 x23 (wrap64 (x24+1)) xo0_0 xo0_1 xo0_2 xo0_3 xo0_4 xo0_5 xo0_6 (xo1.set (rI64 xo0_5 x24).toNat r1)
 else none
 else none
 else none
 else none
 else qac.l3 k x22 x23 (wrap64 (x24+1)) xo0_0 xo0_1 xo0_2 xo0_3 xo0_4 xo0_5 xo0_6 xo1
 else none
 else none
 else none
 else none
 else qac.l10 k xo0_2 (xo0_2.length:Int) 0 xo0_0 xo0_1 xo0_2 xo0_3 xo0_4 xo0_5 xo0_6 xo1:=rfl
def qac.f (k:Nat) (a0:(List Int×List Int)×(List (Int×Int))×(List (Bool×List Int×List Int))×(List (Bool×List Int×List Int))×List Int×Int) (a1:List (Bool×List Int×List Int)):Option (List (Bool×List Int×List Int)):=
 if 0≤a0.2.2.2.2.2 then
 if a0.2.2.2.2.2*56≤140737488355328 then
 if a0.2.2.2.2.2≤140737488355328 then
 qac.l3 k a1 (a1.length:Int) 0 a0.1.1 a0.1.2 a0.2.1 a0.2.2.1 a0.2.2.2.1 a0.2.2.2.2.1 a0.2.2.2.2.2 (List.replicate a0.2.2.2.2.2.toNat (false,[],[]):List (Bool×List Int×List Int))
 else none
 else none
 else none
def qbo.f (k:Nat) (a0:(List Int×List Int)×(List (Int×Int))×(List (Bool×List Int×List Int))×(List (Bool×List Int×List Int))×List Int×Int) (a1:Int) (a2:List (Bool×List Int×List Int)):Option (Bool×List Int×List Int):=
 if 0≤a1 then
 if a1<(a0.2.1.length:Int) then
 if [0,0].length=2 then
 if 0≤a1 then
 if a1<(a0.2.2.1.length:Int) then
 if (0:Int)≤0 then
 if (0:Int)<2 then
 if 0<([(rY4 a0.2.1 a1).1,(rY4 a0.2.1 a1).2].length:Int) then
 if 0≤(rI64 [(rY4 a0.2.1 a1).1,(rY4 a0.2.1 a1).2] 0) then
 if (rI64 [(rY4 a0.2.1 a1).1,(rY4 a0.2.1 a1).2] 0)<(a2.length:Int) then
 if (0:Int)≤1 then
 if (1:Int)<2 then
 if 1<([(rY4 a0.2.1 a1).1,(rY4 a0.2.1 a1).2].length:Int) then
 if 0≤(rI64 [(rY4 a0.2.1 a1).1,(rY4 a0.2.1 a1).2] 1) then
 if (rI64 [(rY4 a0.2.1 a1).1,(rY4 a0.2.1 a1).2] 1)<(a2.length:Int) then
 (qaU.f k (rY17 a2 (rI64 [(rY4 a0.2.1 a1).1,(rY4 a0.2.1 a1).2] 0)) (rY17 a2 (rI64 [(rY4 a0.2.1 a1).1,(rY4 a0.2.1 a1).2] 1))).bind fun r1=>
 if 0≤a1 then
 if a1<(a0.2.2.2.1.length:Int) then
 (qaU.f k r1 (rY17 a0.2.2.2.1 a1)).bind fun r2=>
 (qa5.f k (rY17 a0.2.2.1 a1) r2).bind fun r3=>
 some r3
 else none
 else none
 else none
 else none
 else none
 else none
 else none
 else none
 else none
 else none
 else none
 else none
 else none
 else none
 else none
 else none
 else none
def qaG.l3:Nat→(List (Bool×List Int×List Int))→Int→Int→List Int→List Int→(List (Int×Int))→(List (Bool×List Int×List Int))→(List (Bool×List Int×List Int))→List Int→Int→(List (Bool×List Int×List Int))→Option (List (Bool×List Int×List Int))
 |0,_,_,_,_,_,_,_,_,_,_,_=>none
 |k+1,x1,x9,x10,xo0_0,xo0_1,xo0_2,xo0_3,xo0_4,xo0_5,xo0_6,xo1=>if x10<x9 then
 (qbo.f k ((xo0_0,xo0_1),xo0_2,xo0_3,xo0_4,xo0_5,xo0_6) x10 x1).bind fun r1=>
 if (xo1.length+[r1].length)*56≤140737488355328 then
 qaG.l3 k x1 x9 (wrap64 (x10+1)) xo0_0 xo0_1 xo0_2 xo0_3 xo0_4 xo0_5 xo0_6 (xo1++[r1])
 else none
 else some xo1
theorem qaG.l3_eq (k:Nat) (x1:List (Bool×List Int×List Int)) (x9:Int) (x10:Int) (xo0_0:List Int) (xo0_1:List Int) (xo0_2:List (Int×Int)) (xo0_3:List (Bool×List Int×List Int)) (xo0_4:List (Bool×List Int×List Int)) (xo0_5:List Int) (xo0_6:Int) (xo1:List (Bool×List Int×List Int)):qaG.l3 (k+1) x1 x9 x10 xo0_0 xo0_1 xo0_2 xo0_3 xo0_4 xo0_5 xo0_6 xo1=if x10<x9 then
 (qbo.f k ((xo0_0,xo0_1),xo0_2,xo0_3,xo0_4,xo0_5,xo0_6) x10 x1).bind fun r1=>
 if (xo1.length+[r1].length)*56≤140737488355328 then
 qaG.l3 k x1 x9 (wrap64 (x10+1)) xo0_0 xo0_1 xo0_2 xo0_3 xo0_4 xo0_5 xo0_6 (xo1++[r1])
 else none
 else some xo1:=rfl
def qaG.f (k:Nat) (a0:(List Int×List Int)×(List (Int×Int))×(List (Bool×List Int×List Int))×(List (Bool×List Int×List Int))×List Int×Int) (a1:List (Bool×List Int×List Int)):Option (List (Bool×List Int×List Int)):=
 qaG.l3 k a1 (a0.2.1.length:Int) 0 a0.1.1 a0.1.2 a0.2.1 a0.2.2.1 a0.2.2.2.1 a0.2.2.2.2.1 a0.2.2.2.2.2 []
def qbp.f (k:Nat) (a0:List ByteArray×(List (ByteArray×ByteArray×ByteArray×Bool×Bool))×(List (ByteArray×ByteArray×ByteArray×Int×Int×Int×Int×Int×Int))×(List (ByteArray×ByteArray×Int×Int×Int))×(List (ByteArray×ByteArray×Int))×List (ByteArray×ByteArray×Int×Int×Int)) (a1:List Int):Option ((List ByteArray×List ByteArray)×Int):=
 (qaC.f k a0 a1).bind fun r1=>
 if r1=0 then
 (qaH.f k a0).bind fun r2=>
 (qam.f k r2 a1).bind fun r3=>
 (qac.f k r2 r3).bind fun r4=>
 (qa3.f k r4).bind fun r5=>
 if r5.2=0 then
 (qaG.f k r2 r4).bind fun r6=>
 (qa3.f k r6).bind fun r7=>
 if r7.2=0 then
 some ((r5.1,r7.1),0)
 else some (([],[]),r7.2)
 else some (([],[]),r5.2)
 else some (([],[]),r1)
def stringslite_HasPrefix.f (k:Nat) (a0:ByteArray) (a1:ByteArray):Option Bool:=
 if (a1.size:Int)≤(a0.size:Int) then
 if (a1.size:Int)≤(a0.size:Int) then
 if 0≤(a1.size:Int) then
 some (decide ((a0.extract (Int.toNat 0) (Int.toNat (a1.size:Int)))=a1))
 else none
 else none
 else some false
def stringslite_CutPrefix.f (k:Nat) (a0:ByteArray) (a1:ByteArray):Option (ByteArray×Bool):=
 (stringslite_HasPrefix.f k a0 a1).bind fun r1=>
 if r1=true then
 if 0≤(a1.size:Int) then
 if (a1.size:Int)≤(a0.size:Int) then
 some (a0.extract (Int.toNat (a1.size:Int)) (Int.toNat (a0.size:Int)),true)
 else none
 else none
 else some (a0,false)
def strings_CutPrefix.f (k:Nat) (a0:ByteArray) (a1:ByteArray):Option (ByteArray×Bool):=
 (stringslite_CutPrefix.f k a0 a1).bind fun r1=>
 some r1
def stringslite_IndexByte.f (k:Nat) (a0:ByteArray) (a1:Int):Option Int:=
 some (idxB a0 a1)
def stringslite_Index.f (k:Nat) (a0:ByteArray) (a1:ByteArray):Option Int:=
 if (a1.size:Int)=0 then
 some 0
 else if a1=a0 then
 some 0
 else if (a1.size:Int)=1 then
 if (0:Int)≤0 then
 if 0<(a1.size:Int) then
 (stringslite_IndexByte.f k a0 (bt a1 0)).bind fun r1=>
 some r1
 else none
 else none
 else if (a0.size:Int)≤(a1.size:Int) then
 some (-1)
 else none
def stringslite_Cut.f (k:Nat) (a0:ByteArray) (a1:ByteArray):Option (ByteArray×ByteArray×Bool):=
 (stringslite_Index.f k a0 a1).bind fun r1=>
 if 0≤r1 then
 if r1≤(a0.size:Int) then
 if 0≤r1 then
 if 0≤(wrap64 (r1+(a1.size:Int))) then
 if (wrap64 (r1+(a1.size:Int)))≤(a0.size:Int) then
 some (a0.extract (Int.toNat 0) (Int.toNat r1),a0.extract (Int.toNat (wrap64 (r1+(a1.size:Int)))) (Int.toNat (a0.size:Int)),true)
 else none
 else none
 else none
 else none
 else some (a0,ByteArray.empty,false)
def strings_Cut.f (k:Nat) (a0:ByteArray) (a1:ByteArray):Option (ByteArray×ByteArray×Bool):=
 (stringslite_Cut.f k a0 a1).bind fun r1=>
 some r1
mutual
def qaJ.l3:Nat→ByteArray→Int→List Int→Option (List Int)
 |0,_,_,_=>none
 |k+1,x0,x4,xo0=>if 0<x4 then
 if x4≤(x0.size:Int) then
 if 0≤(mx 0 (wrap64 (x4 - 9))) then
 if (mx 0 (wrap64 (x4 - 9)))≤x4 then
 qaJ.l7 k x0 x4 0 (qaD (x0.extract (Int.toNat (mx 0 (wrap64 (x4 - 9)))) (Int.toNat x4))) ((qaD (x0.extract (Int.toNat (mx 0 (wrap64 (x4 - 9)))) (Int.toNat x4))).length:Int) 0 xo0
 else none
 else none
 else none
 else (qaE.f k xo0).bind fun r1=>
 some r1
def qaJ.l7:Nat→ByteArray→Int→Int→List Int→Int→Int→List Int→Option (List Int)
 |0,_,_,_,_,_,_,_=>none
 |k+1,x0,x4,x5,x20,x21,x22,xo0=>if x22<x21 then
 if 0≤x22 then
 if x22<(x20.length:Int) then
 qaJ.l7 k x0 x4 (IntKind.wrap .u32 ((IntKind.wrap .u32 (x5*10))+(IntKind.wrap .u32 (IntKind.wrap .u8 ((rU8 x20 x22) - 48))))) x20 x21 (wrap64 (x22+1)) xo0
 else none
 else none
 else if (xo0.length+[x5].length)*4≤140737488355328 then
 qaJ.l3 k x0 (wrap64 (x4 - 9)) (xo0++[x5])
 else none
end
theorem qaJ.l3_eq (k:Nat) (x0:ByteArray) (x4:Int) (xo0:List Int):qaJ.l3 (k+1) x0 x4 xo0=if 0<x4 then
 if x4≤(x0.size:Int) then
 if 0≤(mx 0 (wrap64 (x4 - 9))) then
 if (mx 0 (wrap64 (x4 - 9)))≤x4 then
 qaJ.l7 k x0 x4 0 (qaD (x0.extract (Int.toNat (mx 0 (wrap64 (x4 - 9)))) (Int.toNat x4))) ((qaD (x0.extract (Int.toNat (mx 0 (wrap64 (x4 - 9)))) (Int.toNat x4))).length:Int) 0 xo0
 else none
 else none
 else none
 else (qaE.f k xo0).bind fun r1=>
 some r1:=rfl
theorem qaJ.l7_eq (k:Nat) (x0:ByteArray) (x4:Int) (x5:Int) (x20:List Int) (x21:Int) (x22:Int) (xo0:List Int):qaJ.l7 (k+1) x0 x4 x5 x20 x21 x22 xo0=if x22<x21 then
 if 0≤x22 then
 if x22<(x20.length:Int) then
 qaJ.l7 k x0 x4 (IntKind.wrap .u32 ((IntKind.wrap .u32 (x5*10))+(IntKind.wrap .u32 (IntKind.wrap .u8 ((rU8 x20 x22) - 48))))) x20 x21 (wrap64 (x22+1)) xo0
 else none
 else none
 else if (xo0.length+[x5].length)*4≤140737488355328 then
 qaJ.l3 k x0 (wrap64 (x4 - 9)) (xo0++[x5])
 else none:=rfl
def qaJ.f (k:Nat) (a0:ByteArray):Option (List Int):=
 qaJ.l3 k a0 (a0.size:Int) []
def qb5.f (k:Nat) (a0:ByteArray):Option (Bool×List Int×List Int):=
 (strings_CutPrefix.f k a0 (ByteArray.mk #[45])).bind fun r1=>
 (strings_Cut.f k r1.1 (ByteArray.mk #[47])).bind fun r2=>
 (qaJ.f k r2.1).bind fun r3=>
 (qbf.f k 1).bind fun r4=>
 if r2.2.2=true then
 (qaJ.f k r2.2.1).bind fun r5=>
 some (r1.2,r3,r5)
 else some (r1.2,r3,r4)
mutual
def qag.l24:Nat→List (List ByteArray)→(List (ByteArray×ByteArray×ByteArray×Int×Int×Int×Int×Int×Int))→Int→Int→Int→Int→Int→Int→List ByteArray→List ByteArray→(List (List (Bool×List Int×List Int)))→List Int→List Int→(List (List (Bool×List Int×List Int)))→(List (Bool×List Int×List Int))→List Int→Option ((Int×List Int×List Int×(List (List (Bool×List Int×List Int)))×(List (Bool×List Int×List Int))×List Int×Int)×Int)
 |0,_,_,_,_,_,_,_,_,_,_,_,_,_,_,_,_=>none
 |k+1,x12,x96,x97,x98,xo0_0,xo0_1,xo1_0,xo1_1,xo2_0,xo2_1,xo3,xo4,xo5,xo6,xo7,xo8=>if x98<x97 then
 if 0≤x98 then
 if x98<(x96.length:Int) then
 if 0≤x98 then
 if x98<(x12.length:Int) then
 qag.l28 k x12 x98 x96 x97 x98 (rL39 x12 x98) ((rL39 x12 x98).length:Int) 0 xo0_0 xo0_1 xo1_0 xo1_1 xo2_0 xo2_1 (rY11 x96 x98).1 (rY11 x96 x98).2.1 (rY11 x96 x98).2.2.1 (rY11 x96 x98).2.2.2.1 (rY11 x96 x98).2.2.2.2.1 (rY11 x96 x98).2.2.2.2.2.1 (rY11 x96 x98).2.2.2.2.2.2.1 (rY11 x96 x98).2.2.2.2.2.2.2.1 (rY11 x96 x98).2.2.2.2.2.2.2.2 [] xo3 xo4 xo5 xo6 xo7 xo8
 else none
 else none
 else none
 else none
 else some ((xo1_0,xo4,xo5,xo6,xo7,xo8,xo1_1),0)
def qag.l28:Nat→List (List ByteArray)→Int→(List (ByteArray×ByteArray×ByteArray×Int×Int×Int×Int×Int×Int))→Int→Int→List ByteArray→Int→Int→Int→Int→Int→Int→List ByteArray→List ByteArray→ByteArray→ByteArray→ByteArray→Int→Int→Int→Int→Int→Int→(List (Bool×List Int×List Int))→(List (List (Bool×List Int×List Int)))→List Int→List Int→(List (List (Bool×List Int×List Int)))→(List (Bool×List Int×List Int))→List Int→Option ((Int×List Int×List Int×(List (List (Bool×List Int×List Int)))×(List (Bool×List Int×List Int))×List Int×Int)×Int)
 |0,_,_,_,_,_,_,_,_,_,_,_,_,_,_,_,_,_,_,_,_,_,_,_,_,_,_,_,_,_,_=>none
 |k+1,x12,x14,x96,x97,x98,x106,x107,x108,xo0_0,xo0_1,xo1_0,xo1_1,xo2_0,xo2_1,xo3_0,xo3_1,xo3_2,xo3_3,xo3_4,xo3_5,xo3_6,xo3_7,xo3_8,xo4,xo5,xo6,xo7,xo8,xo9,xo10=>if x108<x107 then
 if 0≤x108 then
 if x108<(x106.length:Int) then
 (qb5.f k (rStr x106 x108)).bind fun r6=>
 if (xo4.length+[r6].length)*56≤140737488355328 then
 qag.l28 k x12 x14 x96 x97 x98 x106 x107 (wrap64 (x108+1)) xo0_0 xo0_1 xo1_0 xo1_1 xo2_0 xo2_1 xo3_0 xo3_1 xo3_2 xo3_3 xo3_4 xo3_5 xo3_6 xo3_7 xo3_8 (xo4++[r6]) xo5 xo6 xo7 xo8 xo9 xo10
 else none
 else none
 else none
 else if (xo8.length+1)*24≤140737488355328 then
 if 0≤x14 then
 if x14<(xo2_1.length:Int) then
 (qb5.f k (rStr xo2_1 x14)).bind fun r7=>
 if (xo9.length+[r7].length)*56≤140737488355328 then
 if (xo10.length+[xo3_6].length)*8≤140737488355328 then
 qag.l24 k x12 x96 x97 (wrap64 (x98+1)) xo0_0 xo0_1 xo1_0 xo1_1 xo2_0 xo2_1 xo5 xo6 xo7 (xo8++[xo4]) (xo9++[r7]) (xo10++[xo3_6])
 else none
 else none
 else none
 else none
 else none
end
theorem qag.l24_eq (k:Nat) (x12:List (List ByteArray)) (x96:List (ByteArray×ByteArray×ByteArray×Int×Int×Int×Int×Int×Int)) (x97:Int) (x98:Int) (xo0_0:Int) (xo0_1:Int) (xo1_0:Int) (xo1_1:Int) (xo2_0:List ByteArray) (xo2_1:List ByteArray) (xo3:List (List (Bool×List Int×List Int))) (xo4:List Int) (xo5:List Int) (xo6:List (List (Bool×List Int×List Int))) (xo7:List (Bool×List Int×List Int)) (xo8:List Int):qag.l24 (k+1) x12 x96 x97 x98 xo0_0 xo0_1 xo1_0 xo1_1 xo2_0 xo2_1 xo3 xo4 xo5 xo6 xo7 xo8=if x98<x97 then
 if 0≤x98 then
 if x98<(x96.length:Int) then
 if 0≤x98 then
 if x98<(x12.length:Int) then
 qag.l28 k x12 x98 x96 x97 x98 (rL39 x12 x98) ((rL39 x12 x98).length:Int) 0 xo0_0 xo0_1 xo1_0 xo1_1 xo2_0 xo2_1 (rY11 x96 x98).1 (rY11 x96 x98).2.1 (rY11 x96 x98).2.2.1 (rY11 x96 x98).2.2.2.1 (rY11 x96 x98).2.2.2.2.1 (rY11 x96 x98).2.2.2.2.2.1 (rY11 x96 x98).2.2.2.2.2.2.1 (rY11 x96 x98).2.2.2.2.2.2.2.1 (rY11 x96 x98).2.2.2.2.2.2.2.2 [] xo3 xo4 xo5 xo6 xo7 xo8
 else none
 else none
 else none
 else none
 else some ((xo1_0,xo4,xo5,xo6,xo7,xo8,xo1_1),0):=rfl
theorem qag.l28_eq (k:Nat) (x12:List (List ByteArray)) (x14:Int) (x96:List (ByteArray×ByteArray×ByteArray×Int×Int×Int×Int×Int×Int)) (x97:Int) (x98:Int) (x106:List ByteArray) (x107:Int) (x108:Int) (xo0_0:Int) (xo0_1:Int) (xo1_0:Int) (xo1_1:Int) (xo2_0:List ByteArray) (xo2_1:List ByteArray) (xo3_0:ByteArray) (xo3_1:ByteArray) (xo3_2:ByteArray) (xo3_3:Int) (xo3_4:Int) (xo3_5:Int) (xo3_6:Int) (xo3_7:Int) (xo3_8:Int) (xo4:List (Bool×List Int×List Int)) (xo5:List (List (Bool×List Int×List Int))) (xo6:List Int) (xo7:List Int) (xo8:List (List (Bool×List Int×List Int))) (xo9:List (Bool×List Int×List Int)) (xo10:List Int):qag.l28 (k+1) x12 x14 x96 x97 x98 x106 x107 x108 xo0_0 xo0_1 xo1_0 xo1_1 xo2_0 xo2_1 xo3_0 xo3_1 xo3_2 xo3_3 xo3_4 xo3_5 xo3_6 xo3_7 xo3_8 xo4 xo5 xo6 xo7 xo8 xo9 xo10=if x108<x107 then
 if 0≤x108 then
 if x108<(x106.length:Int) then
 (qb5.f k (rStr x106 x108)).bind fun r6=>
 if (xo4.length+[r6].length)*56≤140737488355328 then
 qag.l28 k x12 x14 x96 x97 x98 x106 x107 (wrap64 (x108+1)) xo0_0 xo0_1 xo1_0 xo1_1 xo2_0 xo2_1 xo3_0 xo3_1 xo3_2 xo3_3 xo3_4 xo3_5 xo3_6 xo3_7 xo3_8 (xo4++[r6]) xo5 xo6 xo7 xo8 xo9 xo10
 else none
 else none
 else none
 else if (xo8.length+1)*24≤140737488355328 then
 if 0≤x14 then
 if x14<(xo2_1.length:Int) then
 (qb5.f k (rStr xo2_1 x14)).bind fun r7=>
 if (xo9.length+[r7].length)*56≤140737488355328 then
 if (xo10.length+[xo3_6].length)*8≤140737488355328 then
 qag.l24 k x12 x96 x97 (wrap64 (x98+1)) xo0_0 xo0_1 xo1_0 xo1_1 xo2_0 xo2_1 xo5 xo6 xo7 (xo8++[xo4]) (xo9++[r7]) (xo10++[xo3_6])
 else none
 else none
 else none
 else none
 else none:=rfl
def qag.l12:Nat→(List (ByteArray×ByteArray×Int))→Int→Int→List ByteArray→(List (ByteArray×ByteArray×ByteArray×Bool×Bool))→(List (ByteArray×ByteArray×ByteArray×Int×Int×Int×Int×Int×Int))→(List (ByteArray×ByteArray×Int×Int×Int))→(List (ByteArray×ByteArray×Int))→(List (ByteArray×ByteArray×Int×Int×Int))→Int→Int→Int→Int→(List (List (Bool×List Int×List Int)))→List Int→List Int→(List (List (Bool×List Int×List Int)))→List Int→List Int→Option ((Int×List Int×List Int×(List (List (Bool×List Int×List Int)))×(List (Bool×List Int×List Int))×List Int×Int)×Int)
 |0,_,_,_,_,_,_,_,_,_,_,_,_,_,_,_,_,_,_,_=>none
 |k+1,x51,x52,x53,xo0_0,xo0_1,xo0_2,xo0_3,xo0_4,xo0_5,xo1_0,xo1_1,xo2_0,xo2_1,xo4,xo5,xo6,xo7,xo8_0,xo8_1=>if x53<x52 then
 if 0≤x53 then
 if x53<(x51.length:Int) then
 (qbb.f k (rY15 x51 x53).2.1 xo0_0 xo0_1 xo0_2 xo0_3 xo0_4 xo0_5 xo8_0 xo8_1).bind fun r3=>
 if (xo6.length+[r3.1].length)*8≤140737488355328 then
 qag.l12 k x51 x52 (wrap64 (x53+1)) r3.2.1 r3.2.2.1 r3.2.2.2.1 r3.2.2.2.2.1 r3.2.2.2.2.2.1 r3.2.2.2.2.2.2.1 xo1_0 xo1_1 xo2_0 (wrap64 (xo2_1+(rY15 x51 x53).2.2)) xo4 xo5 (xo6++[r3.1]) xo7 r3.2.2.2.2.2.2.2.1 r3.2.2.2.2.2.2.2.2
 else none
 else none
 else none
 else (qby.f k (xo0_0,xo0_1,xo0_2,xo0_3,xo0_4,xo0_5)).bind fun r4=>
 if r4.2=0 then
 if 0≤(xo0_0.length:Int) then
 if (xo0_0.length:Int)*8≤140737488355328 then
 if (xo0_0.length:Int)≤140737488355328 then
 (qbp.f k (xo0_0,xo0_1,xo0_2,xo0_3,xo0_4,xo0_5) (List.replicate (xo0_0.length:Int).toNat 0)).bind fun r5=>
 if r5.2=0 then
 qag.l24 k r4.1 xo0_2 (xo0_2.length:Int) 0 xo1_0 xo1_1 xo2_0 xo2_1 r5.1.1 r5.1.2 xo4 xo5 xo6 xo7 [] []
 else some ((0,[],[],[],[],[],0),r5.2)
 else none
 else none
 else none
 else some ((0,[],[],[],[],[],0),r4.2)
theorem qag.qb9 (k:Nat) (x51:List (ByteArray×ByteArray×Int)) (x52:Int) (x53:Int) (xo0_0:List ByteArray) (xo0_1:List (ByteArray×ByteArray×ByteArray×Bool×Bool)) (xo0_2:List (ByteArray×ByteArray×ByteArray×Int×Int×Int×Int×Int×Int)) (xo0_3:List (ByteArray×ByteArray×Int×Int×Int)) (xo0_4:List (ByteArray×ByteArray×Int)) (xo0_5:List (ByteArray×ByteArray×Int×Int×Int)) (xo1_0:Int) (xo1_1:Int) (xo2_0:Int) (xo2_1:Int) (xo4:List (List (Bool×List Int×List Int))) (xo5:List Int) (xo6:List Int) (xo7:List (List (Bool×List Int×List Int))) (xo8_0:List Int) (xo8_1:List Int):qag.l12 (k+1) x51 x52 x53 xo0_0 xo0_1 xo0_2 xo0_3 xo0_4 xo0_5 xo1_0 xo1_1 xo2_0 xo2_1 xo4 xo5 xo6 xo7 xo8_0 xo8_1=if x53<x52 then
 if 0≤x53 then
 if x53<(x51.length:Int) then
 (qbb.f k (rY15 x51 x53).2.1 xo0_0 xo0_1 xo0_2 xo0_3 xo0_4 xo0_5 xo8_0 xo8_1).bind fun r3=>
 if (xo6.length+[r3.1].length)*8≤140737488355328 then
 qag.l12 k x51 x52 (wrap64 (x53+1)) r3.2.1 r3.2.2.1 r3.2.2.2.1 r3.2.2.2.2.1 r3.2.2.2.2.2.1 r3.2.2.2.2.2.2.1 xo1_0 xo1_1 xo2_0 (wrap64 (xo2_1+(rY15 x51 x53).2.2)) xo4 xo5 (xo6++[r3.1]) xo7 r3.2.2.2.2.2.2.2.1 r3.2.2.2.2.2.2.2.2
 else none
 else none
 else none
 else (qby.f k (xo0_0,xo0_1,xo0_2,xo0_3,xo0_4,xo0_5)).bind fun r4=>
 if r4.2=0 then
 if 0≤(xo0_0.length:Int) then
 if (xo0_0.length:Int)*8≤140737488355328 then
 if (xo0_0.length:Int)≤140737488355328 then
 (qbp.f k (xo0_0,xo0_1,xo0_2,xo0_3,xo0_4,xo0_5) (List.replicate (xo0_0.length:Int).toNat 0)).bind fun r5=>
 if r5.2=0 then
 qag.l24 k r4.1 xo0_2 (xo0_2.length:Int) 0 xo1_0 xo1_1 xo2_0 xo2_1 r5.1.1 r5.1.2 xo4 xo5 xo6 xo7 [] []
 else some ((0,[],[],[],[],[],0),r5.2)
 else none
 else none
 else none
 else some ((0,[],[],[],[],[],0),r4.2):=rfl
def qag.l7:Nat→(List (ByteArray×ByteArray×Int×Int×Int))→Int→Int→List ByteArray→(List (ByteArray×ByteArray×ByteArray×Bool×Bool))→(List (ByteArray×ByteArray×ByteArray×Int×Int×Int×Int×Int×Int))→(List (ByteArray×ByteArray×Int×Int×Int))→(List (ByteArray×ByteArray×Int))→(List (ByteArray×ByteArray×Int×Int×Int))→Int→Int→Int→Int→(List (List (Bool×List Int×List Int)))→List Int→(List (List (Bool×List Int×List Int)))→List Int→List Int→Option ((Int×List Int×List Int×(List (List (Bool×List Int×List Int)))×(List (Bool×List Int×List Int))×List Int×Int)×Int)
 |0,_,_,_,_,_,_,_,_,_,_,_,_,_,_,_,_,_,_=>none
 |k+1,x34,x35,x36,xo0_0,xo0_1,xo0_2,xo0_3,xo0_4,xo0_5,xo1_0,xo1_1,xo2_0,xo2_1,xo4,xo5,xo6,xo7_0,xo7_1=>if x36<x35 then
 if 0≤x36 then
 if x36<(x34.length:Int) then
 (qbb.f k (rY13 x34 x36).2.1 xo0_0 xo0_1 xo0_2 xo0_3 xo0_4 xo0_5 xo7_0 xo7_1).bind fun r2=>
 if (xo5.length+[r2.1].length)*8≤140737488355328 then
 qag.l7 k x34 x35 (wrap64 (x36+1)) r2.2.1 r2.2.2.1 r2.2.2.2.1 r2.2.2.2.2.1 r2.2.2.2.2.2.1 r2.2.2.2.2.2.2.1 xo1_0 xo1_1 xo2_0 xo2_1 xo4 (xo5++[r2.1]) xo6 r2.2.2.2.2.2.2.2.1 r2.2.2.2.2.2.2.2.2
 else none
 else none
 else none
 else qag.l12 k xo0_4 (xo0_4.length:Int) 0 xo0_0 xo0_1 xo0_2 xo0_3 xo0_4 xo0_5 xo1_0 xo1_1 xo2_0 xo2_1 xo4 xo5 [] xo6 xo7_0 xo7_1
theorem qag.l7_eq (k:Nat) (x34:List (ByteArray×ByteArray×Int×Int×Int)) (x35:Int) (x36:Int) (xo0_0:List ByteArray) (xo0_1:List (ByteArray×ByteArray×ByteArray×Bool×Bool)) (xo0_2:List (ByteArray×ByteArray×ByteArray×Int×Int×Int×Int×Int×Int)) (xo0_3:List (ByteArray×ByteArray×Int×Int×Int)) (xo0_4:List (ByteArray×ByteArray×Int)) (xo0_5:List (ByteArray×ByteArray×Int×Int×Int)) (xo1_0:Int) (xo1_1:Int) (xo2_0:Int) (xo2_1:Int) (xo4:List (List (Bool×List Int×List Int))) (xo5:List Int) (xo6:List (List (Bool×List Int×List Int))) (xo7_0:List Int) (xo7_1:List Int):qag.l7 (k+1) x34 x35 x36 xo0_0 xo0_1 xo0_2 xo0_3 xo0_4 xo0_5 xo1_0 xo1_1 xo2_0 xo2_1 xo4 xo5 xo6 xo7_0 xo7_1=if x36<x35 then
 if 0≤x36 then
 if x36<(x34.length:Int) then
 (qbb.f k (rY13 x34 x36).2.1 xo0_0 xo0_1 xo0_2 xo0_3 xo0_4 xo0_5 xo7_0 xo7_1).bind fun r2=>
 if (xo5.length+[r2.1].length)*8≤140737488355328 then
 qag.l7 k x34 x35 (wrap64 (x36+1)) r2.2.1 r2.2.2.1 r2.2.2.2.1 r2.2.2.2.2.1 r2.2.2.2.2.2.1 r2.2.2.2.2.2.2.1 xo1_0 xo1_1 xo2_0 xo2_1 xo4 (xo5++[r2.1]) xo6 r2.2.2.2.2.2.2.2.1 r2.2.2.2.2.2.2.2.2
 else none
 else none
 else none
 else qag.l12 k xo0_4 (xo0_4.length:Int) 0 xo0_0 xo0_1 xo0_2 xo0_3 xo0_4 xo0_5 xo1_0 xo1_1 xo2_0 xo2_1 xo4 xo5 [] xo6 xo7_0 xo7_1:=rfl
def qag.f (k:Nat) (a0:List ByteArray×(List (ByteArray×ByteArray×ByteArray×Bool×Bool))×(List (ByteArray×ByteArray×ByteArray×Int×Int×Int×Int×Int×Int))×(List (ByteArray×ByteArray×Int×Int×Int))×(List (ByteArray×ByteArray×Int))×List (ByteArray×ByteArray×Int×Int×Int)):Option ((Int×List Int×List Int×(List (List (Bool×List Int×List Int)))×(List (Bool×List Int×List Int))×List Int×Int)×Int):=
 (qbv.f k a0).bind fun r1=>
 if r1.2=0 then
 qag.l7 k a0.2.2.2.1 (a0.2.2.2.1.length:Int) 0 a0.1 a0.2.1 a0.2.2.1 a0.2.2.2.1 a0.2.2.2.2.1 a0.2.2.2.2.2 0 0 (r1.1.2.length:Int) 0 [] [] [] r1.1.1 r1.1.2
 else some ((0,[],[],[],[],[],0),r1.2)
def qar.l4:Nat→List ByteArray→List ByteArray→Int→Int→Option Bool
 |0,_,_,_,_=>none
 |k+1,x0,x1,x12,x13=>if x13<x12 then
 if 0≤x13 then
 if x13<(x0.length:Int) then
 if 0≤x13 then
 if x13<(x1.length:Int) then
 if (rStr x0 x13)=(rStr x1 x13) then
 qar.l4 k x0 x1 x12 (wrap64 (x13+1))
 else some false
 else none
 else none
 else none
 else none
 else some true
theorem qar.l4_eq (k:Nat) (x0:List ByteArray) (x1:List ByteArray) (x12:Int) (x13:Int):qar.l4 (k+1) x0 x1 x12 x13=if x13<x12 then
 if 0≤x13 then
 if x13<(x0.length:Int) then
 if 0≤x13 then
 if x13<(x1.length:Int) then
 if (rStr x0 x13)=(rStr x1 x13) then
 qar.l4 k x0 x1 x12 (wrap64 (x13+1))
 else some false
 else none
 else none
 else none
 else none
 else some true:=rfl
def qar.f (k:Nat) (a0:List ByteArray) (a1:List ByteArray):Option Bool:=
 if (a0.length:Int)=(a1.length:Int) then
 qar.l4 k a0 a1 (a0.length:Int) 0
 else some false
def qcm.f (k:Nat) (a0:Int):Option (List Int):=
 if 0≤a0 then
 (qbf.f k a0).bind fun r1=>
 some r1
 else (qbf.f k (wrap64 (0 - (wrap64 (a0+1))))).bind fun r2=>
 (qbf.f k 1).bind fun r3=>
 (qaF.f k r2 r3).bind fun r4=>
 some r4
def qcF.f (k:Nat) (a0:Bool×List Int×List Int):Option (ByteArray×Int):=
 (qbX.f k a0).bind fun r1=>
 if r1=0 then
 (qbx.f k a0).bind fun r2=>
 some (r2,0)
 else some (ByteArray.empty,r1)
def qd1.f (k:Nat) (a0:Int) (a1:Int):Option (ByteArray×Int):=
 if a1=0 then
 some (ByteArray.empty,10)
 else (qcm.f k a0).bind fun r1=>
 (qcm.f k a1).bind fun r2=>
 (qbG.f k (!decide ((decide (a0<0))=(decide (a1<0)))) r1 r2).bind fun r3=>
 (qcF.f k r3).bind fun r4=>
 some r4
def qbg.l4:Nat→ByteArray→List Int→Int→Int→Option Int
 |0,_,_,_,_=>none
 |k+1,x0,x18,x19,x20=>if x20<x19 then
 if 0≤x20 then
 if x20<(x18.length:Int) then
 if (rU8 x18 x20)<48 then
 some 5
 else if 57<(rU8 x18 x20) then
 some 5
 else qbg.l4 k x0 x18 x19 (wrap64 (x20+1))
 else none
 else none
 else if 2000<(x0.size:Int) then
 some 2
 else some 0
theorem qbg.l4_eq (k:Nat) (x0:ByteArray) (x18:List Int) (x19:Int) (x20:Int):qbg.l4 (k+1) x0 x18 x19 x20=if x20<x19 then
 if 0≤x20 then
 if x20<(x18.length:Int) then
 if (rU8 x18 x20)<48 then
 some 5
 else if 57<(rU8 x18 x20) then
 some 5
 else qbg.l4 k x0 x18 x19 (wrap64 (x20+1))
 else none
 else none
 else if 2000<(x0.size:Int) then
 some 2
 else some 0:=rfl
def qbg.f (k:Nat) (a0:ByteArray):Option Int:=
 if a0=ByteArray.empty then
 some 5
 else if (0:Int)≤0 then
 if 0<(a0.size:Int) then
 if (bt a0 0)=48 then
 if 1<(a0.size:Int) then
 some 5
 else qbg.l4 k a0 (qaD a0) ((qaD a0).length:Int) 0
 else qbg.l4 k a0 (qaD a0) ((qaD a0).length:Int) 0
 else none
 else none
def qbj.l6:Nat→Bool→ByteArray→ByteArray→Bool→Int→Int→Option Int
 |0,_,_,_,_,_,_=>none
 |k+1,x4,x5,x6,x7,x8,x9=>if x8=5 then
 some 5
 else if x9=5 then
 some 5
 else if x4=true then
 if x5=(ByteArray.mk #[48]) then
 some 5
 else if x8=0 then
 if x9=0 then
 if x7=true then
 if x6=(ByteArray.mk #[48]) then
 some 3
 else if x6=(ByteArray.mk #[49]) then
 some 3
 else (qaJ.f k x5).bind fun r5=>
 (qaJ.f k x6).bind fun r6=>
 (qa8.f k r5 r6).bind fun r7=>
 (qbf.f k 1).bind fun r8=>
 (qaQ.f k r7 r8).bind fun r9=>
 if r9=0 then
 some 0
 else some 3
 else some 0
 else some 2
 else some 2
 else if x8=0 then
 if x9=0 then
 if x7=true then
 if x6=(ByteArray.mk #[48]) then
 some 3
 else if x6=(ByteArray.mk #[49]) then
 some 3
 else (qaJ.f k x5).bind fun r10=>
 (qaJ.f k x6).bind fun r11=>
 (qa8.f k r10 r11).bind fun r12=>
 (qbf.f k 1).bind fun r13=>
 (qaQ.f k r12 r13).bind fun r14=>
 if r14=0 then
 some 0
 else some 3
 else some 0
 else some 2
 else some 2
theorem qbj.l6_eq (k:Nat) (x4:Bool) (x5:ByteArray) (x6:ByteArray) (x7:Bool) (x8:Int) (x9:Int):qbj.l6 (k+1) x4 x5 x6 x7 x8 x9=if x8=5 then
 some 5
 else if x9=5 then
 some 5
 else if x4=true then
 if x5=(ByteArray.mk #[48]) then
 some 5
 else if x8=0 then
 if x9=0 then
 if x7=true then
 if x6=(ByteArray.mk #[48]) then
 some 3
 else if x6=(ByteArray.mk #[49]) then
 some 3
 else (qaJ.f k x5).bind fun r5=>
 (qaJ.f k x6).bind fun r6=>
 (qa8.f k r5 r6).bind fun r7=>
 (qbf.f k 1).bind fun r8=>
 (qaQ.f k r7 r8).bind fun r9=>
 if r9=0 then
 some 0
 else some 3
 else some 0
 else some 2
 else some 2
 else if x8=0 then
 if x9=0 then
 if x7=true then
 if x6=(ByteArray.mk #[48]) then
 some 3
 else if x6=(ByteArray.mk #[49]) then
 some 3
 else (qaJ.f k x5).bind fun r10=>
 (qaJ.f k x6).bind fun r11=>
 (qa8.f k r10 r11).bind fun r12=>
 (qbf.f k 1).bind fun r13=>
 (qaQ.f k r12 r13).bind fun r14=>
 if r14=0 then
 some 0
 else some 3
 else some 0
 else some 2
 else some 2:=rfl
def qbj.f (k:Nat) (a0:ByteArray):Option Int:=
 (strings_CutPrefix.f k a0 (ByteArray.mk #[45])).bind fun r1=>
 (strings_Cut.f k r1.1 (ByteArray.mk #[47])).bind fun r2=>
 (qbg.f k r2.1).bind fun r3=>
 if r2.2.2=true then
 (qbg.f k r2.2.1).bind fun r4=>
 qbj.l6 k r1.2 r2.1 r2.2.1 r2.2.2 r3 r4
 else qbj.l6 k r1.2 r2.1 r2.2.1 r2.2.2 r3 0
def qaO.l2:Nat→List ByteArray→Int→Int→Option Int
 |0,_,_,_=>none
 |k+1,x6,x7,x8=>if x8<x7 then
 if 0≤x8 then
 if x8<(x6.length:Int) then
 (qbj.f k (rStr x6 x8)).bind fun r1=>
 if r1=0 then
 qaO.l2 k x6 x7 (wrap64 (x8+1))
 else some r1
 else none
 else none
 else some 0
theorem qaO.l2_eq (k:Nat) (x6:List ByteArray) (x7:Int) (x8:Int):qaO.l2 (k+1) x6 x7 x8=if x8<x7 then
 if 0≤x8 then
 if x8<(x6.length:Int) then
 (qbj.f k (rStr x6 x8)).bind fun r1=>
 if r1=0 then
 qaO.l2 k x6 x7 (wrap64 (x8+1))
 else some r1
 else none
 else none
 else some 0:=rfl
def qaO.f (k:Nat) (a0:List ByteArray):Option Int:=
 qaO.l2 k a0 (a0.length:Int) 0
def qaq.l8:Nat→Int→(List (ByteArray×ByteArray×Int))→Int→Int→Int→List Int→List Int→(List (List (Bool×List Int×List Int)))→(List (Bool×List Int×List Int))→List Int→Int→Bool→Bool→List Int→List Int→Option (Bool×List Int×List Int)
 |0,_,_,_,_,_,_,_,_,_,_,_,_,_,_,_=>none
 |k+1,x3,x45,x46,x47,xo0_0,xo0_1,xo0_2,xo0_3,xo0_4,xo0_5,xo0_6,xo1,xo2_0,xo2_1,xo2_2=>if x47<x46 then
 if 0≤x47 then
 if x47<(x45.length:Int) then
 if 0≤x3 then
 if x3<(xo0_3.length:Int) then
 if 0≤x47 then
 if x47<(xo0_2.length:Int) then
 if 0≤(rI64 xo0_2 x47) then
 if (rI64 xo0_2 x47)<((rL122 xo0_3 x3).length:Int) then
 (qbh.f k (rY15 x45 x47).2.2).bind fun r4=>
 (qa5.f k (rY17 (rL122 xo0_3 x3) (rI64 xo0_2 x47)) r4).bind fun r5=>
 (qaU.f k (xo2_0,xo2_1,xo2_2) r5).bind fun r6=>
 qaq.l8 k x3 x45 x46 (wrap64 (x47+1)) xo0_0 xo0_1 xo0_2 xo0_3 xo0_4 xo0_5 xo0_6 xo1 r6.1 r6.2.1 r6.2.2
 else none
 else none
 else none
 else none
 else none
 else none
 else none
 else none
 else some (xo2_0,xo2_1,xo2_2)
theorem qaq.l8_eq (k:Nat) (x3:Int) (x45:List (ByteArray×ByteArray×Int)) (x46:Int) (x47:Int) (xo0_0:Int) (xo0_1:List Int) (xo0_2:List Int) (xo0_3:List (List (Bool×List Int×List Int))) (xo0_4:List (Bool×List Int×List Int)) (xo0_5:List Int) (xo0_6:Int) (xo1:Bool) (xo2_0:Bool) (xo2_1:List Int) (xo2_2:List Int):qaq.l8 (k+1) x3 x45 x46 x47 xo0_0 xo0_1 xo0_2 xo0_3 xo0_4 xo0_5 xo0_6 xo1 xo2_0 xo2_1 xo2_2=if x47<x46 then
 if 0≤x47 then
 if x47<(x45.length:Int) then
 if 0≤x3 then
 if x3<(xo0_3.length:Int) then
 if 0≤x47 then
 if x47<(xo0_2.length:Int) then
 if 0≤(rI64 xo0_2 x47) then
 if (rI64 xo0_2 x47)<((rL122 xo0_3 x3).length:Int) then
 (qbh.f k (rY15 x45 x47).2.2).bind fun r4=>
 (qa5.f k (rY17 (rL122 xo0_3 x3) (rI64 xo0_2 x47)) r4).bind fun r5=>
 (qaU.f k (xo2_0,xo2_1,xo2_2) r5).bind fun r6=>
 qaq.l8 k x3 x45 x46 (wrap64 (x47+1)) xo0_0 xo0_1 xo0_2 xo0_3 xo0_4 xo0_5 xo0_6 xo1 r6.1 r6.2.1 r6.2.2
 else none
 else none
 else none
 else none
 else none
 else none
 else none
 else none
 else some (xo2_0,xo2_1,xo2_2):=rfl
def qaq.l3:Nat→Int→List ByteArray→Int→Int→Int→List Int→List Int→(List (List (Bool×List Int×List Int)))→(List (Bool×List Int×List Int))→List Int→Int→List ByteArray→(List (ByteArray×ByteArray×ByteArray×Bool×Bool))→(List (ByteArray×ByteArray×ByteArray×Int×Int×Int×Int×Int×Int))→(List (ByteArray×ByteArray×Int×Int×Int))→(List (ByteArray×ByteArray×Int))→(List (ByteArray×ByteArray×Int×Int×Int))→Bool→Bool→List Int→List Int→Option (Bool×List Int×List Int)
 |0,_,_,_,_,_,_,_,_,_,_,_,_,_,_,_,_,_,_,_,_,_=>none
 |k+1,x3,x19,x20,x21,xo0_0,xo0_1,xo0_2,xo0_3,xo0_4,xo0_5,xo0_6,xo1_0,xo1_1,xo1_2,xo1_3,xo1_4,xo1_5,xo2,xo3_0,xo3_1,xo3_2=>if x21<x20 then
 if 0≤x21 then
 if x21<(x19.length:Int) then
 if 0≤x3 then
 if x3<(xo0_3.length:Int) then
 if 0≤x21 then
 if x21<(xo0_1.length:Int) then
 if 0≤(rI64 xo0_1 x21) then
 if (rI64 xo0_1 x21)<((rL122 xo0_3 x3).length:Int) then
 (qb5.f k (rStr x19 x21)).bind fun r1=>
 (qa5.f k (rY17 (rL122 xo0_3 x3) (rI64 xo0_1 x21)) r1).bind fun r2=>
 (qa6.f k (xo3_0,xo3_1,xo3_2) r2).bind fun r3=>
 qaq.l3 k x3 x19 x20 (wrap64 (x21+1)) xo0_0 xo0_1 xo0_2 xo0_3 xo0_4 xo0_5 xo0_6 xo1_0 xo1_1 xo1_2 xo1_3 xo1_4 xo1_5 xo2 r3.1 r3.2.1 r3.2.2
 else none
 else none
 else none
 else none
 else none
 else none
 else none
 else none
 else qaq.l8 k x3 xo1_4 (xo1_4.length:Int) 0 xo0_0 xo0_1 xo0_2 xo0_3 xo0_4 xo0_5 xo0_6 xo2 xo3_0 xo3_1 xo3_2
theorem qaq.l3_eq (k:Nat) (x3:Int) (x19:List ByteArray) (x20:Int) (x21:Int) (xo0_0:Int) (xo0_1:List Int) (xo0_2:List Int) (xo0_3:List (List (Bool×List Int×List Int))) (xo0_4:List (Bool×List Int×List Int)) (xo0_5:List Int) (xo0_6:Int) (xo1_0:List ByteArray) (xo1_1:List (ByteArray×ByteArray×ByteArray×Bool×Bool)) (xo1_2:List (ByteArray×ByteArray×ByteArray×Int×Int×Int×Int×Int×Int)) (xo1_3:List (ByteArray×ByteArray×Int×Int×Int)) (xo1_4:List (ByteArray×ByteArray×Int)) (xo1_5:List (ByteArray×ByteArray×Int×Int×Int)) (xo2:Bool) (xo3_0:Bool) (xo3_1:List Int) (xo3_2:List Int):qaq.l3 (k+1) x3 x19 x20 x21 xo0_0 xo0_1 xo0_2 xo0_3 xo0_4 xo0_5 xo0_6 xo1_0 xo1_1 xo1_2 xo1_3 xo1_4 xo1_5 xo2 xo3_0 xo3_1 xo3_2=if x21<x20 then
 if 0≤x21 then
 if x21<(x19.length:Int) then
 if 0≤x3 then
 if x3<(xo0_3.length:Int) then
 if 0≤x21 then
 if x21<(xo0_1.length:Int) then
 if 0≤(rI64 xo0_1 x21) then
 if (rI64 xo0_1 x21)<((rL122 xo0_3 x3).length:Int) then
 (qb5.f k (rStr x19 x21)).bind fun r1=>
 (qa5.f k (rY17 (rL122 xo0_3 x3) (rI64 xo0_1 x21)) r1).bind fun r2=>
 (qa6.f k (xo3_0,xo3_1,xo3_2) r2).bind fun r3=>
 qaq.l3 k x3 x19 x20 (wrap64 (x21+1)) xo0_0 xo0_1 xo0_2 xo0_3 xo0_4 xo0_5 xo0_6 xo1_0 xo1_1 xo1_2 xo1_3 xo1_4 xo1_5 xo2 r3.1 r3.2.1 r3.2.2
 else none
 else none
 else none
 else none
 else none
 else none
 else none
 else none
 else qaq.l8 k x3 xo1_4 (xo1_4.length:Int) 0 xo0_0 xo0_1 xo0_2 xo0_3 xo0_4 xo0_5 xo0_6 xo2 xo3_0 xo3_1 xo3_2:=rfl
def qaq.f (k:Nat) (a0:Int×List Int×List Int×(List (List (Bool×List Int×List Int)))×(List (Bool×List Int×List Int))×List Int×Int) (a1:List ByteArray×(List (ByteArray×ByteArray×ByteArray×Bool×Bool))×(List (ByteArray×ByteArray×ByteArray×Int×Int×Int×Int×Int×Int))×(List (ByteArray×ByteArray×Int×Int×Int))×(List (ByteArray×ByteArray×Int))×List (ByteArray×ByteArray×Int×Int×Int)) (a2:List ByteArray) (a3:Int):Option (Bool×List Int×List Int):=
 if 0≤a3 then
 if a3<(a0.2.2.2.2.1.length:Int) then
 qaq.l3 k a3 a2 (a2.length:Int) 0 a0.1 a0.2.1 a0.2.2.1 a0.2.2.2.1 a0.2.2.2.2.1 a0.2.2.2.2.2.1 a0.2.2.2.2.2.2 a1.1 a1.2.1 a1.2.2.1 a1.2.2.2.1 a1.2.2.2.2.1 a1.2.2.2.2.2 false (rY17 a0.2.2.2.2.1 a3).1 (rY17 a0.2.2.2.2.1 a3).2.1 (rY17 a0.2.2.2.2.1 a3).2.2
 else none
 else none
def qae.l31:Nat→List ByteArray→Int→Int→List ByteArray→(List (ByteArray×ByteArray×ByteArray×Bool×Bool))→(List (ByteArray×ByteArray×ByteArray×Int×Int×Int×Int×Int×Int))→(List (ByteArray×ByteArray×Int×Int×Int))→(List (ByteArray×ByteArray×Int))→(List (ByteArray×ByteArray×Int×Int×Int))→Int→List Int→List Int→(List (List (Bool×List Int×List Int)))→(List (Bool×List Int×List Int))→List Int→Int→List ByteArray→Option (List ByteArray×Int)
 |0,_,_,_,_,_,_,_,_,_,_,_,_,_,_,_,_,_=>none
 |k+1,x1,x80,x81,xo0_0,xo0_1,xo0_2,xo0_3,xo0_4,xo0_5,xo1_0,xo1_1,xo1_2,xo1_3,xo1_4,xo1_5,xo1_6,xo2=>if x81<x80 then
 (qaq.f k (xo1_0,xo1_1,xo1_2,xo1_3,xo1_4,xo1_5,xo1_6) (xo0_0,xo0_1,xo0_2,xo0_3,xo0_4,xo0_5) x1 x81).bind fun r9=>
 (qbx.f k r9).bind fun r10=>
 if (xo2.length+[r10].length)*16≤140737488355328 then
 qae.l31 k x1 x80 (wrap64 (x81+1)) xo0_0 xo0_1 xo0_2 xo0_3 xo0_4 xo0_5 xo1_0 xo1_1 xo1_2 xo1_3 xo1_4 xo1_5 xo1_6 (xo2++[r10])
 else none
 else (qaO.f k xo2).bind fun r11=>
 if r11=0 then
 some (xo2,0)
 else some ([],2)
theorem qae.l31_eq (k:Nat) (x1:List ByteArray) (x80:Int) (x81:Int) (xo0_0:List ByteArray) (xo0_1:List (ByteArray×ByteArray×ByteArray×Bool×Bool)) (xo0_2:List (ByteArray×ByteArray×ByteArray×Int×Int×Int×Int×Int×Int)) (xo0_3:List (ByteArray×ByteArray×Int×Int×Int)) (xo0_4:List (ByteArray×ByteArray×Int)) (xo0_5:List (ByteArray×ByteArray×Int×Int×Int)) (xo1_0:Int) (xo1_1:List Int) (xo1_2:List Int) (xo1_3:List (List (Bool×List Int×List Int))) (xo1_4:List (Bool×List Int×List Int)) (xo1_5:List Int) (xo1_6:Int) (xo2:List ByteArray):qae.l31 (k+1) x1 x80 x81 xo0_0 xo0_1 xo0_2 xo0_3 xo0_4 xo0_5 xo1_0 xo1_1 xo1_2 xo1_3 xo1_4 xo1_5 xo1_6 xo2=if x81<x80 then
 (qaq.f k (xo1_0,xo1_1,xo1_2,xo1_3,xo1_4,xo1_5,xo1_6) (xo0_0,xo0_1,xo0_2,xo0_3,xo0_4,xo0_5) x1 x81).bind fun r9=>
 (qbx.f k r9).bind fun r10=>
 if (xo2.length+[r10].length)*16≤140737488355328 then
 qae.l31 k x1 x80 (wrap64 (x81+1)) xo0_0 xo0_1 xo0_2 xo0_3 xo0_4 xo0_5 xo1_0 xo1_1 xo1_2 xo1_3 xo1_4 xo1_5 xo1_6 (xo2++[r10])
 else none
 else (qaO.f k xo2).bind fun r11=>
 if r11=0 then
 some (xo2,0)
 else some ([],2):=rfl
def qae.l23:Nat→List ByteArray→List ByteArray→Int→Int→List ByteArray→(List (ByteArray×ByteArray×ByteArray×Bool×Bool))→(List (ByteArray×ByteArray×ByteArray×Int×Int×Int×Int×Int×Int))→(List (ByteArray×ByteArray×Int×Int×Int))→(List (ByteArray×ByteArray×Int))→(List (ByteArray×ByteArray×Int×Int×Int))→Int→List Int→List Int→(List (List (Bool×List Int×List Int)))→(List (Bool×List Int×List Int))→List Int→Int→Bool→List Int→List Int→Option (List ByteArray×Int)
 |0,_,_,_,_,_,_,_,_,_,_,_,_,_,_,_,_,_,_,_,_=>none
 |k+1,x1,x64,x65,x66,xo0_0,xo0_1,xo0_2,xo0_3,xo0_4,xo0_5,xo1_0,xo1_1,xo1_2,xo1_3,xo1_4,xo1_5,xo1_6,xo2_0,xo2_1,xo2_2=>if x66<x65 then
 if 0≤x66 then
 if x66<(x64.length:Int) then
 (qb5.f k (rStr x64 x66)).bind fun r6=>
 (qa6.f k (xo2_0,xo2_1,xo2_2) r6).bind fun r7=>
 qae.l23 k x1 x64 x65 (wrap64 (x66+1)) xo0_0 xo0_1 xo0_2 xo0_3 xo0_4 xo0_5 xo1_0 xo1_1 xo1_2 xo1_3 xo1_4 xo1_5 xo1_6 r7.1 r7.2.1 r7.2.2
 else none
 else none
 else (qa9.f k (xo2_0,xo2_1,xo2_2)).bind fun r8=>
 if r8=0 then
 qae.l31 k x1 (xo1_3.length:Int) 0 xo0_0 xo0_1 xo0_2 xo0_3 xo0_4 xo0_5 xo1_0 xo1_1 xo1_2 xo1_3 xo1_4 xo1_5 xo1_6 []
 else some ([],14)
theorem qae.l23_eq (k:Nat) (x1:List ByteArray) (x64:List ByteArray) (x65:Int) (x66:Int) (xo0_0:List ByteArray) (xo0_1:List (ByteArray×ByteArray×ByteArray×Bool×Bool)) (xo0_2:List (ByteArray×ByteArray×ByteArray×Int×Int×Int×Int×Int×Int)) (xo0_3:List (ByteArray×ByteArray×Int×Int×Int)) (xo0_4:List (ByteArray×ByteArray×Int)) (xo0_5:List (ByteArray×ByteArray×Int×Int×Int)) (xo1_0:Int) (xo1_1:List Int) (xo1_2:List Int) (xo1_3:List (List (Bool×List Int×List Int))) (xo1_4:List (Bool×List Int×List Int)) (xo1_5:List Int) (xo1_6:Int) (xo2_0:Bool) (xo2_1:List Int) (xo2_2:List Int):qae.l23 (k+1) x1 x64 x65 x66 xo0_0 xo0_1 xo0_2 xo0_3 xo0_4 xo0_5 xo1_0 xo1_1 xo1_2 xo1_3 xo1_4 xo1_5 xo1_6 xo2_0 xo2_1 xo2_2=if x66<x65 then
 if 0≤x66 then
 if x66<(x64.length:Int) then
 (qb5.f k (rStr x64 x66)).bind fun r6=>
 (qa6.f k (xo2_0,xo2_1,xo2_2) r6).bind fun r7=>
 qae.l23 k x1 x64 x65 (wrap64 (x66+1)) xo0_0 xo0_1 xo0_2 xo0_3 xo0_4 xo0_5 xo1_0 xo1_1 xo1_2 xo1_3 xo1_4 xo1_5 xo1_6 r7.1 r7.2.1 r7.2.2
 else none
 else none
 else (qa9.f k (xo2_0,xo2_1,xo2_2)).bind fun r8=>
 if r8=0 then
 qae.l31 k x1 (xo1_3.length:Int) 0 xo0_0 xo0_1 xo0_2 xo0_3 xo0_4 xo0_5 xo1_0 xo1_1 xo1_2 xo1_3 xo1_4 xo1_5 xo1_6 []
 else some ([],14):=rfl
def qae.l13:Nat→List ByteArray→List Int→Int→Int→List ByteArray→(List (ByteArray×ByteArray×ByteArray×Bool×Bool))→(List (ByteArray×ByteArray×ByteArray×Int×Int×Int×Int×Int×Int))→(List (ByteArray×ByteArray×Int×Int×Int))→(List (ByteArray×ByteArray×Int))→(List (ByteArray×ByteArray×Int×Int×Int))→Option (List ByteArray×Int)
 |0,_,_,_,_,_,_,_,_,_,_=>none
 |k+1,x1,x43,x44,x45,xo0_0,xo0_1,xo0_2,xo0_3,xo0_4,xo0_5=>if x45<x44 then
 if 0≤x45 then
 if x45<(x43.length:Int) then
 if (rI64 x43 x45)=0 then
 qae.l13 k x1 x43 x44 (wrap64 (x45+1)) xo0_0 xo0_1 xo0_2 xo0_3 xo0_4 xo0_5
 else some ([],15)
 else none
 else none
 else (qag.f k (xo0_0,xo0_1,xo0_2,xo0_3,xo0_4,xo0_5)).bind fun r4=>
 if r4.2=0 then
 (qbh.f k (wrap64 (0 - r4.1.2.2.2.2.2.2))).bind fun r5=>
 qae.l23 k x1 x1 (x1.length:Int) 0 xo0_0 xo0_1 xo0_2 xo0_3 xo0_4 xo0_5 r4.1.1 r4.1.2.1 r4.1.2.2.1 r4.1.2.2.2.1 r4.1.2.2.2.2.1 r4.1.2.2.2.2.2.1 r4.1.2.2.2.2.2.2 r5.1 r5.2.1 r5.2.2
 else some ([],r4.2)
theorem qae.l13_eq (k:Nat) (x1:List ByteArray) (x43:List Int) (x44:Int) (x45:Int) (xo0_0:List ByteArray) (xo0_1:List (ByteArray×ByteArray×ByteArray×Bool×Bool)) (xo0_2:List (ByteArray×ByteArray×ByteArray×Int×Int×Int×Int×Int×Int)) (xo0_3:List (ByteArray×ByteArray×Int×Int×Int)) (xo0_4:List (ByteArray×ByteArray×Int)) (xo0_5:List (ByteArray×ByteArray×Int×Int×Int)):qae.l13 (k+1) x1 x43 x44 x45 xo0_0 xo0_1 xo0_2 xo0_3 xo0_4 xo0_5=if x45<x44 then
 if 0≤x45 then
 if x45<(x43.length:Int) then
 if (rI64 x43 x45)=0 then
 qae.l13 k x1 x43 x44 (wrap64 (x45+1)) xo0_0 xo0_1 xo0_2 xo0_3 xo0_4 xo0_5
 else some ([],15)
 else none
 else none
 else (qag.f k (xo0_0,xo0_1,xo0_2,xo0_3,xo0_4,xo0_5)).bind fun r4=>
 if r4.2=0 then
 (qbh.f k (wrap64 (0 - r4.1.2.2.2.2.2.2))).bind fun r5=>
 qae.l23 k x1 x1 (x1.length:Int) 0 xo0_0 xo0_1 xo0_2 xo0_3 xo0_4 xo0_5 r4.1.1 r4.1.2.1 r4.1.2.2.1 r4.1.2.2.2.1 r4.1.2.2.2.2.1 r4.1.2.2.2.2.2.1 r4.1.2.2.2.2.2.2 r5.1 r5.2.1 r5.2.2
 else some ([],r4.2):=rfl
def qae.f (k:Nat) (a0:List ByteArray×(List (ByteArray×ByteArray×ByteArray×Bool×Bool))×(List (ByteArray×ByteArray×ByteArray×Int×Int×Int×Int×Int×Int))×(List (ByteArray×ByteArray×Int×Int×Int))×(List (ByteArray×ByteArray×Int))×List (ByteArray×ByteArray×Int×Int×Int)) (a1:List ByteArray):Option (List ByteArray×Int):=
 (qaf.f k a0).bind fun r1=>
 if r1=0 then
 if (a1.length:Int)=(a0.2.2.2.1.length:Int) then
 (qaO.f k a1).bind fun r2=>
 if r2=0 then
 (qbv.f k a0).bind fun r3=>
 if r3.2=0 then
 qae.l13 k a1 r3.1.2 (r3.1.2.length:Int) 0 a0.1 a0.2.1 a0.2.2.1 a0.2.2.2.1 a0.2.2.2.2.1 a0.2.2.2.2.2
 else some ([],r3.2)
 else some ([],r2)
 else some ([],3)
 else some ([],r1)
def qaa.l30:Nat→List ByteArray→(List (ByteArray×ByteArray×Int))→Int→Int→List ByteArray→(List (ByteArray×ByteArray×ByteArray×Bool×Bool))→(List (ByteArray×ByteArray×ByteArray×Int×Int×Int×Int×Int×Int))→(List (ByteArray×ByteArray×Int×Int×Int))→(List (ByteArray×ByteArray×Int))→(List (ByteArray×ByteArray×Int×Int×Int))→List Int→Option Bool
 |0,_,_,_,_,_,_,_,_,_,_,_=>none
 |k+1,x16,x128,x129,x130,xo0_0,xo0_1,xo0_2,xo0_3,xo0_4,xo0_5,xo1=>if x130<x129 then
 if 0≤x130 then
 if x130<(x128.length:Int) then
 (slices_Index_string.f k xo0_0 (rY15 x128 x130).2.1).bind fun r9=>
 if r9<0 then
 some false
 else if 0≤r9 then
 if r9<(xo1.length:Int) then
 if 0≤r9 then
 if r9<(xo1.length:Int) then
 qaa.l30 k x16 x128 x129 (wrap64 (x130+1)) xo0_0 xo0_1 xo0_2 xo0_3 xo0_4 xo0_5 (xo1.set r9.toNat (wrap64 ((rI64 xo1 r9) - (rY15 x128 x130).2.2)))
 else none
 else none
 else none
 else none
 else none
 else none
 else (qbp.f k (xo0_0,xo0_1,xo0_2,xo0_3,xo0_4,xo0_5) xo1).bind fun r10=>
 if r10.2=0 then
 (qar.f k r10.1.2 x16).bind fun r11=>
 some r11
 else some true
theorem qaa.l30_eq (k:Nat) (x16:List ByteArray) (x128:List (ByteArray×ByteArray×Int)) (x129:Int) (x130:Int) (xo0_0:List ByteArray) (xo0_1:List (ByteArray×ByteArray×ByteArray×Bool×Bool)) (xo0_2:List (ByteArray×ByteArray×ByteArray×Int×Int×Int×Int×Int×Int)) (xo0_3:List (ByteArray×ByteArray×Int×Int×Int)) (xo0_4:List (ByteArray×ByteArray×Int)) (xo0_5:List (ByteArray×ByteArray×Int×Int×Int)) (xo1:List Int):qaa.l30 (k+1) x16 x128 x129 x130 xo0_0 xo0_1 xo0_2 xo0_3 xo0_4 xo0_5 xo1=if x130<x129 then
 if 0≤x130 then
 if x130<(x128.length:Int) then
 (slices_Index_string.f k xo0_0 (rY15 x128 x130).2.1).bind fun r9=>
 if r9<0 then
 some false
 else if 0≤r9 then
 if r9<(xo1.length:Int) then
 if 0≤r9 then
 if r9<(xo1.length:Int) then
 qaa.l30 k x16 x128 x129 (wrap64 (x130+1)) xo0_0 xo0_1 xo0_2 xo0_3 xo0_4 xo0_5 (xo1.set r9.toNat (wrap64 ((rI64 xo1 r9) - (rY15 x128 x130).2.2)))
 else none
 else none
 else none
 else none
 else none
 else none
 else (qbp.f k (xo0_0,xo0_1,xo0_2,xo0_3,xo0_4,xo0_5) xo1).bind fun r10=>
 if r10.2=0 then
 (qar.f k r10.1.2 x16).bind fun r11=>
 some r11
 else some true:=rfl
def qaa.l22:Nat→List Int→List ByteArray→(List (ByteArray×ByteArray×Int×Int×Int))→Int→Int→List ByteArray→(List (ByteArray×ByteArray×ByteArray×Bool×Bool))→(List (ByteArray×ByteArray×ByteArray×Int×Int×Int×Int×Int×Int))→(List (ByteArray×ByteArray×Int×Int×Int))→(List (ByteArray×ByteArray×Int))→(List (ByteArray×ByteArray×Int×Int×Int))→List Int→Option Bool
 |0,_,_,_,_,_,_,_,_,_,_,_,_=>none
 |k+1,x1,x16,x102,x103,x104,xo0_0,xo0_1,xo0_2,xo0_3,xo0_4,xo0_5,xo1=>if x104<x103 then
 if 0≤x104 then
 if x104<(x102.length:Int) then
 (slices_Index_string.f k xo0_0 (rY13 x102 x104).2.1).bind fun r8=>
 if r8<0 then
 some false
 else if 0≤r8 then
 if r8<(xo1.length:Int) then
 if 0≤x104 then
 if x104<(x1.length:Int) then
 if 0≤r8 then
 if r8<(xo1.length:Int) then
 qaa.l22 k x1 x16 x102 x103 (wrap64 (x104+1)) xo0_0 xo0_1 xo0_2 xo0_3 xo0_4 xo0_5 (xo1.set r8.toNat (wrap64 ((rI64 xo1 r8)+(rI64 x1 x104))))
 else none
 else none
 else none
 else none
 else none
 else none
 else none
 else none
 else qaa.l30 k x16 xo0_4 (xo0_4.length:Int) 0 xo0_0 xo0_1 xo0_2 xo0_3 xo0_4 xo0_5 xo1
theorem qaa.l22_eq (k:Nat) (x1:List Int) (x16:List ByteArray) (x102:List (ByteArray×ByteArray×Int×Int×Int)) (x103:Int) (x104:Int) (xo0_0:List ByteArray) (xo0_1:List (ByteArray×ByteArray×ByteArray×Bool×Bool)) (xo0_2:List (ByteArray×ByteArray×ByteArray×Int×Int×Int×Int×Int×Int)) (xo0_3:List (ByteArray×ByteArray×Int×Int×Int)) (xo0_4:List (ByteArray×ByteArray×Int)) (xo0_5:List (ByteArray×ByteArray×Int×Int×Int)) (xo1:List Int):qaa.l22 (k+1) x1 x16 x102 x103 x104 xo0_0 xo0_1 xo0_2 xo0_3 xo0_4 xo0_5 xo1=if x104<x103 then
 if 0≤x104 then
 if x104<(x102.length:Int) then
 (slices_Index_string.f k xo0_0 (rY13 x102 x104).2.1).bind fun r8=>
 if r8<0 then
 some false
 else if 0≤r8 then
 if r8<(xo1.length:Int) then
 if 0≤x104 then
 if x104<(x1.length:Int) then
 if 0≤r8 then
 if r8<(xo1.length:Int) then
 qaa.l22 k x1 x16 x102 x103 (wrap64 (x104+1)) xo0_0 xo0_1 xo0_2 xo0_3 xo0_4 xo0_5 (xo1.set r8.toNat (wrap64 ((rI64 xo1 r8)+(rI64 x1 x104))))
 else none
 else none
 else none
 else none
 else none
 else none
 else none
 else none
 else qaa.l30 k x16 xo0_4 (xo0_4.length:Int) 0 xo0_0 xo0_1 xo0_2 xo0_3 xo0_4 xo0_5 xo1:=rfl
def qaa.l10:Nat→List Int→List Int→Int→Int→List ByteArray→(List (ByteArray×ByteArray×ByteArray×Bool×Bool))→(List (ByteArray×ByteArray×ByteArray×Int×Int×Int×Int×Int×Int))→(List (ByteArray×ByteArray×Int×Int×Int))→(List (ByteArray×ByteArray×Int))→(List (ByteArray×ByteArray×Int×Int×Int))→List ByteArray→Option Bool
 |0,_,_,_,_,_,_,_,_,_,_,_=>none
 |k+1,x1,x60,x61,x62,xo0_0,xo0_1,xo0_2,xo0_3,xo0_4,xo0_5,xo1=>if x62<x61 then
 if 0≤x62 then
 if x62<(x60.length:Int) then
 (qd1.f k (rI64 x60 x62) 1).bind fun r6=>
 if r6.2=0 then
 if (rI64 x60 x62)<(-100000) then
 some true
 else if 100000<(rI64 x60 x62) then
 some true
 else if (xo1.length+[r6.1].length)*16≤140737488355328 then
 qaa.l10 k x1 x60 x61 (wrap64 (x62+1)) xo0_0 xo0_1 xo0_2 xo0_3 xo0_4 xo0_5 (xo1++[r6.1])
 else none
 else some true
 else none
 else none
 else (qae.f k (xo0_0,xo0_1,xo0_2,xo0_3,xo0_4,xo0_5) xo1).bind fun r7=>
 if r7.2=0 then
 if 0≤(xo0_0.length:Int) then
 if (xo0_0.length:Int)*8≤140737488355328 then
 if (xo0_0.length:Int)≤140737488355328 then
 qaa.l22 k x1 r7.1 xo0_3 (xo0_3.length:Int) 0 xo0_0 xo0_1 xo0_2 xo0_3 xo0_4 xo0_5 (List.replicate (xo0_0.length:Int).toNat 0)
 else none
 else none
 else none
 else some (decide ((r7.1.length:Int)=0))
theorem qaa.qeK (k:Nat) (x1:List Int) (x60:List Int) (x61:Int) (x62:Int) (xo0_0:List ByteArray) (xo0_1:List (ByteArray×ByteArray×ByteArray×Bool×Bool)) (xo0_2:List (ByteArray×ByteArray×ByteArray×Int×Int×Int×Int×Int×Int)) (xo0_3:List (ByteArray×ByteArray×Int×Int×Int)) (xo0_4:List (ByteArray×ByteArray×Int)) (xo0_5:List (ByteArray×ByteArray×Int×Int×Int)) (xo1:List ByteArray):qaa.l10 (k+1) x1 x60 x61 x62 xo0_0 xo0_1 xo0_2 xo0_3 xo0_4 xo0_5 xo1=if x62<x61 then
 if 0≤x62 then
 if x62<(x60.length:Int) then
 (qd1.f k (rI64 x60 x62) 1).bind fun r6=>
 if r6.2=0 then
 if (rI64 x60 x62)<(-100000) then
 some true
 else if 100000<(rI64 x60 x62) then
 some true
 else if (xo1.length+[r6.1].length)*16≤140737488355328 then
 qaa.l10 k x1 x60 x61 (wrap64 (x62+1)) xo0_0 xo0_1 xo0_2 xo0_3 xo0_4 xo0_5 (xo1++[r6.1])
 else none
 else some true
 else none
 else none
 else (qae.f k (xo0_0,xo0_1,xo0_2,xo0_3,xo0_4,xo0_5) xo1).bind fun r7=>
 if r7.2=0 then
 if 0≤(xo0_0.length:Int) then
 if (xo0_0.length:Int)*8≤140737488355328 then
 if (xo0_0.length:Int)≤140737488355328 then
 qaa.l22 k x1 r7.1 xo0_3 (xo0_3.length:Int) 0 xo0_0 xo0_1 xo0_2 xo0_3 xo0_4 xo0_5 (List.replicate (xo0_0.length:Int).toNat 0)
 else none
 else none
 else none
 else some (decide ((r7.1.length:Int)=0)):=rfl
def qaa.f (k:Nat) (a0:List ByteArray×(List (ByteArray×ByteArray×ByteArray×Bool×Bool))×(List (ByteArray×ByteArray×ByteArray×Int×Int×Int×Int×Int×Int))×(List (ByteArray×ByteArray×Int×Int×Int))×(List (ByteArray×ByteArray×Int))×List (ByteArray×ByteArray×Int×Int×Int)) (a1:List Int):Option Bool:=
 (qbe.f k 10).bind fun r1=>
 (qae.f k r1.1 [ByteArray.mk #[49,48],ByteArray.mk #[53]]).bind fun r2=>
 if r2.2=0 then
 (qar.f k r2.1 [ByteArray.mk #[49,48]]).bind fun r3=>
 if r3=true then
 (qbp.f k r1.1 [10,(-10)]).bind fun r4=>
 if r4.2=0 then
 (qar.f k r4.1.2 [ByteArray.mk #[49,48]]).bind fun r5=>
 if r5=true then
 qaa.l10 k a1 a1 (a1.length:Int) 0 a0.1 a0.2.1 a0.2.2.1 a0.2.2.2.1 a0.2.2.2.2.1 a0.2.2.2.2.2 []
 else some false
 else some false
 else some false
 else some false
end Go.Proofs.YtfobeapcmgjhbaaGreatDoor.VE
namespace Go.Proofs.YtfobeapcmgjhbaaGreatDoor.VE
set_option linter.unusedVariables false
open Go Go.RowKit
end Go.Proofs.YtfobeapcmgjhbaaGreatDoor.VE
