/- Texts behind the law NetdispatchFlows, part 24 (no statement is proved here). -/
import Derived.SizedLaws
import Derived.ChangeArms
import Derived.DataReads
import Derived.OpenShut
import Derived.Test.YtfobeapcmgjhbaaGreatDoorTie
import Derived.Test.YtfobeapcmgjhbaaGreatDoorCards
import Derived.Lay
import Derived.LaidMore
import Derived.SevenTiedAt
import Derived.Stop.Joined
import Derived.Handed
import Derived.Deep.DeepHandedRow
import Derived.Lib.LaidTab
import Derived.WalkKit
import Derived.ProofKit
import Derived.ShutString
import Derived.ChangeOld
import Derived.Below
import Derived.Test.YtfobeapcmgjhbaaGreatDoorKNetdispatchFlows23
namespace Go.Proofs.YtfobeapcmgjhbaaGreatDoor.VE
open Go Go.RowKit
def okFs (P:Program) (rec:TypeId→Bool) (sz:TypeId→Option Ty):Nat→List Field→Bool
 |_,[]=>true
 |off,f::fs=>Nat.beq f.offset off && rec f.type && (match sz f.type with|some T=>Nat.beq T.sz (P.cellsOf f.type)|none=>false) && okFs P rec sz (off+P.cellsOf f.type) fs
def fsSz (P:Program):List Field→Nat
 |[]=>0
 |f::fs=>P.cellsOf f.type+fsSz P fs
def okTy (P:Program):Nat→TypeId→Bool
 |0,_=>false
 |n+1,t=>match P.underlying t with
  |some (.slice e)=>okTy P n e && (match tyOf P n e with|some T=>Nat.beq T.sz (P.cellsOf e) && !(Nat.beq T.sz 0)|none=>false)
  |some (.struct fs)=>okFs P (okTy P n) (tyOf P n) 0 fs.toList && Nat.beq (fsSz P fs.toList) (P.cellsOf t)
  |some (.array _ _)=>false
  |_=>true
theorem qdE {H:Type} {P:Program} {e:TypeId} {n:Nat}:∀(l:List (DataW H)) (d:DataW H),d∈l→n∈d.weights P e→n∈DataW.weightsAll P e l
 |[],_,h,_=>by cases h
 |d0::l,d,h,hn=>by
  simp only [DataW.weightsAll,List.mem_append]
  rcases List.mem_cons.1 h with rfl|h
  ·exact Or.inl hn
  ·exact Or.inr (qdE l d h hn)
theorem qfR {α:Type} {Q:Nat→α→Prop}:∀(n:Nat),(∀i,i<n→∃a,Q i a)→∃l:List α,l.length=n∧∀i a,l[i]?=some a→Q i a
 |0,_=>⟨[],rfl,fun i a h=>by simp at h⟩
 |n+1,h=>by
  obtain ⟨l,hl,hq⟩:=qfR n (fun i hi=>h i (by omega))
  obtain ⟨a,ha⟩:=h n (by omega)
  refine ⟨l++[a],by simp [hl],fun i b hb=>?_⟩
  rcases Nat.lt_or_ge i l.length with hi|hi
  ·rw [List.getElem?_append_left hi] at hb
   exact hq i b hb
  ·have hi':i=l.length:=by
    have:=(List.getElem?_eq_some_iff.1 hb).1
    rw [List.length_append,List.length_singleton] at this
    omega
   subst hi'
   have hb':a=b:=by simpa using hb
   subst hb'
   rw [hl]
   exact ha
def Opens (P:Program) (t:TypeId) (T:Ty):Prop:=
 ∀(H:Type) (enc:TypeId×Value→H) (w:World) (base:Nat) (spare:Nat→Bool) (held:Bool) (fuel:Nat) (cs:List Value) (x:DataW H×List MemPlace),
  DataW.trod enc P w base spare held fuel t cs=some x→(∀n∈x.1.weights P t,n≤reachBytes)→∃a:T.T,Rep (· < w.heap.size) w T a cs∧OkV P.bytesOf T a
theorem spot_none {w:World} {a:Addr} {u:Value} (h:w.cell? a=some u):a=⟨a.block,a.off,none⟩∧a.block<w.heap.size:=by
 unfold World.cell? at h
 split at h
 ·rename_i hb
  split at h
  ·cases h
  ·rename_i hs
   refine ⟨?_,(Array.getElem?_eq_some_iff.1 hb).1⟩
   cases a with
   |mk b o s=>cases s with
    |none=>rfl
    |some _=>exact absurd rfl hs
 ·cases h
theorem opens_slice {P:Program} {t e:TypeId} {T:Ty} (hu:P.underlying t=some (.slice e)) (hz:T.sz=P.cellsOf e) (h0:T.sz≠0) (ho:Opens P e T):Opens P t (.list e T):=by
 intro H enc w base spare held fuel cs x h hw
 rcases DataW.trod_slice hu h with ⟨rfl,rfl⟩|⟨a,len,cap,elems,rest,n,rfl,rfl,rfl,hb,hl,hm,he,hel,_,_⟩
 ·exact ⟨([]:List T.T),⟨none,0,rfl,Nat.le_refl _,fun h=>by simp at h⟩,by simp,fun x hx=>by cases hx⟩
 ·simp only [DataW.weights,hu,List.mem_cons,List.mem_append] at hw
  have hsz:=hw _ (Or.inl rfl)
  rw [List.length_map,List.length_map,he] at hsz
  obtain ⟨l,hll,hq⟩:=qfR (Q:=fun i p=>∃c,w.cells? base (a.add (i*P.cellsOf e)) (P.cellsOf e)=some c∧Rep (· < w.heap.size) w T p c∧OkV P.bytesOf T p) len (fun i hi=>by
   have h1:=hel i hi
   obtain ⟨y,hy⟩:∃y,elems[i]?=some y:=⟨elems[i]'(by omega),List.getElem?_eq_getElem (by omega)⟩
   rw [hy] at h1
   obtain ⟨c,hc1,hc2⟩:=Option.bind_eq_some_iff.1 h1
   obtain ⟨p,hp,hok⟩:=ho H enc w base spare held n c y hc2 (fun m hm'=>hw m (Or.inr (Or.inl (qdE _ y.1 (List.mem_map.2 ⟨y,List.mem_of_getElem? hy,rfl⟩) hm'))))
   exact ⟨p,c,hc1,hp,hok⟩)
  have hlB:len*P.bytesOf e≤140737488351232:=Nat.le_trans (Nat.mul_le_mul_right _ (Nat.le_add_right _ _)) hsz
  refine ⟨l,⟨some a,cap,by rw [hll],by rw [hll];omega,fun hpos=>?_⟩,by rw [hll];exact hlB,fun p hp=>?_⟩
  ·-- the place
   obtain ⟨p0,hp0⟩:∃p,l[0]?=some p:=⟨l[0]'hpos,List.getElem?_eq_getElem hpos⟩
   obtain ⟨c0,hc0,hr0,_⟩:=hq 0 p0 hp0
   obtain ⟨_,hlen0,hcell0⟩:=World.cells?_some hc0
   have hz0:0<P.cellsOf e:=by omega
   obtain ⟨u,hu0⟩:∃u,c0[0]?=some u:=⟨c0[0]'(by omega),List.getElem?_eq_getElem (by omega)⟩
   have hc:=hcell0 0 hz0
   rw [hu0,Nat.zero_mul] at hc
   have hadd:(a.add 0).add 0=a:=by simp [Addr.add]
   rw [hadd] at hc
   obtain ⟨ha,hblk⟩:=spot_none hc
   refine ⟨a.block,a.off,by rw [←ha],hblk,fun j p hj=>?_⟩
   obtain ⟨c,hc1,hp,_⟩:=hq j p hj
   obtain ⟨_,hlen,hcell⟩:=World.cells?_some hc1
   refine ⟨c,by rw [hlen,hz],hp,fun i u hiu=>?_⟩
   have hi:i<P.cellsOf e:=by
    have:=(List.getElem?_eq_some_iff.1 hiu).1
    omega
   have:=hcell i hi
   rw [hiu] at this
   rw [ha,qcb,qcb] at this
   rw [hz,←Nat.add_assoc]
   exact this
  ·obtain ⟨i,hi⟩:=List.getElem?_of_mem hp
   obtain ⟨c,_,_,hok⟩:=hq i p hi
   exact hok
theorem opens_fs {P:Program} {n:Nat} (ih:∀t T,okTy P n t=true→tyOf P n t=some T→Opens P t T) {H:Type} {enc:TypeId×Value→H} {w:World} {base:Nat} {spare:Nat→Bool} {held:Bool} {fuel:Nat} {cs:List Value} :
  ∀(fs:List Field) (ts:List Ty) (off:Nat) (xs:List (DataW H×List MemPlace)),fs.mapM (fun f=>tyOf P n f.type)=some ts→okFs P (okTy P n) (tyOf P n) off fs=true→xs.length=fs.length→
   (∀(i:Nat) (f:Field),fs[i]?=some f→DataW.trod enc P w base spare held fuel f.type ((cs.drop f.offset).take (P.cellsOf f.type))=xs[i]?)→
   (∀n∈DataW.weightsEach P (fs.map (·.type)) (xs.map (·.1)),n≤reachBytes)→∃a:(qdL ts).T,Rep (· < w.heap.size) w (qdL ts) a ((cs.drop off).take (fsSz P fs))∧OkV P.bytesOf (qdL ts) a
 |[],ts,off,xs,hm,_,_,_,_=>by
  rw [List.mapM_nil] at hm
  obtain rfl:[]=ts:=by simpa using hm
  exact ⟨(),by simp [fsSz,Rep,qdL],trivial⟩
 |f::fs,ts,off,xs,hm,hok,hl,h,hw=>by
  obtain ⟨x,xs',rfl⟩:∃x xs',xs=x::xs':=by
   cases xs with
   |nil=>simp at hl
   |cons x xs'=>exact ⟨x,xs',rfl⟩
  unfold okFs at hok
  simp only [Bool.and_eq_true] at hok
  obtain ⟨⟨⟨hoff,hrec⟩,hsz⟩,hrest⟩:=hok
  have hoff:=Nat.eq_of_beq_eq_true hoff
  rw [List.mapM_cons] at hm
  obtain ⟨T,hT,hm⟩:=Option.bind_eq_some_iff.1 hm
  obtain ⟨ts',hts,hm⟩:=Option.bind_eq_some_iff.1 hm
  obtain rfl:T::ts'=ts:=by simpa using hm
  rw [hT] at hsz
  have hsz:=Nat.eq_of_beq_eq_true hsz
  have h0:=h 0 f rfl
  obtain ⟨a,ha,hoka⟩:=ih f.type T hrec hT H enc w base spare held fuel _ x h0 (fun n hn=>hw n (by simp [DataW.weightsEach,hn]))
  rw [hoff] at ha
  obtain ⟨b,hb,hokb⟩:=opens_fs ih fs ts' (off+P.cellsOf f.type) xs' hts hrest (by simpa using hl) (fun i g hg=>by simpa using h (i+1) g (by simpa using hg)) (fun n hn=>hw n (by
   simp only [List.map_cons,DataW.weightsEach,List.mem_append]
   exact Or.inr hn))
  cases ts' with
  |nil=>
   have hfs:fs=[]:=by
    cases fs with
    |nil=>rfl
    |cons g gs=>
     rw [List.mapM_cons] at hts
     obtain ⟨_,_,hts⟩:=Option.bind_eq_some_iff.1 hts
     obtain ⟨_,_,hts⟩:=Option.bind_eq_some_iff.1 hts
     simp at hts
   subst hfs
   refine ⟨a,?_,hoka⟩
   show Rep _ w T a _
   simpa [fsSz] using ha
  |cons T' ts''=>
   refine ⟨(a,b),⟨_,_,?_,ha,hb⟩,hoka,hokb⟩
   rw [←List.drop_drop]
   exact List.take_add
theorem opens {P:Program}:∀(n:Nat) (t:TypeId) (T:Ty),okTy P n t=true→tyOf P n t=some T→Opens P t T
 |0,_,_,h,_=>by cases h
 |n+1,t,T,hok,hT=>by
  unfold tyOf at hT
  unfold okTy at hok
  split at hT
  ·rename_i hu
   cases hT
   intro H enc w base spare held fuel cs x h _
   obtain ⟨b,rfl,rfl⟩:=DataW.trod_bool hu h
   exact ⟨b,rfl,trivial⟩
  ·rename_i k hu
   cases hT
   intro H enc w base spare held fuel cs x h _
   obtain ⟨m,rfl,rfl,hw⟩:=DataW.trod_int hu h
   refine ⟨m,rfl,?_⟩
   simp only [Lit.wf,Bool.and_eq_true,decide_eq_true_eq] at hw
   exact hw
  ·rename_i hu
   cases hT
   intro H enc w base spare held fuel cs x h hw
   obtain ⟨s,rfl,rfl,_⟩:=DataW.trod_string hu h
   refine ⟨s,rfl,?_⟩
   have:=hw s.data.toList.length (by simp [DataW.weights])
   rw [Array.length_toList] at this
   exact this
  ·rename_i e hu
   rw [hu] at hok
   simp only [Bool.and_eq_true] at hok
   obtain ⟨h1,h2⟩:=hok
   cases he:tyOf P n e with
   |none=>rw [he] at hT;cases hT
   |some T'=>
    rw [he] at hT h2
    simp only [Option.map_some,Option.some.injEq] at hT
    subst hT
    simp only [Bool.and_eq_true,Bool.not_eq_true'] at h2
    exact opens_slice hu (Nat.eq_of_beq_eq_true h2.1) (Nat.ne_of_beq_eq_false h2.2) (opens n e T' h1 he)
  ·rename_i fs hu
   rw [hu] at hok
   simp only [Bool.and_eq_true] at hok
   obtain ⟨h1,h2⟩:=hok
   have h2:=Nat.eq_of_beq_eq_true h2
   cases he:fs.toList.mapM (fun f=>tyOf P n f.type) with
   |none=>rw [he] at hT;cases hT
   |some ts=>
    rw [he] at hT
    simp only [Option.map_some,Option.some.injEq] at hT
    subst hT
    intro H enc w base spare held fuel cs x h hw
    obtain ⟨xs,m,rfl,rfl,hl,hxl,hx⟩:=DataW.trod_struct hu h
    obtain ⟨a,ha,hoka⟩:=opens_fs (fun t T=>opens n t T) fs.toList ts 0 xs he h1 (by simpa using hxl) (fun i f hf=>hx i f (by simpa using hf)) (fun k hk=>hw k (by
     simp only [DataW.weights,hu]
     exact hk))
    refine ⟨a,?_,hoka⟩
    rw [List.drop_zero,h2,←hl,List.take_length] at ha
    exact ha
  ·rename_i k e hu
   rw [hu] at hok
   cases hok
  ·cases hT
theorem qf8 {H:Type} {P:Program} {ts:List TypeId} {ds:List (DataW H)} (h:(DataW.weightsEach P ts ds).all (·≤reachBytes)=true) {j:Nat} {t:TypeId} {d:DataW H} (ht:ts[j]?=some t) (hd:ds[j]?=some d):∀n∈d.weights P t,n≤reachBytes:=fun n hn=>by
 have:=List.all_eq_true.1 h _ (DataW.weights_mem_each ht hd n hn)
 simpa using this
theorem okWide_agg {P:Program} {W:World} {r:Reach} {base:Nat} {t:TypeId} {v:Value} {fs:Array Field} (hu:P.underlying t=some (.struct fs)) (h:Value.okWide P W r base t v):∃cs,v=.agg cs:=by
 simp only [Value.okWide,hu] at h
 obtain ⟨cs,rfl,_⟩:=h
 exact ⟨cs,rfl⟩
theorem All2.mk {α β:Type} {R:α→β→Prop} {x:α} {y:β} {l:List α} {m:List β} (h:R x y) (t:All2 R l m):All2 R (x::l) (y::m):=⟨h,t⟩
abbrev boolOut:Cut:=⟨[(0,.l (.val .bool))],[]⟩
abbrev gh0 (W:World):Gh:=⟨(· < W.heap.size),fun _=>none,fun _=>0,fun _=>[],fun _ _ _=>none⟩
theorem law_calls {P:Program} {f:FuncId} {cin:Cut} {kx:List Nat} {sem:prods cin.tys→Option (prods boolOut.tys)} (hc:qaj P f ⟨cin,boolOut,sem,kx⟩) (hcin:cin.objs=[]) {W:World} {vals:Array Value} (x:prods cin.tys) {cms:List Cm} (hput:cin.put x=some (cms,[]))
  (hargs:All2 (CmR (gh0 W) (fun _=>.no) W) cms vals.toList) (hs:sem x=some true):Calls P f vals W fun e W'=>e=.returned (.bool true)∧Below W.heap.size W W':=by
 have hcore:Core (ctxOf W (gh0 W) (ofL []) (fxOf cin.objs) kx) (gh0 W) (ofL []) W:={
  ob:=fun d=>trivial
  injB:=fun d d' b b' _ h=>by cases h
  F1:=fun b h=>h
  F2:=fun b h=>h
  F3:=fun b h=>Or.inl h
  keep:=Keeps.refl _ _ _
  size:=Nat.le_refl _
  fix:=fun d hd=>by rw [hcin] at hd;cases hd
  kept:=fun d _ _ _ _ _ _ hd=>by rw [hcin] at hd;cases hd}
 refine (hc x true hs (gh0 W) cms [] W vals hput hcore hargs).mono ?_
 rintro e W' ⟨vs,G',cms',os',he,hp,hco,hall⟩
 have hp':(boolOut.put true)=some ([.l (.v .bool true)],[]):=rfl
 rw [hp'] at hp
 cases hp
 obtain ⟨v,m,rfl,hv,hm⟩:=All2.cons_inv hall
 have:=All2.qbm hm
 subst this
 have hv':[v]=[Value.bool true]:=(show LfR _ _ _ (.v .bool true) v from hv).2
 obtain rfl:v=.bool true:=by simpa using hv'
 refine ⟨he,?_⟩
 have hk:=hco.keep
 exact Keeps.below ⟨hk.os,hk.tape,hk.output,hk.size,fun b hb _=>hk.block b hb (by rintro ⟨d,hl,_⟩;cases hl)⟩
end Go.Proofs.YtfobeapcmgjhbaaGreatDoor.VE
namespace Go.Proofs.YtfobeapcmgjhbaaGreatDoor.netdispatchFlows
open Go.ChangeShapes Go.WideShapes Go.ChangeAt Go.RowKit Go.Proofs.YtfobeapcmgjhbaaGreatDoor.VE
open Go.ChangeMaps (open_string shut_string)
set_option linter.unusedVariables false
theorem own:ownKnob Tryz.prog.godebug=none:=by kernel_rfl
theorem laidOut:laidOutB Tryz.prog=true:=by kernel_rfl
theorem bulk_one {H:Type} (d:DataW H):1≤Rows.uptoBulk d:=by
 cases d with
 |lit l=>cases l<;>simp [Rows.uptoBulk]
 |_=>simp [Rows.uptoBulk]
theorem bulk_length {H:Type} (l:List (DataW H)):l.length≤Rows.uptoBulkAll l:=by
 induction l with
 |nil=>simp [Rows.uptoBulkAll]
 |cons x r ih=>have:=bulk_one x;simp only [Rows.uptoBulkAll,List.length_cons];omega
theorem slice_bulk {P:Program} {t e:TypeId} (hu:P.underlying t=some (.slice e)) {H:Type} {enc:TypeId×Value→H} {w:World} {base:Nat} {spare:Nat→Bool} {held:Bool} {fuel len cap:Nat} {b:Option Addr} {x:DataW H×List MemPlace}
  (h:DataW.trod enc P w base spare held fuel t [.slice b len cap]=some x):len≤Rows.uptoBulk x.1:=by
 rcases DataW.trod_slice hu h with ⟨h1,rfl⟩|⟨a,len',cap',elems,rest,n,rfl,h1,rfl,hb,hl,hm,he,hel,_,_⟩
 ·simp only [List.cons.injEq,Value.slice.injEq,and_true] at h1;omega
 ·simp only [List.cons.injEq,Value.slice.injEq,and_true] at h1
  have:=bulk_length (elems.map (·.1))
  rw [List.length_map] at this
  simp only [Rows.uptoBulk]
  omega
set_option maxRecDepth 100000 in
theorem reads (os:Os) {H:Type} (enc:TypeId×Value→H):∃x,DataW.whole enc Tryz.prog ((World.laidAll Tryz.prog os Rows.netdispatchFlowsUptoRow.laid).forCall (fun _ _=>0) ⟨#[],#[.agg #[.slice none 0 0,.slice none 0 0,.slice none 0 0,.slice none 0 0,.slice none 0 0,.slice none 0 0],.slice none 0 0],[]⟩).memory Tryz.f3.params.toList Rows.netdispatchFlowsSpec.vars false (#[.agg #[.slice none 0 0,.slice none 0 0,.slice none 0 0,.slice none 0 0,.slice none 0 0,.slice none 0 0],.slice none 0 0]:Array Value).toList 8=some x∧Rows.uptoSmall H (x.1++x.2.1)=true:=by
 have h:(match DataW.whole enc Tryz.prog ((World.laidAll Tryz.prog os Rows.netdispatchFlowsUptoRow.laid).forCall (fun _ _=>0) ⟨#[],#[.agg #[.slice none 0 0,.slice none 0 0,.slice none 0 0,.slice none 0 0,.slice none 0 0,.slice none 0 0],.slice none 0 0],[]⟩).memory Tryz.f3.params.toList Rows.netdispatchFlowsSpec.vars false (#[.agg #[.slice none 0 0,.slice none 0 0,.slice none 0 0,.slice none 0 0,.slice none 0 0,.slice none 0 0],.slice none 0 0]:Array Value).toList 8 with|some x=>Rows.uptoSmall H (x.1++x.2.1)|none=>false)=true:=by kernel_rfl
 revert h
 generalize DataW.whole enc Tryz.prog ((World.laidAll Tryz.prog os Rows.netdispatchFlowsUptoRow.laid).forCall (fun _ _=>0) ⟨#[],#[.agg #[.slice none 0 0,.slice none 0 0,.slice none 0 0,.slice none 0 0,.slice none 0 0,.slice none 0 0],.slice none 0 0],[]⟩).memory Tryz.f3.params.toList Rows.netdispatchFlowsSpec.vars false (#[.agg #[.slice none 0 0,.slice none 0 0,.slice none 0 0,.slice none 0 0,.slice none 0 0,.slice none 0 0],.slice none 0 0]:Array Value).toList 8=o
 intro h
 cases o with
 |none=>cases h
 |some x=>exact ⟨x,rfl,h⟩
set_option maxRecDepth 100000 in
theorem lifted (os:Os) (started:os.Started) (H:Type) (enc:TypeId×Value→H) (F:Stop.Interp) :
  ReturnsInHanded {} Tryz.checked os 3 .any ((Rows.OpenSpec.upto Rows.netdispatchFlowsSpec).preRow enc Tryz.prog Tryz.f3 Rows.netdispatchFlowsUptoRow.domain false Rows.netdispatchFlowsUptoRow.laid) (((Rows.OpenSpec.upto Rows.netdispatchFlowsSpec).at F).post enc Tryz.prog Tryz.f3 false true false false):=by
 obtain ⟨x,hx,hb⟩:=reads os enc
 have hB:Input.okWideB Tryz.prog ((World.laidAll Tryz.prog os Rows.netdispatchFlowsUptoRow.laid).forCall (fun _ _=>0) ⟨#[],#[.agg #[.slice none 0 0,.slice none 0 0,.slice none 0 0,.slice none 0 0,.slice none 0 0,.slice none 0 0],.slice none 0 0],[]⟩) 3 ⟨#[],#[.agg #[.slice none 0 0,.slice none 0 0,.slice none 0 0,.slice none 0 0,.slice none 0 0,.slice none 0 0],.slice none 0 0],[]⟩=true:=by kernel_rfl
 refine returnsInHanded_of_row (C:=Tryz.checked) (s:=Rows.OpenSpec.upto Rows.netdispatchFlowsSpec) own started (by kernel_rfl) Tryz.func3
  ⟨(World.laidAll Tryz.prog os Rows.netdispatchFlowsUptoRow.laid),fun _ _=>0,⟨#[],#[.agg #[.slice none 0 0,.slice none 0 0,.slice none 0 0,.slice none 0 0,.slice none 0 0,.slice none 0 0],.slice none 0 0],[]⟩,World.laidAll_os _ _ _,World.shaped_of_ZipB (by kernel_rfl) (by kernel_rfl),(Input.okWide_of_okWideB (base:=0) hB).1,(Input.okWide_of_okWideB hB).2,
   OpenSpec.preRow_of_cond 8 hx (by kernel_rfl) (fun k hk=>by cases hk;exact hb) (by kernel_rfl) (by rw [MakeChecks.laidMetH_plain _ _ _ (by kernel_rfl)];exact laidMet_laidAll _ (by kernel_rfl) (by kernel_rfl)),by
   simp only [Assume.holds]
   exact ⟨by simp,by simp,fun _=>Modest.zero,by simp,by simp⟩⟩ ?_
 intro W base args ds gs before hval0 hW hcnd hkk hsz0 hL _ _
 have hbulk0:Rows.uptoBulkAll (ds++gs)≤1048576:=of_decide_eq_true (hkk _ rfl)
 clear hkk
 show Calls _ _ _ _ fun e W'=>∃v,e=.returned v∧Rows.netdispatchFlowsSpec.post enc Tryz.prog Tryz.f3 false true false false W args v W'
 have hsz:(DataW.weightsEach Tryz.prog (Tryz.f3.params.toList++Rows.netdispatchFlowsSpec.plain.varTypes Tryz.prog) (ds++gs)).all (·≤reachBytes)=true:=hsz0
 have hval:∀(j:Nat) t v,Tryz.f3.params[j]?=some t→args[j]?=some v→Value.okWide Tryz.prog W .any base t v:=hval0
 have hW':=hW
 obtain ⟨p,q,hA0,hV,rfl,hfz,hnd⟩:=hW
 have hA:DataW.TrodAll enc Tryz.prog W 0 (fun _=>true) true Tryz.f3.params.toList args.toList ds p:=hA0
 rw [Tryz.params3] at hA hval hsz
 obtain ⟨v0,vs0,d0,ds0,p0,q0,hargs,rfl,rfl,h0,r0⟩:=trodAll_cons hA
 obtain ⟨v1,vs1,d1,ds1,p1,q1,rfl,rfl,rfl,h1,r1⟩:=trodAll_cons r0
 obtain ⟨rfl,rfl,rfl⟩:=trodAll_nil r1
 obtain rfl:args=#[v0,v1]:=by cases args;simp_all
 obtain ⟨rfl,rfl⟩:=trodVars_none hV
 obtain ⟨cs0,rfl⟩:=okWide_agg Tryz.underlying29 (hval 0 29 v0 rfl rfl)
 have k0:=h0
 have lt0:∀x∈p0,x.block<W.heap.size:=by obtain ⟨m,hm⟩:=k0;exact DataW.trod_lt m _ _ _ hm
 obtain ⟨a0,K0,ok0⟩:∃a:Ty.T (.pair (.list 9 .str) (.pair (.list 190 (.pair .str (.pair .str (.pair .str (.pair .bool .bool))))) (.pair (.list 60 (.pair .str (.pair .str (.pair .str (.pair (.int .i64) (.pair (.int .i64) (.pair (.int .i64) (.pair (.int .i64) (.pair (.int .i64) (.int .i64)))))))))) (.pair (.list 48 (.pair .str (.pair .str (.pair (.int .i64) (.pair (.int .i64) (.int .i64)))))) (.pair (.list 51 (.pair .str (.pair .str (.int .i64)))) (.list 240 (.pair .str (.pair .str (.pair (.int .i64) (.pair (.int .i64) (.int .i64))))))))))),Rep (· < W.heap.size) W (.pair (.list 9 .str) (.pair (.list 190 (.pair .str (.pair .str (.pair .str (.pair .bool .bool))))) (.pair (.list 60 (.pair .str (.pair .str (.pair .str (.pair (.int .i64) (.pair (.int .i64) (.pair (.int .i64) (.pair (.int .i64) (.pair (.int .i64) (.int .i64)))))))))) (.pair (.list 48 (.pair .str (.pair .str (.pair (.int .i64) (.pair (.int .i64) (.int .i64)))))) (.pair (.list 51 (.pair .str (.pair .str (.int .i64)))) (.list 240 (.pair .str (.pair .str (.pair (.int .i64) (.pair (.int .i64) (.int .i64))))))))))) a cs0.toList∧OkV Tryz.prog.bytesOf (.pair (.list 9 .str) (.pair (.list 190 (.pair .str (.pair .str (.pair .str (.pair .bool .bool))))) (.pair (.list 60 (.pair .str (.pair .str (.pair .str (.pair (.int .i64) (.pair (.int .i64) (.pair (.int .i64) (.pair (.int .i64) (.pair (.int .i64) (.int .i64)))))))))) (.pair (.list 48 (.pair .str (.pair .str (.pair (.int .i64) (.pair (.int .i64) (.int .i64)))))) (.pair (.list 51 (.pair .str (.pair .str (.int .i64)))) (.list 240 (.pair .str (.pair .str (.pair (.int .i64) (.pair (.int .i64) (.int .i64))))))))))) a:=by
  obtain ⟨fuel,hf⟩:=h0
  exact VE.opens 12 29 (.pair (.list 9 .str) (.pair (.list 190 (.pair .str (.pair .str (.pair .str (.pair .bool .bool))))) (.pair (.list 60 (.pair .str (.pair .str (.pair .str (.pair (.int .i64) (.pair (.int .i64) (.pair (.int .i64) (.pair (.int .i64) (.pair (.int .i64) (.int .i64)))))))))) (.pair (.list 48 (.pair .str (.pair .str (.pair (.int .i64) (.pair (.int .i64) (.int .i64)))))) (.pair (.list 51 (.pair .str (.pair .str (.int .i64)))) (.list 240 (.pair .str (.pair .str (.pair (.int .i64) (.pair (.int .i64) (.int .i64))))))))))) (by kernel_rfl) (by kernel_rfl) _ enc W 0 _ true fuel _ _ hf (qf8 hsz (j:=0) rfl rfl)
 have ok0:OkV BY (.pair (.list 9 .str) (.pair (.list 190 (.pair .str (.pair .str (.pair .str (.pair .bool .bool))))) (.pair (.list 60 (.pair .str (.pair .str (.pair .str (.pair (.int .i64) (.pair (.int .i64) (.pair (.int .i64) (.pair (.int .i64) (.pair (.int .i64) (.int .i64)))))))))) (.pair (.list 48 (.pair .str (.pair .str (.pair (.int .i64) (.pair (.int .i64) (.int .i64)))))) (.pair (.list 51 (.pair .str (.pair .str (.int .i64)))) (.list 240 (.pair .str (.pair .str (.pair (.int .i64) (.pair (.int .i64) (.int .i64))))))))))) a0:=cast (congrFun (by kernel_rfl:OkV Tryz.prog.bytesOf (.pair (.list 9 .str) (.pair (.list 190 (.pair .str (.pair .str (.pair .str (.pair .bool .bool))))) (.pair (.list 60 (.pair .str (.pair .str (.pair .str (.pair (.int .i64) (.pair (.int .i64) (.pair (.int .i64) (.pair (.int .i64) (.pair (.int .i64) (.int .i64)))))))))) (.pair (.list 48 (.pair .str (.pair .str (.pair (.int .i64) (.pair (.int .i64) (.int .i64)))))) (.pair (.list 51 (.pair .str (.pair .str (.int .i64)))) (.list 240 (.pair .str (.pair .str (.pair (.int .i64) (.pair (.int .i64) (.int .i64)))))))))))=OkV BY (.pair (.list 9 .str) (.pair (.list 190 (.pair .str (.pair .str (.pair .str (.pair .bool .bool))))) (.pair (.list 60 (.pair .str (.pair .str (.pair .str (.pair (.int .i64) (.pair (.int .i64) (.pair (.int .i64) (.pair (.int .i64) (.pair (.int .i64) (.int .i64)))))))))) (.pair (.list 48 (.pair .str (.pair .str (.pair (.int .i64) (.pair (.int .i64) (.int .i64)))))) (.pair (.list 51 (.pair .str (.pair .str (.int .i64)))) (.list 240 (.pair .str (.pair .str (.pair (.int .i64) (.pair (.int .i64) (.int .i64)))))))))))) a0) ok0
 obtain ⟨b1,len1,cap1,rfl⟩:=okWide_slice Tryz.underlying30 (hval 1 30 v1 rfl rfl)
 have k1:=h1
 have lt1:∀x∈p1,x.block<W.heap.size:=by obtain ⟨m,hm⟩:=k1;exact DataW.trod_lt m _ _ _ hm
 obtain ⟨a1,K1,ok1⟩:∃a:Ty.T (.list 3 (.int .i64)),Rep (· < W.heap.size) W (.list 3 (.int .i64)) a [.slice b1 len1 cap1]∧OkV Tryz.prog.bytesOf (.list 3 (.int .i64)) a:=by
  obtain ⟨fuel,hf⟩:=h1
  exact VE.opens 12 30 (.list 3 (.int .i64)) (by kernel_rfl) (by kernel_rfl) _ enc W 0 _ true fuel _ _ hf (qf8 hsz (j:=1) rfl rfl)
 have ok1:OkV BY (.list 3 (.int .i64)) a1:=cast (congrFun (by kernel_rfl:OkV Tryz.prog.bytesOf (.list 3 (.int .i64))=OkV BY (.list 3 (.int .i64))) a1) ok1
 have n1:a1.length≤1048576:=by
  obtain ⟨A,c,e,_⟩:=K1
  obtain ⟨fuel,hf⟩:=h1
  have hs:len1≤Rows.uptoBulk d1:=slice_bulk Tryz.underlying30 hf
  simp only [List.cons.injEq,Value.slice.injEq,and_true] at e
  have hb:=hbulk0
  simp only [List.append_nil,List.cons_append,List.nil_append,Rows.uptoBulkAll] at hb
  refine Nat.le_trans (Nat.le_of_eq (show _=len1 from e.2.1.symm)) ?_
  omega
 clear hA0 hval0 hsz0 hsz
 obtain ⟨k,h⟩:=Pure.NetdispatchFlows a0 a1 ok0 ok1 n1
 refine (law_calls (W:=W) (vals:=#[.agg cs0,.slice b1 len1 cap1]) (qaa.ok k) rfl (a0,a1) (cms:=[.a (leaves (.pair (.list 9 .str) (.pair (.list 190 (.pair .str (.pair .str (.pair .str (.pair .bool .bool))))) (.pair (.list 60 (.pair .str (.pair .str (.pair .str (.pair (.int .i64) (.pair (.int .i64) (.pair (.int .i64) (.pair (.int .i64) (.pair (.int .i64) (.int .i64)))))))))) (.pair (.list 48 (.pair .str (.pair .str (.pair (.int .i64) (.pair (.int .i64) (.int .i64)))))) (.pair (.list 51 (.pair .str (.pair .str (.int .i64)))) (.list 240 (.pair .str (.pair .str (.pair (.int .i64) (.pair (.int .i64) (.int .i64))))))))))) a0),.l (.v (.list 3 (.int .i64)) a1)]) rfl (All2.mk ⟨cs0,rfl,qcn K0⟩ (All2.mk ⟨rfl,K1⟩ trivial)) h).mono ?_
 rintro e W' ⟨he,bel⟩
 subst he
 exact ⟨_,rfl,_,_,_,[],_,[],hW',trodAll_mk1 (shut_bool Tryz.underlying4 _),(trodAll_cons_mk (Below.trod laidOut (by kernel_rfl) (of_decide_eq_true (by kernel_rfl)) k0 bel lt0) (trodAll_cons_mk (Below.trod laidOut (by kernel_rfl) (of_decide_eq_true (by kernel_rfl)) k1 bel lt1) trodAll_mk0)),rfl,bel.frame _,fun h=>by cases h⟩
end Go.Proofs.YtfobeapcmgjhbaaGreatDoor.netdispatchFlows
