/- Texts behind the law NetdispatchFlows, part 0 (no statement is proved here). -/
import Derived.Calls
import Derived.Below
import Derived.KernelRfl
import Derived.RowKit
import Derived.Lib.Bytealg
import Derived.Laws.Strings
import Derived.Laws.Small
import Derived.Laws.MakeOwn
import Derived.Laws.Append
import Derived.Laws.CopyRow
import Derived.RowKit3
import Derived.Great.BuildSlice
import Derived.Laws.StructEq
import Derived.Lib.AppendZeros
import Derived.MapKept
namespace Go.Proofs.YtfobeapcmgjhbaaGreatDoor.VE
open Go Go.RowKit
inductive Ty where
 |int (k:IntKind)
 |bool
 |str
 |list (e:TypeId) (t:Ty)
 |pair (a b:Ty)
 |unit
 |fn (cs:List Nat)
 deriving DecidableEq
abbrev Ty.T:Ty→Type
 |.int _=>Int
 |.bool=>Bool
 |.str=>ByteArray
 |.list _ t=>List t.T
 |.pair a b=>a.T×b.T
 |.unit=>Unit
 |.fn _=>Nat
def Ty.dflt:(t:Ty)→t.T
 |.int _=>(0:Int)
 |.bool=>false
 |.str=>ByteArray.empty
 |.list _ _=>[]
 |.pair a b=>(a.dflt,b.dflt)
 |.unit=>()
 |.fn _=>(0:Nat)
def Ty.sz:Ty→Nat
 |.pair a b=>a.sz+b.sz
 |.unit=>0
 |_=>1
inductive TV where
 |mk (t:Ty) (x:t.T)
 |nil
inductive Pend where
 |ok
 |sw (a i:Int)
 |ho (a:Int)
inductive Lf where
 |u
 |v (t:Ty) (x:t.T)
 |bl (b:Bool)
 |b (p:Prop) (i:Decidable p)
 |nb (p:Prop) (i:Decidable p)
 |q (n:Bool) (p:Prop) (i:Decidable p)
 |nils
 |np
 |o (d:Nat)
 |os (d off len:Nat)
 |p (d c:Nat)
 |e (t:Ty) (x:t.T) (c:Nat)
 |oe (d:Nat) (i:Int) (c:Nat)
 |fn0 (f:FuncId)
 |fn (f:FuncId) (d:Nat)
 |m (d:Nat)
 |oh (d v:Nat) (i:Int)
 |oi (d v:Nat) (i j:Int) (c:Nat)
 |ohs (d v:Nat) (i:Int) (off len:Nat)
 |sb (d n:Nat)
 |ap (d:Nat)
inductive Cm where
 |u
 |l (x:Lf)
 |a (xs:List Lf)
inductive SV where
 |c (x:Cm)
 |t (xs:List Cm)
abbrev mpT:Ty:=.list 0 (.pair (.int .i64) (.int .i64))
abbrev SV.u:SV:=.c .u
abbrev SV.lf (x:Lf):SV:=.c (.l x)
inductive Obj where
 |no
 |dead
 |box (e:TypeId) (cs:List Lf)
 |row (e:TypeId) (t:Ty) (xs:List t.T) (fz:Bool)
 |caps (cs:List Cm)
 |mp (es:List (Int×Int))
 |deep (v:Nat) (e e2:TypeId) (t:Ty) (xss:List (List t.T)) (pd:Pend)
 |fwd (d v:Nat) (i:Int) (t:Ty) (n:Nat)
structure St where
 t:Nat→SV
 o:Nat→Obj
def St.new:St:=⟨fun _=>.u,fun _=>.no⟩
def upd {α:Type} (f:Nat→α) (d:Nat) (v:α):Nat→α:=fun k=>bif Nat.beq k d then v else f k
def upds {α:Type} (f:Nat→α):List (Nat×α)→Nat→α
 |[]=>f
 |(d,v)::l=>upds (upd f d v) l
def wr (k:IntKind) (n:Int):Int:=match k with
 |.i64=>wrap64 n
 |k=>k.wrap n
def rd (t:Ty) (xs:List t.T) (i:Int):t.T:=xs.getD i.toNat t.dflt
def bt (s:ByteArray) (i:Int):Int:=if h:i.toNat<s.size then ((s[i.toNat]'h).toNat:Int) else 0
def shrI (k:IntKind) (a b:Int):Int:=a.fdiv (2 ^ (min b.toNat k.bits))
def shlI (k:IntKind) (a b:Int):Int:=wr k (a*2 ^ (min b.toNat k.bits))
def andI (k:IntKind) (a b:Int):Int:=wr k ((BitVec.ofInt k.bits a &&& BitVec.ofInt k.bits b).toNat:Int)
def mx (a b:Int):Int:=if a<b then b else a
def mn (a b:Int):Int:=if b<a then b else a
def mget:List (Int×Int)→Int→Option Int
 |[],_=>none
 |(k,v)::l,x=>if k=x then some v else mget l x
def mput:List (Int×Int)→Int→Int→List (Int×Int)
 |[],x,y=>[(x,y)]
 |(k,v)::l,x,y=>if k=x then (x,y)::l else (k,v)::mput l x y
def OkV (B:TypeId→Nat):(t:Ty)→t.T→Prop
 |.int k,x=>k.min≤(x:Int)∧(x:Int)≤k.max
 |.bool,_=>True
 |.str,x=>ByteArray.size x≤140737488351232
 |.list e t,xs=>List.length xs*B e≤140737488351232∧∀x∈(xs:List t.T),OkV B t x
 |.pair a b,x=>OkV B a x.1∧OkV B b x.2
 |.unit,_=>True
 |.fn _,_=>True
theorem OkV.i64 {B:TypeId→Nat} {x:Int} (h:OkV B (.int .i64) x):-9223372036854775808≤x∧x≤9223372036854775807:=h
def qdL:List Ty→Ty
 |[]=>.unit
 |[t]=>t
 |t::ts=>.pair t (qdL ts)
def tyOf (P:Program):Nat→TypeId→Option Ty
 |0,_=>none
 |n+1,t=>match P.underlying t with
  |some .bool=>some .bool
  |some (.int k)=>some (.int k)
  |some .string=>some .str
  |some (.slice e)=>(tyOf P n e).map (.list e)
  |some (.struct fs)=>(fs.toList.mapM fun f=>tyOf P n f.type).map qdL
  |some (.array k e)=>if k≤8 then (tyOf P n e).map fun t=>qdL (List.replicate k t) else none
  |_=>none
abbrev tyIn (P:Program) (t:TypeId):Option Ty:=tyOf P 12 t
def aggO (P:Program) (t:TypeId):Option Bool:=match P.underlying t with
 |some (.struct _)=>some true
 |some (.array _ _)=>some true
 |some _=>some false
 |none=>none
def qgn:Value→Option Lf
 |.bool b=>some (.bl b)
 |.int k n=>some (.v (.int k) n)
 |.string s=>some (.v .str s)
 |.slice none 0 0=>some .nils
 |.pointer none=>some .np
 |.func (.func f) ⟨[]⟩ ⟨[]⟩=>some (.fn0 f)
 |.agg _=>none
 |.tuple _=>none
 |_=>some .u
def qdx:List Value→Option (List Lf)
 |[]=>some []
 |v::l=>match qgn v,qdx l with
  |some x,some xs=>some (x::xs)
  |_,_=>none
def ofValue:Value→SV
 |.agg cs=>match qdx cs.toList with
  |some xs=>.c (.a xs)
  |none=>.u
 |v=>match qgn v with
  |some x=>.lf x
  |none=>.u
def ev (st:St):Operand→SV
 |.tmp t=>st.t t
 |.const v=>ofValue v
 |.global _=>.u
 |.func f=>.lf (.fn0 f)
def SV.cells:SV→Option (List Lf)
 |.c (.l x)=>some [x]
 |.c (.a xs)=>some xs
 |_=>none
def SV.leaf:SV→Option Lf
 |.c (.l x)=>some x
 |_=>none
def SV.cm:SV→Cm
 |.c x=>x
 |.t _=>.u
def cutSV (P:Program) (t:TypeId) (ls:List Lf) (c:Nat):Option SV:=
 let l:=(ls.drop c).take (P.cellsOf t)
 if l.length=P.cellsOf t then
  match aggO P t,l with
  |some true,l=>some (.c (.a l))
  |some false,[x]=>some (.c (.l x))
  |_,_=>none
 else none
def leaves:(t:Ty)→t.T→List Lf
 |.int k,x=>[.v (.int k) x]
 |.bool,x=>[.v .bool x]
 |.str,x=>[.v .str x]
 |.list e t,x=>[.v (.list e t) x]
 |.pair a b,x=>leaves a x.1++leaves b x.2
 |.unit,_=>[]
 |.fn cs,x=>[.v (.fn cs) x]
def pureL (O:Nat→Obj):Lf→Option (TV×List Nat)
 |.v t x=>some (.mk t x,[])
 |.bl b=>some (.mk .bool b,[])
 |.b p i=>some (.mk .bool (@decide p i),[])
 |.nb p i=>some (.mk .bool (!@decide p i),[])
 |.nils=>some (.nil,[])
 |.o d=>match O d with
  |.row e t xs _=>some (.mk (.list e t) xs,[d])
  |_=>none
 |.os d off len=>match O d with
  |.row e t xs _=>some (.mk (.list e t) ((xs.drop off).take len),[d])
  |_=>none
 |_=>none
def qb7 (O:Nat→Obj):List Lf→Option (List TV×List Nat)
 |[]=>some ([],[])
 |x::xs=>match pureL O x,qb7 O xs with
  |some (v,ds),some (vs,es)=>some (v::vs,ds++es)
  |_,_=>none
def ofTV (t:Ty):TV→Option t.T
 |.mk t' x=>if h:t'=t then some (h▸x) else none
 |.nil=>match t with
  |.list _ _=>some []
  |_=>none
def ofTVs:(t:Ty)→List TV→Option (t.T×List TV)
 |.unit,l=>some ((),l)
 |.pair a b,l=>match ofTVs a l with
  |some (x,l1)=>match ofTVs b l1 with
   |some (y,l2)=>some ((x,y),l2)
   |none=>none
  |none=>none
 |t,v::l=>match ofTV t v with
  |some x=>some (x,l)
  |none=>none
 |_,[]=>none
def packs (O:Nat→Obj) (t:Ty) (ls:List Lf):Option (t.T×List Nat):=match qb7 O ls with
 |some (vs,ds)=>match ofTVs t vs with
  |some (x,[])=>some (x,ds)
  |_=>none
 |none=>none
def pureT (O:Nat→Obj) (x:Lf):Option (TV×List Nat):=match x with
 |.o d=>match O d with
  |.deep _ e e2 t xss .ok=>some (.mk (.list e (.list e2 t)) xss,[d])
  |_=>pureL O (.o d)
 |x=>pureL O x
def qcA (O:Nat→Obj):List Lf→Option (List TV×List Nat)
 |[]=>some ([],[])
 |x::xs=>match pureT O x,qcA O xs with
  |some (v,ds),some (vs,es)=>some (v::vs,ds++es)
  |_,_=>none
def qeI (O:Nat→Obj) (t:Ty) (ls:List Lf):Option (t.T×List Nat):=match qcA O ls with
 |some (vs,ds)=>match ofTVs t vs with
  |some (x,[])=>some (x,ds)
  |_=>none
 |none=>none
def splice (ls:List Lf) (c:Nat) (new:List Lf):List Lf:=ls.take c++new++ls.drop (c+new.length)
def freeze (O:Nat→Obj):List Nat→Option (List (Nat×Obj))
 |[]=>some []
 |d::ds=>match O d,freeze O ds with
  |.row e t xs _,some l=>some ((d,.row e t xs true)::l)
  |_,_=>none
structure Chk where
 p:Prop
 i:Decidable p
def ck (p:Prop) [i:Decidable p]:Chk:=⟨p,i⟩
def chks {R:Type}:List Chk→Option R→Option R
 |[],k=>k
 |c::cs,k=>@ite _ c.p c.i (chks cs k) none
structure Eff where
 sv:SV
 rd:List Nat
 wr:List (Nat×Obj)
def splitB {R:Type}:Option Lf→(Bool→Option R)→Option R
 |some (.bl true),k=>k true
 |some (.bl false),k=>k false
 |some (.b p i),k=>@ite _ p i (k true) (k false)
 |some (.nb p i),k=>@ite _ p i (k false) (k true)
 |some (.v .bool x),k=>if (x:Bool)=true then k true else k false
 |_,_=>none
abbrev OE:=Option (List Chk×Eff)
def val (x:Lf):OE:=some ([],⟨.lf x,[],[]⟩)
def qcS:Option Lf→Option Bool
 |some (.v .bool x)=>some x
 |some (.bl b)=>some b
 |some (.b p i)=>some (@decide p i)
 |some (.nb p i)=>some (!@decide p i)
 |_=>none
def binB (op:BinOp) (x y:Option Bool):OE:=match op,x,y with
 |.eql,some a,some b=>val (.b (a=b) inferInstance)
 |.neq,some a,some b=>val (.nb (a=b) inferInstance)
 |_,_,_=>none
def binL (op:BinOp) (x y:Option Lf):OE:=match x,y with
 |some (.v (.int k) a),some (.v (.int k') b)=>
  match op with
  |.shr=>some ([ck ((0:Int)≤b)],⟨.lf (.v (.int k) (shrI k a b)),[],[]⟩)
  |.shl=>some ([ck ((0:Int)≤b)],⟨.lf (.v (.int k) (shlI k a b)),[],[]⟩)
  |op=>if k=k' then
   match op with
   |.and=>val (.v (.int k) (andI k a b))
   |.add=>val (.v (.int k) (wr k (a+b)))
   |.sub=>val (.v (.int k) (wr k (a - b)))
   |.mul=>val (.v (.int k) (wr k (a*b)))
   |.quo=>some ([ck (b≠0)],⟨.lf (.v (.int k) (wr k (Int.tdiv a b))),[],[]⟩)
   |.rem=>some ([ck (b≠0)],⟨.lf (.v (.int k) (Int.tmod a b)),[],[]⟩)
   |.eql=>val (.b (a=b) inferInstance)
   |.neq=>val (.nb (a=b) inferInstance)
   |.lss=>val (.b (a<b) inferInstance)
   |.leq=>val (.b (a≤b) inferInstance)
   |.gtr=>val (.b (b<a) inferInstance)
   |.geq=>val (.b (b≤a) inferInstance)
   |_=>none
  else none
 |some (.v .str a),some (.v .str b)=>
  match op with
  |.eql=>val (.b (a=b) inferInstance)
  |.neq=>val (.nb (a=b) inferInstance)
  |.add=>some ([ck (((a:ByteArray).size:Int)+((b:ByteArray).size:Int)≤9223372036854775807)],⟨.lf (.v .str ((a:ByteArray)++(b:ByteArray))),[],[]⟩)
  |_=>none
 |some (.v (.list _ _) xs),some .nils=>
  match op with
  |.eql=>val (.q false (List.length xs=0) inferInstance)
  |.neq=>val (.q true (List.length xs=0) inferInstance)
  |_=>none
 |some .nils,some .nils=>
  match op with
  |.eql=>val (.bl true)
  |.neq=>val (.bl false)
  |_=>none
 |x,y=>binB op (qcS x) (qcS y)
def binP (P:Program) (op:BinOp) (t:TypeId) (x y:Option Lf):OE:=match y with
 |some (.v (.int k) b)=>binL op x (some (.v (.int k) b))
 |some (.v .str b)=>binL op x (some (.v .str b))
 |some .nils=>match P.underlying t with
  |some (.slice _)=>binL op x (some .nils)
  |_=>none
 |y=>match P.underlying t with
  |some .bool=>binB op (qcS x) (qcS y)
  |_=>none
def eqF (P:Program) (f:Field) (x y:Lf):Option Chk:=match P.underlying f.type,x,y with
 |some (.int _),.v (.int k) a,.v (.int k') b=>if k=k' then some (ck ((a:Int)=b)) else none
 |some .string,.v .str a,.v .str b=>some (ck ((a:ByteArray)=b))
 |some .bool,x,y=>match qcS (some x),qcS (some y) with
  |some a,some b=>some (ck (a=b))
  |_,_=>none
 |_,_,_=>none
def eqLs (P:Program):List Field→List Lf→List Lf→Option Chk
 |[f],[x],[y]=>eqF P f x y
 |f::fs,x::xs,y::ys=>match eqF P f x y,eqLs P fs xs ys with
  |some c,some d=>some ⟨c.p∧d.p,@instDecidableAnd _ _ c.i d.i⟩
  |_,_=>none
 |_,_,_=>none
def qec (P:Program):Nat→List Field→Bool
 |_,[]=>true
 |i,f::fs=>(f.name != "_") && Nat.beq f.offset i && (match P.underlying f.type with
  |some .bool=>true
  |some (.int _)=>true
  |some .string=>true
  |_=>false) && qec P (i+1) fs
def binA (P:Program) (op:BinOp) (t:TypeId) (fs:List Field) (x y:SV):OE:=match x,y with
 |.c (.a xs),.c (.a ys)=>if qec P 0 fs=true∧P.stoodInHeld t=false then match eqLs P fs xs ys with
   |some c=>match op with
    |.eql=>val (.b c.p c.i)
    |.neq=>val (.nb c.p c.i)
    |_=>none
   |none=>none
  else none
 |_,_=>none
def notL:Lf→OE
 |.bl b=>val (.bl (!b))
 |.b p i=>val (.nb p i)
 |.nb p i=>val (.b p i)
 |.v .bool x=>val (.nb (x=true) inferInstance)
 |_=>none
def unL (op:UnOp) (x:Option Lf):OE:=match op,x with
 |.not,some x=>notL x
 |.neg,some (.v (.int k) a)=>val (.v (.int k) (wr k (0 - a)))
 |_,_=>none
def loadL (P:Program) (t:TypeId) (O:Nat→Obj) (a:Option Lf):OE:=match a with
 |some (.p d c)=>match O d with
  |.box _ cs=>(cutSV P t cs c).map fun s=>([],⟨s,[d],[]⟩)
  |_=>none
 |some (.e T x c)=>(cutSV P t (leaves T x) c).map fun s=>([],⟨s,[],[]⟩)
 |some (.oe d i c)=>match O d with
  |.row _ T xs _=>(cutSV P t (leaves T (VE.rd T xs i)) c).map fun s=>([],⟨s,[d],[]⟩)
  |.deep v _ _ _ _ .ok=>(cutSV P t [.oh d v i] c).map fun s=>([],⟨s,[d],[]⟩)
  |_=>none
 |some (.oi d v i j c)=>match O d with
  |.deep v' _ e2 T xss .ok=>if v=v' then (cutSV P t (leaves T (VE.rd T (VE.rd (.list e2 T) xss i) j)) c).map fun s=>([],⟨s,[d],[]⟩) else none
  |_=>none
 |_=>none
def takeL (P:Program) (t:TypeId) (O:Nat→Obj) (a:Option Lf) (x:SV):OE:=match a,x with
 |some (.oe d i 0),.c (.l (.o d2))=>match O d,O d2 with
  |.deep v e e2 T xss pd,.row _ T2 ys false=>if h:T2=T then
    if d≠d2∧P.cellsOf t=1∧(P.info? t).isSome=true then match pd with
     |.ok=>some ([],⟨.u,[d,d2],[(d2,.fwd d (v+1) i T2 ys.length),(d,.deep (v+1) e e2 T (xss.set i.toNat (h▸ys)) .ok)]⟩)
     |.ho a=>some ([ck (a=i)],⟨.u,[d,d2],[(d2,.fwd d (v+1) i T2 ys.length),(d,.deep (v+1) e e2 T (xss.set i.toNat (h▸ys)) .ok)]⟩)
     |.sw _ _=>none
    else none
   else none
  |_,_=>none
 |some (.oe d i 0),.c (.l (.oh d2 v2 j))=>match O d with
  |.deep v e e2 T xss pd=>if d=d2∧v=v2∧P.cellsOf t=1∧(P.info? t).isSome=true then match pd with
    |.ok=>some ([],⟨.u,[d],[(d,.deep v e e2 T xss (.sw i j))]⟩)
    |.sw a b=>some ([ck (a=j),ck (b=i)],⟨.u,[d],[(d,.deep (v+1) e e2 T ((xss.set a.toNat (VE.rd (.list e2 T) xss b)).set b.toNat (VE.rd (.list e2 T) xss a)) .ok)]⟩)
    |.ho _=>none
   else none
  |_=>none
 |some (.oe d i 0),.c (.l (.ohs d2 v2 j off len))=>match O d with
  |.deep v e e2 T xss .ok=>if d=d2∧v=v2∧P.cellsOf t=1∧(P.info? t).isSome=true then
    some ([ck (j=i)],⟨.u,[d],[(d,.deep (v+1) e e2 T (xss.set i.toNat (((VE.rd (.list e2 T) xss i:List T.T).drop off).take len)) .ok)]⟩)
   else none
  |_=>none
 |_,_=>none
def qc8 (P:Program) (t:TypeId) (O:Nat→Obj) (a:Option Lf) (x:SV):OE:=match x.cells with
 |none=>none
 |some ls=>if ls.length=P.cellsOf t∧(P.info? t).isSome=true then
   match a with
   |some (.p d c)=>match O d with
    |.box e cs=>if c+ls.length≤cs.length then some ([],⟨.u,[d],[(d,.box e (splice cs c ls))]⟩) else none
    |_=>none
   |some (.oe d i c)=>match O d with
    |.row e T xs false=>if c+ls.length≤T.sz then
      match packs O T (splice (leaves T (VE.rd T xs i)) c ls) with
      |some (y,ds)=>if ds.contains d then none else match freeze O ds with
       |some fz=>some ([],⟨.u,d::ds,fz++[(d,.row e T (xs.set i.toNat y) false)]⟩)
       |none=>none
      |none=>none
     else none
    |_=>none
   |some (.oi d v i j c)=>match O d with
    |.deep v' e e2 T xss .ok=>if v=v'∧c+ls.length≤T.sz∧T.sz≠0 then
      match packs O T (splice (leaves T (VE.rd T (VE.rd (.list e2 T) xss i) j)) c ls) with
      |some (y,ds)=>if ds.contains d then none else match freeze O ds with
       |some fz=>some ([],⟨.u,d::ds,fz++[(d,.deep v' e e2 T (xss.set i.toNat ((VE.rd (.list e2 T) xss i).set j.toNat y)) .ok)]⟩)
       |none=>none
      |none=>none
     else none
    |_=>none
   |_=>none
  else none
def lenL (P:Program) (t:TypeId) (O:Nat→Obj) (x:Option Lf):OE:=match P.underlying t with
 |some (.slice _)=>match x with
  |some (.v (.list _ _) xs)=>val (.v (.int .i64) (xs.length:Int))
  |some .nils=>val (.v (.int .i64) 0)
  |some (.o d)=>match O d with
   |.row _ _ xs _=>some ([],⟨.lf (.v (.int .i64) (xs.length:Int)),[d],[]⟩)
   |.deep _ _ _ _ xss _=>some ([],⟨.lf (.v (.int .i64) (xss.length:Int)),[d],[]⟩)
   |_=>none
  |some (.os d _ len)=>match O d with
   |.row _ _ _ _=>some ([],⟨.lf (.v (.int .i64) (len:Int)),[d],[]⟩)
   |.deep _ _ _ _ _ _=>some ([],⟨.lf (.v (.int .i64) (len:Int)),[d],[]⟩)
   |_=>none
  |some (.oh d v i)=>match O d with
   |.deep v' _ e2 T xss .ok=>if v=v' then some ([],⟨.lf (.v (.int .i64) ((VE.rd (.list e2 T) xss i:List T.T).length:Int)),[d],[]⟩) else none
   |_=>none
  |some (.ohs d v _ _ len)=>match O d with
   |.deep v' _ _ _ _ .ok=>if v=v' then some ([],⟨.lf (.v (.int .i64) (len:Int)),[d],[]⟩) else none
   |_=>none
  |_=>none
 |some .string=>match x with
  |some (.v .str s)=>val (.v (.int .i64) ((s:ByteArray).size:Int))
  |_=>none
 |_=>none
def capL (P:Program) (t:TypeId) (x:Option Lf):OE:=match P.underlying t with
 |some (.slice _)=>match x with
  |some .nils=>val (.v (.int .i64) 0)
  |_=>none
 |_=>none
def qch (n:Nat) (O:Nat→Obj) (x ix:Option Lf):OE:=match ix with
 |some (.v (.int _) i)=>match x with
  |some (.v (.list _ t) xs)=>if t.sz=n∧n≠0 then some ([ck ((0:Int)≤i),ck ((i:Int)<(xs.length:Int))],⟨.lf (.e t (VE.rd t xs i) 0),[],[]⟩) else none
  |some (.o d)=>match O d with
   |.row _ t xs _=>if t.sz=n∧n≠0 then some ([ck ((0:Int)≤i),ck ((i:Int)<(xs.length:Int))],⟨.lf (.oe d i 0),[d],[]⟩) else none
   |.deep _ _ _ _ xss _=>if 1=n then some ([ck ((0:Int)≤i),ck ((i:Int)<(xss.length:Int))],⟨.lf (.oe d i 0),[d],[]⟩) else none
   |_=>none
  |some (.oh d v i')=>match O d with
   |.deep v' _ e2 t xss .ok=>if v=v'∧t.sz=n∧n≠0 then some ([ck ((0:Int)≤i),ck ((i:Int)<((VE.rd (.list e2 t) xss i':List t.T).length:Int))],⟨.lf (.oi d v i' i 0),[d],[]⟩) else none
   |_=>none
  |some (.ohs d v i' off len)=>match O d with
   |.deep v' _ _ t _ .ok=>if v=v'∧t.sz=n∧n≠0 then some ([ck ((0:Int)≤i),ck ((i:Int)<(len:Int))],⟨.lf (.oi d v i' ((off:Int)+i) 0),[d],[]⟩) else none
   |_=>none
  |some (.os d off len)=>match O d with
   |.row _ t _ _=>if t.sz=n∧n≠0 then some ([ck ((0:Int)≤i),ck ((i:Int)<(len:Int))],⟨.lf (.oe d ((off:Int)+i) 0),[d],[]⟩) else none
   |.deep _ _ _ _ _ _=>if 1=n then some ([ck ((0:Int)≤i),ck ((i:Int)<(len:Int))],⟨.lf (.oe d ((off:Int)+i) 0),[d],[]⟩) else none
   |_=>none
  |_=>none
 |_=>none
def qe1 (P:Program) (s:TypeId) (f:Nat):Option (Nat×TypeId):=match P.underlying s with
 |some (.struct fs)=>match fs[f]? with
  |some g=>if P.cellsOf g.type=0 then none else some (g.offset,g.type)
  |none=>none
 |_=>none
def qcx (P:Program) (s:TypeId) (f:Nat) (O:Nat→Obj) (x:Option Lf):OE:=match qe1 P s f with
 |some (n,_)=>match x with
  |some (.p d c)=>match O d with
   |.box _ _=>some ([],⟨.lf (.p d (c+n)),[d],[]⟩)
   |_=>none
  |some (.e T y c)=>val (.e T y (c+n))
  |some (.oe d i c)=>match O d with
   |.row _ _ _ _=>some ([],⟨.lf (.oe d i (c+n)),[d],[]⟩)
   |_=>none
  |some (.oi d v i j c)=>match O d with
   |.deep v' _ _ _ _ _=>if v=v' then some ([],⟨.lf (.oi d v i j (c+n)),[d],[]⟩) else none
   |_=>none
  |_=>none
 |none=>none
def nilL (O:Nat→Obj) (x:Option Lf):OE:=match x with
 |some (.p d c)=>match O d with
  |.box _ _=>some ([],⟨.lf (.p d c),[d],[]⟩)
  |_=>none
 |some (.e T y c)=>val (.e T y c)
 |some (.oe d i c)=>match O d with
  |.row _ _ _ _=>some ([],⟨.lf (.oe d i c),[d],[]⟩)
  |_=>none
 |some (.fn0 f)=>val (.fn0 f)
 |_=>none
def fieldL (P:Program) (s:TypeId) (f:Nat) (x:SV):OE:=match x with
 |.c (.a ls)=>match qe1 P s f with
  |some (n,t)=>(cutSV P t ls n).map fun s=>([],⟨s,[],[]⟩)
  |none=>none
 |_=>none
def fillL (place:Nat→Option (Nat×Nat)) (cells:List Lf):List (Nat×List Lf)→Option (List Lf)
 |[]=>some cells
 |(i,v)::rest=>match place i with
  |none=>none
  |some (off,size)=>if v.length=size∧off+size≤cells.length then fillL place (splice cells off v) rest else none
def qd7 (st:St):List (Nat×Operand)→Option (List (Nat×List Lf))
 |[]=>some []
 |(i,x)::l=>match (ev st x).cells,qd7 st l with
  |some c,some r=>some ((i,c)::r)
  |_,_=>none
def zeroL (P:Program) (t:TypeId):Option (List Lf):=match P.info? t with
 |some i=>match i.zero with
  |some z=>(ofValue z).cells
  |none=>none
 |none=>none
def buildL (P:Program) (t:TypeId) (ps:List (Nat×List Lf)):OE:=match zeroL P t,P.underlying t with
 |some z,some (.struct fs)=>if fs.toList.all (fun f=>(P.info? f.type).isSome)=true then match fillL (fun i=>(fs[i]?).map fun f=>(f.offset,P.cellsOf f.type)) z ps with
   |some c=>some ([],⟨.c (.a c),[],[]⟩)
   |none=>none
  else none
 |_,_=>none
def buildAL (P:Program) (e:TypeId) (z:List Lf) (ps:List (Nat×List Lf)):OE:=if (P.info? e).isSome=true then match fillL (fun i=>some (i*P.cellsOf e,P.cellsOf e)) z ps with
  |some c=>some ([],⟨.c (.a c),[],[]⟩)
  |none=>none
 else none
def buildX (P:Program) (t:TypeId) (ps:List (Nat×List Lf)):OE:=match P.underlying t,zeroL P t with
 |some (.array _ e),some z=>buildAL P e z ps
 |_,_=>buildL P t ps
def chunks (O:Nat→Obj) (t:Ty) (sz:Nat):Nat→List Lf→Option (List t.T×List Nat)
 |0,_=>some ([],[])
 |n+1,ls=>match packs O t (ls.take sz),chunks O t sz n (ls.drop sz) with
  |some (x,ds),some (xs,es)=>some (x::xs,ds++es)
  |_,_=>none
def reps {α:Type} (n:Nat) (l:List α):List α:=match n with
 |0=>[]
 |n+1=>l++reps n l
def fnsOf:List Lf→Option (List Nat)
 |[]=>some []
 |.fn0 f::l=>match fnsOf l with
  |some fs=>some (f::fs)
  |none=>none
 |_=>none
def oneRow (O:Nat→Obj) (n:Nat):List (Nat×List Lf)→Option Nat
 |[(0,[.o d])]=>match n,O d with
  |1,.row _ _ _ false=>some d
  |_,_=>none
 |_=>none
def qdA (P:Program) (t:TypeId) (d:Nat) (O:Nat→Obj) (d2:Nat):OE:=match P.underlying t with
 |some (.slice e)=>match zeroL P e,O d with
  |some [.nils],.no=>if P.cellsOf e=1∧d≠d2 then some ([],⟨.lf (.sb d 1),[d,d2],[(d,.box e [.o d2])]⟩) else none
  |_,_=>none
 |_=>none
def qbQ (P:Program) (t:TypeId) (n:Nat) (d:Nat) (O:Nat→Obj) (ps:List (Nat×List Lf)):OE:=match P.underlying t with
 |some (.slice e)=>match tyIn P e,zeroL P e,O d with
  |some T,some z,.no=>if z.length=P.cellsOf e∧T.sz=z.length∧n*z.length≤2 ^ 24 then
    match fillL (fun i=>some (i*z.length,z.length)) (reps n z) ps with
    |some c=>match chunks O T z.length n c with
     |some (xs,ds)=>if ds.contains d then none else match freeze O ds with
      |some fz=>some ([],⟨.lf (.o d),d::ds,fz++[(d,.row e T xs false)]⟩)
      |none=>none
     |none=>none
    |none=>none
   else none
  |none,some z,.no=>match fillL (fun i=>some (i*z.length,z.length)) (reps n z) ps with
   |some c=>match fnsOf c with
    |some fs=>if z.length=P.cellsOf e∧z.length=1∧n=fs.length∧n*z.length≤2 ^ 24 then some ([],⟨.lf (.o d),[d],[(d,.row e (.fn fs) (List.range n) false)]⟩) else none
    |none=>none
   |none=>none
  |_,_,_=>none
 |_=>none
def madeRow (e:TypeId):(T:Ty)→Nat→T.T→List Lf→Obj
 |.list e2 t,n,[],[.nils]=>.deep 0 e e2 t (List.replicate n []) .ok
 |T,n,y,_=>.row e T (List.replicate n y) false
def qct (P:Program) (t:TypeId) (d:Nat) (O:Nat→Obj) (same:Bool) (l c:Option Lf):OE:=match P.underlying t,l,c with
 |some (.slice e),some (.v (.int .i64) n),some (.v (.int .i64) m)=>match tyIn P e,zeroL P e,O d with
  |some T,some z,.no=>match packs O T z with
   |some (y,[])=>if z.length=P.cellsOf e∧T.sz=z.length then
     some ((if same then [ck ((0:Int)≤n)] else [ck ((0:Int)≤n),ck ((n:Int)≤m)])++[ck ((m:Int)*(P.bytesOf e:Int)≤140737488355328),ck ((m:Int)≤140737488355328)],
      ⟨.lf (.o d),[d],[(d,madeRow e T (Int.toNat n) y z)]⟩)
    else none
   |_=>none
  |_,_,_=>none
 |_,_,_=>none
def qdD (d:Nat) (O:Nat→Obj) (e:TypeId) (ls:List Lf):OE:=match O d with
 |.no=>some ([],⟨.lf (.p d 0),[d],[(d,.box e ls)]⟩)
 |_=>none
def base (O:Nat→Obj) (T:Ty) (x:Option Lf):Option (Option Nat×List T.T):=match x with
 |some .nils=>some (none,[])
 |some (.o d)=>match O d with
  |.row _ T' xs false=>if h:T'=T then some (some d,h▸xs) else none
  |_=>none
 |some (.os d off len)=>match O d with
  |.row _ T' xs false=>if h:T'=T then some (some d,h▸((xs.drop off).take len)) else none
  |_=>none
 |_=>none
def qdn (P:Program) (t:TypeId) (d:Nat) (O:Nat→Obj) (x y:Option Lf):OE:=match P.underlying t with
 |some (.slice e)=>match tyIn P e,O d,zeroL P e with
  |some T,.no,some z=>match base O T x,pureL O (y.getD .u) with
   |some (b,xs),some (v,ds)=>match ofTV (.list e T) v with
    |some ys=>if P.bytesOf e≠0∧T.sz=P.cellsOf e∧T.sz=z.length∧T.sz≠0∧b≠some d∧ds.all (fun k=>b≠some k∧k≠d) then
      some ([ck ((xs.length+(ys:List T.T).length)*P.bytesOf e≤140737488355328)],
       ⟨.lf (.o d),d::(b.toList++ds),b.toList.map (fun k=>(k,Obj.dead))++[(d,.row e T (xs++ys) false)]⟩)
     else none
    |none=>none
   |_,_=>none
  |_,_,_=>none
 |_=>none
def isNils:Option (List Lf)→Bool
 |some [.nils]=>true
 |_=>false
def qcq (P:Program) (t:TypeId) (d:Nat) (O:Nat→Obj) (x y:Option Lf):OE:=
 let go (d0:Nat) (part:Option Nat) (y:Option Lf):OE:=match P.underlying t with
  |some (.slice e)=>match O d,O d0 with
   |.no,.deep _ e' e2 T xss .ok=>match y with
    |some (.sb d1 1)=>match O d1 with
     |.box _ [.o d2]=>match O d2 with
      |.row _ T2 ys false=>if h:T2=T then
        if d≠d0∧d≠d1∧d≠d2∧d0≠d1∧d0≠d2∧d1≠d2∧e=e'∧P.cellsOf e=1∧P.bytesOf e≠0∧isNils (zeroL P e)=true then
         some ([ck (((match part with|none=>xss|some n=>xss.take n).length+1)*P.bytesOf e≤140737488355328)],
          ⟨.lf (.o d),[d,d0,d1,d2],[(d0,.dead),(d1,.dead),(d2,.fwd d 0 ((match part with|none=>xss|some n=>xss.take n).length:Int) T2 ys.length),(d,.deep 0 e e2 T ((match part with|none=>xss|some n=>xss.take n)++[(h▸ys:List T.T)]) .ok)]⟩)
        else none
       else none
      |_=>none
     |_=>none
    |_=>none
   |_,_=>none
  |_=>none
 match x with
 |some (.o d0)=>go d0 none y
 |some (.os d0 0 n)=>go d0 (some n) y
 |_=>none
def qcp (P:Program) (t:TypeId) (d:Nat) (O:Nat→Obj) (x y:Option Lf):OE:=match P.underlying t,x with
 |some (.slice e),some (.oh d0 v i)=>match tyIn P e,O d,O d0,zeroL P e with
  |some T,.no,.deep v' e0 e2 T0 xss .ok,some z=>if h:T0=T then match pureL O (y.getD .u) with
    |some (tv,ds)=>match ofTV (.list e T) tv with
     |some ys=>if v=v'∧P.bytesOf e≠0∧T.sz=P.cellsOf e∧T.sz=z.length∧T.sz≠0∧d≠d0∧ds.all (fun k=>k≠d0∧k≠d) then
       some ([ck (((VE.rd (.list e2 T0) xss i:List T0.T).length+(ys:List T.T).length)*P.bytesOf e≤140737488355328)],
        ⟨.lf (.o d),d::d0::ds,[(d0,.deep (v+1) e0 e2 T0 xss (.ho i)),(d,.row e T ((h▸(VE.rd (.list e2 T0) xss i:List T0.T):List T.T)++ys) false)]⟩)
      else none
     |none=>none
    |none=>none
   else none
  |_,_,_,_=>none
 |_,_=>none
def qeA (P:Program) (t t':TypeId) (d:Nat) (O:Nat→Obj) (x y:Option Lf):OE:=match P.underlying t,P.underlying t',x,y with
 |some (.slice e),some (.int _),some .nils,some (.v (.int _) n)=>match tyIn P e,zeroL P e,O d with
  |some T,some z,.no=>match packs O T z with
   |some (v,[])=>if z.length=P.cellsOf e∧T.sz=z.length∧T.sz≠0 then
     some ([ck ((0:Int)≤n),ck ((n:Int)*(P.bytesOf e:Int)≤140737488355328),ck ((n:Int)≤140737488355328)],
      ⟨.lf (.o d),[d],[(d,.row e T (List.replicate (Int.toNat n) v) false)]⟩)
    else none
   |_=>none
  |_,_,_=>none
 |_,_,_,_=>none
def bnd:Option Lf→Option Int
 |some (.v (.int _) i)=>some i
 |_=>none
def optB (st:St):Option Operand→Option (Option Int)
 |none=>some none
 |some x=>match bnd (ev st x).leaf with
  |some i=>some (some i)
  |none=>none
def qcl (n:Int) (lo hi:Option Int):List Chk:=
 (match hi with|some h=>[ck (h≤n)]|none=>[])++(match lo with|some l=>[ck (0≤l),ck (l≤hi.getD n)]|none=>match hi with|some h=>[ck (0≤h)]|none=>[])
def subL {α:Type} (xs:List α) (lo hi:Option Int):List α:=match lo,hi with
 |none,none=>xs
 |some l,none=>xs.drop l.toNat
 |none,some h=>xs.take h.toNat
 |some l,some h=>(xs.take h.toNat).drop l.toNat
def qfj (P:Program) (t:TypeId) (O:Nat→Obj) (x:Option Lf) (lo hi:Option Int):OE:=match P.underlying t with
 |some .string=>match x with
  |some (.v .str s)=>some (qcl ((s:ByteArray).size:Int) lo hi,⟨.lf (.v .str (ByteArray.extract s (lo.getD 0).toNat (hi.getD ((s:ByteArray).size:Int)).toNat)),[],[]⟩)
  |_=>none
 |some (.slice el)=>match x with
  |some .nils=>if P.cellsOf el≠0 then some (qcl 0 lo hi,⟨.lf .nils,[],[]⟩) else none
  |some (.v (.list e T) xs)=>if T.sz=P.cellsOf el∧T.sz≠0 then some (qcl (xs.length:Int) lo hi,⟨.lf (.v (.list e T) (subL xs lo hi)),[],[]⟩) else none
  |some (.o d)=>match O d with
   |.row _ T xs _=>if T.sz=P.cellsOf el∧T.sz≠0 then match lo,hi with
     |none,none=>some ([],⟨.lf (.o d),[d],[]⟩)
     |_,_=>some (qcl (xs.length:Int) lo hi,⟨.lf (.os d (lo.getD 0).toNat ((hi.getD (xs.length:Int)).toNat - (lo.getD 0).toNat)),[d],[]⟩)
    else none
   |.deep _ _ _ _ xss .ok=>if 1=P.cellsOf el then match lo,hi with
     |none,none=>some ([],⟨.lf (.o d),[d],[]⟩)
     |_,_=>some (qcl (xss.length:Int) lo hi,⟨.lf (.os d (lo.getD 0).toNat ((hi.getD (xss.length:Int)).toNat - (lo.getD 0).toNat)),[d],[]⟩)
    else none
   |_=>none
  |some (.oh d v i)=>match O d with
   |.deep v' _ e2 T xss .ok=>if v=v'∧T.sz=P.cellsOf el∧T.sz≠0 then
     some (qcl ((VE.rd (.list e2 T) xss i:List T.T).length:Int) lo hi,⟨.lf (.ohs d v i (lo.getD 0).toNat ((hi.getD ((VE.rd (.list e2 T) xss i:List T.T).length:Int)).toNat - (lo.getD 0).toNat)),[d],[]⟩)
    else none
   |_=>none
  |some (.os d off len)=>match O d with
   |.row _ T _ _=>if T.sz=P.cellsOf el∧T.sz≠0 then
     some (qcl (len:Int) lo hi,⟨.lf (.os d (off+(lo.getD 0).toNat) ((hi.getD (len:Int)).toNat - (lo.getD 0).toNat)),[d],[]⟩)
    else none
   |_=>none
  |_=>none
 |_=>none
def indexL (x ix:Option Lf):OE:=match x,ix with
 |some (.v .str s),some (.v (.int _) i)=>some ([ck ((0:Int)≤i),ck ((i:Int)<((s:ByteArray).size:Int))],⟨.lf (.v (.int .u8) (bt s i)),[],[]⟩)
 |_,_=>none
def convL (P:Program) (src dst:TypeId) (x:Option Lf):OE:=match P.underlying src,P.underlying dst,x with
 |some _,some (.int k),some (.v (.int _) n)=>val (.v (.int k) (wr k n))
 |some .string,some .string,some (.v .str s)=>val (.v .str s)
 |_,_,_=>none
def qaD (s:ByteArray):List Int:=s.data.toList.map fun b=>(b.toNat:Int)
def ofBytes (l:List Int):ByteArray:=⟨(l.map fun n=>UInt8.ofNat n.toNat).toArray⟩
def isU8 (P:Program) (e:TypeId):Bool:=match P.underlying e with
 |some (.int .u8)=>true
 |_=>false
def toBytesL (e:Nat) (x:Option Lf):OE:=match x with
 |some (.v .str s)=>some ([],⟨.lf (.v (.list e (.int .u8)) (qaD s)),[],[]⟩)
 |_=>none
def toStrL (O:Nat→Obj) (x:Option Lf):OE:=match x with
 |some .nils=>some ([],⟨.lf (.v .str ByteArray.empty),[],[]⟩)
 |some (.v (.list _ (.int .u8)) xs)=>some ([],⟨.lf (.v .str (ofBytes xs)),[],[]⟩)
 |some (.o d)=>match O d with
  |.row _ (.int .u8) xs _=>some ([],⟨.lf (.v .str (ofBytes xs)),[d],[]⟩)
  |_=>none
 |_=>none
def convX (P:Program) (O:Nat→Obj) (src t:TypeId) (x:Option Lf):OE:=match P.underlying src,P.underlying t with
 |some .string,some (.slice e)=>if isU8 P e=true then toBytesL e x else none
 |some (.slice e),some .string=>if isU8 P e=true then toStrL O x else none
 |_,_=>convL P src t x
def qgu (P:Program) (d:Nat) (O:Nat→Obj) (t:TypeId) (z:List Lf):OE:=match P.underlying t with
 |some (.array n e)=>match tyIn P e,O d with
  |some T,.no=>if 0<n∧T.sz≠0∧z.length=n*T.sz then match chunks O T T.sz n z with
    |some (xs,[])=>some ([],⟨.lf (.ap d),[d],[(d,.row e T xs false)]⟩)
    |_=>none
   else none
  |_,_=>none
 |_=>qdD d O t z
def qcO (n sz:Nat) (O:Nat→Obj) (x ix:Option Lf):OE:=match ix,x with
 |some (.v (.int _) i),some (.ap d)=>match O d with
  |.row _ t xs _=>if t.sz=sz∧sz≠0 then some ([ck ((0:Int)≤i),ck ((i:Int)<(n:Int)),ck ((i:Int)<(xs.length:Int))],⟨.lf (.oe d i 0),[d],[]⟩) else none
  |_=>none
 |_,_=>none
def qcN (P:Program) (n:Nat) (el:TypeId) (O:Nat→Obj) (x:SV) (ix:Option Lf):OE:=match x,ix with
 |.c (.a ls),some (.v (.int _) i)=>match tyIn P el with
  |some T=>if T.sz=P.cellsOf el∧T.sz≠0∧ls.length=n*T.sz then match chunks O T T.sz n ls with
    |some (xs,[])=>(cutSV P el (leaves T (VE.rd T xs i)) 0).map fun s=>([ck ((0:Int)≤i),ck ((i:Int)<(n:Int))],⟨s,[],[]⟩)
    |_=>none
   else none
  |none=>none
 |_,_=>none
def qbW (P:Program) (t:TypeId) (O:Nat→Obj) (a:Option Lf) (x:SV):OE:=match a,x.cells,P.underlying t with
 |some (.ap d),some ls,some (.array n _)=>match O d with
  |.row e T xs false=>if T.sz≠0∧ls.length=P.cellsOf t∧ls.length=n*T.sz∧(P.info? t).isSome=true then match chunks O T T.sz n ls with
    |some (ys,ds)=>if ds.contains d then none else match freeze O ds with
     |some fz=>some ([ck (xs.length=n)],⟨.u,d::ds,fz++[(d,.row e T ys false)]⟩)
     |none=>none
    |none=>none
   else none
  |_=>none
 |_,_,_=>none
def dstOf (O:Nat→Obj) (T:Ty) (x:Option Lf):Option (Nat×TypeId×List T.T×Nat×Nat):=match x with
 |some (.o d)=>match O d with
  |.row e T' xs false=>if h:T'=T then some (d,e,h▸xs,0,xs.length) else none
  |_=>none
 |some (.os d off len)=>match O d with
  |.row e T' xs false=>if h:T'=T then some (d,e,h▸xs,off,len) else none
  |_=>none
 |_=>none
def copyL (P:Program) (t:TypeId) (O:Nat→Obj) (x y:Option Lf):OE:=match P.underlying t with
 |some (.slice el)=>match tyIn P el with
  |some T=>match dstOf O T x,pureL O (y.getD .u) with
   |some (d,e,xs,off,len),some (v,ds)=>match ofTV (.list el T) v with
    |some ys=>if T.sz=P.cellsOf el∧T.sz≠0 then
      some ([],⟨.lf (.v (.int .i64) ((min len (ys:List T.T).length:Nat):Int)),d::ds,[(d,.row e T (xs.take off++(ys:List T.T).take (min len (ys:List T.T).length)++xs.drop (off+min len (ys:List T.T).length)) false)]⟩)
     else none
    |none=>none
   |_,_=>none
  |none=>none
 |_=>none
def qcK (n sz:Nat) (O:Nat→Obj) (x:Option Lf) (lo hi:Option Int):OE:=match x,lo,hi with
 |some (.ap d),none,none=>match O d with
  |.row _ t xs _=>if t.sz=sz∧sz≠0 then some ([ck (xs.length=n)],⟨.lf (.o d),[d],[]⟩) else none
  |_=>none
 |_,_,_=>none
def idxB (s:ByteArray) (c:Int):Int:=Lib.indexByte s.data.toList c.toNat.toUInt8
def externL (P:Program) (f:FuncId) (xs:List (Option Lf)):OE:=match P.funcs[f]? with
 |some fn=>if (fn.name== "internal/bytealg.IndexByteString")=true∧fn.body.isNone=true∧(Extern.findNext fn).isNone=true then match xs with
   |[some (.v .str s),some (.v (.int .u8) c)]=>some ([],⟨.lf (.v (.int .i64) (idxB s c)),[],[]⟩)
   |_=>none
  else none
 |none=>none
def mapOf (P:Program) (t:TypeId):Bool:=match P.underlying t with
 |some (.map kt et)=>match P.underlying kt with
  |some (.int .i64)=>match P.info? et with
   |some i=>match i.zero with
    |some (.int .i64 z)=>decide (z=0)
    |_=>false
   |none=>false
  |_=>false
 |_=>false
def qdw (d:Nat) (O:Nat→Obj):OE:=match O d with
 |.no=>some ([],⟨.lf (.m d),[d],[(d,.mp [])]⟩)
 |_=>none
def qer (P:Program) (t:TypeId) (O:Nat→Obj) (x ix:Option Lf):OE:=match mapOf P t,x,ix with
 |true,some (.m d),some (.v (.int .i64) k)=>match O d with
  |.mp es=>some ([],⟨.t [.l (.v (.int .i64) ((mget es k).getD 0)),.l (.v .bool (mget es k).isSome)],[d],[]⟩)
  |_=>none
 |_,_,_=>none
def qcs (P:Program) (t:TypeId) (O:Nat→Obj) (x k v:Option Lf):OE:=match mapOf P t,x,k,v with
 |true,some (.m d),some (.v (.int .i64) k),some (.v (.int .i64) v)=>match O d with
  |.mp es=>some ([],⟨.u,[d],[(d,.mp (mput es k v))]⟩)
  |_=>none
 |_,_,_,_=>none
def foldL (f:Int→Int→Int):Option Lf→List (Option Lf)→OE
 |some x,[]=>val x
 |some (.v (.int k) a),some (.v (.int k') b)::l=>if k=k' then foldL f (some (.v (.int k) (f a b))) l else none
 |_,_=>none
inductive LSh where
 |val (t:Ty)
 |row (d:Nat)
 |ptr (d c:Nat)
 |fnc (f:FuncId) (d:Nat)
 |fn0 (f:FuncId)
 |np
 |nils
 |u
 |mp (d:Nat)
 |ap (d:Nat)
 |sub (d:Nat)
 |ref (t:Ty)
inductive CSh where
 |u
 |l (s:LSh)
 |a (ss:List LSh)
 |av (t:Ty)
inductive OSh where
 |row (e:TypeId) (t:Ty)
 |box (e:TypeId) (ss:List LSh)
 |caps (cs:List CSh)
 |gone
 |mp
 |deep (e e2:TypeId) (t:Ty)
structure Cut where
 slots:List (Nat×CSh)
 objs:List (Nat×OSh)
def LSh.tys:LSh→List Ty
 |.val t=>[t]
 |.sub _=>[.int .i64]
 |.ref t=>[t]
 |_=>[]
def LSh.qe8:List LSh→List Ty
 |[]=>[]
 |s::ss=>s.tys++qe8 ss
def CSh.tys:CSh→List Ty
 |.u=>[]
 |.l s=>s.tys
 |.a ss=>LSh.qe8 ss
 |.av t=>[t]
def CSh.qe8:List CSh→List Ty
 |[]=>[]
 |s::ss=>s.tys++qe8 ss
def OSh.tys:OSh→List Ty
 |.row e t=>[.list e t]
 |.box _ ss=>LSh.qe8 ss
 |.caps cs=>CSh.qe8 cs
 |.gone=>[]
 |.mp=>[mpT]
 |.deep e e2 t=>[.list e (.list e2 t)]
def Cut.tys (c:Cut):List Ty:=CSh.qe8 (c.slots.map (·.2))++c.objs.flatMap (·.2.tys)
abbrev prods:List Ty→Type
 |[]=>Unit
 |[t]=>t.T
 |t::t'::ts=>t.T×prods (t'::ts)
def ofProds:(ts:List Ty)→prods ts→List TV
 |[],_=>[]
 |[t],x=>[.mk t x]
 |t::t'::ts,x=>.mk t x.1::ofProds (t'::ts) x.2
def qfd:(ts:List Ty)→List TV→Option (prods ts)
 |[],[]=>some ()
 |[t],[v]=>ofTV t v
 |t::t'::ts,v::l=>match ofTV t v,qfd (t'::ts) l with
  |some x,some y=>some (x,y)
  |_,_=>none
 |_,_=>none
structure Con where
 cin:Cut
 cout:Cut
 sem:prods cin.tys→Option (prods cout.tys)
 kx:List Nat
structure Gr where
 ren:List (Nat×Option Nat)
 fz:List Nat
 out:List TV
def look {α:Type}:List (Nat×α)→Nat→Option α
 |[],_=>none
 |(k,v)::l,d=>bif Nat.beq k d then some v else look l d
def Gr.bind (g:Gr) (d:Nat) (d':Option Nat):Option Gr:=match look g.ren d with
 |none=>some {g with ren:=(d,d')::g.ren}
 |some x=>if x=d' then some g else none
def grabL (O:Nat→Obj) (g:Gr) (s:LSh) (x:Lf):Option Gr:=match s,x with
 |.val _,x=>match pureL O x with
  |some (v,ds)=>some {g with fz:=ds++g.fz,out:=v::g.out}
  |none=>none
 |.row d,.o d'=>g.bind d (some d')
 |.row d,.nils=>g.bind d none
 |.ptr d c,.p d' c'=>if c=c' then g.bind d (some d') else none
 |.fnc f d,.fn f' d'=>if f=f' then g.bind d (some d') else none
 |.fn0 f,.fn0 f'=>if f=f' then some g else none
 |.np,.np=>some g
 |.nils,.nils=>some g
 |.u,_=>some g
 |.mp d,.m d'=>g.bind d (some d')
 |.ap d,.ap d'=>g.bind d (some d')
 |.sub d,.oh d' v i=>match O d' with
  |.deep v' _ _ _ _ .ok=>if v=v' then (g.bind d (some d')).map fun g=>{g with out:=.mk (.int .i64) i::g.out} else none
  |_=>none
 |.ref t,.p d 0=>match O d with
  |.box _ cs=>match qeI O t cs with
   |some (y,ds)=>some {g with fz:=d::(ds++g.fz),out:=.mk t y::g.out}
   |none=>none
  |_=>none
 |.ref t,.e t' x 0=>if t'=t then some {g with out:=.mk t' x::g.out} else none
 |_,_=>none
def qdG (O:Nat→Obj) (g:Gr):List LSh→List Lf→Option Gr
 |[],[]=>some g
 |s::ss,x::xs=>match grabL O g s x with
  |some g'=>qdG O g' ss xs
  |none=>none
 |_,_=>none
def grabC (O:Nat→Obj) (g:Gr) (s:CSh) (x:Cm):Option Gr:=match s,x with
 |.l s,.l x=>grabL O g s x
 |.a ss,.a xs=>qdG O g ss xs
 |.av t,.a xs=>match packs O t xs with
  |some (y,ds)=>some {g with fz:=ds++g.fz,out:=.mk t y::g.out}
  |none=>none
 |.u,_=>some g
 |_,_=>none
def qeM (O:Nat→Obj) (g:Gr):List CSh→List Cm→Option Gr
 |[],[]=>some g
 |s::ss,x::xs=>match grabC O g s x with
  |some g'=>qeM O g' ss xs
  |none=>none
 |_,_=>none
def grabO (O:Nat→Obj) (g:Gr) (d:Nat) (s:OSh):Option Gr:=match look g.ren d with
 |none=>none
 |some none=>match s with
  |.row e t=>some {g with out:=.mk (.list e t) []::g.out}
  |.deep e e2 t=>some {g with out:=.mk (.list e (.list e2 t)) []::g.out}
  |_=>none
 |some (some d')=>match s,O d' with
  |.row e t,.row e' t' xs false=>if e=e'∧t=t' then some {g with out:=.mk (.list e' t') xs::g.out} else none
  |.box e ss,.box e' cs=>if e=e' then qdG O g ss cs else none
  |.caps ss,.caps cs=>qeM O g ss cs
  |.gone,.dead=>some g
  |.mp,.mp es=>some {g with out:=.mk mpT es::g.out}
  |.deep e e2 t,.deep _ e' e2' t' xss .ok=>if e=e'∧e2=e2'∧t=t' then some {g with out:=.mk (.list e' (.list e2' t')) xss::g.out} else none
  |_,_=>none
def qfG (O:Nat→Obj) (g:Gr):List (Nat×OSh)→Option Gr
 |[]=>some g
 |(d,s)::l=>match grabO O g d s with
  |some g'=>qfG O g' l
  |none=>none
def nodupB:List Nat→Bool
 |[]=>true
 |d::l=>!(l.contains d) && nodupB l
def qbs:List (Nat×Option Nat)→List Nat
 |[]=>[]
 |(_,some d)::l=>d::qbs l
 |(_,none)::l=>qbs l
def grab (c:Cut) (fixed:List Nat) (cms:List Cm) (O:Nat→Obj):Option (Gr×prods c.tys):=
 match qeM O ⟨fixed.map (fun d=>(d,some d)),[],[]⟩ (c.slots.map (·.2)) cms with
 |some g=>match qfG O g c.objs with
  |some g=>if nodupB (c.objs.map (·.1)) && nodupB (qbs g.ren) && g.ren.all (fun r=>(c.objs.any fun o=>Nat.beq o.1 r.1)) && g.fz.all (fun d=>g.ren.all fun r=>r.2 !=some d) then
    match qfd c.tys g.out.reverse with
    |some x=>some (g,x)
    |none=>none
   else none
  |none=>none
 |none=>none
def putL:LSh→List TV→Option (Lf×List TV)
 |.val _,.mk t x::l=>some (.v t x,l)
 |.row d,l=>some (.o d,l)
 |.ptr d c,l=>some (.p d c,l)
 |.fnc f d,l=>some (.fn f d,l)
 |.fn0 f,l=>some (.fn0 f,l)
 |.np,l=>some (.np,l)
 |.nils,l=>some (.nils,l)
 |.u,l=>some (.u,l)
 |.mp d,l=>some (.m d,l)
 |.ap d,l=>some (.ap d,l)
 |.sub d,.mk (.int .i64) i::l=>some (.oh d 0 i,l)
 |.ref _,.mk t x::l=>some (.e t x 0,l)
 |_,_=>none
def putLs:List LSh→List TV→Option (List Lf×List TV)
 |[],l=>some ([],l)
 |s::ss,l=>match putL s l with
  |some (x,l1)=>match putLs ss l1 with
   |some (xs,l2)=>some (x::xs,l2)
   |none=>none
  |none=>none
def putC:CSh→List TV→Option (Cm×List TV)
 |.u,l=>some (.u,l)
 |.l s,l=>match putL s l with
  |some (x,l1)=>some (.l x,l1)
  |none=>none
 |.a ss,l=>match putLs ss l with
  |some (xs,l1)=>some (.a xs,l1)
  |none=>none
 |.av _,.mk t x::l=>some (.a (leaves t x),l)
 |_,_=>none
def putCs:List CSh→List TV→Option (List Cm×List TV)
 |[],l=>some ([],l)
 |s::ss,l=>match putC s l with
  |some (x,l1)=>match putCs ss l1 with
   |some (xs,l2)=>some (x::xs,l2)
   |none=>none
  |none=>none
def putO:OSh→List TV→Option (Obj×List TV)
 |.row e _,.mk (.list _ t) xs::l=>some (.row e t xs false,l)
 |.box e ss,l=>match putLs ss l with
  |some (xs,l1)=>some (.box e xs,l1)
  |none=>none
 |.caps ss,l=>match putCs ss l with
  |some (xs,l1)=>some (.caps xs,l1)
  |none=>none
 |.gone,l=>some (.dead,l)
 |.mp,.mk (.list _ (.pair (.int .i64) (.int .i64))) es::l=>some (.mp es,l)
 |.deep _ _ _,.mk (.list e (.list e2 t)) xss::l=>some (.deep 0 e e2 t xss .ok,l)
 |_,_=>none
def putOs:List (Nat×OSh)→List TV→Option (List (Nat×Obj))
 |[],_=>some []
 |(d,s)::ss,l=>match putO s l with
  |some (x,l1)=>match putOs ss l1 with
   |some xs=>some ((d,x)::xs)
   |none=>none
  |none=>none
def Cut.put (c:Cut) (x:prods c.tys):Option (List Cm×List (Nat×Obj)):=match putCs (c.slots.map (·.2)) (ofProds c.tys x) with
 |some (cms,l)=>match putOs c.objs l with
  |some os=>some (cms,os)
  |none=>none
 |none=>none
def Cut.st (c:Cut) (x:prods c.tys):St:=match c.put x with
 |some (cms,os)=>⟨upds (fun _=>.u) ((c.slots.map (·.1)).zip (cms.map .c)),upds (fun _=>.no) os⟩
 |none=>St.new
def renL (τ:Nat→Nat):Lf→Lf
 |.o d=>.o (τ d)
 |.os d a b=>.os (τ d) a b
 |.p d c=>.p (τ d) c
 |.oe d i c=>.oe (τ d) i c
 |.fn f d=>.fn f (τ d)
 |.m d=>.m (τ d)
 |.ap d=>.ap (τ d)
 |.oh d v i=>.oh (τ d) v i
 |.oi d v i j c=>.oi (τ d) v i j c
 |.ohs d v i a n=>.ohs (τ d) v i a n
 |.sb d n=>.sb (τ d) n
 |x=>x
def renC (τ:Nat→Nat):Cm→Cm
 |.u=>.u
 |.l x=>.l (renL τ x)
 |.a xs=>.a (xs.map (renL τ))
def renO (τ:Nat→Nat):Obj→Obj
 |.box e cs=>.box e (cs.map (renL τ))
 |.caps cs=>.caps (cs.map (renC τ))
 |x=>x
def Ty.flat:Ty→Bool
 |.list _ _=>false
 |.pair a b=>a.flat && b.flat
 |_=>true
def Lf.flat:Lf→Bool
 |.v t _=>t.flat
 |.e _ _ _=>false
 |_=>true
def Cm.flat:Cm→Bool
 |.u=>true
 |.l x=>x.flat
 |.a xs=>xs.all Lf.flat
def Obj.flat:Obj→Bool
 |.row _ t _ _=>t.flat
 |.box _ cs=>cs.all Lf.flat
 |.caps cs=>cs.all Cm.flat
 |.deep _ _ _ t _ _=>t.flat
 |_=>true
def resSV:List Cm→SV
 |[x]=>.c x
 |xs=>.t xs
def Lf.okIds (p:Nat→Bool):Lf→Bool
 |.o d=>p d
 |.os d _ _=>p d
 |.p d _=>p d
 |.oe d _ _=>p d
 |.fn _ d=>p d
 |.m d=>p d
 |.ap d=>p d
 |.oh _ _ _=>false
 |.oi _ _ _ _ _=>false
 |.ohs _ _ _ _ _=>false
 |.sb _ _=>false
 |_=>true
def Cm.okIds (p:Nat→Bool):Cm→Bool
 |.u=>true
 |.l x=>x.okIds p
 |.a xs=>xs.all (Lf.okIds p)
def Obj.okIds (p:Nat→Bool):Obj→Bool
 |.box _ cs=>cs.all (Lf.okIds p)
 |.row _ _ _ _=>true
 |.dead=>true
 |.mp _=>true
 |.deep _ _ _ _ _ .ok=>true
 |_=>false
def kindB:Obj→Obj→Bool
 |.row _ t _ _,.row _ t' _ _=>decide (t=t')
 |.box _ _,.box _ _=>true
 |.row _ _ _ _,.dead=>true
 |.mp _,.mp _=>true
 |.deep _ _ e2 t _ _,.deep _ _ e2' t' _ _=>decide (e2=e2'∧t=t')
 |.deep _ _ _ _ _ _,.dead=>true
 |_,_=>false
def Obj.qea:Obj→Bool
 |.deep _ _ _ _ _ _=>true
 |_=>false
def bumpO (b:Bool) (o y:Obj):Obj:=match o,y with
 |.deep v _ _ _ _ _,.deep _ e e2 t xss pd=>.deep (bif b then v else v+1) e e2 t xss pd
 |_,y=>y
def isNo:Obj→Bool
 |.no=>true
 |_=>false
def qaB (ren:List (Nat×Option Nat)) (dst d:Nat):Nat:=match look ren d with
 |some (some d')=>d'
 |_=>(dst+1)*1000+d
def qbU (kx:List Nat) (O:Nat→Obj) (ren:List (Nat×Option Nat)) (dst:Nat) (τ:Nat→Nat):List (Nat×Obj)→List (Nat×Obj)
 |[]=>[]
 |(d,y)::l=>match look ren d with
  |some none=>qbU kx O ren dst τ l
  |_=>(τ d,bumpO (kx.contains d) (O (τ d)) (renO τ y))::qbU kx O ren dst τ l
def qgt (O:Nat→Obj) (ren:List (Nat×Option Nat)) (dst:Nat) (cms:List Cm) (os:List (Nat×Obj)):Bool:=
 let p:Nat→Bool:=fun d=>match look ren d with
  |some none=>false
  |_=>true
 nodupB (os.map (·.1)) && cms.all (Cm.okIds p) && os.all fun o=>o.2.okIds p && match look ren o.1 with
  |some (some d')=>kindB (O d') o.2
  |some none=>true
  |none=>isNo (O ((dst+1)*1000+o.1))
def qdI (O:Nat→Obj):Lf→Option (Lf×List (Nat×Obj))
 |.o d=>match O d with
  |.deep _ e e2 t xss .ok=>some (.o d,[(d,.row e (.list e2 t) xss false)])
  |_=>none
 |.os d a n=>match O d with
  |.deep _ e e2 t xss .ok=>some (.os d a n,[(d,.row e (.list e2 t) xss false)])
  |_=>none
 |.oh d v i=>match O d with
  |.deep v' e e2 t xss .ok=>if v=v' then some (.v (.list e2 t) (VE.rd (.list e2 t) xss i),[(d,.row e (.list e2 t) xss false)]) else none
  |_=>none
 |.ohs d v i a n=>match O d with
  |.deep v' e e2 t xss .ok=>if v=v' then some (.v (.list e2 t) (((VE.rd (.list e2 t) xss i:List t.T).drop a).take n),[(d,.row e (.list e2 t) xss false)]) else none
  |_=>none
 |_=>none
def qca:List Lf→(Nat→Obj)→List Lf×List (Nat×Obj)
 |[],_=>([],[])
 |x::xs,O=>match qdI O x with
  |some (y,l)=>(y::(qca xs (upds O l)).1,l++(qca xs (upds O l)).2)
  |none=>(x::(qca xs O).1,(qca xs O).2)
def qfY (O:Nat→Obj) (s:CSh) (x:Cm):Option (Cm×List (Nat×Obj)):=match s,x with
 |.l (.val _),.l x=>match qdI O x with
  |some (y,l)=>some (.l y,l)
  |none=>none
 |.av _,.a xs=>some (.a (qca xs O).1,(qca xs O).2)
 |.l (.sub _),.l (.o d)=>match O d with
  |.fwd d' v i _ _=>some (.l (.oh d' v i),[])
  |_=>none
 |_,_=>none
def adopt (gn:List Nat) (O:Nat→Obj) (s:CSh) (x:Cm):Option (Cm×List (Nat×Obj)):=match s,x with
 |.l (.row _),.l (.o d)=>bif gn.contains d then match O d,O (900000+d) with
   |.row e t xs false,.no=>some (.l (.o (900000+d)),[(d,.dead),(900000+d,.row e t xs false)])
   |.deep v e e2 t xss .ok,.no=>some (.l (.o (900000+d)),[(d,.dead),(900000+d,.deep v e e2 t xss .ok)])
   |_,_=>none
  else none
 |.l (.row _),.l (.os d 0 len)=>match O d,O (900000+d) with
  |.row e t xs false,.no=>some (.l (.o (900000+d)),[(d,.dead),(900000+d,.row e t (xs.take len) false)])
  |_,_=>none
 |s,x=>qfY O s x
def normC:List CSh→List Cm→(Nat→Obj)→List Cm×List (Nat×Obj)
 |s::ss,x::xs,O=>match qfY O s x with
  |some (y,l)=>(y::(normC ss xs (upds O l)).1,l++(normC ss xs (upds O l)).2)
  |none=>(x::(normC ss xs O).1,(normC ss xs O).2)
 |_,xs,_=>(xs,[])
def normW (gn:List Nat):List CSh→List Cm→(Nat→Obj)→List Cm×List (Nat×Obj)
 |s::ss,x::xs,O=>match adopt gn O s x with
  |some (y,l)=>(y::(normW gn ss xs (upds O l)).1,l++(normW gn ss xs (upds O l)).2)
  |none=>(x::(normW gn ss xs O).1,(normW gn ss xs O).2)
 |_,xs,_=>(xs,[])
def Lf.ids:Lf→List Nat
 |.o d=>[d]
 |.os d _ _=>[d]
 |.oh d _ _=>[d]
 |.ohs d _ _ _ _=>[d]
 |_=>[]
def Cm.ids:Cm→List Nat
 |.u=>[]
 |.l x=>x.ids
 |.a xs=>xs.flatMap Lf.ids
def callK {R:Type} (c:Con) (dst:Nat) (args:List Cm) (O:Nat→Obj) (k:Eff→Option R):Option R:=
 match normC (c.cin.slots.map (·.2)) args O with
 |(args',ws)=>match grab c.cin [] args' (upds O ws) with
  |none=>none
  |some (g,x)=>(c.sem x).bind fun y=>
   match c.cout.put y with
   |none=>none
   |some (cms,os)=>match qgt (upds O ws) g.ren dst cms os with
    |false=>none
    |true=>
     match (bif cms.all Cm.flat && os.all (fun o=>o.2.flat) then some [] else freeze (upds O ws) g.fz) with
     |none=>none
     |some fz=>
      k ⟨resSV (cms.map (renC (qaB g.ren dst))),args.flatMap Cm.ids++(ws.map (·.1)++(g.fz++qbs g.ren++(os.map fun o=>qaB g.ren dst o.1))),
       ws++(fz++qbU c.kx (upds O ws) g.ren dst (qaB g.ren dst) os)⟩
def qce (st:St):List Operand→List Cm
 |[]=>[]
 |x::xs=>(ev st x).cm::qce st xs
def fin {R:Type} (r:OE) (k:Eff→Option R):Option R:=match r with
 |some (cs,e)=>chks cs (k e)
 |none=>none
def sameOp:Operand→Operand→Bool
 |.tmp a,.tmp b=>Nat.beq a b
 |_,_=>false
def fnK {R:Type} (Γ:FuncId→Option Con) (x:Nat) (k:Con→Option R):Nat→List Nat→Option R
 |_,[]=>none
 |i,f::cs=>if x=i then (match Γ f with
   |some c=>k c
   |none=>none) else fnK Γ x k (i+1) cs
def keyOf:List Cm→Nat
 |[]=>0
 |.l (.fn0 f)::_=>f+1
 |.l (.fn f _)::_=>f+1
 |_::l=>keyOf l
abbrev Env:=FuncId→Nat→Option Con
def resL (O:Nat→Obj) (x:Option Lf):Option Lf×List Nat:=match x with
 |some (.o d)=>match O d with
  |.fwd d' v i _ _=>(some (.oh d' v i),[d])
  |_=>(some (.o d),[d])
 |x=>(x,[])
def rdD (ds:List Nat):OE→OE
 |some (cs,e)=>some (cs,⟨e.sv,ds++e.rd,e.wr⟩)
 |none=>none
def opK {R:Type} (P:Program) (Γ:Env) (o:Oper) (st:St) (k:Eff→Option R):Option R:=
 match o.op with
 |.move x=>k ⟨ev st x,[],[]⟩
 |.assign x=>k ⟨ev st x,[],[]⟩
 |.pick c a b=>splitB (ev st c).leaf fun d=>k ⟨match d with|true=>ev st a|false=>ev st b,[],[]⟩
 |.alloc e=>match o.dst,zeroL P e with
  |some d,some z=>fin (qgu P d st.o e z) k
  |_,_=>none
 |.box e x=>match o.dst,(ev st x).cells with
  |some d,some ls=>if ls.length=P.cellsOf e then fin (qdD d st.o e ls) k else none
  |_,_=>none
 |.build t ps=>match qd7 st ps.toList with
  |some l=>fin (buildX P t l) k
  |none=>none
 |.buildSlice t n ps=>match o.dst,qd7 st ps.toList with
  |some d,some l=>match oneRow st.o n l with
   |some d2=>fin (qdA P t d st.o d2) k
   |none=>fin (qbQ P t n d st.o l) k
  |_,_=>none
 |.load t a=>fin (loadL P t st.o (ev st a).leaf) k
 |.store t a x=>match takeL P t st.o (ev st a).leaf (ev st x) with
  |some r=>fin (some r) k
  |none=>match qbW P t st.o (ev st a).leaf (ev st x) with
   |some r=>fin (some r) k
   |none=>fin (qc8 P t st.o (ev st a).leaf (ev st x)) k
 |.nilCheck x=>fin (nilL st.o (ev st x).leaf) k
 |.binOp op t x y _=>match P.underlying t with
  |some (.struct fs)=>fin (binA P op t fs.toList (ev st x) (ev st y)) k
  |_=>fin (binP P op t (ev st x).leaf (ev st y).leaf) k
 |.unOp op _ x=>fin (unL op (ev st x).leaf) k
 |.convert c d x=>fin (convX P st.o c d (ev st x).leaf) k
 |.makeFunc (.func f) ⟨[]⟩ cs=>match o.dst,cs.toList with
  |_,[]=>k ⟨.lf (.fn0 f),[],[]⟩
  |some d,x::xs=>match st.o d with
   |.no=>k ⟨.lf (.fn f d),[d],[(d,.caps (qce st (x::xs)))]⟩
   |_=>none
  |_,_=>none
 |.makeSlice t l c=>match o.dst with
  |some d=>fin (qct P t d st.o (sameOp l c) (ev st l).leaf (ev st c).leaf) k
  |none=>none
 |.slice t x lo hi none=>match optB st lo,optB st hi with
  |some l,some h=>match P.underlying t with
   |some (.array n e)=>fin (qcK n (P.cellsOf e) st.o (ev st x).leaf l h) k
   |_=>match resL st.o (ev st x).leaf with
    |(y,ds)=>fin (rdD ds (qfj P t st.o y l h)) k
  |_,_=>none
 |.makeMap _ none=>match o.dst with
  |some d=>fin (qdw d st.o) k
  |none=>none
 |.lookup t x ix true=>fin (qer P t st.o (ev st x).leaf (ev st ix).leaf) k
 |.mapUpdate t m x v=>fin (qcs P t st.o (ev st m).leaf (ev st x).leaf (ev st v).leaf) k
 |.fieldAddr s x f=>fin (qcx P s f st.o (ev st x).leaf) k
 |.field s x f=>fin (fieldL P s f (ev st x)) k
 |.indexAddr t x ix=>match P.underlying t with
  |some (.slice e)=>match resL st.o (ev st x).leaf with
   |(y,ds)=>fin (rdD ds (qch (P.cellsOf e) st.o y (ev st ix).leaf)) k
  |some (.array n e)=>fin (qcO n (P.cellsOf e) st.o (ev st x).leaf (ev st ix).leaf) k
  |_=>none
 |.index t x ix=>match P.underlying t with
  |some .string=>fin (indexL (ev st x).leaf (ev st ix).leaf) k
  |some (.array n e)=>fin (qcN P n e st.o (ev st x) (ev st ix).leaf) k
  |_=>none
 |.extract x i=>match ev st x with
  |.t cs=>match cs[i]? with
   |some c=>k ⟨.c c,[],[]⟩
   |none=>none
  |_=>none
 |.call c=>match c.callee with
  |.builtin .len=>match c.argTypes.toList,c.args.toList with
   |[t],[x]=>match resL st.o (ev st x).leaf with
    |(y,ds)=>fin (rdD ds (lenL P t st.o y)) k
   |_,_=>none
  |.builtin .cap=>match c.argTypes.toList,c.args.toList with
   |[t],[x]=>fin (capL P t (ev st x).leaf) k
   |_,_=>none
  |.builtin .min=>match c.args.toList with
   |x::l=>fin (foldL mn (ev st x).leaf (l.map fun y=>(ev st y).leaf)) k
   |_=>none
  |.builtin .max=>match c.args.toList with
   |x::l=>fin (foldL mx (ev st x).leaf (l.map fun y=>(ev st y).leaf)) k
   |_=>none
  |.builtin .copy=>match c.argTypes.toList,c.args.toList with
   |[t,_],[x,y]=>fin (copyL P t st.o (ev st x).leaf (ev st y).leaf) k
   |_,_=>none
  |.builtin .append=>match c.argTypes.toList,c.args.toList,o.dst with
   |[t,t'],[x,y],some d=>if t=t' then match qcq P t d st.o (ev st x).leaf (ev st y).leaf with
    |some r=>fin (some r) k
    |none=>match qcp P t d st.o (ev st x).leaf (ev st y).leaf with
     |some r=>fin (some r) k
     |none=>fin (qdn P t d st.o (ev st x).leaf (ev st y).leaf) k
    else fin (qeA P t t' d st.o (ev st x).leaf (ev st y).leaf) k
   |_,_,_=>none
  |.value f=>match (ev st f).leaf with
   |some (.fn0 f)=>match Γ f (keyOf (qce st c.args.toList)) with
    |some c'=>callK c' (o.dst.getD 0) (qce st c.args.toList) st.o k
    |none=>fin (externL P f (c.args.toList.map fun y=>(ev st y).leaf)) k
   |some (.fn f d)=>match Γ f (keyOf (qce st c.args.toList)),st.o d with
    |some c',.caps cs=>callK c' (o.dst.getD 0) (qce st c.args.toList++cs) st.o (fun e=>k {e with rd:=d::e.rd})
    |_,_=>none
   |some (.v (.fn cs) x)=>fnK (fun f=>Γ f (keyOf (qce st c.args.toList))) x (fun c'=>callK c' (o.dst.getD 0) (qce st c.args.toList) st.o k) 0 cs
   |_=>none
  |_=>none
 |_=>none
structure Log where
 i:Nat
 rd:List Nat
 wr:List Nat
def guards (ops:List Oper) (i:Nat):Bool:=ops.any fun o=>match o.guard with
 |some (j,_)=>Nat.beq j i
 |none=>false
def St.eff (st:St) (dst:Option Tmp) (e:Eff):St:=
 ⟨match dst with|some d=>upd st.t d e.sv|none=>st.t,upds st.o e.wr⟩
def runs (ops:List Oper) (o:Oper) (st:St):Option Bool:=match o.guard with
 |none=>some true
 |some (j,want)=>match ops[j]? with
  |some g=>match g.dst with
   |some d=>match st.t d with
    |.c (.l (.bl true))=>some want
    |.c (.l (.bl false))=>some (!want)
    |.t []=>some false
    |_=>none
   |none=>none
  |none=>none
def runK {R:Type} (P:Program) (Γ:Env) (ops:List Oper):List (Nat×Oper)→St→List Log→(St→List Log→Option R)→Option R
 |[],st,lg,k=>k st lg
 |(i,o)::l,st,lg,k=>match runs ops o st with
  |some true=>opK P Γ o st fun e=>
    match guards ops i with
    |true=>splitB e.sv.leaf fun b=>runK P Γ ops l (st.eff o.dst {e with sv:=.lf (.bl b)}) (⟨i,e.rd,e.wr.map (·.1)⟩::lg) k
    |false=>runK P Γ ops l (st.eff o.dst e) (⟨i,e.rd,e.wr.map (·.1)⟩::lg) k
  |some false=>runK P Γ ops l (st.eff o.dst ⟨.t [],[],[]⟩) (⟨i,[],[]⟩::lg) k
  |none=>none
def bitsOf:List Oper→List Nat→List Nat
 |[],acc=>acc
 |o::l,acc=>bitsOf l (acc++[o.after.toList.foldl (fun s e=>if Region.binds .any e∧e.on<acc.length then s ||| 2 ^ e.on ||| acc.getD e.on 0 else s) 0])
def tmpsOf (xs:List Operand):List Nat:=xs.filterMap fun x=>match x with
 |.tmp t=>some t
 |_=>none
def qcW (ops:List Oper) (o:Oper):List Nat:=match o.guard with
 |some (j,_)=>match ops[j]? with
  |some g=>g.dst.toList
  |none=>[]
 |none=>[]
def meets (a b:List Nat):Bool:=a.any fun x=>b.any fun y=>Nat.beq x y
def clash (ops:List Oper) (a b:Oper) (la lb:Log):Bool:=
 meets a.dst.toList (b.dst.toList++tmpsOf b.op.operands.toList++qcW ops b) || meets b.dst.toList (tmpsOf a.op.operands.toList++qcW ops a) || meets la.wr (lb.rd++lb.wr) || meets lb.wr (la.rd++la.wr)
def orderOk (ops:List Oper) (lg:List Log):Bool:=
 let bits:=bitsOf ops []
 lg.all fun lb=>lg.all fun la=>if la.i<lb.i then (bits.getD lb.i 0).testBit la.i || (match ops[la.i]?,ops[lb.i]? with
  |some a,some b=>!(clash ops a b la lb)
  |_,_=>false) else true
def ixs {α:Type}:Nat→List α→List (Nat×α)
 |_,[]=>[]
 |n,x::l=>(n,x)::ixs (n+1) l
def regK {R:Type} (P:Program) (Γ:Env) (ops:List Oper) (draw:Bool) (st:St) (k:St→Option R):Option R:=
 runK P Γ ops (ixs 0 ops) st [] fun st' lg=>match draw with
  |false=>k st'
  |true=>match orderOk ops lg with
   |true=>k st'
   |false=>none
structure Hint (R:Type) where
 c:Cut
 k:prods c.tys→Option R
def cmsAt (st:St) (l:List Nat):List Cm:=l.map fun t=>(st.t t).cm
def qde (P:Program) (st:St):List ResultVar→Option (List Cm)
 |[]=>some []
 |r::l=>match qde P st l with
  |none=>none
  |some cs=>match r with
   |.tmp t=>some ((st.t t).cm::cs)
   |.cell a t=>match loadL P t st.o (st.t a).leaf with
    |some ([],e)=>some (e.sv.cm::cs)
    |_=>none
def norm (gn:List Nat) (ss:List CSh) (xs:List Cm) (O:Nat→Obj):List Cm×(Nat→Obj):=((normW gn ss xs O).1,upds O (normW gn ss xs O).2)
def qcG:List (Nat×OSh)→List Nat
 |[]=>[]
 |(d,.gone)::l=>d::qcG l
 |_::l=>qcG l
def normB1 (gn:List Nat) (d i:Nat) (O:Nat→Obj):Nat→Obj:=match O d with
 |.box e cs=>match cs[i]? with
  |some (.o d2)=>bif gn.contains d2 then match O d2,O (900000+d2) with
    |.row e2 t xs false,.no=>upds O [(d2,.dead),(900000+d2,.row e2 t xs false),(d,.box e (cs.set i (.o (900000+d2))))]
    |.deep v e1 e2 t xss .ok,.no=>upds O [(d2,.dead),(900000+d2,.deep v e1 e2 t xss .ok),(d,.box e (cs.set i (.o (900000+d2))))]
    |_,_=>O
   else O
  |_=>O
 |_=>O
def normBi (gn:List Nat) (d:Nat):List LSh→Nat→(Nat→Obj)→(Nat→Obj)
 |[],_,O=>O
 |.row _::ss,i,O=>normBi gn d ss (i+1) (normB1 gn d i O)
 |_::ss,i,O=>normBi gn d ss (i+1) O
def normB (gn:List Nat):List (Nat×OSh)→(Nat→Obj)→(Nat→Obj)
 |[],O=>O
 |(d,.box _ ss)::l,O=>normB gn l (normBi gn d ss 0 O)
 |_::l,O=>normB gn l O
def kxOk (kx:List Nat) (O:Nat→Obj):Bool:=kx.all fun d=>match O d with
 |.deep v _ _ _ _ _=>Nat.beq v 0
 |_=>true
structure Fin (P:Program) where
 cout:Cut
 fixed:List Nat
 res:List ResultVar
 kx:List Nat
def Fin.go {P:Program} (F:Fin P) (st:St):Option (prods F.cout.tys):=match qde P st F.res with
 |some cs=>match norm (qcG F.cout.objs) (F.cout.slots.map (·.2)) cs st.o with
  |(cs,o)=>match kxOk F.kx (normB (qcG F.cout.objs) F.cout.objs o) with
   |false=>none
   |true=>match grab F.cout F.fixed cs (normB (qcG F.cout.objs) F.cout.objs o) with
    |some (_,x)=>some x
    |none=>none
 |none=>none
def toK {R:Type} (h:Hint R) (fixed kx:List Nat) (st:St):Option R:=match norm (qcG h.c.objs) (h.c.slots.map (·.2)) (cmsAt st (h.c.slots.map (·.1))) st.o with
 |(cs,o)=>match kxOk kx (normB (qcG h.c.objs) h.c.objs o) with
  |false=>none
  |true=>match grab h.c fixed cs (normB (qcG h.c.objs) h.c.objs o) with
   |some (_,x)=>h.k x
   |none=>none
def Ty.deq:(t:Ty)→DecidableEq t.T
 |.int _=>Int.instDecidableEq
 |.bool=>instDecidableEqBool
 |.str=>ByteArray.instDecidableEq
 |.list _ t=>@instDecidableEqList _ t.deq
 |.pair a b=>@instDecidableEqProd _ _ a.deq b.deq
 |.unit=>instDecidableEqPUnit
 |.fn _=>instDecidableEqNat
def prodsDeq:(ts:List Ty)→DecidableEq (prods ts)
 |[]=>instDecidableEqPUnit
 |[t]=>t.deq
 |t::t'::ts=>@instDecidableEqProd _ _ t.deq (prodsDeq (t'::ts))
def both {R:Type} [i:DecidableEq R] (x y:Option R):Option R:=if x=y then x else none
noncomputable def goK {P:Program} (Γ:Env) (F:Fin P) (T:Nat→Option (Hint (prods F.cout.tys))):Nat→List Item→St→Option (prods F.cout.tys)
 |0,_,_=>none
 |_+1,[],st=>F.go st
 |m+1,.inBlock _::k,st=>goK Γ F T m k st
 |m+1,.inLoop b::k,st=>goK Γ F T m (.code b::.inLoop b::k) st
 |m+1,.code c::k,st=>match c with
  |.skip=>goK Γ F T m k st
  |.region id ops draw=>match T id with
   |some h=>toK h F.fixed F.kx st
   |none=>regK P Γ ops.toList draw st fun st'=>goK Γ F T m k st'
  |.seq a b=>goK Γ F T m (.code a::.code b::k) st
  |.cond x a b=>match (ev st x).leaf with
   |some (.q n p i)=>@ite _ p i (@both _ (prodsDeq F.cout.tys) (goK Γ F T m (.code a::k) st) (goK Γ F T m (.code b::k) st)) (match n with
    |true=>goK Γ F T m (.code a::k) st
    |false=>goK Γ F T m (.code b::k) st)
   |y=>splitB y fun d=>match d with
    |true=>goK Γ F T m (.code a::k) st
    |false=>goK Γ F T m (.code b::k) st
  |.block id b=>goK Γ F T m (.code b::.inBlock id::k) st
  |.loop b=>goK Γ F T m (.code b::.inLoop b::k) st
  |.exit id=>match exitTo id k with
   |some k'=>goK Γ F T m k' st
   |none=>none
  |.ret=>F.go st
  |_=>none
 |_+1,_,_=>none
def sites:Code→List Item→List (Nat×List Oper×Bool×List Item)
 |.region id ops draw,k=>[(id,ops.toList,draw,k)]
 |.seq a b,k=>sites a (.code b::k)++sites b k
 |.cond _ a b,k=>sites a k++sites b k
 |.block id b,k=>sites b (.inBlock id::k)
 |.loop b,k=>sites b (.inLoop b::k)
 |_,_=>[]
noncomputable def segK {P:Program} (Γ:Env) (F:Fin P) (T:Nat→Option (Hint (prods F.cout.tys))) (body:Code) (id:Nat) (st:St):Option (prods F.cout.tys):=
 match look (sites body []) id with
 |some (ops,draw,k)=>regK P Γ ops draw st fun st'=>goK Γ F T 2000 k st'
 |none=>none
end Go.Proofs.YtfobeapcmgjhbaaGreatDoor.VE
namespace Go.Proofs.YtfobeapcmgjhbaaGreatDoor.VE
open Go Go.RowKit
def All2 {α β:Type} (R:α→β→Prop):List α→List β→Prop
 |[],[]=>True
 |x::xs,y::ys=>R x y∧All2 R xs ys
 |_,_=>False
section
variable {α β:Type} {R R':α→β→Prop}
theorem All2.length:∀{l:List α} {l':List β},All2 R l l'→l.length=l'.length
 |[],[],_=>rfl
 |_::_,_::_,h=>by simp only [List.length_cons,All2.length h.2]
 |[],_::_,h=>h.elim
 |_::_,[],h=>h.elim
theorem All2.mono (hr:∀x y,R x y→R' x y):∀{l:List α} {l':List β},All2 R l l'→All2 R' l l'
 |[],[],_=>trivial
 |_::_,_::_,h=>⟨hr _ _ h.1,All2.mono hr h.2⟩
 |[],_::_,h=>h.elim
 |_::_,[],h=>h.elim
theorem All2.append:∀{l m:List α} {l' m':List β},All2 R l l'→All2 R m m'→All2 R (l++m) (l'++m')
 |[],_,[],_,_,h=>h
 |_::_,_,_::_,_,h,k=>⟨h.1,All2.append h.2 k⟩
 |[],_,_::_,_,h,_=>h.elim
 |_::_,_,[],_,h,_=>h.elim
theorem All2.take:∀(n:Nat) {l:List α} {l':List β},All2 R l l'→All2 R (l.take n) (l'.take n)
 |0,_,_,_=>by simp [All2]
 |_+1,[],[],_=>by simp [All2]
 |n+1,_::_,_::_,h=>⟨h.1,All2.take n h.2⟩
 |_+1,[],_::_,h=>h.elim
 |_+1,_::_,[],h=>h.elim
theorem All2.drop:∀(n:Nat) {l:List α} {l':List β},All2 R l l'→All2 R (l.drop n) (l'.drop n)
 |0,_,_,h=>h
 |_+1,[],[],_=>by simp [All2]
 |n+1,_::_,_::_,h=>All2.drop n h.2
 |_+1,[],_::_,h=>h.elim
 |_+1,_::_,[],h=>h.elim
theorem All2.split:∀{l m:List α} {l':List β},All2 R (l++m) l'→∃a b,l'=a++b∧All2 R l a∧All2 R m b
 |[],_,l',h=>⟨[],l',rfl,trivial,h⟩
 |_::_,_,y::_,h=>by
  obtain ⟨a,b,rfl,h1,h2⟩:=All2.split h.2
  exact ⟨y::a,b,rfl,⟨h.1,h1⟩,h2⟩
 |_::_,_,[],h=>h.elim
theorem All2.get:∀{l:List α} {l':List β},All2 R l l'→∀(i:Nat) {x:α} {y:β},l[i]?=some x→l'[i]?=some y→R x y
 |_::_,_::_,h,0,_,_,hx,hy=>by
  simp only [List.getElem?_cons_zero,Option.some.injEq] at hx hy
  subst hx hy
  exact h.1
 |_::_,_::_,h,i+1,_,_,hx,hy=>All2.get h.2 i hx hy
 |[],[],_,_,_,_,hx,_=>by simp at hx
 |[],_::_,h,_,_,_,_,_=>h.elim
 |_::_,[],h,_,_,_,_,_=>h.elim
theorem All2.cons_inv {x:α} {l:List α} {l':List β} (h:All2 R (x::l) l'):∃y m,l'=y::m∧R x y∧All2 R l m:=by
 cases l' with
 |nil=>exact h.elim
 |cons y m=>exact ⟨y,m,rfl,h.1,h.2⟩
theorem All2.qbm {l':List β} (h:All2 R [] l'):l'=[]:=by
 cases l' with
 |nil=>rfl
 |cons y m=>exact h.elim
end
def blk (w:World) (b:Nat) (arr:Array Value) (e:TypeId):Prop:=w.heap[b]?=some (.cells arr e (0,0))
theorem blk.cell {w:World} {b:Nat} {arr:Array Value} {e:TypeId} (h:blk w b arr e) (o:Nat):w.cell? ⟨b,o,none⟩=arr[o]?:=by
 unfold blk at h
 simp [World.cell?,h]
theorem blk.lt {w:World} {b:Nat} {arr:Array Value} {e:TypeId} (h:blk w b arr e):b<w.heap.size:=by
 unfold blk at h
 exact (Array.getElem?_eq_some_iff.1 h).1
theorem qcb (b o n:Nat):(⟨b,o,none⟩:Addr).add n=⟨b,o+n,none⟩:=by
 unfold Addr.add
 by_cases h:n=0
 ·subst h;rfl
 ·rw [if_neg h]
def Rep (F:Nat→Prop) (w:World):(t:Ty)→t.T→List Value→Prop
 |.int k,x,cs=>cs=[.int k x]
 |.bool,x,cs=>cs=[.bool x]
 |.str,x,cs=>cs=[.string x]
 |.list _ t,xs,cs=>∃A c,cs=[.slice A (List.length xs) c]∧List.length xs≤c∧(0<List.length xs→∃b o,A=some ⟨b,o,none⟩∧F b∧
   ∀j x,(xs:List t.T)[j]?=some x→∃ce,ce.length=t.sz∧Rep F w t x ce∧∀i u,ce[i]?=some u→w.cell? ⟨b,o+(j*t.sz+i),none⟩=some u)
 |.pair a b,x,cs=>∃c0 c1,cs=c0++c1∧Rep F w a x.1 c0∧Rep F w b x.2 c1
 |.unit,_,cs=>cs=[]
 |.fn fs,x,cs=>∃f,fs[(x:Nat)]?=some f∧cs=[.func (.func f) #[] #[]]
theorem Rep.len {F:Nat→Prop} {w:World}:∀{t:Ty} {x:t.T} {cs:List Value},Rep F w t x cs→cs.length=t.sz
 |.int _,_,_,h=>by rw [show _=_ from h];rfl
 |.bool,_,_,h=>by rw [show _=_ from h];rfl
 |.str,_,_,h=>by rw [show _=_ from h];rfl
 |.list _ _,_,_,⟨_,_,h,_⟩=>by rw [h];rfl
 |.pair _ _,_,_,⟨_,_,h,h0,h1⟩=>by rw [h,List.length_append,Rep.len h0,Rep.len h1];rfl
 |.unit,_,_,h=>by rw [show _=_ from h];rfl
 |.fn _,_,_,⟨_,_,h⟩=>by rw [h];rfl
theorem Rep.mono {F F':Nat→Prop} {w w':World} (hF:∀b,F b→F' b) (hw:∀b,F b→w'.heap[b]?=w.heap[b]?):∀{t:Ty} {x:t.T} {cs:List Value},Rep F w t x cs→Rep F' w' t x cs
 |.int _,_,_,h=>h
 |.bool,_,_,h=>h
 |.str,_,_,h=>h
 |.list _ t,xs,cs,h=>by
  obtain ⟨A,c,h1,h2,h3⟩:=h
  refine ⟨A,c,h1,h2,fun hn=>?_⟩
  obtain ⟨b,o,ha,hb,hc⟩:=h3 hn
  refine ⟨b,o,ha,hF b hb,fun j x hj=>?_⟩
  obtain ⟨ce,hl,hr,hu⟩:=hc j x hj
  refine ⟨ce,hl,Rep.mono hF hw hr,fun i u hi=>?_⟩
  rw [World.cell?_of_block (w:=w) (hw b hb)]
  exact hu i u hi
 |.pair _ _,_,_,⟨c0,c1,h,h0,h1⟩=>⟨c0,c1,h,Rep.mono hF hw h0,Rep.mono hF hw h1⟩
 |.unit,_,_,h=>h
 |.fn _,_,_,h=>h
structure Gh where
 F:Nat→Prop
 m:Nat→Option (Nat×Nat)
 cp:Nat→Nat
 cap:Nat→List Value
 sub:Nat→Nat→Nat→Option (Nat×Nat×Nat)
def HdR (G:Gh) (d sz n off len:Nat) (v:Value):Prop:=
 off+len≤n∧∃A c,v=.slice A len c∧len≤c∧off+c=G.cp d∧(0<c→∃b o,G.m d=some (b,o)∧A=some ⟨b,o+off*sz,none⟩)
def OnRow (o:Obj) (R:Ty→Nat→Prop):Prop:=match o with
 |.row _ t xs _=>R t xs.length
 |.deep _ _ e2 t xss _=>R (.list e2 t) xss.length
 |.dead=>True
 |.fwd _ _ _ t n=>R t n
 |_=>False
def capOf:Option (Nat×Nat×Nat)→Nat
 |none=>0
 |some p=>p.2.2
def HdI (p:Option (Nat×Nat×Nat)) (sz n off len:Nat) (v:Value):Prop:=
 off+len≤n∧∃A c,v=.slice A len c∧len≤c∧off+c=capOf p∧(0<c→∃b o k,p=some (b,o,k)∧A=some ⟨b,o+off*sz,none⟩)
def pkP (m:Option (Nat×Nat)) (cp:Nat):Option (Nat×Nat×Nat):=match m with
 |some (b,o)=>if cp=0 then none else some (b,o,cp)
 |none=>none
def qbu (o:Obj) (u:Nat) (R:Ty→(Nat→Option Nat)→Prop):Prop:=match o with
 |.deep v _ _ t xss _=>u<v∨(u=v∧R t (fun i=>(xss[i]?).map List.length))
 |.row _ _ _ _=>True
 |.dead=>True
 |.fwd _ _ _ _ _=>True
 |_=>False
def OnBox (o:Obj) (R:Prop):Prop:=match o with
 |.box _ _=>R
 |.dead=>True
 |_=>False
def qcf (o:Obj) (R:Prop):Prop:=match o with
 |.caps _=>R
 |.dead=>True
 |_=>False
def OnMap (o:Obj) (R:Prop):Prop:=match o with
 |.mp _=>R
 |.dead=>True
 |_=>False
def one:Value→Bool
 |.agg _=>false
 |.tuple _=>false
 |_=>true
def LfB (G:Gh) (O:Nat→Obj) (w:World):Lf→Value→Prop
 |.u,_=>True
 |.v t x,v=>Rep G.F w t x [v]
 |.bl b,v=>v=.bool b
 |.b p i,v=>v=.bool (@decide p i)
 |.nb p i,v=>v=.bool (!@decide p i)
 |.q n p _,v=>∃b:Bool,v=.bool b∧(b≠n→p)
 |.nils,v=>v=.slice none 0 0
 |.np,v=>v=.pointer none
 |.o d,v=>OnRow (O d) fun t n=>HdR G d t.sz n 0 n v
 |.os d off len,v=>OnRow (O d) fun t n=>HdR G d t.sz n off len v
 |.p d c,v=>OnBox (O d) (∃b o,G.m d=some (b,o)∧v=.pointer (some ⟨b,o+c,none⟩))
 |.e t x c,v=>∃b o cs,G.F b∧Rep G.F w t x cs∧(∀i u,cs[i]?=some u→w.cell? ⟨b,o+i,none⟩=some u)∧v=.pointer (some ⟨b,o+c,none⟩)
 |.oe d i c,v=>OnRow (O d) fun t n=>0≤i∧i<(n:Int)∧∃b o,G.m d=some (b,o)∧v=.pointer (some ⟨b,o+i.toNat*t.sz+c,none⟩)
 |.fn0 f,v=>v=.func (.func f) #[] #[]
 |.fn f d,v=>qcf (O d) (v=.func (.func f) #[] (G.cap d).toArray)
 |.m d,v=>OnMap (O d) (∃b,G.m d=some (b,0)∧v=.map (some b))
 |.oh d u i,v=>qbu (O d) u fun t L=>0≤i∧∃n:Nat,L i.toNat=some n∧HdI (G.sub d u i.toNat) t.sz n 0 n v
 |.oi d u i j c,v=>qbu (O d) u fun t L=>0≤i∧0≤j∧∃n:Nat,L i.toNat=some n∧j<(n:Int)∧∃b o k,G.sub d u i.toNat=some (b,o,k)∧v=.pointer (some ⟨b,o+j.toNat*t.sz+c,none⟩)
 |.ohs d u i off len,v=>qbu (O d) u fun t L=>0≤i∧∃n:Nat,L i.toNat=some n∧HdI (G.sub d u i.toNat) t.sz n off len v
 |.sb d n,v=>OnBox (O d) (∃b,G.m d=some (b,0)∧v=.slice (some ⟨b,0,none⟩) n n)
 |.ap d,v=>OnRow (O d) fun _ n=>0<n∧n=G.cp d∧∃b o,G.m d=some (b,o)∧v=.pointer (some ⟨b,o,none⟩)
def LfR (G:Gh) (O:Nat→Obj) (w:World) (x:Lf) (v:Value):Prop:=one v=true∧LfB G O w x v
def CmR (G:Gh) (O:Nat→Obj) (w:World):Cm→Value→Prop
 |.u,_=>True
 |.l x,v=>LfR G O w x v
 |.a xs,v=>∃cs,v=.agg cs∧All2 (LfR G O w) xs cs.toList
def SVR (G:Gh) (O:Nat→Obj) (w:World):SV→Value→Prop
 |.c x,v=>CmR G O w x v
 |.t xs,v=>∃vs,v=.tuple vs∧All2 (CmR G O w) xs vs.toList
structure Ctx where
 base:Nat
 F0:Nat→Prop
 W0:Nat→Prop
 w0:World
 fx:List Nat
 G0:Gh
 n0:Nat→Nat
 kx:List Nat
 l0:Nat→Nat→Option Nat
structure Keeps (base:Nat) (W0:Nat→Prop) (w w':World):Prop where
 os:w'.os=w.os
 tape:w'.tape=w.tape
 output:w'.output=w.output
 size:w.heap.size≤w'.heap.size
 block:∀b,b<base→¬W0 b→w'.heap[b]?=w.heap[b]?
theorem Keeps.refl (base:Nat) (W0:Nat→Prop) (w:World):Keeps base W0 w w:=⟨rfl,rfl,rfl,Nat.le_refl _,fun _ _ _=>rfl⟩
theorem Keeps.trans {base:Nat} {W0:Nat→Prop} {a b c:World} (h:Keeps base W0 a b) (k:Keeps base W0 b c):Keeps base W0 a c:=
 ⟨k.os.trans h.os,k.tape.trans h.tape,k.output.trans h.output,Nat.le_trans h.size k.size,fun x hx hn=>(k.block x hx hn).trans (h.block x hx hn)⟩
theorem Keeps.below {base:Nat} {w w':World} (h:Keeps base (fun _=>False) w w'):Below base w w':=⟨h.os,h.tape,h.output,h.size,fun k hk=>h.block k hk (fun x=>x)⟩
def Obj.live:Obj→Bool
 |.box _ _=>true
 |.row _ _ _ _=>true
 |.mp _=>true
 |.deep _ _ _ _ _ _=>true
 |_=>false
def Obj.len:Obj→Nat
 |.box _ cs=>cs.length
 |.row _ _ xs _=>xs.length
 |.deep _ _ _ _ xss _=>xss.length
 |_=>0
def RowAt (F:Nat→Prop) (w:World) (t:Ty) (xs:List t.T) (arr:Array Value) (o:Nat):Prop:=
 ∀j x,xs[j]?=some x→∃ce,ce.length=t.sz∧Rep F w t x ce∧∀i u,ce[i]?=some u→arr[o+(j*t.sz+i)]?=some u
def Pend.own:Pend→Nat→Prop
 |.ho a,j=>j≠a.toNat
 |_,_=>True
def Pend.hd:Pend→Nat→Option Nat
 |.ok,j=>some j
 |.sw a i,j=>some (if j=a.toNat then i.toNat else j)
 |.ho a,j=>if j=a.toNat then none else some j
def Bl (G:Gh) (o:Obj) (d b:Nat):Prop:=(∃p,G.m d=some (b,p))∨match o with
 |.deep v _ _ _ xss pd=>∃j:Nat,∃p,j<xss.length∧pd.own j∧G.sub d v j=some (b,p)
 |_=>False
def EntR:List (Int×Int)→List MapEntry→Prop:=All2 fun e m=>m.key=.int .i64 e.1∧m.val=.int .i64 e.2
def own (C:Ctx) (b:Nat):Prop:=C.base≤b∨C.W0 b
def qdo (C:Ctx) (G:Gh) (w:World) (t:Ty) (x:List t.T) (p:Option (Nat×Nat×Nat)):Prop:=match p with
 |none=>x.length=0
 |some (b,o,c)=>x.length≤c∧0<c∧∃arr e,blk w b arr e∧o+c*t.sz≤arr.size∧RowAt G.F w t x arr o∧own C b∧¬G.F b
structure DeepR (C:Ctx) (G:Gh) (w:World) (t:Ty) (xss:List (List t.T)) (pd:Pend) (S:Nat→Option (Nat×Nat×Nat)) (b o:Nat) (arr:Array Value):Prop where
 cells:∀j x,j<xss.length→pd.hd j=some x→x<xss.length∧∃u,arr[o+j]?=some u∧∀y,xss[x]?=some y→HdI (S x) t.sz y.length 0 y.length u
 inner:∀(j:Nat) y,xss[j]?=some y→pd.own j→qdo C G w t y (S j)
 ne:∀j p,j<xss.length→pd.own j→S j=some p→p.1≠b
 sep:∀j j' p p',j≠j'→j<xss.length→j'<xss.length→pd.own j→pd.own j'→S j=some p→S j'=some p'→p.1≠p'.1
def ObjR (C:Ctx) (G:Gh) (O:Nat→Obj) (w:World) (d:Nat):Prop:=match O d with
 |.no=>True
 |.dead=>True
 |.box e cs=>∃b arr,G.m d=some (b,0)∧blk w b arr e∧All2 (LfR G O w) cs arr.toList∧¬G.F b∧own C b
 |.row _ t xs fz=>xs.length≤G.cp d∧((G.cp d=0∧G.m d=none)∨∃b o arr e,G.m d=some (b,o)∧blk w b arr e∧o+G.cp d*t.sz≤arr.size∧RowAt G.F w t xs arr o∧own C b∧(fz=true→G.F b)∧(fz=false→¬G.F b))
 |.caps cs=>All2 (CmR G O w) cs (G.cap d)
 |.fwd d' u i t n=>qbu (O d') u fun t' L=>t'=t∧0≤i∧L i.toNat=some n∧G.sub d' u i.toNat=pkP (G.m d) (G.cp d)
 |.deep v _ _ t xss pd=>xss.length≤G.cp d∧((G.cp d=0∧G.m d=none)∨∃b o arr e,G.m d=some (b,o)∧blk w b arr e∧o+G.cp d≤arr.size∧own C b∧¬G.F b∧DeepR C G w t xss pd (G.sub d v) b o arr)
 |.mp es=>∃b arr clock,G.m d=some (b,0)∧w.heap[b]?=some (.map arr clock)∧EntR es arr.toList∧¬G.F b∧own C b
structure Core (C:Ctx) (G:Gh) (O:Nat→Obj) (w:World):Prop where
 ob:∀d,ObjR C G O w d
 injB:∀d d' b b',d≠d'→(O d).live=true→(O d').live=true→Bl G (O d) d b→Bl G (O d') d' b'→b≠b'
 F1:∀b,G.F b→b<w.heap.size
 F2:∀b,C.F0 b→G.F b
 F3:∀b,G.F b→C.F0 b∨own C b
 keep:Keeps C.base C.W0 C.w0 w
 size:C.base≤w.heap.size
 fix:∀d,d∈C.fx→O d≠.no∧((O d).live=true→G.m d=C.G0.m d∧G.cp d=C.G0.cp d∧(O d).len=C.n0 d)
 kept:∀d v e e2 t xss pd,d∈C.fx→d∈C.kx→O d=.deep v e e2 t xss pd→G.sub d 0=C.G0.sub d 0∧(v=0→∀i:Nat,(xss[i]?).map List.length=C.l0 d i)
theorem Core.inj {C:Ctx} {G:Gh} {O:Nat→Obj} {w:World} (h:Core C G O w):∀d d' b o b' o',d≠d'→(O d).live=true→(O d').live=true→G.m d=some (b,o)→G.m d'=some (b',o')→b≠b':=fun d d' b o b' o' hn hl hl' hm hm'=>h.injB d d' b b' hn hl hl' (Or.inl ⟨o,hm⟩) (Or.inl ⟨o',hm'⟩)
def TmR (G:Gh) (st:St) (w:World) (tmps:Array Value):Prop:=∀t,SVR G st.o w (st.t t) (tmps.getD t undef)
def Sim:Obj→Obj→Prop
 |.no,_=>True
 |_,.dead=>True
 |.row _ t xs _,.row _ t' xs' _=>t=t'∧xs.length=xs'.length
 |.box _ _,.box _ _=>True
 |.caps _,.caps _=>True
 |.mp _,.mp _=>True
 |.deep v _ e2 t xs _,.deep v' _ e2' t' xs' _=>e2=e2'∧t=t'∧xs.length=xs'.length∧(v<v'∨v=v'∧∀i:Nat,(xs[i]?).map List.length=(xs'[i]?).map List.length)
 |.deep _ _ e2 t xs _,.row _ t' xs' _=>t'=.list e2 t∧xs.length=xs'.length
 |.row _ t xs _,.fwd _ _ _ t' n=>t=t'∧xs.length=n
 |.deep _ _ e2 t xs _,.fwd _ _ _ t' n=>t'=.list e2 t∧xs.length=n
 |.fwd d u i t n,.fwd d' u' i' t' n'=>d=d'∧u=u'∧i=i'∧t=t'∧n=n'
 |_,_=>False
def OldV:Obj→Nat→Prop
 |.deep v _ _ _ _ _,u=>u≤v
 |_,_=>False
theorem Sim.refl (x:Obj):Sim x x:=by cases x<;>simp [Sim]
theorem Sim.trans {a b c:Obj} (h:Sim a b) (k:Sim b c) (hb:b≠.no):Sim a c:=by
 cases a<;>cases b<;>cases c<;>first|(simp_all [Sim];done)|skip
 ·obtain ⟨h1,h2,h3,h4⟩:=h
  obtain ⟨k1,k2,k3,k4⟩:=k
  refine ⟨h1.trans k1,h2.trans k2,h3.trans k3,?_⟩
  rcases h4 with h4|⟨h4,h5⟩
  ·rcases k4 with k4|⟨k4,k5⟩
   ·exact Or.inl (Nat.lt_trans h4 k4)
   ·exact Or.inl (by omega)
  ·rcases k4 with k4|⟨k4,k5⟩
   ·exact Or.inl (by omega)
   ·exact Or.inr ⟨h4.trans k4,fun i=>(h5 i).trans (k5 i)⟩
theorem OldV.mid {a b c:Obj} {u:Nat} (h:Sim a b) (k:Sim b c) (hb:b≠.no) (ha:OldV a u) (hc:OldV c u):OldV b u:=by
 cases a<;>first|exact ha.elim|skip
 cases c<;>first|exact hc.elim|skip
 cases b<;>first|exact h.elim|exact k.elim|exact absurd rfl hb|skip
 rename_i v1 e1 f1 t1 x1 p1 v3 e3 f3 t3 x3 p3 v2 e2 f2 t2 x2 p2
 have ha:u≤v1:=ha
 show u≤v2
 rcases h.2.2.2 with h4|⟨h4,_⟩<;>omega
structure Ext (G:Gh) (O:Nat→Obj) (w:World) (G':Gh) (O':Nat→Obj) (w':World):Prop where
 F:∀b,G.F b→G'.F b
 Fw:∀b,G.F b→w'.heap[b]?=w.heap[b]?
 sim:∀d,O d≠.no→O' d≠.no∧Sim (O d) (O' d)∧(O' d≠.dead→G'.m d=G.m d∧G'.cp d=G.cp d∧G'.cap d=G.cap d∧∀u,OldV (O d) u→OldV (O' d) u→G'.sub d u=G.sub d u)
theorem Ext.refl (G:Gh) (O:Nat→Obj) (w:World):Ext G O w G O w:=⟨fun _ h=>h,fun _ _=>rfl,fun _ h=>⟨h,Sim.refl _,fun _=>⟨rfl,rfl,rfl,fun _ _ _=>rfl⟩⟩⟩
theorem Ext.trans {G G1 G2:Gh} {O O1 O2:Nat→Obj} {w w1 w2:World} (h:Ext G O w G1 O1 w1) (k:Ext G1 O1 w1 G2 O2 w2):Ext G O w G2 O2 w2:=
 ⟨fun b hb=>k.F b (h.F b hb),fun b hb=>(k.Fw b (h.F b hb)).trans (h.Fw b hb),fun d hd=>by
  obtain ⟨h1,h2,h3⟩:=h.sim d hd
  obtain ⟨k1,k2,k3⟩:=k.sim d h1
  refine ⟨k1,Sim.trans h2 k2 h1,fun hn=>?_⟩
  obtain ⟨e1,e2,e3,e4⟩:=k3 hn
  have hn1:O1 d≠.dead:=by
   intro e
   rw [e] at k2
   cases h4:O2 d<;>rw [h4] at k2 hn<;>simp_all [Sim]
  obtain ⟨f1,f2,f3,f4⟩:=h3 hn1
  exact ⟨e1.trans f1,e2.trans f2,e3.trans f3,fun u hu hu2=>(e4 u (OldV.mid h2 k2 h1 hu hu2) hu2).trans (f4 u hu (OldV.mid h2 k2 h1 hu hu2))⟩⟩
section
variable {G G':Gh} {O O':Nat→Obj} {w w':World}
theorem OnRow.mono {a b:Obj} {R R':Ty→Nat→Prop} (hs:b=.dead∨Sim a b∧b≠.dead∧∀t n,R t n→R' t n) (h:OnRow a R):OnRow b R':=by
 rcases hs with rfl|⟨hs,hd,hr⟩
 ·trivial
 ·cases a<;>cases b<;>simp_all [OnRow,Sim]
theorem OnBox.mono {a b:Obj} {R R':Prop} (hs:b=.dead∨Sim a b∧b≠.dead∧(R→R')) (h:OnBox a R):OnBox b R':=by
 rcases hs with rfl|⟨hs,hd,hr⟩
 ·trivial
 ·cases a<;>cases b<;>simp_all [OnBox,Sim]
theorem qcf.mono {a b:Obj} {R R':Prop} (hs:b=.dead∨Sim a b∧b≠.dead∧(R→R')) (h:qcf a R):qcf b R':=by
 rcases hs with rfl|⟨hs,hd,hr⟩
 ·trivial
 ·cases a<;>cases b<;>simp_all [qcf,Sim]
theorem OnMap.mono {a b:Obj} {R R':Prop} (hs:b=.dead∨Sim a b∧b≠.dead∧(R→R')) (h:OnMap a R):OnMap b R':=by
 rcases hs with rfl|⟨hs,hd,hr⟩
 ·trivial
 ·cases a<;>cases b<;>simp_all [OnMap,Sim]
theorem qbu.mono {a b:Obj} {u:Nat} {R R':Ty→(Nat→Option Nat)→Prop} (hs:b=.dead∨Sim a b∧b≠.dead∧(OldV a u→OldV b u→∀t L,R t L→R' t L)) (h:qbu a u R):qbu b u R':=by
 rcases hs with rfl|⟨hs,hd,hr⟩
 ·trivial
 ·cases a<;>cases b<;>first|trivial|exact h.elim|exact hs.elim|exact absurd rfl hd|skip
  rename_i v1 e1 f1 t1 x1 p1 v2 e2 f2 t2 x2 p2
  obtain ⟨rfl,rfl,hl,hv⟩:=hs
  have h:u<v1∨(u=v1∧R t1 (fun i=>(x1[i]?).map List.length)):=h
  show u<v2∨(u=v2∧R' t1 (fun i=>(x2[i]?).map List.length))
  rcases hv with hv|⟨rfl,hi⟩
  ·rcases h with h|⟨h,_⟩
   ·exact Or.inl (by omega)
   ·exact Or.inl (by omega)
  ·rcases h with h|⟨h,hR⟩
   ·exact Or.inl h
   ·refine Or.inr ⟨h,?_⟩
    have e:(fun i:Nat=>(x2[i]?).map List.length)=(fun i:Nat=>(x1[i]?).map List.length):=funext fun i=>(hi i).symm
    rw [e]
    exact hr (by show u≤v1;omega) (by show u≤v1;omega) _ _ hR
theorem qbu.ne {a:Obj} {u:Nat} {R:Ty→(Nat→Option Nat)→Prop} (h:qbu a u R):a≠.no:=by rintro rfl;exact h
theorem OnMap.ne {a:Obj} {R:Prop} (h:OnMap a R):a≠.no:=by rintro rfl;exact h
theorem OnRow.ne {a:Obj} {R:Ty→Nat→Prop} (h:OnRow a R):a≠.no:=by rintro rfl;exact h
theorem OnBox.ne {a:Obj} {R:Prop} (h:OnBox a R):a≠.no:=by rintro rfl;exact h
theorem qcf.ne {a:Obj} {R:Prop} (h:qcf a R):a≠.no:=by rintro rfl;exact h
theorem Ext.at {d:Nat} (h:Ext G O w G' O' w') (hd:O d≠.no):O' d=.dead∨Sim (O d) (O' d)∧O' d≠.dead∧G'.m d=G.m d∧G'.cp d=G.cp d∧G'.cap d=G.cap d∧∀u,OldV (O d) u→OldV (O' d) u→G'.sub d u=G.sub d u:=by
 obtain ⟨_,h2,h3⟩:=h.sim d hd
 by_cases e:O' d=.dead
 ·exact Or.inl e
 ·exact Or.inr ⟨h2,e,h3 e⟩
theorem LfB.mono (h:Ext G O w G' O' w'):∀{x:Lf} {v:Value},LfB G O w x v→LfB G' O' w' x v
 |.u,_,_=>trivial
 |.v t x,v,hx=>Rep.mono h.F h.Fw (show Rep G.F w t x [v] from hx)
 |.bl _,_,hx=>hx
 |.b _ _,_,hx=>hx
 |.nb _ _,_,hx=>hx
 |.q _ _ _,_,hx=>hx
 |.nils,_,hx=>hx
 |.np,_,hx=>hx
 |.fn0 _,_,hx=>hx
 |.e t x c,v,⟨b,o,cs,h1,h2,h3,h4⟩=>⟨b,o,cs,h.F b h1,Rep.mono h.F h.Fw h2,fun i u hi=>by
   rw [World.cell?_of_block (w:=w) (h.Fw b h1)]
   exact h3 i u hi,h4⟩
 |.o d,v,hx=>by
  have hx':OnRow (O d) (fun t n=>HdR G d t.sz n 0 n v):=hx
  show OnRow (O' d) (fun t n=>HdR G' d t.sz n 0 n v)
  refine OnRow.mono ((h.at hx'.ne).imp id fun ⟨a,b,c,e,_⟩=>⟨a,b,fun t n=>?_⟩) hx'
  unfold HdR;rw [c,e];exact id
 |.os d off len,v,hx=>by
  have hx':OnRow (O d) (fun t n=>HdR G d t.sz n off len v):=hx
  show OnRow (O' d) (fun t n=>HdR G' d t.sz n off len v)
  refine OnRow.mono ((h.at hx'.ne).imp id fun ⟨a,b,c,e,_⟩=>⟨a,b,fun t n=>?_⟩) hx'
  unfold HdR;rw [c,e];exact id
 |.p d c,v,hx=>OnBox.mono ((h.at (OnBox.ne hx)).imp id fun ⟨a,b,c,e,_⟩=>⟨a,b,by rw [c];exact id⟩) hx
 |.oe d i c,v,hx=>by
  have hx':OnRow (O d) (fun t n=>0≤i∧i<(n:Int)∧∃b o,G.m d=some (b,o)∧v=.pointer (some ⟨b,o+i.toNat*t.sz+c,none⟩)):=hx
  show OnRow (O' d) (fun t n=>0≤i∧i<(n:Int)∧∃b o,G'.m d=some (b,o)∧v=.pointer (some ⟨b,o+i.toNat*t.sz+c,none⟩))
  refine OnRow.mono ((h.at hx'.ne).imp id fun ⟨a,b,c,e,_⟩=>⟨a,b,fun t n=>?_⟩) hx'
  rw [c];exact id
 |.fn f d,v,hx=>qcf.mono ((h.at (qcf.ne hx)).imp id fun ⟨a,b,c,e,f,_⟩=>⟨a,b,by rw [f];exact id⟩) hx
 |.m d,v,hx=>OnMap.mono ((h.at (OnMap.ne hx)).imp id fun ⟨a,b,c,e,_⟩=>⟨a,b,by rw [c];exact id⟩) hx
 |.oh d u i,v,hx=>by
  have hx':qbu (O d) u (fun t L=>0≤i∧∃n:Nat,L i.toNat=some n∧HdI (G.sub d u i.toNat) t.sz n 0 n v):=hx
  show qbu (O' d) u (fun t L=>0≤i∧∃n:Nat,L i.toNat=some n∧HdI (G'.sub d u i.toNat) t.sz n 0 n v)
  refine qbu.mono ((h.at hx'.ne).imp id fun ⟨a,b,_,_,_,s⟩=>⟨a,b,fun o1 o2 t L q=>?_⟩) hx'
  rw [s u o1 o2];exact q
 |.ohs d u i off len,v,hx=>by
  have hx':qbu (O d) u (fun t L=>0≤i∧∃n:Nat,L i.toNat=some n∧HdI (G.sub d u i.toNat) t.sz n off len v):=hx
  show qbu (O' d) u (fun t L=>0≤i∧∃n:Nat,L i.toNat=some n∧HdI (G'.sub d u i.toNat) t.sz n off len v)
  refine qbu.mono ((h.at hx'.ne).imp id fun ⟨a,b,_,_,_,s⟩=>⟨a,b,fun o1 o2 t L q=>?_⟩) hx'
  rw [s u o1 o2];exact q
 |.oi d u i j c,v,hx=>by
  have hx':qbu (O d) u (fun t L=>0≤i∧0≤j∧∃n:Nat,L i.toNat=some n∧j<(n:Int)∧∃b o k,G.sub d u i.toNat=some (b,o,k)∧v=.pointer (some ⟨b,o+j.toNat*t.sz+c,none⟩)):=hx
  show qbu (O' d) u (fun t L=>0≤i∧0≤j∧∃n:Nat,L i.toNat=some n∧j<(n:Int)∧∃b o k,G'.sub d u i.toNat=some (b,o,k)∧v=.pointer (some ⟨b,o+j.toNat*t.sz+c,none⟩))
  refine qbu.mono ((h.at hx'.ne).imp id fun ⟨a,b,_,_,_,s⟩=>⟨a,b,fun o1 o2 t L q=>?_⟩) hx'
  rw [s u o1 o2];exact q
 |.sb d n,v,hx=>OnBox.mono ((h.at (OnBox.ne hx)).imp id fun ⟨a,b,c,e,_⟩=>⟨a,b,by rw [c];exact id⟩) hx
 |.ap d,v,hx=>by
  have hx':OnRow (O d) (fun _ n=>0<n∧n=G.cp d∧∃b o,G.m d=some (b,o)∧v=.pointer (some ⟨b,o,none⟩)):=hx
  show OnRow (O' d) (fun _ n=>0<n∧n=G'.cp d∧∃b o,G'.m d=some (b,o)∧v=.pointer (some ⟨b,o,none⟩))
  refine OnRow.mono ((h.at hx'.ne).imp id fun ⟨a,b,c,e,_⟩=>⟨a,b,fun t n=>?_⟩) hx'
  rw [c,e];exact id
theorem LfR.mono (h:Ext G O w G' O' w') {x:Lf} {v:Value} (hx:LfR G O w x v):LfR G' O' w' x v:=⟨hx.1,LfB.mono h hx.2⟩
theorem CmR.mono (h:Ext G O w G' O' w'):∀{x:Cm} {v:Value},CmR G O w x v→CmR G' O' w' x v
 |.u,_,_=>trivial
 |.l _,_,hx=>LfR.mono h hx
 |.a _,_,⟨cs,e,hx⟩=>⟨cs,e,hx.mono fun _ _=>LfR.mono h⟩
theorem SVR.mono (h:Ext G O w G' O' w'):∀{x:SV} {v:Value},SVR G O w x v→SVR G' O' w' x v
 |.c _,_,hx=>CmR.mono h hx
 |.t _,_,⟨vs,e,hx⟩=>⟨vs,e,hx.mono fun _ _=>CmR.mono h⟩
end
theorem SVR.leaf {G:Gh} {O:Nat→Obj} {w:World}:∀{x:SV} {v:Value} {y:Lf},SVR G O w x v→x.leaf=some y→LfR G O w y v
 |.c (.l _),_,_,h,e=>by cases e;exact h
 |.c (.a _),_,_,_,e=>by cases e
 |.c .u,_,_,_,e=>by cases e
 |.t _,_,_,_,e=>by cases e
theorem SVR.cm {G:Gh} {O:Nat→Obj} {w:World}:∀{x:SV} {v:Value},SVR G O w x v→CmR G O w x.cm v
 |.c _,_,h=>h
 |.t _,_,_=>trivial
theorem Rep.one {F:Nat→Prop} {w:World}:∀{t:Ty} {x:t.T} {cs:List Value},Rep F w t x cs→∀u∈cs,one u=true
 |.int _,_,_,h,u,hu=>by rw [show _=_ from h,List.mem_singleton] at hu;rw [hu];rfl
 |.bool,_,_,h,u,hu=>by rw [show _=_ from h,List.mem_singleton] at hu;rw [hu];rfl
 |.str,_,_,h,u,hu=>by rw [show _=_ from h,List.mem_singleton] at hu;rw [hu];rfl
 |.list _ _,_,_,⟨_,_,h,_⟩,u,hu=>by rw [h,List.mem_singleton] at hu;rw [hu];rfl
 |.pair _ _,_,_,⟨_,_,h,h0,h1⟩,u,hu=>by
  rw [h,List.mem_append] at hu
  rcases hu with hu|hu
  ·exact Rep.one h0 u hu
  ·exact Rep.one h1 u hu
 |.unit,_,_,h,u,hu=>by rw [show _=_ from h] at hu;cases hu
 |.fn _,_,_,⟨_,_,h⟩,u,hu=>by rw [h,List.mem_singleton] at hu;rw [hu];rfl
end Go.Proofs.YtfobeapcmgjhbaaGreatDoor.VE
namespace Go.Proofs.YtfobeapcmgjhbaaGreatDoor.VE
open Go Go.RowKit
theorem RowAt.mono {F F':Nat→Prop} {w w':World} {t:Ty} {xs:List t.T} {arr:Array Value} {o:Nat} (hF:∀b,F b→F' b) (hw:∀b,F b→w'.heap[b]?=w.heap[b]?) (h:RowAt F w t xs arr o):RowAt F' w' t xs arr o:=fun j x hj=>by
 obtain ⟨ce,h1,h2,h3⟩:=h j x hj
 exact ⟨ce,h1,Rep.mono hF hw h2,h3⟩
section
variable {C:Ctx} {G G':Gh} {O O':Nat→Obj} {w w':World}
theorem qdo.mono {G':Gh} {w':World} {C2:Ctx} {t:Ty} {x:List t.T} {p:Option (Nat×Nat×Nat)} (hF:∀b,G.F b→G'.F b) (hFw:∀b,G.F b→w'.heap[b]?=w.heap[b]?) (hb:∀b o c,p=some (b,o,c)→w'.heap[b]?=w.heap[b]?∧(G'.F b→G.F b)∧(own C b→own C2 b)) (h:qdo C G w t x p):qdo C2 G' w' t x p:=by
 cases p with
 |none=>exact h
 |some q=>
  obtain ⟨b,o,c⟩:=q
  obtain ⟨h1,h2,arr,e,h3,h4,h5,h6,h7⟩:=h
  obtain ⟨k1,k2,k3⟩:=hb b o c rfl
  exact ⟨h1,h2,arr,e,k1.trans h3,h4,h5.mono hF hFw,k3 h6,fun hF=>h7 (k2 hF)⟩
theorem DeepR.mono {G':Gh} {w':World} {C2:Ctx} {t:Ty} {xss:List (List t.T)} {pd:Pend} {S:Nat→Option (Nat×Nat×Nat)} {b o:Nat} {arr:Array Value} (hF:∀b,G.F b→G'.F b) (hFw:∀b,G.F b→w'.heap[b]?=w.heap[b]?) (hb:∀j p,j<xss.length→pd.own j→S j=some p→w'.heap[p.1]?=w.heap[p.1]?∧(G'.F p.1→G.F p.1)∧(own C p.1→own C2 p.1)) (h:DeepR C G w t xss pd S b o arr):DeepR C2 G' w' t xss pd S b o arr where
 cells:=h.cells
 inner j y hj ho:=(h.inner j y hj ho).mono hF hFw (fun b o c hp=>hb j (b,o,c) (List.getElem?_eq_some_iff.1 hj).1 ho hp)
 ne:=h.ne
 sep:=h.sep
theorem ObjR.keep {d:Nat} (x:Ext G O w G' O' w') (ho:O' d=O d) (hm:G'.m d=G.m d) (hc:G'.cp d=G.cp d) (hk:G'.cap d=G.cap d) (hs:G'.sub d=G.sub d)
  (hB:∀b,(O d).live=true→Bl G (O d) d b→w'.heap[b]?=w.heap[b]?∧(G'.F b→G.F b)) (h:ObjR C G O w d):ObjR C G' O' w' d:=by
 have hb:∀b o,(O d).live=true→G.m d=some (b,o)→w'.heap[b]?=w.heap[b]?∧(G'.F b→G.F b):=fun b o hl hm=>hB b hl (Or.inl ⟨o,hm⟩)
 unfold ObjR at h ⊢
 rw [ho]
 cases e:O d with
 |no=>trivial
 |dead=>trivial
 |box t cs=>
  rw [e] at h hb
  obtain ⟨b,arr,h1,h2,h3,h4,h5⟩:=h
  obtain ⟨k1,k2⟩:=hb b 0 rfl h1
  exact ⟨b,arr,hm.trans h1,k1.trans h2,h3.mono fun _ _=>LfR.mono x,fun hF=>h4 (k2 hF),h5⟩
 |row t ty xs fz=>
  rw [e] at h hb
  obtain ⟨h0,h⟩:=h
  refine ⟨by rw [hc];exact h0,?_⟩
  rcases h with ⟨h1,h2⟩|⟨b,o,arr,t',h1,h2,h3,h4,h5,h6,h7⟩
  ·exact Or.inl ⟨hc.trans h1,hm.trans h2⟩
  ·obtain ⟨k1,k2⟩:=hb b o rfl h1
   exact Or.inr ⟨b,o,arr,t',hm.trans h1,k1.trans h2,by rw [hc];exact h3,h4.mono x.F x.Fw,h5,fun hz=>x.F b (h6 hz),fun hz hF=>h7 hz (k2 hF)⟩
 |caps cs=>
  rw [e] at h
  show All2 _ cs (G'.cap d)
  rw [hk]
  exact h.mono fun _ _=>CmR.mono x
 |mp es=>
  rw [e] at h hb
  obtain ⟨b,arr,clock,h1,h2,h3,h4,h5⟩:=h
  obtain ⟨k1,k2⟩:=hb b 0 rfl h1
  exact ⟨b,arr,clock,hm.trans h1,k1.trans h2,h3,fun hF=>h4 (k2 hF),h5⟩
 |fwd d' u i t n=>
  rw [e] at h
  have h:qbu (O d') u (fun t' L=>t'=t∧0≤i∧L i.toNat=some n∧G.sub d' u i.toNat=pkP (G.m d) (G.cp d)):=h
  show qbu (O' d') u (fun t' L=>t'=t∧0≤i∧L i.toNat=some n∧G'.sub d' u i.toNat=pkP (G'.m d) (G'.cp d))
  refine qbu.mono ((x.at h.ne).imp id fun ⟨a,b,_,_,_,s⟩=>⟨a,b,fun o1 o2 t L q=>?_⟩) h
  rw [s u o1 o2,hm,hc];exact q
 |deep v t t2 ty xss pd=>
  rw [e] at h hb hB
  obtain ⟨h0,h⟩:=h
  refine ⟨by rw [hc];exact h0,?_⟩
  rcases h with ⟨h1,h2⟩|⟨b,o,arr,t',h1,h2,h3,h4,h5,h6⟩
  ·exact Or.inl ⟨hc.trans h1,hm.trans h2⟩
  ·obtain ⟨k1,k2⟩:=hb b o rfl h1
   refine Or.inr ⟨b,o,arr,t',hm.trans h1,k1.trans h2,by rw [hc];exact h3,h4,fun hF=>h5 (k2 hF),?_⟩
   rw [hs]
   exact h6.mono x.F x.Fw (fun j p hj ho hp=>by
    obtain ⟨m1,m2⟩:=hB p.1 rfl (Or.inr ⟨j,p.2,hj,ho,hp⟩)
    exact ⟨m1,m2,id⟩)
theorem Core.block (h:Core C G O w) {d b o:Nat} (hl:(O d).live=true) (hm:G.m d=some (b,o)):b<w.heap.size∧own C b:=by
 have k:=h.ob d
 unfold ObjR at k
 cases e:O d with
 |no=>rw [e] at hl;cases hl
 |dead=>rw [e] at hl;cases hl
 |caps cs=>rw [e] at hl;cases hl
 |box t cs=>
  rw [e] at k
  obtain ⟨b',arr,h1,h2,h3,h4,h5⟩:=k
  rw [hm] at h1
  cases h1
  exact ⟨h2.lt,h5⟩
 |row t ty xs fz=>
  rw [e] at k
  rcases k.2 with ⟨_,h2⟩|⟨b',o',arr,t',h1,h2,h3,h4,h5,h6,h7⟩
  ·rw [hm] at h2;cases h2
  ·rw [hm] at h1
   cases h1
   exact ⟨h2.lt,h5⟩
 |mp es=>
  rw [e] at k
  obtain ⟨b',arr,clock,h1,h2,h3,h4,h5⟩:=k
  rw [hm] at h1
  cases h1
  exact ⟨(Array.getElem?_eq_some_iff.1 h2).1,h5⟩
 |fwd d' u i t n=>rw [e] at hl;cases hl
 |deep v t t2 ty xss pd=>
  rw [e] at k
  rcases k.2 with ⟨_,h2⟩|⟨b',o',arr,t',h1,h2,h3,h4,h5,h6⟩
  ·rw [hm] at h2;cases h2
  ·rw [hm] at h1
   cases h1
   exact ⟨h2.lt,h4⟩
theorem Core.deep (h:Core C G O w) {d v:Nat} {e e2:TypeId} {t:Ty} {xss:List (List t.T)} {pd:Pend} (hd:O d=.deep v e e2 t xss pd) :
  xss.length≤G.cp d∧((G.cp d=0∧G.m d=none)∨∃b o arr e,G.m d=some (b,o)∧blk w b arr e∧o+G.cp d≤arr.size∧own C b∧¬G.F b∧DeepR C G w t xss pd (G.sub d v) b o arr):=by
 have k:=h.ob d
 unfold ObjR at k
 rw [hd] at k
 exact k
theorem Core.qbR (h:Core C G O w) {d b:Nat} (hl:(O d).live=true) (hB:Bl G (O d) d b):b<w.heap.size∧own C b∧((∃v e e2 t xss pd,O d=.deep v e e2 t xss pd)→¬G.F b):=by
 rcases hB with ⟨o,hm⟩|hB
 ·refine ⟨(h.block hl hm).1,(h.block hl hm).2,?_⟩
  rintro ⟨v,e,e2,t,xss,pd,hd⟩
  rcases (h.deep hd).2 with ⟨_,h2⟩|⟨b',o',arr,t',h1,h2,h3,h4,h5,h6⟩
  ·rw [hm] at h2;cases h2
  ·rw [hm] at h1;cases h1;exact h5
 ·cases e:O d with
  |deep v t t2 ty xss pd=>
   rw [e] at hB
   obtain ⟨j,p,hj,ho,hs⟩:=hB
   rcases (h.deep e).2 with ⟨h1,_⟩|⟨b',o',arr,t',h1,h2,h3,h4,h5,h6⟩
   ·have:=(h.deep e).1
    omega
   ·have hi:=h6.inner j _ (List.getElem?_eq_getElem hj) ho
    rw [hs] at hi
    obtain ⟨_,_,arr2,e2,r3,_,_,r5,r6⟩:=hi
    exact ⟨r3.lt,r5,fun _=>r6⟩
  |_=>rw [e] at hB;exact hB.elim
theorem Bl.plain {o:Obj} {d b:Nat} (h:Bl G o d b) (hn:o.qea=false):∃p,G.m d=some (b,p):=by
 rcases h with h|h
 ·exact h
 ·cases o<;>first|exact h.elim|cases hn
theorem Bl.old {o:Obj} {d b:Nat} (h:Bl G' o d b) (hm:G'.m d=G.m d) (hs:G'.sub d=G.sub d):Bl G o d b:=by
 unfold Bl at h ⊢
 rw [hm] at h
 cases o<;>first|exact h|(rw [hs] at h;exact h)
theorem Core.step (h:Core C G O w) (x:Ext G O w G' O' w') (D:Nat→Prop)
  (same:∀d,¬D d→O' d=O d∧G'.m d=G.m d∧G'.cp d=G.cp d∧G'.cap d=G.cap d∧G'.sub d=G.sub d)
  (keepb:∀d b,¬D d→(O d).live=true→Bl G (O d) d b→w'.heap[b]?=w.heap[b]?∧(G'.F b→G.F b))
  (new:∀d,D d→ObjR C G' O' w' d)
  (inj:∀d d' b b',d≠d'→D d→(O' d).live=true→(O' d').live=true→Bl G' (O' d) d b→Bl G' (O' d') d' b'→b≠b')
  (F1:∀b,G'.F b→G.F b∨b<w'.heap.size∧own C b) (keep:Keeps C.base C.W0 w w')
  (fix:∀d,d∈C.fx→D d→O d≠.no→(O' d).live=true→(O d).live=true∧G'.m d=G.m d∧G'.cp d=G.cp d∧(O' d).len=(O d).len):Core C G' O' w' where
 ob d:=by
  by_cases hD:D d
  ·exact new d hD
  ·obtain ⟨h1,h2,h3,h4,h5⟩:=same d hD
   exact ObjR.keep x h1 h2 h3 h4 h5 (fun b hl hm=>keepb d b hD hl hm) (h.ob d)
 injB d d' b b' hne hl hl' hm hm':=by
  by_cases hD:D d
  ·exact inj d d' b b' hne hD hl hl' hm hm'
  ·by_cases hD':D d'
   ·exact Ne.symm (inj d' d b' b (Ne.symm hne) hD' hl' hl hm' hm)
   ·obtain ⟨h1,h2,h3,h4,h5⟩:=same d hD
    obtain ⟨k1,k2,k3,k4,k5⟩:=same d' hD'
    rw [h1] at hl hm;rw [k1] at hl' hm'
    exact h.injB d d' b b' hne hl hl' (hm.old h2 h5) (hm'.old k2 k5)
 F1 b hb:=by
  rcases F1 b hb with k|k
  ·exact Nat.lt_of_lt_of_le (h.F1 b k) keep.size
  ·exact k.1
 F2 b hb:=x.F b (h.F2 b hb)
 F3 b hb:=by
  rcases F1 b hb with k|k
  ·exact h.F3 b k
  ·exact Or.inr k.2
 keep:=h.keep.trans keep
 size:=Nat.le_trans h.size keep.size
 fix d hd:=by
  obtain ⟨h1,h2⟩:=h.fix d hd
  refine ⟨(x.sim d h1).1,fun hl=>?_⟩
  by_cases hD:D d
  ·obtain ⟨k0,k1,k2,k3⟩:=fix d hd hD h1 hl
   obtain ⟨e1,e2,e3⟩:=h2 k0
   exact ⟨k1.trans e1,k2.trans e2,k3.trans e3⟩
  ·obtain ⟨k1,k2,k3,k4,_⟩:=same d hD
   rw [k1] at hl ⊢
   obtain ⟨e1,e2,e3⟩:=h2 hl
   exact ⟨k2.trans e1,k3.trans e2,e3⟩
 kept d v' e e2 t xss' pd' hd hk hO:=by
  obtain ⟨_,h2,h3⟩:=x.sim d (h.fix d hd).1
  obtain ⟨_,_,_,h6⟩:=h3 (by rw [hO];simp)
  rw [hO] at h2 h6
  cases e0:O d with
  |deep v a b t0 xss pd=>
   rw [e0] at h2 h6
   obtain ⟨q1,q2⟩:=h.kept d _ _ _ _ _ _ hd hk e0
   refine ⟨(h6 0 (Nat.zero_le _) (Nat.zero_le _)).trans q1,fun hv=>?_⟩
   obtain ⟨_,rfl,_,h5⟩:=h2
   rcases h5 with h5|⟨h5,h7⟩
   ·omega
   ·exact fun i=>(h7 i).symm.trans (q2 (by omega) i)
  |no=>exact absurd e0 (h.fix d hd).1
  |_=>rw [e0] at h2;exact h2.elim
theorem Core.world (h:Core C G O w) (hh:w'.heap=w.heap) (ho:w'.os=w.os) (ht:w'.tape=w.tape) (hp:w'.output=w.output):Core C G O w'∧Ext G O w G O w':=by
 have x:Ext G O w G O w':=⟨fun _ h=>h,fun _ _=>by rw [hh],fun _ h=>⟨h,Sim.refl _,fun _=>⟨rfl,rfl,rfl,fun _ _ _=>rfl⟩⟩⟩
 refine ⟨h.step x (fun _=>False) (fun _ _=>⟨rfl,rfl,rfl,rfl,rfl⟩) (fun _ _ _ _ _=>⟨by rw [hh],id⟩) (fun _ h=>h.elim) (fun _ _ _ _ _ h=>h.elim) (fun b hb=>Or.inl hb)
  ⟨ho,ht,hp,by rw [hh];exact Nat.le_refl _,fun _ _ _=>by rw [hh]⟩ (fun _ _ h=>h.elim),x⟩
theorem qad {α:Type} (f:Nat→α) (d:Nat) (v:α):upd f d v d=v:=by simp [upd]
theorem upd_ne {α:Type} (f:Nat→α) {d k:Nat} (v:α) (h:k≠d):upd f d v k=f k:=by
 unfold upd
 have:Nat.beq k d=false:=by
  cases e:Nat.beq k d with
  |false=>rfl
  |true=>exact absurd (Nat.eq_of_beq_eq_true e) h
 rw [this];rfl
structure Made (w w':World) (arr:Array Value) (e:TypeId):Prop where
 heap:w'.heap=w.heap.push (.cells arr e (0,0))
 os:w'.os=w.os
 tape:w'.tape=w.tape
 output:w'.output=w.output
theorem Made.old {arr:Array Value} {e:TypeId} (h:Made w w' arr e) {b:Nat} (hb:b<w.heap.size):w'.heap[b]?=w.heap[b]?:=by
 rw [h.heap,Array.getElem?_push,if_neg (by omega)]
theorem Made.new {arr:Array Value} {e:TypeId} (h:Made w w' arr e):blk w' w.heap.size arr e:=by
 unfold blk
 rw [h.heap,Array.getElem?_push,if_pos rfl]
theorem Made.keeps {arr:Array Value} {e:TypeId} (h:Made w w' arr e) (hC:C.base≤w.heap.size):Keeps C.base C.W0 w w':=
 ⟨h.os,h.tape,h.output,by rw [h.heap,Array.size_push];omega,fun b hb _=>h.old (by omega)⟩
theorem Core.make (h:Core C G O w) {d:Nat} (hd:O d=.no) {arr:Array Value} {e:TypeId} (hw:Made w w' arr e) (x:Obj) (m:Option (Nat×Nat)) (cp:Nat)
  (hm:m=none∨m=some (w.heap.size,0))
  (ho:ObjR C {G with m:=upd G.m d m,cp:=upd G.cp d cp} (upd O d x) w' d) (hx:x.qea=false:=by rfl) :
  Core C {G with m:=upd G.m d m,cp:=upd G.cp d cp} (upd O d x) w'∧Ext G O w {G with m:=upd G.m d m,cp:=upd G.cp d cp} (upd O d x) w':=by
 have hF:∀b,G.F b→w'.heap[b]?=w.heap[b]?:=fun b hb=>hw.old (h.F1 b hb)
 have ex:Ext G O w {G with m:=upd G.m d m,cp:=upd G.cp d cp} (upd O d x) w':=by
  refine ⟨fun _ h=>h,hF,fun k hk=>?_⟩
  have hne:k≠d:=by rintro rfl;exact hk hd
  rw [upd_ne _ _ hne]
  refine ⟨hk,Sim.refl _,fun _=>⟨?_,?_,rfl,fun _ _ _=>rfl⟩⟩
  ·exact upd_ne _ _ hne
  ·exact upd_ne _ _ hne
 refine ⟨h.step ex (fun k=>k=d) (fun k hk=>⟨upd_ne _ _ hk,upd_ne _ _ hk,upd_ne _ _ hk,rfl,rfl⟩) (fun k b hk hl hmk=>⟨hw.old (h.qbR hl hmk).1,id⟩) (by rintro k rfl;exact ho) ?_ (fun b hb=>Or.inl hb) (hw.keeps h.size) ?_,ex⟩
 ·rintro k d' b b' hne rfl hl hl' hmk hmk'
  rw [qad] at hmk
  obtain ⟨o,e1⟩:=hmk.plain hx
  have e1:upd G.m k m k=some (b,o):=e1
  rw [qad] at e1
  have hne':d'≠k:=Ne.symm hne
  rw [upd_ne _ _ hne'] at hl' hmk'
  have e2:Bl G (O d') d' b':=hmk'.old (upd_ne _ _ hne') rfl
  have:=(h.qbR hl' e2).1
  rcases hm with rfl|rfl
  ·cases e1
  ·cases e1;omega
 ·rintro k hk rfl hn
  exact absurd hd hn
structure Put (w w':World) (b:Nat) (arr:Array Value) (e:TypeId):Prop where
 new:blk w' b arr e
 old:∀k,k≠b→w'.heap[k]?=w.heap[k]?
 size:w'.heap.size=w.heap.size
 os:w'.os=w.os
 tape:w'.tape=w.tape
 output:w'.output=w.output
theorem Put.keeps {b:Nat} {arr:Array Value} {e:TypeId} (h:Put w w' b arr e) (ho:own C b):Keeps C.base C.W0 w w':=
 ⟨h.os,h.tape,h.output,by rw [h.size];exact Nat.le_refl _,fun k hk hn=>h.old k (by
  rintro rfl
  rcases ho with ho|ho
  ·omega
  ·exact hn ho)⟩
theorem Core.write (h:Core C G O w) {d b o:Nat} {arr:Array Value} {e:TypeId} (hl:(O d).live=true) (hm:G.m d=some (b,o)) (hF:¬G.F b) (hw:Put w w' b arr e) (x:Obj) (hs:Sim (O d) x) (hlen:x.len=(O d).len)
  (hx:x.live=true) (ho:Ext G O w G (upd O d x) w'→ObjR C G (upd O d x) w' d) (hxd:x.qea=false:=by rfl):Core C G (upd O d x) w'∧Ext G O w G (upd O d x) w':=by
 have ex:Ext G O w G (upd O d x) w':=by
  refine ⟨fun _ h=>h,fun k hk=>hw.old k (by rintro rfl;exact hF hk),fun k hk=>?_⟩
  by_cases hne:k=d
  ·subst hne
   rw [qad]
   refine ⟨?_,hs,fun _=>⟨rfl,rfl,rfl,fun _ _ _=>rfl⟩⟩
   rintro rfl;cases hx
  ·rw [upd_ne _ _ hne]
   exact ⟨hk,Sim.refl _,fun _=>⟨rfl,rfl,rfl,fun _ _ _=>rfl⟩⟩
 refine ⟨h.step ex (fun k=>k=d) (fun k hk=>⟨upd_ne _ _ hk,rfl,rfl,rfl,rfl⟩) (fun k b' hk hl' hm'=>⟨hw.old b' (h.injB k d b' b hk hl' hl hm' (Or.inl ⟨o,hm⟩)),id⟩) (by rintro k rfl;exact ho ex) ?_ (fun b hb=>Or.inl hb) (hw.keeps (h.block hl hm).2) ?_,ex⟩
 ·rintro k d' b1 b' hne rfl hl1 hl' hmk hmk'
  rw [upd_ne _ _ (Ne.symm hne)] at hl' hmk'
  rw [qad] at hmk
  exact h.injB k d' b1 b' hne hl hl' (Or.inl (hmk.plain hxd)) hmk'
 ·rintro k hk rfl hn hlv
  refine ⟨hl,rfl,rfl,?_⟩
  rw [qad];exact hlen
theorem Core.kill (h:Core C G O w) (d:Nat) (hd:O d≠.no):Core C G (upd O d .dead) w∧Ext G O w G (upd O d .dead) w:=by
 have ex:Ext G O w G (upd O d .dead) w:=by
  refine ⟨fun _ h=>h,fun _ _=>rfl,fun k hk=>?_⟩
  by_cases hne:k=d
  ·subst hne
   rw [qad]
   exact ⟨by simp,by cases O k<;>simp [Sim],fun h=>absurd rfl h⟩
  ·rw [upd_ne _ _ hne]
   exact ⟨hk,Sim.refl _,fun _=>⟨rfl,rfl,rfl,fun _ _ _=>rfl⟩⟩
 refine ⟨h.step ex (fun k=>k=d) (fun k hk=>⟨upd_ne _ _ hk,rfl,rfl,rfl,rfl⟩) (fun _ _ _ _ _=>⟨rfl,id⟩) ?_ ?_ (fun b hb=>Or.inl hb) (Keeps.refl _ _ _) ?_,ex⟩
 ·rintro k rfl
  unfold ObjR;rw [qad];trivial
 ·rintro k d' b1 b' hne rfl hl1
  rw [qad] at hl1;cases hl1
 ·rintro k hk rfl hn hlv
  rw [qad] at hlv;cases hlv
theorem qaZ {α:Type} (f:Nat→α):∀(l m:List (Nat×α)),upds f (l++m)=upds (upds f l) m
 |[],_=>rfl
 |(d,v)::l,m=>qaZ (upd f d v) l m
theorem Core.freeze1 (h:Core C G O w) {d:Nat} {e:TypeId} {t:Ty} {xs:List t.T} {fz:Bool} (hd:O d=.row e t xs fz) :
  Core C {G with F:=fun b=>G.F b∨∃o,G.m d=some (b,o)} (upd O d (.row e t xs true)) w∧Ext G O w {G with F:=fun b=>G.F b∨∃o,G.m d=some (b,o)} (upd O d (.row e t xs true)) w:=by
 have hl:(O d).live=true:=by rw [hd];rfl
 have ex:Ext G O w {G with F:=fun b=>G.F b∨∃o,G.m d=some (b,o)} (upd O d (.row e t xs true)) w:=by
  refine ⟨fun _ h=>Or.inl h,fun _ _=>rfl,fun k hk=>?_⟩
  by_cases hne:k=d
  ·subst hne
   rw [qad,hd]
   exact ⟨by simp,⟨rfl,rfl⟩,fun _=>⟨rfl,rfl,rfl,fun _ _ _=>rfl⟩⟩
  ·rw [upd_ne _ _ hne]
   exact ⟨hk,Sim.refl _,fun _=>⟨rfl,rfl,rfl,fun _ _ _=>rfl⟩⟩
 refine ⟨h.step ex (fun k=>k=d) (fun k hk=>⟨upd_ne _ _ hk,rfl,rfl,rfl,rfl⟩) (fun k b hk hl' hm'=>⟨rfl,fun hF=>?_⟩) ?_ ?_ ?_ (Keeps.refl _ _ _) ?_,ex⟩
 ·rcases hF with hF|⟨o',hF⟩
  ·exact hF
  ·exact absurd rfl (h.injB k d b b hk hl' hl hm' (Or.inl ⟨o',hF⟩))
 ·rintro k rfl
  have ho:=h.ob k
  unfold ObjR at ho ⊢
  rw [qad]
  rw [hd] at ho
  obtain ⟨h0,ho⟩:=ho
  refine ⟨h0,ho.imp id ?_⟩
  rintro ⟨b,o,arr,t',h1,h2,h3,h4,h5,h6,h7⟩
  exact ⟨b,o,arr,t',h1,h2,h3,h4.mono (fun _ h=>Or.inl h) (fun _ _=>rfl),h5,fun _=>Or.inr ⟨o,h1⟩,fun hz=>by cases hz⟩
 ·rintro k d' b1 b' hne rfl hl1 hl' hmk hmk'
  rw [upd_ne _ _ (Ne.symm hne)] at hl' hmk'
  rw [qad] at hmk
  exact h.injB k d' b1 b' hne hl hl' (Or.inl (hmk.plain rfl)) hmk'
 ·rintro b (hb|⟨o,hb⟩)
  ·exact Or.inl hb
  ·exact Or.inr (h.block hl hb)
 ·rintro k hk rfl hn hlv
  refine ⟨hl,rfl,rfl,?_⟩
  rw [qad,hd];rfl
end
end Go.Proofs.YtfobeapcmgjhbaaGreatDoor.VE
namespace Go.Proofs.YtfobeapcmgjhbaaGreatDoor.VE
open Go Go.RowKit
section
variable {C:Ctx} {G:Gh} {O:Nat→Obj} {w:World}
theorem LfR.of {F:Nat→Prop} {t:Ty} {x:t.T} {v:Value} (hF:G.F=F) (h:Rep F w t x [v]):LfR G O w (.v t x) v:=by
 subst hF
 exact ⟨Rep.one h v (List.mem_singleton.2 rfl),h⟩
theorem qcn:∀{t:Ty} {x:t.T} {cs:List Value},Rep G.F w t x cs→All2 (LfR G O w) (leaves t x) cs
 |.int k,x,cs,h=>by
  obtain rfl:cs=[.int k x]:=h
  exact ⟨LfR.of rfl rfl,trivial⟩
 |.bool,x,cs,h=>by
  obtain rfl:cs=[.bool x]:=h
  exact ⟨LfR.of rfl rfl,trivial⟩
 |.str,x,cs,h=>by
  obtain rfl:cs=[.string x]:=h
  exact ⟨LfR.of rfl rfl,trivial⟩
 |.list e t,x,cs,h=>by
  obtain ⟨A,c,rfl,h2⟩:=h
  exact ⟨LfR.of rfl ⟨A,c,rfl,h2⟩,trivial⟩
 |.pair a b,x,cs,h=>by
  obtain ⟨c0,c1,rfl,h0,h1⟩:=h
  exact All2.append (qcn h0) (qcn h1)
 |.unit,x,cs,h=>by
  obtain rfl:cs=[]:=h
  trivial
 |.fn fs,x,cs,h=>by
  obtain ⟨f,h1,rfl⟩:=h
  exact ⟨LfR.of rfl ⟨f,h1,rfl⟩,trivial⟩
def TVR (F:Nat→Prop) (w:World):TV→Value→Prop
 |.mk t x,v=>Rep F w t x [v]
 |.nil,v=>v=.slice none 0 0
def FzF (G:Gh) (ds:List Nat) (b:Nat):Prop:=G.F b∨∃d∈ds,∃o,G.m d=some (b,o)
theorem TVR.mono {F F':Nat→Prop} {w w':World} (hF:∀b,F b→F' b) (hw:∀b,F b→w'.heap[b]?=w.heap[b]?):∀{x:TV} {v:Value},TVR F w x v→TVR F' w' x v
 |.mk t x,v,h=>Rep.mono hF hw (show Rep F w t x [v] from h)
 |.nil,_,h=>h
theorem Core.row (h:Core C G O w) {d:Nat} {e:TypeId} {t:Ty} {xs:List t.T} {fz:Bool} (hd:O d=.row e t xs fz) :
  xs.length≤G.cp d∧((G.cp d=0∧G.m d=none)∨∃b o arr t',G.m d=some (b,o)∧blk w b arr t'∧o+G.cp d*t.sz≤arr.size∧RowAt G.F w t xs arr o∧own C b∧(fz=true→G.F b)∧(fz=false→¬G.F b)):=by
 have k:=h.ob d
 unfold ObjR at k
 rw [hd] at k
 exact k
theorem Core.box (h:Core C G O w) {d:Nat} {e:TypeId} {cs:List Lf} (hd:O d=.box e cs) :
  ∃b arr,G.m d=some (b,0)∧blk w b arr e∧All2 (LfR G O w) cs arr.toList∧¬G.F b∧own C b:=by
 have k:=h.ob d
 unfold ObjR at k
 rw [hd] at k
 exact k
def qfZ (F:Nat→Prop) (w:World) (t:Ty) (xs:List t.T) (b o:Nat):Prop:=
 ∀j x,xs[j]?=some x→∃ce,ce.length=t.sz∧Rep F w t x ce∧∀i u,ce[i]?=some u→w.cell? ⟨b,o+(j*t.sz+i),none⟩=some u
theorem Core.elems (h:Core C G O w) {d:Nat} {e:TypeId} {t:Ty} {xs:List t.T} {fz:Bool} (hd:O d=.row e t xs fz) {off len:Nat} {v:Value} (hv:HdR G d t.sz xs.length off len v) :
  ((xs.drop off).take len).length=len∧∃A c,v=.slice A len c∧len≤c∧(0<len→∃b o,G.m d=some (b,o)∧A=some ⟨b,o+off*t.sz,none⟩∧qfZ G.F w t ((xs.drop off).take len) b (o+off*t.sz)):=by
 obtain ⟨h1,A,c,rfl,h2,h3,h4⟩:=hv
 have hl:((xs.drop off).take len).length=len:=by rw [List.length_take,List.length_drop];omega
 refine ⟨hl,A,c,rfl,h2,fun hn=>?_⟩
 obtain ⟨b,o,hm,rfl⟩:=h4 (by omega)
 refine ⟨b,o,hm,rfl,fun j x hj=>?_⟩
 have hj':xs[off+j]?=some x:=by
  rw [List.getElem?_take] at hj
  split at hj
  ·rw [List.getElem?_drop] at hj;exact hj
  ·cases hj
 rcases (h.row hd).2 with ⟨_,k⟩|⟨b',o',arr,t',k1,k2,k3,k4,_⟩
 ·rw [hm] at k;cases k
 ·rw [hm] at k1
  cases k1
  obtain ⟨ce,e1,e2,e3⟩:=k4 _ x hj'
  refine ⟨ce,e1,e2,fun i u hi=>?_⟩
  rw [k2.cell]
  have:=e3 i u hi
  rw [Nat.add_mul] at this
  rw [←this]
  congr 1
  omega
theorem Core.part (h:Core C G O w) {d:Nat} {e:TypeId} {t:Ty} {xs:List t.T} {fz:Bool} (hd:O d=.row e t xs fz) {off len:Nat} {v:Value} (hv:HdR G d t.sz xs.length off len v) {F:Nat→Prop} (hF:∀b,G.F b→F b) (hF':∀b o,G.m d=some (b,o)→F b) :
  Rep F w (.list e t) ((xs.drop off).take len) [v]:=by
 obtain ⟨hl,A,c,rfl,h2,h3⟩:=h.elems hd hv
 refine ⟨A,c,by rw [hl],by rw [hl];exact h2,fun hn=>?_⟩
 rw [hl] at hn
 obtain ⟨b,o,hm,rfl,he⟩:=h3 hn
 refine ⟨b,_,rfl,hF' b o hm,fun j x hj=>?_⟩
 obtain ⟨ce,e1,e2,e3⟩:=he j x hj
 exact ⟨ce,e1,e2.mono hF (fun _ _=>rfl),e3⟩
theorem qdO (h:Core C G O w) {x:Lf} {v:Value} {tv:TV} {ds:List Nat} {e:TypeId} {t:Ty} {ys:List t.T} (hx:LfR G O w x v) (hp:pureL O x=some (tv,ds)) (ht:ofTV (.list e t) tv=some ys) :
  ∃A c,v=.slice A ys.length c∧ys.length≤c∧(0<ys.length→∃b o,A=some ⟨b,o,none⟩∧qfZ G.F w t ys b o):=by
 have ofm:∀{t':Ty} {y:t'.T},ofTV (.list e t) (.mk t' y)=some ys→t'=.list e t∧HEq y ys:=by
  intro t' y k
  simp only [ofTV] at k
  by_cases hh:t'=.list e t
  ·subst hh
   simp only [dite_true,Option.some.injEq] at k
   exact ⟨rfl,heq_of_eq k⟩
  ·rw [dif_neg hh] at k;cases k
 cases x with
 |v t' x=>
  cases hp
  obtain ⟨rfl,hy⟩:=ofm ht
  cases eq_of_heq hy
  obtain ⟨A,c,k1,k2,k3⟩:=(show Rep G.F w (.list e t) ys [v] from hx.2)
  refine ⟨A,c,by simpa using k1,k2,fun hn=>?_⟩
  obtain ⟨b,o,hA,_,hc⟩:=k3 hn
  exact ⟨b,o,hA,hc⟩
 |nils=>
  cases hp
  obtain rfl:v=.slice none 0 0:=hx.2
  cases ht
  exact ⟨none,0,rfl,Nat.le_refl _,fun hn=>absurd hn (by simp)⟩
 |o d=>
  simp only [pureL] at hp
  cases hd:O d with
  |row e' t' xs fz=>
   rw [hd] at hp
   cases hp
   obtain ⟨hh,hy⟩:=ofm ht
   cases hh
   cases eq_of_heq hy
   have k:OnRow (O d) (fun t n=>HdR G d t.sz n 0 n v):=hx.2
   rw [hd] at k
   obtain ⟨hl,A,c,k1,k2,k3⟩:=h.elems hd k
   rw [List.drop_zero,List.take_length] at k3
   refine ⟨A,c,k1,k2,fun hn=>?_⟩
   obtain ⟨b,o,_,hA,he⟩:=k3 hn
   exact ⟨b,_,hA,he⟩
  |_=>rw [hd] at hp;cases hp
 |os d off len=>
  simp only [pureL] at hp
  cases hd:O d with
  |row e' t' xs fz=>
   rw [hd] at hp
   cases hp
   obtain ⟨hh,hy⟩:=ofm ht
   cases hh
   cases eq_of_heq hy
   have k:OnRow (O d) (fun t n=>HdR G d t.sz n off len v):=hx.2
   rw [hd] at k
   obtain ⟨hl,A,c,k1,k2,k3⟩:=h.elems hd k
   refine ⟨A,c,by rw [hl];exact k1,by rw [hl];exact k2,fun hn=>?_⟩
   rw [hl] at hn
   obtain ⟨b,o,_,hA,he⟩:=k3 hn
   exact ⟨b,_,hA,he⟩
  |_=>rw [hd] at hp;cases hp
 |bl b=>cases hp;obtain ⟨hh,_⟩:=ofm ht;cases hh
 |b p i=>cases hp;obtain ⟨hh,_⟩:=ofm ht;cases hh
 |nb p i=>cases hp;obtain ⟨hh,_⟩:=ofm ht;cases hh
 |u=>cases hp
 |q n p i=>cases hp
 |np=>cases hp
 |p d c=>cases hp
 |e t x c=>cases hp
 |oe d i c=>cases hp
 |fn0 f=>cases hp
 |fn f d=>cases hp
 |m d=>cases hp
 |oh d v i=>cases hp
 |oi d v i j c=>cases hp
 |ohs d v i off len=>cases hp
 |sb d n=>cases hp
 |ap d=>cases hp
theorem pureL_R (h:Core C G O w) {x:Lf} {v:Value} {tv:TV} {ds:List Nat} (hx:LfR G O w x v) (e:pureL O x=some (tv,ds)) {F:Nat→Prop} (hF:∀b,G.F b→F b) (hF':∀d∈ds,∀b o,G.m d=some (b,o)→F b):TVR F w tv v:=by
 cases x with
 |v t x=>cases e;exact Rep.mono hF (fun _ _=>rfl) (show Rep G.F w t x [v] from hx.2)
 |bl b=>cases e;obtain rfl:v=.bool b:=hx.2;exact rfl
 |b p i=>cases e;obtain rfl:v=.bool (@decide p i):=hx.2;exact rfl
 |nb p i=>cases e;obtain rfl:v=.bool (!@decide p i):=hx.2;exact rfl
 |nils=>cases e;exact hx.2
 |o d=>
  simp only [pureL] at e
  cases hd:O d with
  |row e' t xs fz=>
   rw [hd] at e
   cases e
   have k:OnRow (O d) (fun t n=>HdR G d t.sz n 0 n v):=hx.2
   rw [hd] at k
   have:=h.part hd (F:=F) k hF (fun b o hm=>hF' d (List.mem_singleton.2 rfl) b o hm)
   rw [List.drop_zero,List.take_length] at this
   exact this
  |_=>rw [hd] at e;cases e
 |os d off len=>
  simp only [pureL] at e
  cases hd:O d with
  |row e' t xs fz=>
   rw [hd] at e
   cases e
   have k:OnRow (O d) (fun t n=>HdR G d t.sz n off len v):=hx.2
   rw [hd] at k
   exact h.part hd (F:=F) k hF (fun b o hm=>hF' d (List.mem_singleton.2 rfl) b o hm)
  |_=>rw [hd] at e;cases e
 |u=>cases e
 |np=>cases e
 |q n p i=>cases e
 |p d c=>cases e
 |e t x c=>cases e
 |oe d i c=>cases e
 |fn0 f=>cases e
 |fn f d=>cases e
 |m d=>cases e
 |oh d v i=>cases e
 |oi d v i j c=>cases e
 |ohs d v i off len=>cases e
 |sb d n=>cases e
 |ap d=>cases e
theorem pureLs_R (h:Core C G O w):∀{ls:List Lf} {cs:List Value} {vs:List TV} {ds:List Nat},All2 (LfR G O w) ls cs→qb7 O ls=some (vs,ds)→∀{F:Nat→Prop},(∀b,G.F b→F b)→(∀d∈ds,∀b o,G.m d=some (b,o)→F b)→All2 (TVR F w) vs cs
 |[],[],_,_,_,e,_,_,_=>by cases e;trivial
 |x::ls,v::cs,vs,ds,hx,e,F,hF,hF'=>by
  unfold qb7 at e
  cases e1:pureL O x with
  |none=>rw [e1] at e;cases e
  |some r1=>
   obtain ⟨tv,d1⟩:=r1
   cases e2:qb7 O ls with
   |none=>rw [e1,e2] at e;cases e
   |some r2=>
    obtain ⟨tvs,d2⟩:=r2
    rw [e1,e2] at e
    cases e
    exact ⟨pureL_R h hx.1 e1 hF (fun d hd=>hF' d (List.mem_append_left _ hd)),pureLs_R h hx.2 e2 hF (fun d hd=>hF' d (List.mem_append_right _ hd))⟩
 |[],_::_,_,_,hx,_,_,_,_=>hx.elim
 |_::_,[],_,_,hx,_,_,_,_=>hx.elim
theorem ofTV_R {F:Nat→Prop} {t:Ty} {tv:TV} {x:t.T} {v:Value} (e:ofTV t tv=some x) (h:TVR F w tv v):Rep F w t x [v]:=by
 cases tv with
 |mk t' y=>
  simp only [ofTV] at e
  by_cases ht:t'=t
  ·subst ht
   simp only [dite_true,Option.some.injEq] at e
   subst e
   exact h
  ·rw [dif_neg ht] at e
   cases e
 |nil=>
  cases t with
  |list e' t'=>
   cases e
   obtain rfl:v=.slice none 0 0:=h
   exact ⟨none,0,rfl,Nat.le_refl _,fun hn=>absurd hn (by simp)⟩
  |_=>cases e
theorem qdj {F:Nat→Prop} {t:Ty} (ht:∀l,ofTVs t l=match l with | []=>none|v::l=>(match ofTV t v with|some x=>some (x,l)|none=>none)) {vs rest:List TV} {x:t.T} {cs:List Value} (e:ofTVs t vs=some (x,rest)) (h:All2 (TVR F w) vs cs) :
  ∃c0 c1,cs=c0++c1∧Rep F w t x c0∧All2 (TVR F w) rest c1:=by
 rw [ht] at e
 cases vs with
 |nil=>cases e
 |cons v vs=>
  obtain ⟨y,m,rfl,h1,h2⟩:=h.cons_inv
  simp only at e
  cases e1:ofTV t v with
  |none=>rw [e1] at e;cases e
  |some z=>
   rw [e1] at e
   cases e
   exact ⟨[y],m,rfl,ofTV_R e1 h1,h2⟩
theorem ofTVs_R {F:Nat→Prop}:∀{t:Ty} {vs rest:List TV} {x:t.T} {cs:List Value},ofTVs t vs=some (x,rest)→All2 (TVR F w) vs cs→∃c0 c1,cs=c0++c1∧Rep F w t x c0∧All2 (TVR F w) rest c1
 |.int k,_,_,_,_,e,h=>qdj (fun l=>by cases l<;>rfl) e h
 |.bool,_,_,_,_,e,h=>qdj (fun l=>by cases l<;>rfl) e h
 |.str,_,_,_,_,e,h=>qdj (fun l=>by cases l<;>rfl) e h
 |.list _ _,_,_,_,_,e,h=>qdj (fun l=>by cases l<;>rfl) e h
 |.fn _,_,_,_,_,e,h=>qdj (fun l=>by cases l<;>rfl) e h
 |.unit,vs,rest,x,cs,e,h=>by
  unfold ofTVs at e
  cases e
  exact ⟨[],cs,rfl,rfl,h⟩
 |.pair a b,vs,rest,x,cs,e,h=>by
  unfold ofTVs at e
  cases e1:ofTVs a vs with
  |none=>rw [e1] at e;cases e
  |some r1=>
   obtain ⟨x1,l1⟩:=r1
   rw [e1] at e
   simp only at e
   cases e2:ofTVs b l1 with
   |none=>rw [e2] at e;cases e
   |some r2=>
    obtain ⟨y1,l2⟩:=r2
    rw [e2] at e
    cases e
    obtain ⟨c0,c1,rfl,h0,h1⟩:=ofTVs_R e1 h
    obtain ⟨c2,c3,rfl,h2,h3⟩:=ofTVs_R e2 h1
    exact ⟨c0++c2,c3,by rw [List.append_assoc],⟨c0,c2,rfl,h0,h2⟩,h3⟩
theorem qeo (h:Core C G O w) {t:Ty} {ls:List Lf} {x:t.T} {ds:List Nat} {cs:List Value} (e:packs O t ls=some (x,ds)) (hl:All2 (LfR G O w) ls cs) {F:Nat→Prop} (hF:∀b,G.F b→F b) (hF':∀d∈ds,∀b o,G.m d=some (b,o)→F b):Rep F w t x cs:=by
 unfold packs at e
 cases e1:qb7 O ls with
 |none=>rw [e1] at e;cases e
 |some r1=>
  obtain ⟨vs,d1⟩:=r1
  rw [e1] at e
  simp only at e
  cases e2:ofTVs t vs with
  |none=>rw [e2] at e;cases e
  |some r2=>
   obtain ⟨y,l⟩:=r2
   rw [e2] at e
   cases l with
   |cons _ _=>cases e
   |nil=>
    cases e
    obtain ⟨c0,c1,rfl,h0,h1⟩:=ofTVs_R e2 (pureLs_R h hl e1 hF hF')
    rw [h1.qbm,List.append_nil]
    exact h0
theorem qeu {d:Nat} {e:TypeId} {t:Ty} {xs:List t.T} {fz:Bool} (hd:O d=.row e t xs fz):∀ds,freeze (upd O d (.row e t xs true)) ds=freeze O ds
 |[]=>rfl
 |k::ds=>by
  unfold freeze
  rw [qeu hd ds]
  by_cases hk:k=d
  ·subst hk
   rw [qad,hd]
   cases freeze O ds<;>rfl
  ·rw [upd_ne _ _ hk]
theorem qdy:∀{ds:List Nat} {wr:List (Nat×Obj)} {G:Gh} {O:Nat→Obj},Core C G O w→freeze O ds=some wr→
  Core C {G with F:=FzF G ds} (upds O wr) w∧Ext G O w {G with F:=FzF G ds} (upds O wr) w
 |[],wr,G,O,h,e=>by
  cases e
  have:{G with F:=FzF G []}=G:=by
   have:FzF G []=G.F:=by
    funext b
    simp [FzF]
   rw [this]
  rw [this]
  exact ⟨h,Ext.refl _ _ _⟩
 |d::ds,wr,G,O,h,e=>by
  unfold freeze at e
  cases hd:O d with
  |row t ty xs fz=>
   rw [hd] at e
   cases e1:freeze O ds with
   |none=>rw [e1] at e;cases e
   |some l=>
    rw [e1] at e
    cases e
    obtain ⟨h1,x1⟩:=h.freeze1 hd
    rw [←qeu hd] at e1
    obtain ⟨h2,x2⟩:=qdy h1 e1
    have:FzF G (d::ds)=FzF {G with F:=fun b=>G.F b∨∃o,G.m d=some (b,o)} ds:=by
     funext b
     simp only [FzF,List.mem_cons,eq_iff_iff]
     constructor
     ·rintro (a|⟨k,rfl|hk,o,ho⟩)
      ·exact Or.inl (Or.inl a)
      ·exact Or.inl (Or.inr ⟨o,ho⟩)
      ·exact Or.inr ⟨k,hk,o,ho⟩
     ·rintro ((a|⟨o,ho⟩)|⟨k,hk,o,ho⟩)
      ·exact Or.inl a
      ·exact Or.inr ⟨d,Or.inl rfl,o,ho⟩
      ·exact Or.inr ⟨k,Or.inr hk,o,ho⟩
    rw [this]
    exact ⟨h2,x1.trans x2⟩
  |_=>rw [hd] at e;cases e
theorem qcw:∀{ds:List Nat} {wr:List (Nat×Obj)} {O:Nat→Obj},freeze O ds=some wr→∀k,k∉ds→upds O wr k=O k
 |[],wr,O,e,k,_=>by cases e;rfl
 |d::ds,wr,O,e,k,hk=>by
  unfold freeze at e
  cases hd:O d with
  |row t ty xs fz=>
   rw [hd] at e
   cases e1:freeze O ds with
   |none=>rw [e1] at e;cases e
   |some l=>
    rw [e1] at e
    cases e
    rw [←qeu hd] at e1
    show upds (upd O d _) l k=O k
    rw [qcw e1 k (fun h=>hk (List.mem_cons_of_mem _ h)),upd_ne _ _ (fun h=>hk (by rw [h];exact List.mem_cons_self))]
  |_=>rw [hd] at e;cases e
theorem leafOf_R {v:Value} {x:Lf} (e:qgn v=some x):LfR G O w x v:=by
 unfold qgn at e
 split at e<;>cases e<;>first|exact ⟨rfl,rfl⟩|skip
 rename_i h1 h2
 refine ⟨?_,trivial⟩
 unfold one
 split
 ·exact absurd rfl (h1 _)
 ·exact absurd rfl (h2 _)
 ·rfl
theorem qgm:∀{vs:List Value} {xs:List Lf},qdx vs=some xs→All2 (LfR G O w) xs vs
 |[],xs,e=>by cases e;trivial
 |v::vs,xs,e=>by
  unfold qdx at e
  cases e1:qgn v with
  |none=>rw [e1] at e;cases e
  |some x=>
   cases e2:qdx vs with
   |none=>rw [e1,e2] at e;cases e
   |some l=>
    rw [e1,e2] at e
    cases e
    exact ⟨leafOf_R e1,qgm e2⟩
theorem ofValue_R (v:Value):SVR G O w (ofValue v) v:=by
 unfold ofValue
 split
 ·rename_i cs
  cases e:qdx cs.toList with
  |none=>trivial
  |some xs=>exact ⟨cs,rfl,qgm e⟩
 ·cases e:qgn v with
  |none=>trivial
  |some x=>exact leafOf_R e
theorem one_cells {v:Value} (h:one v=true):v.cells=#[v]:=by
 cases v<;>first|rfl|cases h
theorem qfS {x:SV} {v:Value} {ls:List Lf} (h:SVR G O w x v) (e:x.cells=some ls):All2 (LfR G O w) ls v.cells.toList:=by
 cases x with
 |t xs=>cases e
 |c x=>
  cases x with
  |u=>cases e
  |l y=>
   cases e
   have h':LfR G O w y v:=h
   rw [one_cells h'.1]
   exact ⟨h',trivial⟩
  |a xs=>
   cases e
   obtain ⟨cs,rfl,h⟩:=h
   exact h
end
end Go.Proofs.YtfobeapcmgjhbaaGreatDoor.VE
namespace Go.Proofs.YtfobeapcmgjhbaaGreatDoor.VE
open Go Go.RowKit
def AllP (cs:List Chk):Prop:=∀c∈cs,c.p
def StepR (C:Ctx) (G:Gh) (O:Nat→Obj) (w:World) (e:Eff) (v:Value) (w':World):Prop:=
 ∃G',Core C G' (upds O e.wr) w'∧Ext G O w G' (upds O e.wr) w'∧SVR G' (upds O e.wr) w' e.sv v
def Does (P:Program) (C:Ctx) (G:Gh) (O:Nat→Obj) (w:World) (m:Sem Value) (e:Eff):Prop:=
 ∃v w',m.run P w=.ok v w'∧StepR C G O w e v w'
section
variable {P:Program} {C:Ctx} {G:Gh} {O:Nat→Obj} {w:World}
theorem StepR.pure (h:Core C G O w) {sv:SV} {rd:List Nat} {v:Value} (hs:SVR G O w sv v):StepR C G O w ⟨sv,rd,[]⟩ v w:=⟨G,h,Ext.refl _ _ _,hs⟩
theorem Does.pure (h:Core C G O w) {m:Sem Value} {sv:SV} {rd:List Nat} {v:Value} (hr:m.run P w=.ok v w) (hs:SVR G O w sv v):Does P C G O w m ⟨sv,rd,[]⟩:=⟨v,w,hr,StepR.pure h hs⟩
theorem AllP.cons {c:Chk} {cs:List Chk} (h:AllP (c::cs)):c.p∧AllP cs:=⟨h c List.mem_cons_self,fun d hd=>h d (List.mem_cons_of_mem _ hd)⟩
theorem wr_eq (k:IntKind) (n:Int):wr k n=k.wrap n:=by
 cases k<;>first|rfl|(unfold wr wrap64;exact (IntKind.wrap_i64 n).symm)
abbrev LR (G:Gh) (O:Nat→Obj) (w:World) (x:Option Lf) (v:Value):Prop:=∀l,x=some l→LfR G O w l v
theorem LR.int {k:IntKind} {n:Int} {v:Value} (h:LR G O w (some (.v (.int k) n)) v):v=.int k n:=by
 have:=(h _ rfl).2
 have e:[v]=[.int k n]:=this
 simpa using e
theorem LR.str {s:ByteArray} {v:Value} (h:LR G O w (some (.v .str s)) v):v=.string s:=by
 have:=(h _ rfl).2
 have e:[v]=[.string s]:=this
 simpa using e
theorem qbK (k:IntKind) (n:Int):LfR G O w (.v (.int k) n) (.int k n):=⟨rfl,rfl⟩
theorem qgl (s:ByteArray):LfR G O w (.v .str s) (.string s):=⟨rfl,rfl⟩
theorem lf_b (p:Prop) (i:Decidable p):LfR G O w (.b p i) (.bool (@decide p i)):=⟨rfl,rfl⟩
theorem lf_nb (p:Prop) (i:Decidable p):LfR G O w (.nb p i) (.bool (!@decide p i)):=⟨rfl,rfl⟩
theorem qdB {x:Option Lf} {b:Bool} {v:Value} (e:qcS x=some b) (h:LR G O w x v):v=.bool b:=by
 cases x with
 |none=>cases e
 |some l=>
  have k:=(h l rfl).2
  cases l with
  |v t y=>
   cases t with
   |bool=>
    cases e
    have k':[v]=[.bool b]:=k
    simpa using k'
   |_=>cases e
  |bl c=>cases e;exact k
  |b p i=>cases e;exact k
  |nb p i=>cases e;exact k
  |_=>cases e
theorem toList_inj {a b:ByteArray}:(a.toList==b.toList)=decide (a=b):=by
 rw [Bool.eq_iff_iff]
 simp only [beq_iff_eq,decide_eq_true_eq]
 rw [ByteArray.toList_eq,ByteArray.toList_eq]
 constructor
 ·intro h
  cases a;cases b
  congr 1
  exact Array.toList_inj.1 h
 ·rintro rfl;rfl
theorem lt_nat (i:Int) (n:Nat) (h0:0≤i) (h1:i<(n:Int)):i.toNat<n:=by omega
theorem qdP (i:Int) (n:Nat) (h0:0≤i) (h1:i<(n:Int)):0<n:=by omega
theorem qdc {t el:TypeId} (ht:P.underlying t=some (.slice el)) (d:Nat) (A:Option Addr) (n c:Nat):(Op.equalIn (d+1) t (.slice A n c) (.slice none 0 0)).run P w=.ok A.isNone w:=by
 cases A<;>simp [Op.equalIn,run_underlying ht]
theorem qfq {t el:TypeId} (ht:P.underlying t=some (.slice el)) (x' y':Operand) (A:Option Addr) (n c:Nat):(do eqGuard .eql t x' y' (.slice A n c) (.slice none 0 0);binOp .eql t (.slice A n c) (.slice none 0 0):Sem Value).run P w=.ok (.bool A.isNone) w:=by
 have:=qdc (w:=w) ht 9999 A n c
 simp only [eqGuard,binOp,Op.equal,Sem.run_bind,Sem.run_pure]
 show ((Sem.run P (Op.equalIn (9999+1) t (.slice A n c) (.slice none 0 0)) w).andThen _)=_
 rw [this]
 rfl
theorem qfo {t el:TypeId} (ht:P.underlying t=some (.slice el)) (x' y':Operand) (A:Option Addr) (n c:Nat):(do eqGuard .neq t x' y' (.slice A n c) (.slice none 0 0);binOp .neq t (.slice A n c) (.slice none 0 0):Sem Value).run P w=.ok (.bool (!A.isNone)) w:=by
 have:=qdc (w:=w) ht 9999 A n c
 simp only [eqGuard,binOp,Op.equal,Sem.run_bind,Sem.run_pure]
 show ((Sem.run P (Op.equalIn (9999+1) t (.slice A n c) (.slice none 0 0)) w).andThen _)=_
 rw [this]
 rfl
theorem binB_ok (h:Core C G O w) {op:BinOp} {x y:Option Lf} {cs:List Chk} {e:Eff} (he:binB op (qcS x) (qcS y)=some (cs,e)) {t:TypeId} {x' y':Operand} {a b:Value} (ht:P.underlying t=some .bool) (ha:LR G O w x a) (hb:LR G O w y b) :
  Does P C G O w (do eqGuard op t x' y' a b;binOp op t a b) e:=by
 unfold binB at he
 split at he<;>cases he
 ·rename_i p q e1 e2
  rw [qdB e1 ha,qdB e2 hb]
  refine Does.pure h (v:=.bool (p==q)) ?_ ?_
  ·simp [eqGuard,run_eql_bool,ht]
  ·exact lf_b _ _
 ·rename_i p q e1 e2
  rw [qdB e1 ha,qdB e2 hb]
  refine Does.pure h (v:=.bool (!(p==q))) ?_ ?_
  ·simp [eqGuard,run_neq_bool,ht]
  ·exact lf_nb _ _
theorem binL_ok (h:Core C G O w) {op:BinOp} {x y:Option Lf} {cs:List Chk} {e:Eff} (he:binL op x y=some (cs,e)) (hc:AllP cs) {t:TypeId} {x' y':Operand} {a b:Value}
  (ht:∀p q,qcS x=some p→qcS y=some q→P.underlying t=some .bool) (ht':y=some .nils→∃el,P.underlying t=some (.slice el)) (ha:LR G O w x a) (hb:LR G O w y b) :
  Does P C G O w (do eqGuard op t x' y' a b;binOp op t a b) e:=by
 unfold binL at he
 split at he
 ·rename_i k m k' n
  obtain rfl:=ha.int
  obtain rfl:=hb.int
  split at he
  ·cases he
   have hn:¬n<0:=Int.not_lt.2 hc.cons.1
   exact Does.pure h (v:=.int k (m.fdiv (2 ^ (min n.toNat k.bits)))) (by simp [eqGuard,binOp,Op.shift,hn]) (qbK _ _)
  ·cases he
   have hn:¬n<0:=Int.not_lt.2 hc.cons.1
   exact Does.pure h (v:=.int k (k.wrap (m*2 ^ (min n.toNat k.bits)))) (by simp [eqGuard,binOp,Op.shift,hn]) (by rw [←wr_eq];exact qbK _ _)
  ·by_cases hk:k=k'
   ·subst hk
    rw [if_pos rfl] at he
    split at he<;>cases he
    ·exact Does.pure h (v:=.int k (k.wrap ((BitVec.ofInt k.bits m &&& BitVec.ofInt k.bits n).toNat:Int))) (by simp [eqGuard,binOp,Op.intBits]) (by rw [←wr_eq];exact qbK _ _)
    ·exact Does.pure h (v:=.int k (k.wrap (m+n))) (by simp [eqGuard,binOp,Op.intArith]) (by rw [←wr_eq];exact qbK _ _)
    ·exact Does.pure h (v:=.int k (k.wrap (m - n))) (by simp [eqGuard,binOp,Op.intArith]) (by rw [←wr_eq];exact qbK _ _)
    ·exact Does.pure h (v:=.int k (k.wrap (m*n))) (by simp [eqGuard,binOp,Op.intArith]) (by rw [←wr_eq];exact qbK _ _)
    ·have hn:n≠0:=hc.cons.1
     exact Does.pure h (v:=.int k (k.wrap (Int.tdiv m n))) (by simp [eqGuard,binOp,Op.intDiv,hn]) (by rw [←wr_eq];exact qbK _ _)
    ·have hn:n≠0:=hc.cons.1
     exact Does.pure h (v:=.int k (Int.tmod m n)) (by simp [eqGuard,binOp,Op.intDiv,hn]) (qbK _ _)
    ·exact Does.pure h (v:=.bool (m==n)) (by simp [eqGuard,binOp,Op.intCmp]) (lf_b _ _)
    ·exact Does.pure h (v:=.bool (m !=n)) (by simp [eqGuard,binOp,Op.intCmp]) (lf_nb _ _)
    ·exact Does.pure h (v:=.bool (m<n)) (by simp [eqGuard,binOp,Op.intCmp]) (lf_b _ _)
    ·exact Does.pure h (v:=.bool (m≤n)) (by simp [eqGuard,binOp,Op.intCmp]) (lf_b _ _)
    ·exact Does.pure h (v:=.bool (m > n)) (by simp [eqGuard,binOp,Op.intCmp]) (lf_b _ _)
    ·exact Does.pure h (v:=.bool (m≥n)) (by simp [eqGuard,binOp,Op.intCmp]) (lf_b _ _)
   ·rw [if_neg hk] at he
    cases he
 ·rename_i s u
  obtain rfl:=ha.str
  obtain rfl:=hb.str
  cases op<;>cases he
  ·have hn:¬((s.size:Int)+(u.size:Int) > 9223372036854775807):=Int.not_lt.2 hc.cons.1
   have hn':¬(((s.size+u.size:Nat):Int) > IntKind.i64.max):=by
    show ¬(((s.size+u.size:Nat):Int) > 9223372036854775807)
    omega
   refine Does.pure h (v:=.string (s++u)) ?_ (qgl _)
   simp only [eqGuard,binOp,Op.stringOp]
   rw [if_neg hn']
   rfl
  ·exact Does.pure h (v:=.bool (s.toList==u.toList)) (by simp [eqGuard,binOp,Op.stringOp]) (by rw [toList_inj];exact lf_b _ _)
  ·exact Does.pure h (v:=.bool (!(s.toList==u.toList))) (by simp [eqGuard,binOp,Op.stringOp]) (by rw [toList_inj];exact lf_nb _ _)
 ·rename_i el t' xs
  obtain ⟨e',hs⟩:=ht' rfl
  have k:Rep G.F w (.list el t') xs [a]:=(ha _ rfl).2
  obtain ⟨A,c,k1,k2,k3⟩:=k
  obtain rfl:a=.slice A (List.length xs) c:=by simpa using k1
  obtain rfl:b=.slice none 0 0:=(hb _ rfl).2
  have hA:A=none→List.length xs=0:=by
   intro hn
   subst hn
   by_cases hz:List.length xs=0
   ·exact hz
   ·obtain ⟨b,o,hA,_⟩:=k3 (by omega)
    cases hA
  cases op<;>cases he
  ·refine Does.pure h (v:=.bool A.isNone) ?_ ⟨rfl,⟨A.isNone,rfl,fun hb=>?_⟩⟩
   ·exact qfq hs _ _ _ _ _
   ·refine hA ?_
    cases A with
    |none=>rfl
    |some x=>simp at hb
  ·refine Does.pure h (v:=.bool (!A.isNone)) ?_ ⟨rfl,⟨!A.isNone,rfl,fun hb=>?_⟩⟩
   ·exact qfo hs _ _ _ _ _
   ·refine hA ?_
    cases A with
    |none=>rfl
    |some x=>simp at hb
 ·obtain ⟨e',hs⟩:=ht' rfl
  obtain rfl:a=.slice none 0 0:=(ha _ rfl).2
  obtain rfl:b=.slice none 0 0:=(hb _ rfl).2
  cases op<;>cases he
  ·exact Does.pure h (v:=.bool true) (qfq hs _ _ _ _ _) ⟨rfl,rfl⟩
  ·exact Does.pure h (v:=.bool false) (qfo hs _ _ _ _ _) ⟨rfl,rfl⟩
 ·have:∃p q,qcS x=some p∧qcS y=some q:=by
   unfold binB at he
   split at he
   ·rename_i e1 e2;exact ⟨_,_,e1,e2⟩
   ·rename_i e1 e2;exact ⟨_,_,e1,e2⟩
   ·cases he
  obtain ⟨p,q,e1,e2⟩:=this
  exact binB_ok h he (ht p q e1 e2) ha hb
theorem unL_ok (h:Core C G O w) {op:UnOp} {x:Option Lf} {cs:List Chk} {e:Eff} (he:unL op x=some (cs,e)) {a:Value} (ha:LR G O w x a):Does P C G O w (Op.unary op a) e:=by
 unfold unL at he
 split at he
 ·rename_i l
  have k:=(ha l rfl).2
  unfold notL at he
  split at he<;>cases he
  ·rename_i b
   obtain rfl:a=.bool b:=k
   exact Does.pure h (v:=.bool (!b)) (by simp [Op.unary]) ⟨rfl,rfl⟩
  ·rename_i p i
   obtain rfl:a=.bool (@decide p i):=k
   exact Does.pure h (v:=.bool (!@decide p i)) (by simp [Op.unary]) ⟨rfl,rfl⟩
  ·rename_i p i
   obtain rfl:a=.bool (!@decide p i):=k
   exact Does.pure h (v:=.bool (@decide p i)) (by simp [Op.unary]) ⟨rfl,rfl⟩
  ·rename_i b
   have k':[a]=[.bool b]:=k
   obtain rfl:a=.bool b:=by simpa using k'
   refine Does.pure h (v:=.bool (!b)) (by simp [Op.unary]) ⟨rfl,?_⟩
   show Value.bool (!b)=.bool (!decide (b=true))
   cases b<;>rfl
 ·rename_i k n
  obtain rfl:=ha.int
  cases he
  exact Does.pure h (v:=.int k (k.wrap (0 - n))) (by simp [Op.unary,Op.intArith]) (by rw [←wr_eq];exact qbK _ _)
 ·cases he
theorem convL_ok (h:Core C G O w) {s d:TypeId} {x:Option Lf} {cs:List Chk} {e:Eff} (he:convL P s d x=some (cs,e)) {a:Value} (ha:LR G O w x a):Does P C G O w (convert s d a) e:=by
 unfold convL at he
 split at he<;>cases he
 ·rename_i ds k k' n e1 e2
  obtain rfl:=ha.int
  exact Does.pure h (v:=.int k (k.wrap n)) (by simp [convert,run_underlying e1,run_underlying e2,Conv.intToInt]) (by rw [←wr_eq];exact qbK _ _)
 ·rename_i str e1 e2
  obtain rfl:=ha.str
  exact Does.pure h (v:=.string str) (by simp [convert,run_underlying e1,run_underlying e2]) (qgl _)
theorem indexL_ok (h:Core C G O w) {t:TypeId} {x y:Option Lf} {cs:List Chk} {e:Eff} (ht:P.underlying t=some .string) (he:indexL x y=some (cs,e)) (hc:AllP cs) {a b:Value} (ha:LR G O w x a) (hb:LR G O w y b):Does P C G O w (Instr.index t a b) e:=by
 unfold indexL at he
 split at he<;>cases he
 rename_i s k i
 obtain rfl:=ha.str
 obtain rfl:=hb.int
 have h0:(0:Int)≤i:=hc.cons.1
 have h1:i<((s:ByteArray).size:Int):=hc.cons.2.cons.1
 have hl:i.toNat<(s:ByteArray).size:=lt_nat _ _ h0 h1
 refine Does.pure h (v:=.int .u8 (bt s i)) ?_ (qbK _ _)
 simp [Instr.index,asIntOf,run_underlying ht,h0,bt,hl]
theorem foldL_ok (h:Core C G O w) (f:Int→Int→Int) (g:Value→Value→Sem Value) (hg:∀k a b,(g (.int k a) (.int k b)).run P w=.ok (.int k (f a b)) w):∀(ys:List (Option Lf)) (x:Option Lf) {cs:List Chk} {e:Eff} (vs:List Value) (a:Value),foldL f x ys=some (cs,e)→LR G O w x a→All2 (LR G O w) ys vs→Does P C G O w (vs.foldlM g a) e
 |[],x,cs,e,vs,a,he,ha,hv=>by
  obtain rfl:=hv.qbm
  unfold foldL at he
  cases x with
  |none=>cases he
  |some l=>
   cases he
   exact Does.pure h (v:=a) rfl (ha l rfl)
 |y::ys,x,cs,e,vs0,a,he,ha,hv0=>by
  obtain ⟨b,vs,rfl,hb,hv⟩:=hv0.cons_inv
  clear hv0
  unfold foldL at he
  split at he
  ·rename_i e1;cases e1
  ·rename_i k m k' n l e1
   cases e1
   by_cases hk:k=k'
   ·subst hk
    rw [if_pos rfl] at he
    obtain rfl:=ha.int
    obtain rfl:=hb.int
    obtain ⟨v,w',hr,hs⟩:=foldL_ok h f g hg ys (some (.v (.int k) (f m n))) vs (.int k (f m n)) he (fun l hl=>by cases hl;exact qbK _ _) hv
    refine ⟨v,w',?_,hs⟩
    rw [List.foldlM_cons,Sem.run_bind,hg]
    exact hr
   ·rw [if_neg hk] at he
    cases he
  ·cases he
theorem info_of {t:TypeId} {d:TypeDesc} (h:P.underlying t=some d):∃i,P.info? t=some i:=by
 unfold Program.underlying at h
 cases e:P.info? t with
 |none=>rw [e] at h;cases h
 |some i=>exact ⟨i,rfl⟩
theorem qcH {t:TypeId} (h:P.cellsOf t≠0):∃i,P.info? t=some i∧i.size=P.cellsOf t:=by
 unfold Program.cellsOf at h ⊢
 cases e:P.info? t with
 |none=>rw [e] at h;exact absurd rfl h
 |some i=>exact ⟨i,rfl,rfl⟩
theorem qdF (d:Nat) (i:Int) (c:Nat) (v:Value):LfB G O w (.oe d i c) v=OnRow (O d) (fun t n=>0≤i∧i<(n:Int)∧∃b o,G.m d=some (b,o)∧v=.pointer (some ⟨b,o+i.toNat*t.sz+c,none⟩)):=rfl
theorem qdd {d:Nat} {e:TypeId} {t:Ty} {xs:List t.T} {fz:Bool} {v:Value} (hd:O d=.row e t xs fz) (hv:LfR G O w (.o d) v):HdR G d t.sz xs.length 0 xs.length v:=by
 have k:OnRow (O d) (fun t n=>HdR G d t.sz n 0 n v):=hv.2
 rw [hd] at k
 exact k
theorem qdZ {d off len:Nat} {e:TypeId} {t:Ty} {xs:List t.T} {fz:Bool} {v:Value} (hd:O d=.row e t xs fz) (hv:LfR G O w (.os d off len) v):HdR G d t.sz xs.length off len v:=by
 have k:OnRow (O d) (fun t n=>HdR G d t.sz n off len v):=hv.2
 rw [hd] at k
 exact k
theorem qe3 {d v:Nat} {e e2:TypeId} {t:Ty} {xss:List (List t.T)} {pd:Pend} {a:Value} (hd:O d=.deep v e e2 t xss pd) (hv:LfR G O w (.o d) a):HdR G d 1 xss.length 0 xss.length a:=by
 have k:OnRow (O d) (fun t n=>HdR G d t.sz n 0 n a):=hv.2
 rw [hd] at k
 exact k
theorem qfP {d v off len:Nat} {e e2:TypeId} {t:Ty} {xss:List (List t.T)} {pd:Pend} {a:Value} (hd:O d=.deep v e e2 t xss pd) (hv:LfR G O w (.os d off len) a):HdR G d 1 xss.length off len a:=by
 have k:OnRow (O d) (fun t n=>HdR G d t.sz n off len a):=hv.2
 rw [hd] at k
 exact k
theorem rdAt {t:Ty} {xs:List t.T} {i:Int} {y:t.T} (h:xs[i.toNat]?=some y):rd t xs i=y:=by
 unfold rd
 rw [List.getD_eq_getElem?_getD,h]
 rfl
theorem map_len {t:Ty} {xss:List (List t.T)} {k n:Nat} (h:(xss[k]?).map List.length=some n):∃y,xss[k]?=some y∧y.length=n:=by
 cases hx:xss[k]? with
 |none=>rw [hx] at h;cases h
 |some y=>rw [hx] at h;exact ⟨y,rfl,Option.some.inj h⟩
theorem ohs_at {d v off len:Nat} {i:Int} {e e2:TypeId} {t:Ty} {xss:List (List t.T)} {pd:Pend} {a:Value} (hd:O d=.deep v e e2 t xss pd) (ha:LfR G O w (.ohs d v i off len) a):0≤i∧∃y,xss[i.toNat]?=some y∧HdI (G.sub d v i.toNat) t.sz y.length off len a:=by
 have k:qbu (O d) v (fun t L=>0≤i∧∃n:Nat,L i.toNat=some n∧HdI (G.sub d v i.toNat) t.sz n off len a):=ha.2
 rw [hd] at k
 rcases k with k|⟨_,h0,n,hn,hh⟩
 ·omega
 ·obtain ⟨y,hy,rfl⟩:=map_len hn
  exact ⟨h0,y,hy,hh⟩
theorem oh_at {d v:Nat} {i:Int} {e e2:TypeId} {t:Ty} {xss:List (List t.T)} {pd:Pend} {a:Value} (hd:O d=.deep v e e2 t xss pd) (ha:LfR G O w (.oh d v i) a):0≤i∧∃y,xss[i.toNat]?=some y∧HdI (G.sub d v i.toNat) t.sz y.length 0 y.length a:=by
 have k:qbu (O d) v (fun t L=>0≤i∧∃n:Nat,L i.toNat=some n∧HdI (G.sub d v i.toNat) t.sz n 0 n a):=ha.2
 rw [hd] at k
 rcases k with k|⟨_,h0,n,hn,hh⟩
 ·omega
 ·obtain ⟨y,hy,rfl⟩:=map_len hn
  exact ⟨h0,y,hy,hh⟩
theorem oi_at {d v c:Nat} {i j:Int} {e e2:TypeId} {t:Ty} {xss:List (List t.T)} {pd:Pend} {a:Value} (hd:O d=.deep v e e2 t xss pd) (ha:LfR G O w (.oi d v i j c) a):0≤i∧0≤j∧∃y,xss[i.toNat]?=some y∧j<(y.length:Int)∧∃b o k,G.sub d v i.toNat=some (b,o,k)∧a=.pointer (some ⟨b,o+j.toNat*t.sz+c,none⟩):=by
 have k:qbu (O d) v (fun t L=>0≤i∧0≤j∧∃n:Nat,L i.toNat=some n∧j<(n:Int)∧∃b o k,G.sub d v i.toNat=some (b,o,k)∧a=.pointer (some ⟨b,o+j.toNat*t.sz+c,none⟩)):=ha.2
 rw [hd] at k
 rcases k with k|⟨_,h0,h1,n,hn,hh⟩
 ·omega
 ·obtain ⟨y,hy,rfl⟩:=map_len hn
  exact ⟨h0,h1,y,hy,hh⟩
theorem oi_mk {d v c:Nat} {i j:Int} {e e2:TypeId} {t:Ty} {xss:List (List t.T)} {pd:Pend} {y:List t.T} {b o k:Nat} (hd:O d=.deep v e e2 t xss pd) (h0:0≤i) (h1:0≤j) (hy:xss[i.toNat]?=some y) (h2:j<(y.length:Int)) (hs:G.sub d v i.toNat=some (b,o,k)) {p:Nat} (hp:p=o+j.toNat*t.sz+c):LfR G O w (.oi d v i j c) (.pointer (some ⟨b,p,none⟩)):=by
 subst hp
 refine ⟨rfl,?_⟩
 show qbu (O d) v (fun t1 L=>0≤i∧0≤j∧∃n:Nat,L i.toNat=some n∧j<(n:Int)∧∃b1 o1 k1,G.sub d v i.toNat=some (b1,o1,k1)∧Value.pointer (some ⟨b,o+j.toNat*t.sz+c,none⟩)=.pointer (some ⟨b1,o1+j.toNat*t1.sz+c,none⟩))
 rw [hd]
 exact Or.inr ⟨rfl,h0,h1,y.length,by show (xss[i.toNat]?).map List.length=_;rw [hy];rfl,h2,b,o,k,hs,rfl⟩
theorem oh_mk {d v:Nat} {i:Int} {e e2:TypeId} {t:Ty} {xss:List (List t.T)} {pd:Pend} {y:List t.T} {a:Value} (hd:O d=.deep v e e2 t xss pd) (h0:0≤i) (hy:xss[i.toNat]?=some y) (hh:HdI (G.sub d v i.toNat) t.sz y.length 0 y.length a):LfR G O w (.oh d v i) a:=by
 refine ⟨by obtain ⟨_,_,_,rfl,_⟩:=hh;rfl,?_⟩
 show qbu (O d) v (fun t1 L=>0≤i∧∃n:Nat,L i.toNat=some n∧HdI (G.sub d v i.toNat) t1.sz n 0 n a)
 rw [hd]
 exact Or.inr ⟨rfl,h0,y.length,by show (xss[i.toNat]?).map List.length=_;rw [hy];rfl,hh⟩
theorem ohs_mk {d v off len:Nat} {i:Int} {e e2:TypeId} {t:Ty} {xss:List (List t.T)} {pd:Pend} {y:List t.T} {a:Value} (hd:O d=.deep v e e2 t xss pd) (h0:0≤i) (hy:xss[i.toNat]?=some y) (hh:HdI (G.sub d v i.toNat) t.sz y.length off len a):LfR G O w (.ohs d v i off len) a:=by
 refine ⟨by obtain ⟨_,_,_,rfl,_⟩:=hh;rfl,?_⟩
 show qbu (O d) v (fun t1 L=>0≤i∧∃n:Nat,L i.toNat=some n∧HdI (G.sub d v i.toNat) t1.sz n off len a)
 rw [hd]
 exact Or.inr ⟨rfl,h0,y.length,by show (xss[i.toNat]?).map List.length=_;rw [hy];rfl,hh⟩
theorem Core.innerR (h:Core C G O w) {d v:Nat} {e e2:TypeId} {t:Ty} {xss:List (List t.T)} {pd:Pend} (hd:O d=.deep v e e2 t xss pd) {j:Nat} {y:List t.T} (hj:xss[j]?=some y) (ho:pd.own j):qdo C G w t y (G.sub d v j):=by
 rcases (h.deep hd).2 with ⟨q,_⟩|⟨b',o',arr,t',k1,k2,k3,k4,k5,k6⟩
 ·have:=(h.deep hd).1
  have:=(List.getElem?_eq_some_iff.1 hj).1
  omega
 ·exact k6.inner j y hj ho
theorem lenL_ok (h:Core C G O w) {t:TypeId} {x:Option Lf} {cs:List Chk} {e:Eff} (he:lenL P t O x=some (cs,e)) {a:Value} (ha:LR G O w x a) (ty:TypeId):Does P C G O w (Builtin.len_ #[t] ty #[a]) e:=by
 unfold lenL at he
 split at he
 ·rename_i el ht
  have run:∀A n c,(Builtin.len_ #[t] ty #[.slice A n c]).run P w=.ok (.int .i64 (n:Int)) w:=by
   intro A n c
   simp [Builtin.len_,run_underlying ht,goInt]
  split at he
  ·rename_i e' t' xs
   cases he
   obtain ⟨A,c,k1,_⟩:=(show Rep G.F w (.list e' t') xs [a] from (ha _ rfl).2)
   obtain rfl:a=.slice A (List.length xs) c:=by simpa using k1
   exact Does.pure h (run _ _ _) (qbK _ _)
  ·cases he
   obtain rfl:a=.slice none 0 0:=(ha _ rfl).2
   exact Does.pure h (run _ _ _) (qbK _ _)
  ·rename_i d
   split at he
   ·rename_i e' t' xs fz hd
    cases he
    obtain ⟨_,A,c,rfl,_⟩:=qdd hd (ha _ rfl)
    exact Does.pure h (run _ _ _) (qbK _ _)
   ·rename_i v e' e2 t' xss pd hd
    cases he
    obtain ⟨_,A,c,rfl,_⟩:=qe3 hd (ha _ rfl)
    exact Does.pure h (run _ _ _) (qbK _ _)
   ·cases he
  ·rename_i d off len
   split at he
   ·rename_i e' t' xs fz hd
    cases he
    obtain ⟨_,A,c,rfl,_⟩:=qdZ hd (ha _ rfl)
    exact Does.pure h (run _ _ _) (qbK _ _)
   ·rename_i v e' e2 t' xss pd hd
    cases he
    obtain ⟨_,A,c,rfl,_⟩:=qfP hd (ha _ rfl)
    exact Does.pure h (run _ _ _) (qbK _ _)
   ·cases he
  ·rename_i d v i
   split at he
   ·rename_i v' e' e2 t' xss hd
    by_cases hv:v=v'
    ·rw [if_pos hv] at he
     subst hv
     cases he
     obtain ⟨_,y,hy,_,A,c,rfl,_⟩:=oh_at hd (ha _ rfl)
     have hrd:rd (.list e2 t') xss i=y:=rdAt (t:=.list e2 t') hy
     rw [hrd]
     exact Does.pure h (run _ _ _) (qbK _ _)
    ·rw [if_neg hv] at he;cases he
   ·cases he
  ·rename_i d v i off len
   split at he
   ·rename_i v' e' e2 t' xss hd
    by_cases hv:v=v'
    ·rw [if_pos hv] at he
     subst hv
     cases he
     obtain ⟨_,y,hy,_,A,c,rfl,_⟩:=ohs_at hd (ha _ rfl)
     exact Does.pure h (run _ _ _) (qbK _ _)
    ·rw [if_neg hv] at he;cases he
   ·cases he
  ·cases he
 ·rename_i ht
  split at he<;>cases he
  rename_i s
  obtain rfl:=ha.str
  exact Does.pure h (v:=.int .i64 ((s:ByteArray).size:Int)) (by simp [Builtin.len_,run_underlying ht,goInt]) (qbK _ _)
 ·cases he
theorem capL_ok (h:Core C G O w) {t:TypeId} {x:Option Lf} {cs:List Chk} {e:Eff} (he:capL P t x=some (cs,e)) {a:Value} (ha:LR G O w x a) (ty:TypeId):Does P C G O w (Builtin.cap_ #[t] ty #[a]) e:=by
 unfold capL at he
 split at he
 ·rename_i el ht
  split at he<;>cases he
  obtain rfl:a=.slice none 0 0:=(ha _ rfl).2
  exact Does.pure h (v:=.int .i64 ((0:Nat):Int)) (by simp [Builtin.cap_,run_underlying ht,goInt]) (qbK _ _)
 ·cases he
theorem run_indexAt {t el:TypeId} {k:IntKind} {i:Int} {b o len c:Nat} (ht:P.underlying t=some (.slice el)) (hn:P.cellsOf el≠0) (h0:0≤i) (h1:i<(len:Int)) :
  (Instr.indexAt t (.slice (some ⟨b,o,none⟩) len c) (.int k i)).run P w=.ok (.pointer (some ⟨b,o+i.toNat*P.cellsOf el,none⟩)) w:=by
 obtain ⟨inf,hi,hs⟩:=qcH hn
 simp [Instr.indexAt,asIntOf,run_underlying ht,h0,h1,sizeOf,typeInfo,hi,hs,qcb]
theorem indexAddrL_ok (h:Core C G O w) {t el:TypeId} {x y:Option Lf} {cs:List Chk} {e:Eff} (ht:P.underlying t=some (.slice el)) (he:qch (P.cellsOf el) O x y=some (cs,e)) (hc:AllP cs) {a b:Value} (ha:LR G O w x a) (hb:LR G O w y b):Does P C G O w (Instr.indexAt t a b) e:=by
 unfold qch at he
 split at he
 ·rename_i k i
  obtain rfl:=hb.int
  split at he
  ·rename_i e' t' xs
   by_cases hz:t'.sz=P.cellsOf el∧P.cellsOf el≠0
   ·rw [if_pos hz] at he
    cases he
    have h0:(0:Int)≤i:=hc.cons.1
    have h1:i<((List.length xs:Nat):Int):=hc.cons.2.cons.1
    obtain ⟨A,c,k1,k2,k3⟩:=(show Rep G.F w (.list e' t') xs [a] from (ha _ rfl).2)
    obtain rfl:a=.slice A (List.length xs) c:=by simpa using k1
    obtain ⟨b,o,rfl,hF,hcell⟩:=k3 (qdP _ _ h0 h1)
    have hl:i.toNat<List.length xs:=lt_nat _ _ h0 h1
    obtain ⟨ce,c1,c2,c3⟩:=hcell i.toNat _ (List.getElem?_eq_getElem hl)
    refine Does.pure h (run_indexAt ht hz.2 h0 h1) ⟨rfl,b,o+i.toNat*P.cellsOf el,ce,hF,?_,fun j u hj=>?_,rfl⟩
    ·unfold rd
     rw [List.getD_eq_getElem?_getD,List.getElem?_eq_getElem hl]
     exact c2
    ·have:=c3 j u hj
     rw [hz.1] at this
     rw [←this]
     congr 2
     omega
   ·rw [if_neg hz] at he
    cases he
  ·rename_i d
   split at he
   ·rename_i e' t' xs fz hd
    by_cases hz:t'.sz=P.cellsOf el∧P.cellsOf el≠0
    ·rw [if_pos hz] at he
     cases he
     have h0:(0:Int)≤i:=hc.cons.1
     have h1:i<((List.length xs:Nat):Int):=hc.cons.2.cons.1
     obtain ⟨_,A,c,rfl,k2,k3,k4⟩:=qdd hd (ha _ rfl)
     obtain ⟨b,o,hm,rfl⟩:=k4 (Nat.lt_of_lt_of_le (qdP _ _ h0 h1) k2)
     refine Does.pure h (run_indexAt ht hz.2 h0 h1) ⟨rfl,?_⟩
     rw [qdF,hd]
     refine ⟨h0,h1,b,o,hm,?_⟩
     rw [hz.1]
     simp
    ·rw [if_neg hz] at he
     cases he
   ·rename_i v e' e2 t' xss pd hd
    by_cases hz:1=P.cellsOf el
    ·rw [if_pos hz] at he
     cases he
     have h0:(0:Int)≤i:=hc.cons.1
     have h1:i<((List.length xss:Nat):Int):=hc.cons.2.cons.1
     obtain ⟨_,A,c,rfl,k2,k3,k4⟩:=qe3 hd (ha _ rfl)
     obtain ⟨b,o,hm,rfl⟩:=k4 (Nat.lt_of_lt_of_le (qdP _ _ h0 h1) k2)
     refine Does.pure h (run_indexAt ht (by omega) h0 h1) ⟨rfl,?_⟩
     rw [qdF,hd]
     refine ⟨h0,h1,b,o,hm,?_⟩
     rw [←hz]
     show Value.pointer (some ⟨b,o+0*1+i.toNat*1,none⟩)=.pointer (some ⟨b,o+i.toNat*1+0,none⟩)
     simp
    ·rw [if_neg hz] at he
     cases he
   ·cases he
  ·rename_i d v i'
   split at he
   ·rename_i v' e' e2 t' xss hd
    by_cases hz:v=v'∧t'.sz=P.cellsOf el∧P.cellsOf el≠0
    ·rw [if_pos hz] at he
     obtain ⟨rfl,hz⟩:=hz
     cases he
     have h0:(0:Int)≤i:=hc.cons.1
     have h1:i<((List.length (rd (.list e2 t') xss i'):Nat):Int):=hc.cons.2.cons.1
     obtain ⟨g0,y,hy,_,A,c,rfl,q2,_,q3⟩:=oh_at hd (ha _ rfl)
     have hrd:rd (.list e2 t') xss i'=y:=rdAt (t:=.list e2 t') hy
     rw [hrd] at h1
     obtain ⟨b,o,k,hs,rfl⟩:=q3 (Nat.lt_of_lt_of_le (qdP _ _ h0 h1) q2)
     refine Does.pure h (run_indexAt ht hz.2 h0 h1) (oi_mk hd g0 h0 hy h1 hs ?_)
     rw [hz.1]
     omega
    ·rw [if_neg hz] at he
     cases he
   ·cases he
  ·rename_i d v i' off len
   split at he
   ·rename_i v' e' e2 t' xss hd
    by_cases hz:v=v'∧t'.sz=P.cellsOf el∧P.cellsOf el≠0
    ·rw [if_pos hz] at he
     obtain ⟨rfl,hz⟩:=hz
     cases he
     have h0:(0:Int)≤i:=hc.cons.1
     have h1:i<(len:Int):=hc.cons.2.cons.1
     obtain ⟨g0,y,hy,g1,A,c,rfl,q2,_,q3⟩:=ohs_at hd (ha _ rfl)
     obtain ⟨b,o,k,hs,rfl⟩:=q3 (Nat.lt_of_lt_of_le (qdP _ _ h0 h1) q2)
     have key:∀i:Int,0≤i→i<(len:Int)→0≤(off:Int)+i∧(off:Int)+i<(y.length:Int)∧((off:Int)+i).toNat=off+i.toNat:=by intro i h0 h1;omega
     obtain ⟨p1,p2,p3⟩:=key i h0 h1
     refine Does.pure h (run_indexAt ht hz.2 h0 h1) (oi_mk hd g0 p1 hy p2 hs ?_)
     rw [hz.1,p3,Nat.add_mul]
     omega
    ·rw [if_neg hz] at he
     cases he
   ·cases he
  ·rename_i d off len
   split at he
   ·rename_i e' t' xs fz hd
    by_cases hz:t'.sz=P.cellsOf el∧P.cellsOf el≠0
    ·rw [if_pos hz] at he
     cases he
     have h0:(0:Int)≤i:=hc.cons.1
     have h1:i<(len:Int):=hc.cons.2.cons.1
     obtain ⟨k1,A,c,rfl,k2,k3,k4⟩:=qdZ hd (ha _ rfl)
     obtain ⟨b,o,hm,rfl⟩:=k4 (Nat.lt_of_lt_of_le (qdP _ _ h0 h1) k2)
     refine Does.pure h (run_indexAt ht hz.2 h0 h1) ⟨rfl,?_⟩
     rw [qdF,hd]
     have key:∀i:Int,0≤i→i<(len:Int)→0≤(off:Int)+i∧(off:Int)+i<(xs.length:Int)∧((off:Int)+i).toNat=off+i.toNat:=by intro i h0 h1;omega
     obtain ⟨q1,q2,q3⟩:=key i h0 h1
     refine ⟨q1,q2,b,o,hm,?_⟩
     rw [hz.1,q3,Nat.add_mul]
     simp [Nat.add_assoc]
    ·rw [if_neg hz] at he
     cases he
   ·rename_i v e' e2 t' xss pd hd
    by_cases hz:1=P.cellsOf el
    ·rw [if_pos hz] at he
     cases he
     have h0:(0:Int)≤i:=hc.cons.1
     have h1:i<(len:Int):=hc.cons.2.cons.1
     obtain ⟨k1,A,c,rfl,k2,k3,k4⟩:=qfP hd (ha _ rfl)
     obtain ⟨b,o,hm,rfl⟩:=k4 (Nat.lt_of_lt_of_le (qdP _ _ h0 h1) k2)
     refine Does.pure h (run_indexAt ht (by omega) h0 h1) ⟨rfl,?_⟩
     rw [qdF,hd]
     have key:∀i:Int,0≤i→i<(len:Int)→0≤(off:Int)+i∧(off:Int)+i<(xss.length:Int)∧((off:Int)+i).toNat=off+i.toNat:=by intro i h0 h1;omega
     obtain ⟨q1,q2,q3⟩:=key i h0 h1
     refine ⟨q1,q2,b,o,hm,?_⟩
     rw [←hz,q3]
     show Value.pointer (some ⟨b,o+off*1+i.toNat*1,none⟩)=.pointer (some ⟨b,o+(off+i.toNat)*1+0,none⟩)
     simp [Nat.add_assoc]
    ·rw [if_neg hz] at he
     cases he
   ·cases he
  ·cases he
 ·cases he
theorem qfL {s:TypeId} {f n:Nat} {t:TypeId} (e:qe1 P s f=some (n,t)):∃fs fd,P.underlying s=some (.struct fs)∧fs[f]?=some fd∧fd.offset=n∧fd.type=t∧P.cellsOf t≠0:=by
 unfold qe1 at e
 split at e
 ·rename_i fs hu
  split at e
  ·rename_i g hg
   by_cases hz:P.cellsOf g.type=0
   ·rw [if_pos hz] at e;cases e
   ·rw [if_neg hz] at e
    cases e
    exact ⟨fs,g,hu,hg,rfl,rfl,hz⟩
  ·cases e
 ·cases e
theorem fieldAddrL_ok (h:Core C G O w) {s:TypeId} {f:Nat} {x:Option Lf} {cs:List Chk} {e:Eff} (he:qcx P s f O x=some (cs,e)) {a:Value} (ha:LR G O w x a):Does P C G O w (Instr.fieldAt s a f) e:=by
 unfold qcx at he
 split at he
 ·rename_i n t hf
  obtain ⟨fs,fd,hu,hg,rfl,rfl,hz⟩:=qfL hf
  obtain ⟨inf,hi,hs⟩:=qcH hz
  have run:∀b o,(Instr.fieldAt s (.pointer (some ⟨b,o,none⟩)) f).run P w=.ok (.pointer (some ⟨b,o+fd.offset,none⟩)) w:=by
   intro b o
   have hs':inf.size≠0:=by rw [hs];exact hz
   simp [Instr.fieldAt,run_underlying hu,hg,Instr.sureAddr,fieldPlace,sizeOf,typeInfo,hi,hs',qcb]
  split at he
  ·rename_i d c
   split at he<;>cases he
   rename_i e' cs hd
   have k:OnBox (O d) (∃b o,G.m d=some (b,o)∧a=.pointer (some ⟨b,o+c,none⟩)):=(ha _ rfl).2
   rw [hd] at k
   obtain ⟨b,o,hm,rfl⟩:=k
   refine Does.pure h (run _ _) ⟨rfl,?_⟩
   show OnBox (O d) _
   rw [hd]
   exact ⟨b,o,hm,by rw [Nat.add_assoc]⟩
  ·rename_i T y c
   cases he
   obtain ⟨b,o,cs,h1,h2,h3,rfl⟩:=(ha _ rfl).2
   exact Does.pure h (run _ _) ⟨rfl,b,o,cs,h1,h2,h3,by rw [Nat.add_assoc]⟩
  ·rename_i d i c
   split at he<;>cases he
   rename_i e' T xs fz hd
   have k:OnRow (O d) (fun t n=>0≤i∧i<(n:Int)∧∃b o,G.m d=some (b,o)∧a=.pointer (some ⟨b,o+i.toNat*t.sz+c,none⟩)):=(ha _ rfl).2
   rw [hd] at k
   obtain ⟨h0,h1,b,o,hm,rfl⟩:=k
   refine Does.pure h (run _ _) ⟨rfl,?_⟩
   rw [qdF,hd]
   exact ⟨h0,h1,b,o,hm,by rw [Nat.add_assoc]⟩
  ·rename_i d v i j c
   split at he
   ·rename_i v' e' e2 T xss pd hd
    by_cases hv:v=v'
    ·rw [if_pos hv] at he
     subst hv
     cases he
     obtain ⟨q1,q2,y,hy,q4,b,o,k,q5,rfl⟩:=oi_at hd (ha _ rfl)
     exact Does.pure h (run _ _) (oi_mk hd q1 q2 hy q4 q5 (by omega))
    ·rw [if_neg hv] at he;cases he
   ·cases he
  ·cases he
 ·cases he
theorem cutSV_ok {t:TypeId} {ls:List Lf} {c:Nat} {s:SV} (e:cutSV P t ls c=some s) {vs:List Value} (hv:All2 (LfR G O w) ls vs) :
  ∃l,l=(vs.drop c).take (P.cellsOf t)∧l.length=P.cellsOf t∧((aggO P t=some true∧SVR G O w s (.agg l.toArray))∨(aggO P t=some false∧∃v,l=[v]∧SVR G O w s v)):=by
 unfold cutSV at e
 have h2:=(hv.drop c).take (P.cellsOf t)
 refine ⟨_,rfl,?_⟩
 by_cases hl:((ls.drop c).take (P.cellsOf t)).length=P.cellsOf t
 ·simp only [hl,if_true] at e
  refine ⟨by rw [←h2.length,hl],?_⟩
  split at e
  ·rename_i e1
   cases e
   exact Or.inl ⟨e1,_,rfl,h2⟩
  ·rename_i e1 e2
   cases e
   rw [e2] at h2
   obtain ⟨y,m,e3,h3,h4⟩:=h2.cons_inv
   have:=h4.qbm
   subst this
   exact Or.inr ⟨e1,y,e3,h3⟩
  ·cases e
 ·simp only [hl,if_false] at e
  cases e
theorem qdT {t:TypeId} {b:Bool} (e:aggO P t=some b):(∃i,P.info? t=some i)∧(isAgg t).run P w=.ok b w:=by
 unfold aggO at e
 split at e<;>cases e
 ·rename_i fs hu
  exact ⟨info_of hu,by simp [isAgg,run_underlying hu]⟩
 ·rename_i n el hu
  exact ⟨info_of hu,by simp [isAgg,run_underlying hu]⟩
 ·rename_i d h1 h2 hu
  refine ⟨info_of hu,?_⟩
  simp only [isAgg,Sem.run_bind,run_underlying hu,Result.andThen_ok]
  rfl
theorem fieldL_ok (h:Core C G O w) {s:TypeId} {f:Nat} {x:SV} {cs:List Chk} {e:Eff} (he:fieldL P s f x=some (cs,e)) {a:Value} (ha:SVR G O w x a):Does P C G O w (Instr.field s a f) e:=by
 unfold fieldL at he
 split at he
 ·rename_i ls
  obtain ⟨vs,rfl,hv⟩:=ha
  split at he
  ·rename_i n t hf
   obtain ⟨fs,fd,hu,hg,rfl,rfl,hz⟩:=qfL hf
   cases e1:cutSV P fd.type ls fd.offset with
   |none=>rw [e1] at he;cases he
   |some sv=>
    rw [e1] at he
    cases he
    obtain ⟨l,hl,hn,hs⟩:=cutSV_ok e1 hv
    obtain ⟨inf,hi,hsz⟩:=qcH hz
    rcases hs with ⟨ha,hs⟩|⟨ha,v,rfl,hs⟩
    ·refine Does.pure h ?_ hs
     simp only [Instr.field,Sem.run_bind,run_underlying hu,Result.andThen_ok,hg,asAgg,Sem.run_pure,part,(qdT ha).2,if_true,sizeOf,typeInfo,run_program,hi]
     rw [hl,hsz]
     congr 2
     apply Array.ext'
     simp [List.extract_eq_take_drop]
    ·refine Does.pure h ?_ hs
     simp only [Instr.field,Sem.run_bind,run_underlying hu,Result.andThen_ok,hg,asAgg,Sem.run_pure,part,(qdT ha).2]
     have:vs[fd.offset]?=some v:=by
      have e2:((vs.toList.drop fd.offset).take (P.cellsOf fd.type))[0]?=some v:=by rw [←hl];rfl
      rw [List.getElem?_take] at e2
      split at e2
      ·rw [List.getElem?_drop] at e2
       simpa using e2
      ·cases e2
     simp [this]
  ·cases he
 ·cases he
theorem run_loadAt {t:TypeId} {b o:Nat} {l:List Value} (hl:l.length=P.cellsOf t) (hc:∀i u,l[i]?=some u→w.cell? ⟨b,o+i,none⟩=some u) :
  (aggO P t=some true→(Instr.loadAt t (.pointer (some ⟨b,o,none⟩))).run P w=.ok (.agg l.toArray) w)∧(aggO P t=some false→∀v,l=[v]→(Instr.loadAt t (.pointer (some ⟨b,o,none⟩))).run P w=.ok v w):=by
 refine ⟨fun ha=>?_,fun ha v hv=>?_⟩
 ·obtain ⟨⟨inf,hi⟩,hag⟩:=qdT (w:=w) ha
  have hsz:inf.size=l.length:=by rw [hl];unfold Program.cellsOf;rw [hi];rfl
  simp only [Instr.loadAt,Instr.sureAddr,Sem.run_bind,Sem.run_pure,Result.andThen_ok,loadVar,hag,if_true,sizeOf,typeInfo,run_program,hi,hsz]
  rw [run_loadCells_list w ⟨b,o,none⟩ l (fun j v hj=>by rw [qcb];exact hc j v hj)]
  rfl
 ·obtain ⟨⟨inf,hi⟩,hag⟩:=qdT (w:=w) ha
  subst hv
  have:=hc 0 v rfl
  rw [Nat.add_zero] at this
  simp only [Instr.loadAt,Instr.sureAddr,Sem.run_bind,Sem.run_pure,Result.andThen_ok,loadVar,hag]
  rw [if_neg (by decide),run_load,this]
theorem qgk (h:Core C G O w) {t:TypeId} {x:Option Lf} {cs:List Chk} {e:Eff} (he:loadL P t O x=some (cs,e)) {a:Value} (ha:LR G O w x a):∃v,(Instr.loadAt t a).run P w=.ok v w∧SVR G O w e.sv v∧e.wr=[]:=by
 have fin:∀(sv:SV) (rd:List Nat) (b o c:Nat) (ls:List Lf) (vs:List Value),cutSV P t ls c=some sv→All2 (LfR G O w) ls vs→(∀i u,vs[i]?=some u→w.cell? ⟨b,o+i,none⟩=some u)→∃v,(Instr.loadAt t (.pointer (some ⟨b,o+c,none⟩))).run P w=.ok v w∧SVR G O w sv v∧((⟨sv,rd,[]⟩:Eff).wr=[]):=by
  intro sv rd b o c ls vs e1 hv hcell
  obtain ⟨l,hl,hn,hs⟩:=cutSV_ok e1 hv
  have hr:=run_loadAt (P:=P) (w:=w) (t:=t) (b:=b) (o:=o+c) hn (fun i u hi=>by
   rw [Nat.add_assoc]
   refine hcell (c+i) u ?_
   rw [hl,List.getElem?_take] at hi
   split at hi
   ·rw [List.getElem?_drop] at hi;exact hi
   ·cases hi)
  rcases hs with ⟨ha,hs⟩|⟨ha,v,hv,hs⟩
  ·exact ⟨_,hr.1 ha,hs,rfl⟩
  ·exact ⟨_,hr.2 ha v hv,hs,rfl⟩
 unfold loadL at he
 split at he
 ·rename_i d c
  split at he
  ·rename_i e' ls hd
   cases e1:cutSV P t ls c with
   |none=>rw [e1] at he;cases he
   |some sv=>
    rw [e1] at he
    cases he
    have k:OnBox (O d) (∃b o,G.m d=some (b,o)∧a=.pointer (some ⟨b,o+c,none⟩)):=(ha _ rfl).2
    rw [hd] at k
    obtain ⟨b,o,hm,rfl⟩:=k
    obtain ⟨b',arr,hm',hb,hall,_⟩:=h.box hd
    rw [hm] at hm'
    cases hm'
    exact fin sv [d] b 0 c ls arr.toList e1 hall (fun i u hi=>by rw [hb.cell];simpa using hi)
  ·cases he
 ·rename_i T y c
  cases e1:cutSV P t (leaves T y) c with
  |none=>rw [e1] at he;cases he
  |some sv=>
   rw [e1] at he
   cases he
   obtain ⟨b,o,vs,h1,h2,h3,rfl⟩:=(ha _ rfl).2
   exact fin sv [] b o c _ vs e1 (qcn h2) h3
 ·rename_i d i c
  split at he
  ·rename_i e' T xs fz hd
   cases e1:cutSV P t (leaves T (rd T xs i)) c with
   |none=>rw [e1] at he;cases he
   |some sv=>
    rw [e1] at he
    cases he
    have k:OnRow (O d) (fun t n=>0≤i∧i<(n:Int)∧∃b o,G.m d=some (b,o)∧a=.pointer (some ⟨b,o+i.toNat*t.sz+c,none⟩)):=(ha _ rfl).2
    rw [hd] at k
    obtain ⟨h0,h1,b,o,hm,rfl⟩:=k
    rcases (h.row hd).2 with ⟨_,k⟩|⟨b',o',arr,t',k1,k2,k3,k4,_⟩
    ·rw [hm] at k;cases k
    ·rw [hm] at k1
     cases k1
     have hl:i.toNat<xs.length:=by omega
     obtain ⟨ce,c1,c2,c3⟩:=k4 i.toNat _ (List.getElem?_eq_getElem hl)
     have hrd:rd T xs i=xs[i.toNat]:=by
      unfold rd
      rw [List.getD_eq_getElem?_getD,List.getElem?_eq_getElem hl]
      rfl
     rw [hrd] at e1
     exact fin sv [d] b (o+i.toNat*T.sz) c _ ce e1 (qcn c2) (fun j u hj=>by
      rw [k2.cell]
      have:=c3 j u hj
      rw [←this]
      congr 1
      omega)
  ·rename_i v e' e2 T xss hd
   cases e1:cutSV P t [.oh d v i] c with
   |none=>rw [e1] at he;cases he
   |some sv=>
    rw [e1] at he
    cases he
    have k:OnRow (O d) (fun t n=>0≤i∧i<(n:Int)∧∃b o,G.m d=some (b,o)∧a=.pointer (some ⟨b,o+i.toNat*t.sz+c,none⟩)):=(ha _ rfl).2
    rw [hd] at k
    obtain ⟨h0,h1,b,o,hm,rfl⟩:=k
    have hl:i.toNat<xss.length:=by omega
    rcases (h.deep hd).2 with ⟨_,k⟩|⟨b',o',arr,t',k1,k2,k3,k4,k5,k6⟩
    ·rw [hm] at k;cases k
    ·rw [hm] at k1
     cases k1
     obtain ⟨_,u,q1,q2⟩:=k6.cells i.toNat i.toNat hl rfl
     have hy:=List.getElem?_eq_getElem hl
     refine fin sv [d] b (o+i.toNat*1) c _ [u] e1 ⟨oh_mk hd h0 hy (q2 _ hy),trivial⟩ (fun j u hj=>?_)
     cases j with
     |zero=>
      cases hj
      rw [k2.cell]
      rw [show o+i.toNat*1+0=o+i.toNat by omega]
      exact q1
     |succ j=>cases hj
  ·cases he
 ·rename_i d v i j c
  split at he
  ·rename_i v' e' e2 T xss hd
   by_cases hv:v=v'
   ·rw [if_pos hv] at he
    subst hv
    cases e1:cutSV P t (leaves T (rd T (rd (.list e2 T) xss i) j)) c with
    |none=>rw [e1] at he;cases he
    |some sv=>
     rw [e1] at he
     cases he
     obtain ⟨g0,g1,y,hy,g4,b,o,k,g5,rfl⟩:=oi_at hd (ha _ rfl)
     have hrd:rd (.list e2 T) xss i=y:=rdAt (t:=.list e2 T) hy
     have hl:j.toNat<y.length:=by omega
     have hrd2:rd T y j=y[j.toNat]:=rdAt (List.getElem?_eq_getElem hl)
     rw [hrd,hrd2] at e1
     have hi:=h.innerR hd hy trivial
     rw [g5] at hi
     obtain ⟨_,_,arr2,e2',r1,r2,r4,_⟩:=hi
     obtain ⟨ce,c1,c2,c3⟩:=r4 j.toNat _ (List.getElem?_eq_getElem hl)
     exact fin sv [d] b (o+j.toNat*T.sz) c _ ce e1 (qcn c2) (fun m u hm=>by
      rw [r1.cell]
      have:=c3 m u hm
      rw [←this]
      congr 1
      omega)
   ·rw [if_neg hv] at he;cases he
  ·cases he
 ·cases he
theorem loadL_ok (h:Core C G O w) {t:TypeId} {x:Option Lf} {cs:List Chk} {e:Eff} (he:loadL P t O x=some (cs,e)) {a:Value} (ha:LR G O w x a):Does P C G O w (Instr.loadAt t a) e:=by
 obtain ⟨v,h1,h2,h3⟩:=qgk h he ha
 refine ⟨v,w,h1,G,?_,?_,?_⟩<;>rw [h3]
 ·exact h
 ·exact Ext.refl _ _ _
 ·exact h2
end
end Go.Proofs.YtfobeapcmgjhbaaGreatDoor.VE
namespace Go.Proofs.YtfobeapcmgjhbaaGreatDoor.VE
open Go Go.RowKit
section
variable {P:Program} {C:Ctx} {G:Gh} {O:Nat→Obj} {w:World}
def nilV:Value→Bool
 |.pointer none=>true
 |.nilIface=>true
 |.nilFunc=>true
 |.func (.method _) _ _=>true
 |_=>false
theorem nilL_ok (h:Core C G O w) {x:Option Lf} {cs:List Chk} {e:Eff} (he:nilL O x=some (cs,e)) {a:Value} (ha:LR G O w x a) :
  nilV a=false∧StepR C G O w e a w:=by
 unfold nilL at he
 split at he
 ·rename_i d c
  split at he<;>cases he
  rename_i e' cs hd
  have k:=ha _ rfl
  have k':OnBox (O d) (∃b o,G.m d=some (b,o)∧a=.pointer (some ⟨b,o+c,none⟩)):=k.2
  rw [hd] at k'
  obtain ⟨b,o,hm,rfl⟩:=k'
  exact ⟨rfl,StepR.pure h k⟩
 ·rename_i T y c
  cases he
  have k:=ha _ rfl
  obtain ⟨b,o,cs,h1,h2,h3,rfl⟩:=k.2
  exact ⟨rfl,StepR.pure h k⟩
 ·rename_i d i c
  split at he<;>cases he
  rename_i e' T xs fz hd
  have k:=ha _ rfl
  have k':=k.2
  rw [qdF,hd] at k'
  obtain ⟨h0,h1,b,o,hm,rfl⟩:=k'
  exact ⟨rfl,StepR.pure h k⟩
 ·rename_i f
  cases he
  have k:=ha _ rfl
  obtain rfl:a=.func (.func f) #[] #[]:=k.2
  exact ⟨rfl,StepR.pure h k⟩
 ·cases he
def BndR:Option Int→Option Value→Prop
 |none,none=>True
 |some i,some v=>∃k,v=.int k i
 |_,_=>False
theorem qbY {n:Int} {lo hi:Option Int} (h:AllP (qcl n lo hi)) (hn:0≤n):0≤lo.getD 0∧lo.getD 0≤hi.getD n∧hi.getD n≤n:=by
 cases lo with
 |none=>cases hi with
  |none=>exact ⟨Int.le_refl _,hn,Int.le_refl _⟩
  |some x=>
   have h1:x≤n:=h.cons.1
   have h2:0≤x:=h.cons.2.cons.1
   exact ⟨Int.le_refl _,h2,h1⟩
 |some l=>cases hi with
  |none=>
   have h1:0≤l:=h.cons.1
   have h2:l≤n:=h.cons.2.cons.1
   exact ⟨h1,h2,Int.le_refl _⟩
  |some x=>
   have h1:x≤n:=h.cons.1
   have h2:0≤l:=h.cons.2.cons.1
   have h3:l≤x:=h.cons.2.cons.2.cons.1
   exact ⟨h2,h3,h1⟩
theorem run_sliceBound {k:IntKind} {i:Int} {y:Nat} {code:BoundsCode} (h0:0≤i) (h1:i≤(y:Int)):(Instr.sliceBound (.int k i) y code).run P w=.ok i.toNat w:=by
 simp [Instr.sliceBound,asIntOf,h0,h1]
theorem qdb {s:Bool} {len cap:Nat} {lo hi:Option Int} {vlo vhi:Option Value} (hl:BndR lo vlo) (hh:BndR hi vhi) (h0:0≤lo.getD 0) (h1:lo.getD 0≤hi.getD (len:Int)) (h2:hi.getD (len:Int)≤(len:Int)) (h3:len≤cap) :
  (Instr.sliceBounds s len cap vlo vhi none).run P w=.ok ((lo.getD 0).toNat,(hi.getD (len:Int)).toNat,cap) w:=by
 cases hi with
 |none=>
  cases vhi with
  |some v=>exact hh.elim
  |none=>
   cases lo with
   |none=>cases vlo with
    |some v=>exact hl.elim
    |none=>simp [Instr.sliceBounds]
   |some l=>cases vlo with
    |none=>exact hl.elim
    |some v=>
     obtain ⟨k,rfl⟩:=hl
     simp only [Option.getD_some,Option.getD_none] at h0 h1
     simp [Instr.sliceBounds,run_sliceBound h0 h1]
 |some x=>
  cases vhi with
  |none=>exact hh.elim
  |some v=>
   obtain ⟨k',rfl⟩:=hh
   simp only [Option.getD_some] at h1 h2
   have hx0:0≤x:=by omega
   have hx1:x≤(cap:Int):=by omega
   have hx2:(x.toNat:Int)=x:=by omega
   cases lo with
   |none=>cases vlo with
    |some v=>exact hl.elim
    |none=>cases s<;>simp [Instr.sliceBounds,run_sliceBound hx0 hx1]
   |some l=>cases vlo with
    |none=>exact hl.elim
    |some v=>
     obtain ⟨k,rfl⟩:=hl
     simp only [Option.getD_some] at h0 h1
     have hl1:l≤(x.toNat:Int):=by omega
     cases s<;>simp [Instr.sliceBounds,run_sliceBound hx0 hx1,run_sliceBound h0 hl1]
theorem qbP {t el:TypeId} {A:Option Addr} {len cap:Nat} {lo hi:Option Int} {vlo vhi:Option Value} (ht:P.underlying t=some (.slice el)) (hn:P.cellsOf el≠0) (hl:BndR lo vlo) (hh:BndR hi vhi) (h0:0≤lo.getD 0) (h1:lo.getD 0≤hi.getD (len:Int)) (h2:hi.getD (len:Int)≤(len:Int)) (h3:len≤cap) :
  (Instr.sliceAt t (.slice A len cap) vlo vhi none).run P w=.ok (.slice (if cap=(lo.getD 0).toNat then A else A.map (·.add ((lo.getD 0).toNat*P.cellsOf el))) ((hi.getD (len:Int)).toNat - (lo.getD 0).toNat) (cap - (lo.getD 0).toNat)) w:=by
 obtain ⟨inf,hi',hs⟩:=qcH hn
 simp [Instr.sliceAt,Instr.slice,run_underlying ht,qdb hl hh h0 h1 h2 h3,sizeOf,typeInfo,hi',hs]
theorem subL_eq {α:Type} (xs:List α) {lo hi:Option Int} (h0:0≤lo.getD 0) (h2:hi.getD ((xs.length:Nat):Int)≤((xs.length:Nat):Int)):subL xs lo hi=(xs.drop (lo.getD 0).toNat).take ((hi.getD ((xs.length:Nat):Int)).toNat - (lo.getD 0).toNat):=by
 cases lo<;>cases hi
 ·simp [subL]
 ·simp [subL]
 ·simp only [subL,Option.getD_some,Option.getD_none,Int.toNat_natCast]
  rw [List.take_of_length_le (by rw [List.length_drop];omega)]
 ·simp only [subL,Option.getD_some]
  rw [List.drop_take]
theorem sliceL_ok (h:Core C G O w) {t:TypeId} {x:Option Lf} {lo hi:Option Int} {cs:List Chk} {e:Eff} (he:qfj P t O x lo hi=some (cs,e)) (hc:AllP cs) {a:Value} {vlo vhi:Option Value} (ha:LR G O w x a) (hl:BndR lo vlo) (hh:BndR hi vhi) :
  Does P C G O w (Instr.sliceAt t a vlo vhi none) e:=by
 unfold qfj at he
 split at he
 ·rename_i ht
  split at he<;>cases he
  rename_i s
  obtain rfl:=ha.str
  obtain ⟨h0,h1,h2⟩:=qbY hc (Int.natCast_nonneg _)
  refine Does.pure h (v:=.string (ByteArray.extract s (lo.getD 0).toNat (hi.getD ((s:ByteArray).size:Int)).toNat)) ?_ (qgl _)
  have hb:=qdb (P:=P) (w:=w) (s:=false) hl hh h0 h1 h2 (Nat.le_refl _)
  simp [Instr.sliceAt,Instr.slice,run_underlying ht,hb]
 ·rename_i el ht
  split at he
  ·by_cases hz:P.cellsOf el≠0
   ·rw [if_pos hz] at he
    cases he
    obtain ⟨h0,h1,h2⟩:=qbY hc (Int.le_refl _)
    obtain rfl:a=.slice none 0 0:=(ha _ rfl).2
    have hb:=qbP (P:=P) (w:=w) (A:=none) (len:=0) (cap:=0) ht hz hl hh h0 h1 h2 (Nat.le_refl _)
    have h2':hi.getD 0≤0:=h2
    have h1':lo.getD 0≤hi.getD 0:=h1
    have e1:(lo.getD 0).toNat=0:=by omega
    have e2:(hi.getD ((0:Nat):Int)).toNat=0:=by show (hi.getD 0).toNat=0;omega
    rw [e1,e2] at hb
    exact Does.pure h hb ⟨rfl,rfl⟩
   ·rw [if_neg hz] at he
    cases he
  ·rename_i e' T xs
   by_cases hz:T.sz=P.cellsOf el∧T.sz≠0
   ·rw [if_pos hz] at he
    cases he
    obtain ⟨h0,h1,h2⟩:=qbY hc (Int.natCast_nonneg _)
    obtain ⟨A,c,k1,k2,k3⟩:=(show Rep G.F w (.list e' T) xs [a] from (ha _ rfl).2)
    obtain rfl:a=.slice A (List.length xs) c:=by simpa using k1
    have hcn:P.cellsOf el≠0:=by rw [←hz.1];exact hz.2
    refine Does.pure h (qbP ht hcn hl hh h0 h1 h2 k2) (LfR.of rfl ?_)
    have hsub:=subL_eq (xs:List T.T) (lo:=lo) (hi:=hi) h0 h2
    rw [hsub]
    have hlen:((List.drop (lo.getD 0).toNat xs).take ((hi.getD ((List.length xs:Nat):Int)).toNat - (lo.getD 0).toNat)).length=(hi.getD ((List.length xs:Nat):Int)).toNat - (lo.getD 0).toNat:=by
     rw [List.length_take,List.length_drop];omega
    refine ⟨_,_,by rw [hlen],by rw [hlen];omega,fun hp=>?_⟩
    rw [hlen] at hp
    obtain ⟨b,o,rfl,hF,hcell⟩:=k3 (by omega)
    refine ⟨b,o+(lo.getD 0).toNat*P.cellsOf el,by rw [if_neg (by omega)];simp [qcb],hF,fun j y hj=>?_⟩
    have hj':(xs:List T.T)[(lo.getD 0).toNat+j]?=some y:=by
     rw [List.getElem?_take] at hj
     split at hj
     ·rw [List.getElem?_drop] at hj;exact hj
     ·cases hj
    obtain ⟨ce,c1,c2,c3⟩:=hcell _ y hj'
    refine ⟨ce,c1,c2,fun i u hu=>?_⟩
    have:=c3 i u hu
    rw [←this,Nat.add_mul,hz.1]
    congr 2
    omega
   ·rw [if_neg hz] at he
    cases he
  ·rename_i d
   split at he
   ·rename_i e' T xs fz hd
    by_cases hz:T.sz=P.cellsOf el∧T.sz≠0
    ·rw [if_pos hz] at he
     have hcn:P.cellsOf el≠0:=by rw [←hz.1];exact hz.2
     have hv:=ha _ rfl
     obtain ⟨k1,A,c,rfl,k2,k3,k4⟩:=qdd hd hv
     have key:∀cs' e'',cs'=qcl ((List.length xs:Nat):Int) lo hi→AllP cs'→e''=(⟨.lf (.os d (lo.getD 0).toNat ((hi.getD ((List.length xs:Nat):Int)).toNat - (lo.getD 0).toNat)),[d],[]⟩:Eff)→Does P C G O w (Instr.sliceAt t (.slice A (List.length xs) c) vlo vhi none) e'':=by
      rintro cs' e'' rfl hc rfl
      obtain ⟨h0,h1,h2⟩:=qbY hc (Int.natCast_nonneg _)
      refine Does.pure h (qbP ht hcn hl hh h0 h1 h2 k2) ⟨rfl,?_⟩
      show OnRow (O d) (fun t n=>HdR G d t.sz n _ _ _)
      rw [hd]
      refine ⟨by omega,_,_,rfl,by omega,by omega,fun hp=>?_⟩
      obtain ⟨b,o,hm,rfl⟩:=k4 (by omega)
      refine ⟨b,o,hm,?_⟩
      rw [if_neg (by omega)]
      simp [qcb,hz.1]
     cases lo with
     |none=>cases hi with
      |none=>
       cases he
       have hb:=qbP (P:=P) (w:=w) (A:=A) (lo:=none) (hi:=none) ht hcn hl hh (Int.le_refl _) (Int.natCast_nonneg _) (Int.le_refl _) k2
       refine Does.pure h hb ?_
       simp only [Option.getD_none,Int.toNat_zero,Nat.zero_mul,Nat.sub_zero,Int.toNat_natCast]
       have e1:(if c=0 then A else A.map (·.add 0))=A:=by
        split
        ·rfl
        ·cases A<;>simp [Addr.add]
       rw [e1]
       exact hv
      |some x=>cases he;exact key _ _ rfl hc rfl
     |some l=>cases hi<;>cases he<;>exact key _ _ rfl hc rfl
    ·rw [if_neg hz] at he
     cases he
   ·rename_i v' e' e2' T xs hd
    by_cases hz:1=P.cellsOf el
    ·rw [if_pos hz] at he
     have hcn:P.cellsOf el≠0:=by omega
     have hv:=ha _ rfl
     obtain ⟨k1,A,c,rfl,k2,k3,k4⟩:=qe3 hd hv
     have key:∀cs' e'',cs'=qcl ((List.length xs:Nat):Int) lo hi→AllP cs'→e''=(⟨.lf (.os d (lo.getD 0).toNat ((hi.getD ((List.length xs:Nat):Int)).toNat - (lo.getD 0).toNat)),[d],[]⟩:Eff)→Does P C G O w (Instr.sliceAt t (.slice A (List.length xs) c) vlo vhi none) e'':=by
      rintro cs' e'' rfl hc rfl
      obtain ⟨h0,h1,h2⟩:=qbY hc (Int.natCast_nonneg _)
      refine Does.pure h (qbP ht hcn hl hh h0 h1 h2 k2) ⟨rfl,?_⟩
      show OnRow (O d) (fun t n=>HdR G d t.sz n _ _ _)
      rw [hd]
      refine ⟨by omega,_,_,rfl,by omega,by omega,fun hp=>?_⟩
      obtain ⟨b,o,hm,rfl⟩:=k4 (by omega)
      refine ⟨b,o,hm,?_⟩
      rw [if_neg (by omega)]
      simp [qcb,←hz,Ty.sz]
     cases lo with
     |none=>cases hi with
      |none=>
       cases he
       have hb:=qbP (P:=P) (w:=w) (A:=A) (lo:=none) (hi:=none) ht hcn hl hh (Int.le_refl _) (Int.natCast_nonneg _) (Int.le_refl _) k2
       refine Does.pure h hb ?_
       simp only [Option.getD_none,Int.toNat_zero,Nat.zero_mul,Nat.sub_zero,Int.toNat_natCast]
       have e1:(if c=0 then A else A.map (·.add 0))=A:=by
        split
        ·rfl
        ·cases A<;>simp [Addr.add]
       rw [e1]
       exact hv
      |some x=>cases he;exact key _ _ rfl hc rfl
     |some l=>cases hi<;>cases he<;>exact key _ _ rfl hc rfl
    ·rw [if_neg hz] at he
     cases he
   ·cases he
  ·rename_i d v i
   split at he
   ·rename_i v' e' e2' T xss hd
    by_cases hz:v=v'∧T.sz=P.cellsOf el∧T.sz≠0
    ·rw [if_pos hz] at he
     obtain ⟨rfl,hz⟩:=hz
     cases he
     have hcn:P.cellsOf el≠0:=by rw [←hz.1];exact hz.2
     obtain ⟨g0,y,hy,k1,A,c,rfl,k2,k3,k4⟩:=oh_at hd (ha _ rfl)
     have hrd:rd (.list e2' T) xss i=y:=rdAt (t:=.list e2' T) hy
     rw [hrd] at hc
     rw [hrd]
     obtain ⟨h0,h1,h2⟩:=qbY hc (Int.natCast_nonneg _)
     refine Does.pure h (qbP ht hcn hl hh h0 h1 h2 k2) (ohs_mk hd g0 hy ?_)
     refine ⟨by omega,_,_,rfl,by omega,by omega,fun hp=>?_⟩
     obtain ⟨b,o,k,hm,rfl⟩:=k4 (by omega)
     refine ⟨b,o,k,hm,?_⟩
     rw [if_neg (by omega)]
     simp [qcb,hz.1]
    ·rw [if_neg hz] at he
     cases he
   ·cases he
  ·rename_i d off len
   split at he
   ·rename_i e' T xs fz hd
    by_cases hz:T.sz=P.cellsOf el∧T.sz≠0
    ·rw [if_pos hz] at he
     cases he
     have hcn:P.cellsOf el≠0:=by rw [←hz.1];exact hz.2
     obtain ⟨k1,A,c,rfl,k2,k3,k4⟩:=qdZ hd (ha _ rfl)
     obtain ⟨h0,h1,h2⟩:=qbY hc (Int.natCast_nonneg _)
     refine Does.pure h (qbP ht hcn hl hh h0 h1 h2 k2) ⟨rfl,?_⟩
     show OnRow (O d) (fun t n=>HdR G d t.sz n _ _ _)
     rw [hd]
     refine ⟨by omega,_,_,rfl,by omega,by omega,fun hp=>?_⟩
     obtain ⟨b,o,hm,rfl⟩:=k4 (by omega)
     refine ⟨b,o,hm,?_⟩
     rw [if_neg (by omega)]
     simp only [Option.map_some,qcb,hz.1,Nat.add_mul]
     rw [Nat.add_assoc]
    ·rw [if_neg hz] at he
     cases he
   ·cases he
  ·cases he
 ·cases he
theorem qeS {R:Lf→Value→Prop} {ls new:List Lf} {vs nv:List Value} (h:All2 R ls vs) (hn:All2 R new nv) (c:Nat):All2 R (splice ls c new) (vs.take c++nv++vs.drop (c+nv.length)):=by
 unfold splice
 rw [hn.length]
 exact ((h.take c).append hn).append (h.drop _)
theorem foldl_set (cells:Array Value) (off:Nat):∀(l:List Value) (k:Nat),off+k+l.length≤cells.size→
  ((l.zipIdx k).foldl (fun cs (c,j)=>cs.setIfInBounds (off+j) c) cells)=(cells.toList.take (off+k)++l++cells.toList.drop (off+k+l.length)).toArray:=by
 intro l
 induction l generalizing cells with
 |nil=>intro k h;simp
 |cons x l ih=>
  intro k h
  rw [List.zipIdx_cons,List.foldl_cons,ih (cells.setIfInBounds (off+k) x) (k+1) (by simp at h ⊢;omega)]
  simp only [List.length_cons] at h
  have hk:off+k<cells.size:=by omega
  congr 1
  have e1:off+(k+1)=off+k+1:=by omega
  rw [e1,Array.toList_setIfInBounds,List.take_succ_eq_append_getElem (by simp;omega)]
  simp only [List.getElem_set_self]
  rw [List.take_set_of_le (by omega)] 
  rw [List.drop_set_of_lt (by omega)]
  have e2:off+k+1+l.length=off+k+(l.length+1):=by omega
  rw [e2]
  simp
theorem qgq {R:Lf→Value→Prop} {pl:Nat→Option (Nat×Nat)}:∀{ps:List (Nat×List Lf)} {qs:List (Nat×Value)} {cells:List Lf} {vs:Array Value} {out:List Lf},All2 (fun p q=>p.1=q.1∧All2 R p.2 q.2.cells.toList) ps qs→All2 R cells vs.toList→fillL pl cells ps=some out→
  ∃vo,Instr.fill pl vs qs=some vo∧All2 R out vo.toList
 |[],qs,cells,vs,out,h,hc,e=>by
  obtain rfl:=h.qbm
  cases e
  exact ⟨vs,rfl,hc⟩
 |(i,v)::ps,qs,cells,vs,out,h,hc,e=>by
  obtain ⟨⟨i',v'⟩,qs,rfl,⟨e1,h1⟩,h2⟩:=h.cons_inv
  simp only at e1 h1
  subst e1
  unfold fillL at e
  unfold Instr.fill
  cases hp:pl i with
  |none=>rw [hp] at e;cases e
  |some os=>
   obtain ⟨off,size⟩:=os
   rw [hp] at e
   simp only at e ⊢
   by_cases hz:v.length=size∧off+size≤cells.length
   ·rw [if_pos hz] at e
    have l1:=h1.length
    have l2:=hc.length
    have l3:v'.cells.size=size:=by rw [←hz.1,l1];simp
    have l4:¬(off+v'.cells.size > vs.size):=by
     have:vs.toList.length=vs.size:=by simp
     omega
    have hcond:(decide (v'.cells.size≠size) || decide (off+v'.cells.size > vs.size))=false:=by
     simp [l3]
     have:vs.toList.length=vs.size:=by simp
     omega
    simp only [ne_eq] at hcond
    have hb:=foldl_set vs off v'.cells.toList 0 (by
     have:vs.toList.length=vs.size:=by simp
     simp only [Nat.add_zero,Array.length_toList];omega)
    have hz0:v'.cells.zipIdx.foldl (fun cs (c,j)=>cs.setIfInBounds (off+j) c) vs=(v'.cells.toList.zipIdx 0).foldl (fun cs (c,j)=>cs.setIfInBounds (off+j) c) vs:=by
     rw [←Array.foldl_toList]
     simp
    obtain ⟨vo,k1,k2⟩:=qgq (vs:=(v'.cells.zipIdx.foldl (fun cs (c,j)=>cs.setIfInBounds (off+j) c) vs)) h2 (by
     rw [hz0,hb]
     simpa using qeS hc h1 off) e
    refine ⟨vo,?_,k2⟩
    rw [if_neg (by rw [hcond];simp)]
    exact k1
   ·rw [if_neg hz] at e
    cases e
theorem qbV {t:TypeId} {ls:List Lf} (e:zeroL P t=some ls):∃i z,P.info? t=some i∧i.zero=some z∧(zeroValue t).run P w=.ok z w∧All2 (LfR G O w) ls z.cells.toList:=by
 unfold zeroL at e
 split at e
 ·rename_i i hi
  split at e
  ·rename_i z hz
   exact ⟨i,z,hi,hz,by simp [zeroValue,typeInfo,hi,hz],qfS (ofValue_R z) e⟩
  ·cases e
 ·cases e
end
end Go.Proofs.YtfobeapcmgjhbaaGreatDoor.VE
namespace Go.Proofs.YtfobeapcmgjhbaaGreatDoor.VE
open Go Go.RowKit
section
variable {P:Program} {C:Ctx} {G:Gh} {O:Nat→Obj} {w:World}
theorem qfp (fs:List Field) (h:fs.all (fun f=>(P.info? f.type).isSome)=true) :
  (fs.mapM (fun f=>do pure (f.offset,←sizeOf f.type):Field→Sem (Nat×Nat))).run P w=.ok (fs.map fun f=>(f.offset,P.cellsOf f.type)) w:=by
 induction fs with
 |nil=>rfl
 |cons f fs ih=>
  simp only [List.all_cons,Bool.and_eq_true] at h
  obtain ⟨h1,h2⟩:=h
  obtain ⟨i,hi⟩:=Option.isSome_iff_exists.1 h1
  have hc:P.cellsOf f.type=i.size:=by unfold Program.cellsOf;rw [hi];rfl
  have hr:(sizeOf f.type).run P w=.ok i.size w:=by simp [sizeOf,typeInfo,hi]
  simp only [List.mapM_cons,Sem.run_bind,hr,Result.andThen_ok,Sem.run_pure,ih h2,List.map_cons,hc]
theorem buildL_ok (h:Core C G O w) {t:TypeId} {ps:List (Nat×List Lf)} {cs:List Chk} {e:Eff} (he:buildL P t ps=some (cs,e)) {qs:Array (Nat×Value)} (hq:All2 (fun p q=>p.1=q.1∧All2 (LfR G O w) p.2 q.2.cells.toList) ps qs.toList):Does P C G O w (Instr.build t qs) e:=by
 unfold buildL at he
 split at he
 ·rename_i z fs hz hu
  by_cases hall:fs.toList.all (fun f=>(P.info? f.type).isSome)=true
  ·rw [if_pos hall] at he
   split at he
   ·rename_i c hf
    cases he
    obtain ⟨i,zv,hi,hzv,hrun,hzr⟩:=qbV (w:=w) (G:=G) (O:=O) hz
    have hpl:(fun i:Nat=>(fs[i]?).map fun f:Field=>(f.offset,P.cellsOf f.type))=(fun i:Nat=>(fs.map fun f:Field=>(f.offset,P.cellsOf f.type))[i]?):=by
     funext i
     simp
    rw [hpl] at hf
    obtain ⟨vo,k1,k2⟩:=qgq hq hzr hf
    refine Does.pure h (v:=.agg vo) ?_ ⟨vo,rfl,k2⟩
    have hm:(fs.mapM (fun f=>do pure (f.offset,←sizeOf f.type):Field→Sem (Nat×Nat))).run P w=.ok (fs.map fun f=>(f.offset,P.cellsOf f.type)) w:=by
     rw [Array.mapM_eq_mapM_toList,Sem.run_map,qfp _ hall]
     simp only [Result.andThen_ok]
     congr 1
     apply Array.ext'
     simp
    simp only [Instr.build,Sem.run_bind,hrun,Result.andThen_ok,run_underlying hu,hm,k1,Sem.run_pure]
   ·cases he
  ·rw [if_neg hall] at he
   cases he
 ·cases he
theorem qek (e:TypeId) (cells:Array Value):(newRow e cells).run P w=.ok ⟨w.heap.size,0,none⟩ (w.alloc (.cells cells e)):=rfl
theorem qcu (cells:Array Value) (e:TypeId):Made w (w.alloc (.cells cells e)) cells e:=⟨rfl,rfl,rfl,rfl⟩
theorem lfb_o (d:Nat) (v:Value):LfB G O w (.o d) v=OnRow (O d) (fun t n=>HdR G d t.sz n 0 n v):=rfl
theorem qfB (h:Core C G O w) {d:Nat} {t:TypeId} {ls:List Lf} {cs:List Chk} {e:Eff} (he:qdD d O t ls=some (cs,e)) {v:Value} (hv:All2 (LfR G O w) ls v.cells.toList) :
  StepR C G O w e (.pointer (some ⟨w.heap.size,0,none⟩)) (w.alloc (.cells v.cells t)):=by
 unfold qdD at he
 split at he
 ·rename_i hd
  cases he
  have hm:=qcu (w:=w) v.cells t
  have hk:=h.make hd hm (.box t ls) (some (w.heap.size,0)) 0 (Or.inr rfl) ?_
  ·refine ⟨_,hk.1,hk.2,rfl,?_⟩
   show OnBox (upd O d (.box t ls) d) _
   rw [qad]
   exact ⟨w.heap.size,0,qad _ _ _,rfl⟩
  ·unfold ObjR
   rw [qad]
   refine ⟨w.heap.size,v.cells,qad _ _ _,hm.new,?_,fun hF=>Nat.lt_irrefl _ (h.F1 _ hF),Or.inl h.size⟩
   have x:Ext G O w {G with m:=upd G.m d (some (w.heap.size,0)),cp:=upd G.cp d 0} (upd O d (.box t ls)) (w.alloc (.cells v.cells t)):=by
    refine ⟨fun _ h=>h,fun b hb=>hm.old (h.F1 b hb),fun k hk=>?_⟩
    have hne:k≠d:=by rintro rfl;exact hk hd
    rw [upd_ne _ _ hne]
    exact ⟨hk,Sim.refl _,fun _=>⟨upd_ne _ _ hne,upd_ne _ _ hne,rfl,fun _ _ _=>rfl⟩⟩
   exact hv.mono fun _ _=>LfR.mono x
 ·cases he
theorem alloc_ok (h:Core C G O w) {d:Nat} {t:TypeId} {ls:List Lf} (hz:zeroL P t=some ls) {cs:List Chk} {e:Eff} (he:qdD d O t ls=some (cs,e)):Does P C G O w (Instr.alloc t true (.tuple #[])) e:=by
 obtain ⟨i,z,hi,hzv,hrun,hzr⟩:=qbV (w:=w) (G:=G) (O:=O) hz
 refine ⟨_,_,?_,qfB h he hzr⟩
 simp [Instr.alloc,hrun,newVar,qek]
theorem box_ok (h:Core C G O w) {d:Nat} {t:TypeId} {ls:List Lf} {cs:List Chk} {e:Eff} (he:qdD d O t ls=some (cs,e)) {v:Value} (hv:All2 (LfR G O w) ls v.cells.toList):Does P C G O w (Instr.box t v) e:=by
 refine ⟨_,_,?_,qfB h he hv⟩
 simp [Instr.box,newVar,qek]
theorem qcM (h:Core C G O w) {d:Nat} (hd:O d=.no) {t:TypeId} {T:Ty} {xs:List T.T} {arr:Array Value} {cap:Nat} {w':World} (hw:Made w w' arr t) (hl:xs.length≤cap) (hs:cap*T.sz≤arr.size) (hr:RowAt G.F w T xs arr 0) (rd:List Nat) :
  StepR C G O w ⟨.lf (.o d),rd,[(d,.row t T xs false)]⟩ (.slice (some ⟨w.heap.size,0,none⟩) xs.length cap) w':=by
 have hF:∀b,G.F b→w'.heap[b]?=w.heap[b]?:=fun b hb=>hw.old (h.F1 b hb)
 by_cases hc:cap=0
 ·have hk:=h.make hd hw (.row t T xs false) none 0 (Or.inl rfl) (by
   unfold ObjR
   rw [qad]
   exact ⟨by show xs.length≤upd G.cp d 0 d;rw [qad];omega,Or.inl ⟨qad _ _ _,qad _ _ _⟩⟩)
  refine ⟨_,hk.1,hk.2,rfl,?_⟩
  show LfB _ (upd O d (.row t T xs false)) w' (.o d) _
  rw [lfb_o,qad]
  refine ⟨by omega,_,_,rfl,by omega,?_,fun hp=>by omega⟩
  show 0+cap=upd G.cp d 0 d
  rw [qad];omega
 ·have hk:=h.make hd hw (.row t T xs false) (some (w.heap.size,0)) cap (Or.inr rfl) (by
   unfold ObjR
   rw [qad]
   refine ⟨by show xs.length≤upd G.cp d cap d;rw [qad];exact hl,Or.inr ⟨w.heap.size,0,arr,t,qad _ _ _,hw.new,by show 0+upd G.cp d cap d*T.sz≤arr.size;rw [qad];omega,hr.mono (fun _ h=>h) hF,Or.inl h.size,fun h=>(by cases h),fun _ hF=>Nat.lt_irrefl _ (h.F1 _ hF)⟩⟩)
  refine ⟨_,hk.1,hk.2,rfl,?_⟩
  show LfB _ (upd O d (.row t T xs false)) w' (.o d) _
  rw [lfb_o,qad]
  refine ⟨by omega,_,_,rfl,by omega,?_,fun hp=>⟨w.heap.size,0,qad _ _ _,by simp⟩⟩
  show 0+cap=upd G.cp d cap d
  rw [qad];omega
theorem newDeep_ok (h:Core C G O w) {d:Nat} (hd:O d=.no) {t e2:TypeId} {T:Ty} {arr:Array Value} {n cap:Nat} {w':World} (hw:Made w w' arr t) (hl:n≤cap) (hs:cap≤arr.size) (hr:∀j,j<n→arr[j]?=some (.slice none 0 0)) (rd:List Nat) :
  StepR C G O w ⟨.lf (.o d),rd,[(d,.deep 0 t e2 T (List.replicate n []) .ok)]⟩ (.slice (some ⟨w.heap.size,0,none⟩) n cap) w':=by
 have hF:∀b,G.F b→w'.heap[b]?=w.heap[b]?:=fun b hb=>hw.old (h.F1 b hb)
 have hnil:∀(j:Nat) (x:List T.T),(List.replicate n ([]:List T.T))[j]?=some x→x=[]∧j<n:=by
  intro j x hj
  rw [List.getElem?_replicate] at hj
  split at hj
  ·cases hj;exact ⟨rfl,by assumption⟩
  ·cases hj
 obtain ⟨m,hm⟩:∃m:Option (Nat×Nat),m=if cap=0 then none else some (w.heap.size,0):=⟨_,rfl⟩
 have ex:Ext G O w {G with m:=upd G.m d m,cp:=upd G.cp d cap,sub:=upd G.sub d (fun _ _=>none)} (upd O d (.deep 0 t e2 T (List.replicate n []) .ok)) w':=by
  refine ⟨fun _ h=>h,hF,fun k hk=>?_⟩
  have hne:k≠d:=by rintro rfl;exact hk hd
  rw [upd_ne _ _ hne]
  refine ⟨hk,Sim.refl _,fun _=>⟨upd_ne _ _ hne,upd_ne _ _ hne,rfl,fun u _ _=>?_⟩⟩
  show upd G.sub d (fun _ _=>none) k u=_
  rw [upd_ne _ _ hne]
 have hsub:∀j:Nat,upd G.sub d (fun _ _=>none) d 0 j=none:=by intro j;rw [qad]
 refine ⟨_,?_,ex,rfl,?_⟩
 ·refine h.step ex (fun k=>k=d) (fun k hk=>⟨upd_ne _ _ hk,upd_ne _ _ hk,upd_ne _ _ hk,rfl,upd_ne _ _ hk⟩) (fun k b hk hl hmk=>⟨hw.old (h.qbR hl hmk).1,id⟩) ?_ ?_ (fun b hb=>Or.inl hb) (hw.keeps h.size) ?_
  ·rintro k rfl
   show ObjR C {G with m:=upd G.m k m,cp:=upd G.cp k cap,sub:=upd G.sub k (fun _ _=>none)} (upd O k (.deep 0 t e2 T (List.replicate n []) .ok)) w' k
   unfold ObjR
   rw [qad]
   show (List.replicate n ([]:List T.T)).length≤upd G.cp k cap k∧((upd G.cp k cap k=0∧upd G.m k m k=none)∨_)
   rw [qad,qad,List.length_replicate]
   refine ⟨hl,?_⟩
   by_cases hc:cap=0
   ·exact Or.inl ⟨hc,by rw [hm,if_pos hc]⟩
   ·refine Or.inr ⟨w.heap.size,0,arr,t,by show upd G.m k m k=_;rw [qad,hm,if_neg hc],hw.new,by show 0+upd G.cp k cap k≤arr.size;rw [qad];omega,Or.inl h.size,fun hF=>Nat.lt_irrefl _ (h.F1 _ hF),⟨fun j x hj hx=>?_,fun j y hj _=>?_,fun j p _ _ hp=>?_,fun j j' p p' _ _ _ _ _ hp=>?_⟩⟩
    ·obtain rfl:j=x:=Option.some.inj hx
     refine ⟨hj,.slice none 0 0,by rw [Nat.zero_add];exact hr j (by simpa using hj),fun y hy=>?_⟩
     obtain ⟨rfl,_⟩:=hnil _ _ hy
     show HdI (upd G.sub k (fun _ _=>none) k 0 j) _ _ _ _ _
     rw [hsub]
     exact ⟨Nat.le_refl _,none,0,rfl,Nat.le_refl _,rfl,fun hn=>absurd hn (Nat.lt_irrefl _)⟩
    ·obtain ⟨rfl,_⟩:=hnil _ _ hj
     show qdo _ _ _ _ _ (upd G.sub k (fun _ _=>none) k 0 j)
     rw [hsub]
     rfl
    ·have hp:upd G.sub k (fun _ _=>none) k 0 j=some p:=hp
     rw [hsub] at hp;cases hp
    ·have hp:upd G.sub k (fun _ _=>none) k 0 j=some p:=hp
     rw [hsub] at hp;cases hp
  ·rintro k d' b b' hne rfl hl1 hl' hmk hmk'
   change Bl _ (upd O k (.deep 0 t e2 T (List.replicate n []) .ok) k) k b at hmk
   change (upd O k (.deep 0 t e2 T (List.replicate n []) .ok) d').live=true at hl'
   change Bl _ (upd O k (.deep 0 t e2 T (List.replicate n []) .ok) d') d' b' at hmk'
   rw [qad] at hmk
   have hb:b=w.heap.size:=by
    rcases hmk with ⟨p,hp⟩|⟨j,p,hj,_,hx⟩
    ·have e1:upd G.m k m k=some (b,p):=hp
     rw [qad,hm] at e1
     split at e1
     ·cases e1
     ·cases e1;rfl
    ·have hx:upd G.sub k (fun _ _=>none) k 0 j=some (b,p):=hx
     rw [hsub] at hx;cases hx
   have hne':d'≠k:=Ne.symm hne
   rw [upd_ne _ _ hne'] at hl' hmk'
   have e2:Bl G (O d') d' b':=hmk'.old (upd_ne _ _ hne') (upd_ne _ _ hne')
   have:=(h.qbR hl' e2).1
   omega
  ·rintro k hk rfl hn
   exact absurd hd hn
 ·show LfB _ (upd O d (.deep 0 t e2 T (List.replicate n []) .ok)) w' (.o d) _
  rw [lfb_o,qad]
  show HdR _ d 1 (List.replicate n ([]:List T.T)).length 0 (List.replicate n ([]:List T.T)).length _
  rw [List.length_replicate]
  refine ⟨by omega,_,_,rfl,hl,?_,fun hp=>?_⟩
  ·show 0+cap=upd G.cp d cap d
   rw [qad];omega
  ·refine ⟨w.heap.size,0,?_,by simp⟩
   show upd G.m d m d=_
   rw [qad,hm,if_neg (by omega)]
theorem madeRow_cases (e:TypeId) (T:Ty) (n:Nat) (y:T.T) (z:List Lf):madeRow e T n y z=.row e T (List.replicate n y) false∨∃e2 t,T=.list e2 t∧z=[.nils]∧madeRow e T n y z=.deep 0 e e2 t (List.replicate n []) .ok:=by
 unfold madeRow
 split
 ·exact Or.inr ⟨_,_,rfl,rfl,rfl⟩
 ·exact Or.inl rfl
theorem qft {α:Type} (n:Nat) (l:List α):(reps n l).length=n*l.length:=by
 induction n with
 |zero=>simp [reps]
 |succ n ih=>simp only [reps,List.length_append,ih,Nat.add_mul,Nat.one_mul,Nat.add_comm]
theorem reps_R {R:Lf→Value→Prop} {ls:List Lf} {vs:List Value} (h:All2 R ls vs):∀n,All2 R (reps n ls) (reps n vs)
 |0=>trivial
 |n+1=>h.append (reps_R h n)
theorem reps_get {α:Type} (l:List α):∀(n j:Nat),j<n*l.length→(reps n l)[j]?=l[j % l.length]?
 |0,j,h=>by simp at h
 |n+1,j,h=>by
  rw [Nat.add_mul,Nat.one_mul] at h
  unfold reps
  by_cases hj:j<l.length
  ·rw [List.getElem?_append_left hj,Nat.mod_eq_of_lt hj]
  ·rw [List.getElem?_append_right (by omega),reps_get l n (j - l.length) (by omega)]
   congr 1
   exact (Nat.mod_eq_sub_mod (by omega)).symm
theorem qel (z:Array Value) (n:Nat):((Array.range (n*z.size)).map (z[· % z.size]!)).toList=reps n z.toList:=by
 apply List.ext_getElem?
 intro j
 by_cases hj:j<n*z.size
 ·have hz:0<z.size:=by
   rcases Nat.eq_zero_or_pos z.size with h|h
   ·rw [h,Nat.mul_zero] at hj;omega
   ·exact h
  have hm:j % z.size<z.size:=Nat.mod_lt _ hz
  rw [reps_get _ _ _ (by simpa using hj)]
  simp [hj,hm]
 ·rw [List.getElem?_eq_none (by simp;omega),List.getElem?_eq_none (by rw [qft];simp;omega)]
theorem qcX (h:Core C G O w) {T:Ty} {sz:Nat} (hsz:T.sz=sz) {F:Nat→Prop} (hF:∀b,G.F b→F b):∀{n:Nat} {ls:List Lf} {vs:List Value} {xs:List T.T} {ds:List Nat},chunks O T sz n ls=some (xs,ds)→All2 (LfR G O w) ls vs→(∀d∈ds,∀b o,G.m d=some (b,o)→F b)→
  xs.length=n∧∀j x,xs[j]?=some x→Rep F w T x ((vs.drop (j*sz)).take sz)
 |0,ls,vs,xs,ds,e,_,_=>by
  cases e
  exact ⟨rfl,fun j x hj=>by simp at hj⟩
 |n+1,ls,vs,xs,ds,e,hv,hds=>by
  unfold chunks at e
  cases e1:packs O T (ls.take sz) with
  |none=>rw [e1] at e;cases e
  |some r1=>
   obtain ⟨x,d1⟩:=r1
   cases e2:chunks O T sz n (ls.drop sz) with
   |none=>rw [e1,e2] at e;cases e
   |some r2=>
    obtain ⟨ys,d2⟩:=r2
    rw [e1,e2] at e
    cases e
    have h1:=qeo h e1 (hv.take sz) hF (fun d hd=>hds d (List.mem_append_left _ hd))
    obtain ⟨h2,h3⟩:=qcX h hsz hF e2 (hv.drop sz) (fun d hd=>hds d (List.mem_append_right _ hd))
    refine ⟨by rw [List.length_cons,h2],fun j y hj=>?_⟩
    cases j with
    |zero=>
     simp only [List.getElem?_cons_zero,Option.some.injEq] at hj
     subst hj
     simpa using h1
    |succ j=>
     rw [List.getElem?_cons_succ] at hj
     have:=h3 j y hj
     rw [List.drop_drop] at this
     rw [Nat.add_mul,Nat.one_mul,Nat.add_comm]
     exact this
theorem StepR.freeze (h:Core C G O w) {ds:List Nat} {wr:List (Nat×Obj)} (hf:freeze O ds=some wr) {e:Eff} {v:Value} {w':World}
  (k:∀G',Core C G' (upds O wr) w→Ext G O w G' (upds O wr) w→G'={G with F:=FzF G ds}→StepR C G' (upds O wr) w e v w'):StepR C G O w {e with wr:=wr++e.wr} v w':=by
 obtain ⟨h1,x1⟩:=qdy h hf
 obtain ⟨G',k1,k2,k3⟩:=k _ h1 x1 rfl
 refine ⟨G',?_,?_,?_⟩
 ·show Core C G' (upds O (wr++e.wr)) w'
  rw [qaZ];exact k1
 ·show Ext G O w G' (upds O (wr++e.wr)) w'
  rw [qaZ];exact x1.trans k2
 ·show SVR G' (upds O (wr++e.wr)) w' e.sv v
  rw [qaZ];exact k3
theorem fnsOf_R:∀{c:List Lf} {fs:List Nat} {vs:List Value},fnsOf c=some fs→All2 (LfR G O w) c vs→vs=fs.map fun f=>Value.func (.func f) #[] #[]
 |[],fs,vs,e,h=>by
  cases e
  exact h.qbm
 |x::c,fs,vs,e,h=>by
  obtain ⟨v,m,rfl,h1,h2⟩:=h.cons_inv
  cases x with
  |fn0 f=>
   unfold fnsOf at e
   cases e1:fnsOf c with
   |none=>rw [e1] at e;cases e
   |some l=>
    rw [e1] at e
    cases e
    rw [fnsOf_R e1 h2,show v=_ from h1.2]
    rfl
  |_=>cases e
theorem qf6 (h:Core C G O w) {t:TypeId} {n d:Nat} {ps:List (Nat×List Lf)} {cs:List Chk} {e:Eff} (he:qbQ P t n d O ps=some (cs,e)) {qs:Array (Nat×Value)} (hq:All2 (fun p q=>p.1=q.1∧All2 (LfR G O w) p.2 q.2.cells.toList) ps qs.toList):Does P C G O w (Instr.buildSlice t n qs) e:=by
 unfold qbQ at he
 split at he
 ·rename_i el hu
  split at he
  ·rename_i T z hT hz hd
   by_cases hc:z.length=P.cellsOf el∧T.sz=z.length∧n*z.length≤2 ^ 24
   ·rw [if_pos hc] at he
    split at he
    ·rename_i c hfill
     split at he
     ·rename_i xs ds hch
      split at he
      ·cases he
      ·rename_i hnd
       split at he
       ·rename_i fz hfz
        cases he
        obtain ⟨i,zv,hi,hzv,hrun,hzr⟩:=qbV (w:=w) (G:=G) (O:=O) hz
        have hzl:zv.cells.size=z.length:=by rw [hzr.length];simp
        have hsz:i.size=z.length:=by rw [hc.1];unfold Program.cellsOf;rw [hi];rfl
        have hcells:All2 (LfR G O w) (reps n z) ((Array.range (n*i.size)).map (zv.cells[· % zv.cells.size]!)).toList:=by
         have:=qel zv.cells n
         rw [hzl,←hsz] at this
         rw [hzl,←hsz,this]
         exact reps_R hzr n
        obtain ⟨vo,k1,k2⟩:=qgq hq hcells hfill
        have hvo:vo.size=n*T.sz:=by
         have e1:=k2.length
         have e2:c.length=n*z.length:=by
          have:∀(ps:List (Nat×List Lf)) (cells out:List Lf),fillL (fun i=>some (i*z.length,z.length)) cells ps=some out→out.length=cells.length:=by
           intro ps
           induction ps with
           |nil=>intro cells out e;cases e;rfl
           |cons p ps ih=>
            intro cells out e
            obtain ⟨i,v⟩:=p
            unfold fillL at e
            simp only at e
            split at e
            ·rename_i hcnd
             rw [ih _ _ e]
             unfold splice
             simp only [List.length_append,List.length_take,List.length_drop]
             omega
            ·cases e
          rw [this _ _ _ hfill,qft]
         rw [hc.2.1,←e2,e1];simp
        have hds:d∉ds:=by
         intro hm
         exact hnd (by simpa using hm)
        have hfd:upds O fz d=.no:=by rw [qcw hfz d hds];exact hd
        refine ⟨_,_,?_,StepR.freeze h hfz fun G' h1 x1 hG=>qcM h1 hfd (qcu vo el) (cap:=n) (xs:=xs) ?_ ?_ ?_ (d::ds)⟩
        ·have hxl:=(qcX (F:=FzF G ds) h hc.2.1 (fun b hb=>Or.inl hb) hch k2 (fun k hk b o hm=>Or.inr ⟨k,hk,o,hm⟩)).1
         rw [hxl]
         by_cases hz0:n*i.size=0
         ·have hsmall:¬n*i.size > 2 ^ 24:=by omega
          have hk1:Instr.fill (fun j=>some (j*i.size,i.size)) #[] qs.toList=some vo:=by
           have:(Array.range (n*i.size)).map (zv.cells[· % zv.cells.size]!)=#[]:=by rw [hz0];simp
           rw [this,←hsz] at k1
           exact k1
          have hr0:Array.range 0=#[]:=rfl
          simp [Instr.buildSlice,run_underlying hu,sizeOf,typeInfo,hi,hz0,newRow,hk1,hr0]
         ·exact run_buildSlice w t el n qs vo i zv hu hi hzv (by rw [hsz];omega) hz0 (by rw [←hsz] at k1;exact k1)
        ·have hxl:=(qcX (F:=FzF G ds) h hc.2.1 (fun b hb=>Or.inl hb) hch k2 (fun k hk b o hm=>Or.inr ⟨k,hk,o,hm⟩)).1
         omega
        ·rw [hvo];exact Nat.le_refl _
        ·subst hG
         intro j x hj
         have hx:=(qcX (F:=FzF G ds) h hc.2.1 (fun b hb=>Or.inl hb) hch k2 (fun k hk b o hm=>Or.inr ⟨k,hk,o,hm⟩)).2 j x hj
         rw [←hc.2.1] at hx
         refine ⟨_,hx.len,hx,fun i u hu=>?_⟩
         rw [List.getElem?_take] at hu
         split at hu
         ·rw [List.getElem?_drop] at hu
          simpa using hu
         ·cases hu
       ·cases he
     ·cases he
    ·cases he
   ·rw [if_neg hc] at he
    cases he
  ·rename_i z hT hz hd
   split at he
   ·rename_i c hfill
    split at he
    ·rename_i fs hfs
     by_cases hc:z.length=P.cellsOf el∧z.length=1∧n=fs.length∧n*z.length≤2 ^ 24
     ·rw [if_pos hc] at he
      cases he
      obtain ⟨i,zv,hi,hzv,hrun,hzr⟩:=qbV (w:=w) (G:=G) (O:=O) hz
      have hzl:zv.cells.size=z.length:=by rw [hzr.length];simp
      have hsz:i.size=z.length:=by rw [hc.1];unfold Program.cellsOf;rw [hi];rfl
      have hcells:All2 (LfR G O w) (reps n z) ((Array.range (n*i.size)).map (zv.cells[· % zv.cells.size]!)).toList:=by
       have:=qel zv.cells n
       rw [hzl,←hsz] at this
       rw [hzl,←hsz,this]
       exact reps_R hzr n
      obtain ⟨vo,k1,k2⟩:=qgq hq hcells hfill
      have hvo:=fnsOf_R hfs k2
      have hvl:vo.size=n:=by
       have:vo.toList.length=n:=by rw [hvo,List.length_map];exact hc.2.2.1.symm
       simpa using this
      have hxl:(List.range n).length=n:=List.length_range
      refine ⟨_,_,?_,qcM h hd (T:=.fn fs) (qcu vo el) (cap:=n) (xs:=List.range n) (Nat.le_of_eq hxl) ?_ ?_ [d]⟩
      ·rw [hxl]
       by_cases hz0:n*i.size=0
       ·have hsmall:¬n*i.size > 2 ^ 24:=by omega
        have hk1:Instr.fill (fun j=>some (j*i.size,i.size)) #[] qs.toList=some vo:=by
         have:(Array.range (n*i.size)).map (zv.cells[· % zv.cells.size]!)=#[]:=by rw [hz0];simp
         rw [this,←hsz] at k1
         exact k1
        have hr0:Array.range 0=#[]:=rfl
        simp [Instr.buildSlice,run_underlying hu,sizeOf,typeInfo,hi,hz0,newRow,hk1,hr0]
       ·exact run_buildSlice w t el n qs vo i zv hu hi hzv (by rw [hsz];omega) hz0 (by rw [←hsz] at k1;exact k1)
      ·show n*1≤vo.size
       omega
      ·intro j x hj
       have hjl:j<n:=by
        have:=(List.getElem?_eq_some_iff.1 hj).1
        rw [hxl] at this;exact this
       have hxj:x=j:=by
        rw [List.getElem?_range hjl] at hj
        cases hj;rfl
       have hjf:j<fs.length:=by omega
       refine ⟨[.func (.func fs[j]) #[] #[]],rfl,⟨fs[j],by rw [hxj];exact List.getElem?_eq_getElem hjf,rfl⟩,fun i u hu=>?_⟩
       cases i with
       |zero=>
        cases hu
        show vo[0+(j*1+0)]?=_
        rw [show 0+(j*1+0)=j by omega,←Array.getElem?_toList,hvo,List.getElem?_map,List.getElem?_eq_getElem hjf]
        rfl
       |succ i=>cases hu
     ·rw [if_neg hc] at he
      cases he
    ·cases he
   ·cases he
  ·cases he
 ·cases he
theorem makeSliceL_ok (h:Core C G O w) {t:TypeId} {d:Nat} {same:Bool} {x y:Option Lf} {cs:List Chk} {e:Eff} (he:qct P t d O same x y=some (cs,e)) (hc:AllP cs) {a b:Value} (ha:LR G O w x a) (hb:LR G O w y b) (hs:same=true→a=b):Does P C G O w (Instr.makeSlice t a b) e:=by
 unfold qct at he
 split at he
 ·rename_i el n m hu
  obtain rfl:=ha.int
  obtain rfl:=hb.int
  split at he
  ·rename_i T z hT hz hd
   split at he
   ·rename_i y hp
    by_cases hcz:z.length=P.cellsOf el∧T.sz=z.length
    ·rw [if_pos hcz] at he
     cases he
     obtain ⟨i,zv,hi,hzv,hrun,hzr⟩:=qbV (w:=w) (G:=G) (O:=O) hz
     have hzl:zv.cells.size=z.length:=by rw [hzr.length];simp
     have hsz:i.size=z.length:=by rw [hcz.1];unfold Program.cellsOf;rw [hi];rfl
     have hby:P.bytesOf el=i.bytes:=by unfold Program.bytesOf;rw [hi];rfl
     have hnm:(0:Int)≤n∧(n:Int)≤m∧(m:Int)*(P.bytesOf el:Int)≤140737488355328∧(m:Int)≤140737488355328:=by
      cases same with
      |true=>
       have e1:n=m:=by have:=hs rfl;injection this
       have h1:(0:Int)≤n:=hc.cons.1
       have h2:(m:Int)*(P.bytesOf el:Int)≤140737488355328:=hc.cons.2.cons.1
       have h3:(m:Int)≤140737488355328:=hc.cons.2.cons.2.cons.1
       exact ⟨h1,by rw [e1];exact Int.le_refl _,h2,h3⟩
      |false=>
       have h1:(0:Int)≤n:=hc.cons.1
       have h2:(n:Int)≤m:=hc.cons.2.cons.1
       have h3:(m:Int)*(P.bytesOf el:Int)≤140737488355328:=hc.cons.2.cons.2.cons.1
       have h4:(m:Int)≤140737488355328:=hc.cons.2.cons.2.cons.2.cons.1
       exact ⟨h1,h2,h3,h4⟩
     obtain ⟨h0,h1,h2,h3⟩:=hnm
     rw [hby] at h2
     have key:∀(n m:Int) (b:Nat),0≤n→n≤m→m*(b:Int)≤140737488355328→m≤140737488355328→(b:Int)*m≤281474976710656∧m≤9223372036854775807∧n.toNat≤m.toNat:=by
      intro n m b q0 q1 q2 q3
      rw [Int.mul_comm]
      omega
     obtain ⟨g1,g2,g3⟩:=key n m i.bytes h0 h1 h2 h3
     have hrun:=run_make (P:=P) w t el i zv hu hi hzv .i64 .i64 n m h0 h1 g1 g2
     have hstep:=qcM h hd (qcu (w:=w) (madeCells zv.cells (m.toNat*i.size)) el) (cap:=m.toNat) (T:=T) (xs:=List.replicate n.toNat y) (by rw [List.length_replicate];exact g3) (by rw [size_madeCells,hcz.2,hsz];exact Nat.le_refl _) ?_ [d]
     ·rw [List.length_replicate] at hstep
      rcases madeRow_cases el T (Int.toNat n) y z with e0|⟨e2,t',rfl,rfl,e0⟩
      ·rw [e0];exact ⟨_,_,hrun,hstep⟩
      ·rw [e0]
       obtain ⟨zc,zl,q1,q2,q3⟩:=hzr.cons_inv
       obtain rfl:=q3.qbm
       obtain rfl:zc=.slice none 0 0:=q2.2
       have hs1:zv.cells.size=1:=by rw [hzl];rfl
       have hi1:i.size=1:=by rw [hsz];rfl
       refine ⟨_,_,hrun,newDeep_ok h hd (qcu (w:=w) (madeCells zv.cells (m.toNat*i.size)) el) g3 (by rw [size_madeCells,hi1];omega) (fun j hj=>?_) [d]⟩
       unfold madeCells
       have hjm:j<m.toNat*i.size:=by rw [hi1];omega
       have h0:zv.cells[0]?=some (.slice none 0 0):=by
        rw [←Array.getElem?_toList,q1];rfl
       have hmod:j % zv.cells.size=0:=by rw [hs1];exact Nat.mod_one j
       have hlt:0<zv.cells.size:=by omega
       simp [hjm,hmod,hlt]
       exact (Array.getElem?_eq_some_iff.1 h0).2
     ·intro j v hj
      have hjn:j<Int.toNat n∧v=y:=by
       rw [List.getElem?_replicate] at hj
       by_cases hlt:j<Int.toNat n
       ·rw [if_pos hlt] at hj
        exact ⟨hlt,(Option.some.inj hj).symm⟩
       ·rw [if_neg hlt] at hj
        cases hj
      obtain ⟨hj2,rfl⟩:=hjn
      have hjm':j+1≤Int.toNat m:=Nat.lt_of_lt_of_le hj2 g3
      have hy:=qeo h hp hzr (F:=G.F) (fun _ h=>h) (fun _ hd=>by cases hd)
      refine ⟨_,hy.len,hy,fun i' u hu'=>?_⟩
      have hlt:i'<zv.cells.size:=by
       have:=(List.getElem?_eq_some_iff.1 hu').1
       simpa using this
      unfold madeCells
      have hT':T.sz=zv.cells.size:=by rw [hcz.2,hzl]
      have hs':i.size=zv.cells.size:=by rw [hsz,hzl]
      have hjm:j*zv.cells.size+i'<m.toNat*zv.cells.size:=by
       have h5:(j+1)*zv.cells.size≤m.toNat*zv.cells.size:=Nat.mul_le_mul_right _ hjm'
       rw [Nat.add_mul,Nat.one_mul] at h5
       omega
      have hmod:(j*zv.cells.size+i') % zv.cells.size=i':=by
       rw [Nat.mul_comm,Nat.mul_add_mod,Nat.mod_eq_of_lt hlt]
      have hu2:zv.cells[i']?=some u:=by simpa using hu'
      rw [hT',hs',Nat.zero_add]
      simp [hjm,hmod,hlt]
      exact (Array.getElem?_eq_some_iff.1 hu2).2
    ·rw [if_neg hcz] at he
     cases he
   ·cases he
  ·cases he
 ·cases he
end
end Go.Proofs.YtfobeapcmgjhbaaGreatDoor.VE
namespace Go.Proofs.YtfobeapcmgjhbaaGreatDoor.VE
open Go Go.RowKit
section
variable {P:Program} {C:Ctx} {G:Gh} {O:Nat→Obj} {w:World}
theorem one_eq (v:Value):v.oneCell'=one v:=by cases v<;>rfl
theorem qcU (l vs:List Value) (o k:Nat) (h:o+vs.length≤l.length):(l.take o++vs++l.drop (o+vs.length))[k]?=if k<o then l[k]? else if k<o+vs.length then vs[k - o]? else l[k]?:=by
 have hl:(l.take o).length=o:=by rw [List.length_take];omega
 rw [List.append_assoc]
 split
 ·rename_i hk
  rw [List.getElem?_append_left (by omega),List.getElem?_take,if_pos hk]
 ·rename_i hk
  rw [List.getElem?_append_right (by omega),hl]
  split
  ·rename_i hk'
   rw [List.getElem?_append_left (by omega)]
  ·rename_i hk'
   rw [List.getElem?_append_right (by omega),List.getElem?_drop]
   congr 1
   omega
theorem qbS {b:Nat} {arr new:Array Value} {e:TypeId} (hb:blk w b arr e):Put w (w.setRow b new) b new e:=
 ⟨setRow_heap w b arr new e (0,0) hb,fun k hk=>setRow_other w b k new hk,setRow_size w b new,rfl,rfl,rfl⟩
theorem run_put {b o:Nat} {arr:Array Value} {e:TypeId} {vs:List Value} (hb:blk w b arr e) (ho:o+vs.length≤arr.size) (h1:∀v∈vs,one v=true) :
  (storeCells ⟨b,o,none⟩ vs).run P w=.ok () (w.setRow b (arr.toList.take o++vs++arr.toList.drop (o+vs.length)).toArray):=by
 have:=run_storeCells_at (P:=P) b o e vs 0 arr w hb (by simpa using ho) (fun v hv=>by rw [one_eq];exact h1 v hv)
 simpa using this
theorem All2.right {α β:Type} {R:α→β→Prop} {Q:β→Prop} (hr:∀x y,R x y→Q y):∀{l:List α} {m:List β},All2 R l m→∀y∈m,Q y
 |[],[],_,y,hy=>by cases hy
 |_::_,b::m,h,y,hy=>by
  rcases List.mem_cons.1 hy with rfl|hy
  ·exact hr _ _ h.1
  ·exact All2.right hr h.2 y hy
 |[],_::_,h,_,_=>h.elim
 |_::_,[],h,_,_=>h.elim
theorem ones {ls:List Lf} {vs:List Value} (h:All2 (LfR G O w) ls vs):∀v∈vs,one v=true:=h.right (Q:=fun v=>one v=true) fun _ _ h=>h.1
theorem qcz {t:TypeId} {b o:Nat} {v:Value} {arr:Array Value} {e:TypeId} (hb:blk w b arr e) (ho:o+v.cells.size≤arr.size) (h1:∀u∈v.cells.toList,one u=true) (hi:∃i,P.info? t=some i) (hs:v.cells.size=P.cellsOf t) :
  (Instr.storeAt t (.pointer (some ⟨b,o,none⟩)) v).run P w=.ok () (w.setRow b (arr.toList.take o++v.cells.toList++arr.toList.drop (o+v.cells.toList.length)).toArray):=by
 obtain ⟨i,hi⟩:=hi
 have hsz:i.size=v.cells.size:=by rw [hs];unfold Program.cellsOf;rw [hi];rfl
 simp only [Instr.storeAt,Instr.sureAddr,Sem.run_bind,Sem.run_pure,Result.andThen_ok,storeVar,sizeOf,typeInfo,run_program,hi,hsz]
 rw [if_neg (by simp)]
 exact run_put hb (by simpa using ho) h1
theorem rowAt_put {F0 F:Nat→Prop} {w w':World} {T:Ty} {xs:List T.T} {arr:Array Value} {o:Nat} (h:RowAt F0 w T xs arr o) (hsub:∀b,F0 b→F b) (hF:∀b,F b→w'.heap[b]?=w.heap[b]?) {j:Nat} (hj:j<xs.length) {yv:T.T} {c:Nat} {vs:List Value}
  (hnew:∀ce,Rep F0 w T xs[j] ce→Rep F w T yv (ce.take c++vs++ce.drop (c+vs.length))) (hc:c+vs.length≤T.sz) (hfit:o+j*T.sz+c+vs.length≤arr.toList.length) :
  RowAt F w' T (xs.set j yv) (arr.toList.take (o+j*T.sz+c)++vs++arr.toList.drop (o+j*T.sz+c+vs.length)).toArray o:=by
 have hget:=qcU arr.toList vs (o+j*T.sz+c)
 intro k z hk
 rw [List.getElem?_set] at hk
 by_cases hji:j=k
 ·subst hji
  rw [if_pos rfl,if_pos hj] at hk
  have hz:yv=z:=Option.some.inj hk
  subst hz
  obtain ⟨ce,c1,c2,c3⟩:=h j _ (List.getElem?_eq_getElem hj)
  have hn:=hnew ce c2
  refine ⟨_,hn.len,hn.mono (fun _ h=>h) hF,fun q u hq=>?_⟩
  rw [qcU ce _ _ _ (by omega)] at hq
  simp only [List.getElem?_toArray]
  rw [hget _ hfit]
  split at hq
  ·rename_i hlt'
   have hk:=c3 q u hq
   rw [if_pos (by omega)]
   rw [←hk,←Array.getElem?_toList]
  ·split at hq
   ·rw [if_neg (by omega),if_pos (by omega),←hq]
    congr 1
    omega
   ·have hk:=c3 q u hq
    have hql:q<ce.length:=(List.getElem?_eq_some_iff.1 hq).1
    rw [if_neg (by omega),if_neg (by omega)]
    rw [←hk,←Array.getElem?_toList]
 ·rw [if_neg hji] at hk
  obtain ⟨ce,c1,c2,c3⟩:=h k z hk
  refine ⟨ce,c1,(c2.mono hsub (fun _ _=>rfl)).mono (fun _ h=>h) hF,fun q u hq=>?_⟩
  have hk:=c3 q u hq
  have hql:q<ce.length:=(List.getElem?_eq_some_iff.1 hq).1
  simp only [List.getElem?_toArray]
  rw [hget _ hfit]
  rcases Nat.lt_or_ge k j with hji'|hji'
  ·have hm1:(k+1)*T.sz≤j*T.sz:=Nat.mul_le_mul_right _ (by omega)
   rw [Nat.add_mul,Nat.one_mul] at hm1
   rw [if_pos (by omega),←hk,←Array.getElem?_toList]
  ·have hm1:(j+1)*T.sz≤k*T.sz:=Nat.mul_le_mul_right _ (by omega)
   rw [Nat.add_mul,Nat.one_mul] at hm1
   rw [if_neg (by omega),if_neg (by omega),←hk,←Array.getElem?_toList]
theorem Core.writeI (h:Core C G O w) {d v i b o c:Nat} {e e2:TypeId} {t:Ty} {xss:List (List t.T)} (hd:O d=.deep v e e2 t xss .ok) {y y':List t.T} (hy:xss[i]?=some y) (hs:G.sub d v i=some (b,o,c)) (hlen:y'.length=y.length) {arr arr':Array Value} {te:TypeId} (hb:blk w b arr te) {w':World} (hw:Put w w' b arr' te) (hsz:arr'.size=arr.size)
  (hr:RowAt G.F w' t y' arr' o):Core C G (upd O d (.deep v e e2 t (xss.set i y') .ok)) w'∧Ext G O w G (upd O d (.deep v e e2 t (xss.set i y') .ok)) w':=by
 have hl:(O d).live=true:=by rw [hd];rfl
 have hil:i<xss.length:=(List.getElem?_eq_some_iff.1 hy).1
 have hB:Bl G (O d) d b:=by rw [hd];exact Or.inr ⟨i,(o,c),hil,trivial,hs⟩
 obtain ⟨_,hown,hF⟩:=h.qbR hl hB
 have hF:¬G.F b:=hF ⟨v,e,e2,t,xss,.ok,hd⟩
 have hset:∀(j:Nat) x,(xss.set i y')[j]?=some x→∃x0,xss[j]?=some x0∧x.length=x0.length∧(j=i∧x=y'∨j≠i∧x=x0):=by
  intro j x hj
  rw [List.getElem?_set] at hj
  by_cases hji:i=j
  ·subst hji
   rw [if_pos rfl,if_pos hil] at hj
   cases hj
   exact ⟨y,hy,hlen,Or.inl ⟨rfl,rfl⟩⟩
  ·rw [if_neg hji] at hj
   exact ⟨x,hj,rfl,Or.inr ⟨Ne.symm hji,rfl⟩⟩
 have ex:Ext G O w G (upd O d (.deep v e e2 t (xss.set i y') .ok)) w':=by
  refine ⟨fun _ h=>h,fun k hk=>hw.old k (by rintro rfl;exact hF hk),fun k hk=>?_⟩
  by_cases hne:k=d
  ·subst hne
   rw [qad,hd]
   refine ⟨by simp,⟨rfl,rfl,by simp,Or.inr ⟨rfl,fun j=>?_⟩⟩,fun _=>⟨rfl,rfl,rfl,fun _ _ _=>rfl⟩⟩
   rw [List.getElem?_set]
   by_cases hji:i=j
   ·subst hji
    rw [if_pos rfl,if_pos hil,hy]
    show some y.length=some y'.length
    rw [hlen]
   ·rw [if_neg hji]
  ·rw [upd_ne _ _ hne]
   exact ⟨hk,Sim.refl _,fun _=>⟨rfl,rfl,rfl,fun _ _ _=>rfl⟩⟩
 have hBl:∀b',Bl G (.deep v e e2 t (xss.set i y') .ok) d b'→Bl G (O d) d b':=by
  rintro b' (hb'|⟨j,p,hj,ho,hp⟩)
  ·exact Or.inl hb'
  ·rw [hd]
   exact Or.inr ⟨j,p,by simpa using hj,ho,hp⟩
 refine ⟨h.step ex (fun k=>k=d) (fun k hk=>⟨upd_ne _ _ hk,rfl,rfl,rfl,rfl⟩) (fun k b' hk hl' hm'=>⟨hw.old b' (h.injB k d b' b hk hl' hl hm' hB),id⟩) ?_ ?_ (fun b hb=>Or.inl hb) (hw.keeps hown) ?_,ex⟩
 ·rintro k rfl
  unfold ObjR
  rw [qad]
  obtain ⟨g0,g1⟩:=h.deep hd
  refine ⟨by rw [List.length_set];exact g0,g1.imp id ?_⟩
  rintro ⟨b0,o0,arr0,t0,k1,k2,k3,k4,k5,k6⟩
  have hbb:b0≠b:=Ne.symm (k6.ne i _ hil trivial hs)
  refine ⟨b0,o0,arr0,t0,k1,(hw.old b0 hbb).trans k2,k3,k4,k5,⟨fun j x hj hx=>?_,fun j x hj ho=>?_,fun j p hj=>k6.ne j p (by simpa using hj),fun j j' p p' hn hj hj'=>k6.sep j j' p p' hn (by simpa using hj) (by simpa using hj')⟩⟩
  ·obtain ⟨q1,u,q2,q3⟩:=k6.cells j x (by simpa using hj) hx
   refine ⟨by simpa using q1,u,q2,fun z hz=>?_⟩
   obtain ⟨x0,h0,h1,_⟩:=hset x z hz
   rw [h1];exact q3 x0 h0
  ·obtain ⟨x0,h0,h1,h2⟩:=hset j x hj
   have hin:=k6.inner j x0 h0 trivial
   rcases h2 with ⟨rfl,rfl⟩|⟨hji,rfl⟩
   ·rw [hs] at hin ⊢
    obtain ⟨r1,r2,arr1,e1,r3,r4,r5,r6,r7⟩:=hin
    have ea:arr1=arr:=by
     have:some (Go.Obj.cells arr1 e1 (0,0))=some (Go.Obj.cells arr te (0,0)):=r3.symm.trans hb
     simp at this
     exact this.1
    subst ea
    exact ⟨by rw [h1];exact r1,r2,arr',te,hw.new,by rw [hsz];exact r4,hr,r6,r7⟩
   ·refine hin.mono (fun _ h=>h) ex.Fw (fun b1 o1 c1 hp=>⟨hw.old b1 (k6.sep j i (b1,o1,c1) _ hji (List.getElem?_eq_some_iff.1 h0).1 hil trivial trivial hp hs),id,id⟩)
 ·rintro k d' b1 b' hne rfl hl1 hl' hmk hmk'
  rw [upd_ne _ _ (Ne.symm hne)] at hl' hmk'
  rw [qad] at hmk
  exact h.injB k d' b1 b' hne hl hl' (hBl b1 hmk) hmk'
 ·rintro k hk rfl hn' hlv
  refine ⟨hl,rfl,rfl,?_⟩
  rw [qad,hd]
  show (xss.set i y').length=xss.length
  rw [List.length_set]
theorem storeL_ok (h:Core C G O w) {t:TypeId} {x:Option Lf} {y:SV} {cs:List Chk} {e:Eff} (he:qc8 P t O x y=some (cs,e)) {a v:Value} (ha:LR G O w x a) (hv:SVR G O w y v) :
  ∃w',(Instr.storeAt t a v).run P w=.ok () w'∧∃G',Core C G' (upds O e.wr) w'∧Ext G O w G' (upds O e.wr) w'∧e.sv=.u:=by
 unfold qc8 at he
 split at he
 ·cases he
 ·rename_i ls hls
  have hvs:=qfS hv hls
  by_cases hn:ls.length=P.cellsOf t∧(P.info? t).isSome=true
  ·rw [if_pos hn] at he
   have hi:=Option.isSome_iff_exists.1 hn.2
   have hsz:v.cells.size=P.cellsOf t:=by rw [←hn.1,hvs.length];simp
   split at he
   ·rename_i d c
    split at he
    ·rename_i e' bs hd
     by_cases hc:c+ls.length≤bs.length
     ·rw [if_pos hc] at he
      cases he
      have k:OnBox (O d) (∃b o,G.m d=some (b,o)∧a=.pointer (some ⟨b,o+c,none⟩)):=(ha _ rfl).2
      rw [hd] at k
      obtain ⟨b,o,hm,rfl⟩:=k
      obtain ⟨b',arr,hm',hb,hall,hF,ho⟩:=h.box hd
      rw [hm] at hm'
      cases hm'
      have hal:arr.toList.length=bs.length:=hall.length.symm
      have hal':arr.size=bs.length:=by rw [←hal];simp
      have hvl:v.cells.toList.length=ls.length:=hvs.length.symm
      have hvl':v.cells.size=ls.length:=by rw [←hvl];simp
      refine ⟨_,qcz hb (by omega) (ones hvs) hi hsz,G,?_⟩
      have hk:=h.write (d:=d) (by rw [hd];rfl) hm hF (qbS (new:=(arr.toList.take (0+c)++v.cells.toList++arr.toList.drop (0+c+v.cells.toList.length)).toArray) hb) (.box e' (splice bs c ls)) (by rw [hd];trivial)
       (by rw [hd];unfold splice Obj.len;simp only [List.length_append,List.length_take,List.length_drop];omega) rfl (fun ex=>by
        unfold ObjR
        rw [qad]
        refine ⟨b,_,hm,(qbS hb).new,?_,hF,ho⟩
        have:=qeS (hall.mono fun _ _=>LfR.mono ex) (hvs.mono fun _ _=>LfR.mono ex) c
        simpa using this)
      exact ⟨hk.1,hk.2,rfl⟩
     ·rw [if_neg hc] at he
      cases he
    ·cases he
   ·rename_i d i c
    split at he
    ·rename_i e' T xs hd
     by_cases hc:c+ls.length≤T.sz
     ·rw [if_pos hc] at he
      split at he
      ·rename_i yv ds hp
       split at he
       ·cases he
       ·rename_i hnd
        split at he
        ·rename_i fz hfz
         cases he
         have hds:d∉ds:=by
          intro hm
          exact hnd (by simpa using hm)
         obtain ⟨h1,x1⟩:=qdy h hfz
         have hd1:upds O fz d=.row e' T xs false:=by rw [qcw hfz d hds];exact hd
         have k:=(ha _ rfl).2
         rw [qdF,hd] at k
         obtain ⟨h0,hlt,b,o,hm,rfl⟩:=k
         have hl:i.toNat<xs.length:=by omega
         rcases (h1.row hd1).2 with ⟨_,q⟩|⟨b',o',arr,t',k1,hb,k3,k4,k5,_,k7⟩
         ·exact absurd (hm.symm.trans q) (by simp)
         ·have:b'=b∧o'=o:=by
           have:some (b',o')=some (b,o):=k1.symm.trans hm
           simpa using this
          obtain ⟨rfl,rfl⟩:=this
          have hF:=k7 rfl
          have hvl:v.cells.toList.length=ls.length:=hvs.length.symm
          have hvl':v.cells.size=ls.length:=by rw [←hvl];simp
          have hcp:xs.length≤G.cp d:=(h1.row hd1).1
          have hmul:(i.toNat+1)*T.sz≤G.cp d*T.sz:=Nat.mul_le_mul_right _ (by omega)
          rw [Nat.add_mul,Nat.one_mul] at hmul
          have k3':o'+G.cp d*T.sz≤arr.size:=k3
          have hfit:o'+i.toNat*T.sz+c+v.cells.size≤arr.size:=by omega
          refine ⟨_,qcz hb hfit (ones hvs) hi hsz,{G with F:=FzF G ds},?_⟩
          have hfit':o'+i.toNat*T.sz+c+v.cells.toList.length≤arr.toList.length:=by simpa using hfit
          have hget:=qcU arr.toList v.cells.toList (o'+i.toNat*T.sz+c)
          have hput:=qbS (new:=(arr.toList.take (o'+i.toNat*T.sz+c)++v.cells.toList++arr.toList.drop (o'+i.toNat*T.sz+c+v.cells.toList.length)).toArray) hb
          have hk:=h1.write (d:=d) (by rw [hd1];rfl) hm hF hput (.row e' T (xs.set i.toNat yv) false) (by rw [hd1];exact ⟨rfl,by simp⟩)
           (by rw [hd1];simp [Obj.len]) rfl (fun ex=>by
            unfold ObjR
            rw [qad]
            refine ⟨by rw [List.length_set];exact hcp,Or.inr ⟨b',o',_,_,hm,hput.new,?_,?_,k5,fun hz=>(by cases hz),fun _=>hF⟩⟩
            ·simp only [List.size_toArray,List.length_append,List.length_take,List.length_drop,Array.length_toList]
             omega
            ·intro j z hj
             rw [List.getElem?_set] at hj
             by_cases hji:i.toNat=j
             ·subst hji
              rw [if_pos rfl,if_pos hl] at hj
              have hz:yv=z:=Option.some.inj hj
              subst hz
              obtain ⟨ce,c1,c2,c3⟩:=k4 i.toNat _ (List.getElem?_eq_getElem hl)
              have hrd:rd T xs i=xs[i.toNat]:=by
               unfold rd
               rw [List.getD_eq_getElem?_getD,List.getElem?_eq_getElem hl]
               rfl
              rw [hrd] at hp
              have hce:Rep G.F w T xs[i.toNat] ce:=by
               rcases (h.row hd).2 with ⟨_,q⟩|⟨b2,o2,arr2,t2,q1,q2,q3,q4,_⟩
               ·exact absurd (hm.symm.trans q) (by simp)
               ·obtain ⟨ce2,d1,d2,d3⟩:=q4 i.toNat _ (List.getElem?_eq_getElem hl)
                have e3:b2=b'∧o2=o':=by
                 have:some (b2,o2)=some (b',o'):=q1.symm.trans hm
                 simpa using this
                obtain ⟨rfl,rfl⟩:=e3
                have e4:arr2=arr:=by
                 have:some (Go.Obj.cells arr2 t2 (0,0))=some (Go.Obj.cells arr t' (0,0)):=q2.symm.trans hb
                 simp at this
                 exact this.1
                subst e4
                have:ce2=ce:=by
                 apply List.ext_getElem?
                 intro q
                 by_cases hq:q<T.sz
                 ·have a1:=d3 q _ (List.getElem?_eq_getElem (by omega))
                  have a2:=c3 q _ (List.getElem?_eq_getElem (by omega))
                  rw [a1] at a2
                  rw [List.getElem?_eq_getElem (by omega),List.getElem?_eq_getElem (by omega)]
                  exact a2
                 ·rw [List.getElem?_eq_none (by omega),List.getElem?_eq_none (by omega)]
                rw [←this];exact d2
              have hnew:=qeo h hp (qeS (qcn hce) hvs c) (F:=FzF G ds) (fun _ hb=>Or.inl hb) (fun k hk b o hm=>Or.inr ⟨k,hk,o,hm⟩)
              refine ⟨_,hnew.len,hnew.mono ex.F ex.Fw,fun q u hq=>?_⟩
              rw [qcU ce _ _ _ (by omega)] at hq
              simp only [List.getElem?_toArray]
              rw [hget _ hfit']
              split at hq
              ·rename_i hlt'
               have hk:=c3 q u hq
               rw [if_pos (by omega)]
               rw [←hk,←Array.getElem?_toList]
              ·split at hq
               ·rw [if_neg (by omega),if_pos (by omega),←hq]
                congr 1
                omega
               ·have hk:=c3 q u hq
                have hql:q<ce.length:=(List.getElem?_eq_some_iff.1 hq).1
                rw [if_neg (by omega),if_neg (by omega)]
                rw [←hk,←Array.getElem?_toList]
             ·rw [if_neg hji] at hj
              obtain ⟨ce,c1,c2,c3⟩:=k4 j z hj
              refine ⟨ce,c1,c2.mono ex.F ex.Fw,fun q u hq=>?_⟩
              have hk:=c3 q u hq
              have hql:q<ce.length:=(List.getElem?_eq_some_iff.1 hq).1
              simp only [List.getElem?_toArray]
              rw [hget _ hfit']
              rcases Nat.lt_or_ge j i.toNat with hji'|hji'
              ·have hm1:(j+1)*T.sz≤i.toNat*T.sz:=Nat.mul_le_mul_right _ (by omega)
               rw [Nat.add_mul,Nat.one_mul] at hm1
               rw [if_pos (by omega),←hk,←Array.getElem?_toList]
              ·have hm1:(i.toNat+1)*T.sz≤j*T.sz:=Nat.mul_le_mul_right _ (by omega)
               rw [Nat.add_mul,Nat.one_mul] at hm1
               rw [if_neg (by omega),if_neg (by omega),←hk,←Array.getElem?_toList])
          refine ⟨?_,?_,rfl⟩
          ·show Core C _ (upds O (fz++[(d,.row e' T (xs.set i.toNat yv) false)])) _
           rw [qaZ];exact hk.1
          ·show Ext G O w _ (upds O (fz++[(d,.row e' T (xs.set i.toNat yv) false)])) _
           rw [qaZ];exact x1.trans hk.2
        ·cases he
      ·cases he
     ·rw [if_neg hc] at he
      cases he
    ·cases he
   ·rename_i d u i j c
    split at he
    ·rename_i u' e' e2 T xss hd
     by_cases hc:u=u'∧c+ls.length≤T.sz∧T.sz≠0
     ·rw [if_pos hc] at he
      obtain ⟨rfl,hc⟩:=hc
      split at he
      ·rename_i yv ds hp
       split at he
       ·cases he
       ·rename_i hnd
        split at he
        ·rename_i fz hfz
         cases he
         have hds:d∉ds:=by
          intro hm
          exact hnd (by simpa using hm)
         obtain ⟨h1,x1⟩:=qdy h hfz
         have hd1:upds O fz d=.deep u e' e2 T xss .ok:=by rw [qcw hfz d hds];exact hd
         obtain ⟨g0,g1,y0,hx,hlt,b,o,k,g5,rfl⟩:=oi_at hd (ha _ rfl)
         have hl:j.toNat<y0.length:=by omega
         have hrd:rd (.list e2 T) xss i=y0:=rdAt (t:=.list e2 T) hx
         have hrd2:rd T y0 j=y0[j.toNat]:=rdAt (List.getElem?_eq_getElem hl)
         rw [hrd,hrd2] at hp
         rw [hrd]
         have hin:=h.innerR hd hx trivial
         rw [g5] at hin
         obtain ⟨r1,r2,arr2,t2,r3,r5,r4,r6,r7⟩:=hin
         have hvl:v.cells.toList.length=ls.length:=hvs.length.symm
         have hvl':v.cells.size=ls.length:=by rw [←hvl];simp
         have hmul:(j.toNat+1)*T.sz≤k*T.sz:=Nat.mul_le_mul_right _ (by omega)
         rw [Nat.add_mul,Nat.one_mul] at hmul
         have hfit:o+j.toNat*T.sz+c+v.cells.size≤arr2.size:=by
          have q:∀(o js s c n z k:Nat),o+k≤z→js+s≤k→c+n≤s→o+js+c+n≤z:=by intro o js s c n z k;omega
          rw [hvl']
          exact q _ _ _ _ _ _ _ r5 hmul hc.1
         refine ⟨_,qcz r3 hfit (ones hvs) hi hsz,{G with F:=FzF G ds},?_⟩
         have hput:=qbS (new:=(arr2.toList.take (o+j.toNat*T.sz+c)++v.cells.toList++arr2.toList.drop (o+j.toNat*T.sz+c+v.cells.toList.length)).toArray) r3
         have hil:=(List.getElem?_eq_some_iff.1 hx).1
         have hnF:¬(FzF G ds) b:=by
          have hB:Bl {G with F:=FzF G ds} (upds O fz d) d b:=by rw [hd1];exact Or.inr ⟨i.toNat,(o,k),hil,trivial,g5⟩
          exact (h1.qbR (by rw [hd1];rfl) hB).2.2 ⟨_,_,_,_,_,_,hd1⟩
         have hfit':o+j.toNat*T.sz+c+v.cells.toList.length≤arr2.toList.length:=by simpa using hfit
         have hk:=h1.writeI hd1 hx g5 (y':=y0.set j.toNat yv) (by simp) r3 hput (by simp only [List.size_toArray,List.length_append,List.length_take,List.length_drop];rw [←Array.length_toList (xs:=arr2)];omega)
          (rowAt_put r4 (fun _ hb=>Or.inl hb) (fun k hk=>hput.old k (by rintro rfl;exact hnF hk)) hl (fun ce hce=>qeo h hp (qeS (qcn hce) hvs c) (F:=FzF G ds) (fun _ hb=>Or.inl hb) (fun k hk b o hm=>Or.inr ⟨k,hk,o,hm⟩)) (by omega) hfit')
         refine ⟨?_,?_,rfl⟩
         ·show Core C _ (upds O (fz++[(d,.deep u e' e2 T (xss.set i.toNat (y0.set j.toNat yv)) .ok)])) _
          rw [qaZ];exact hk.1
         ·show Ext G O w _ (upds O (fz++[(d,.deep u e' e2 T (xss.set i.toNat (y0.set j.toNat yv)) .ok)])) _
          rw [qaZ];exact x1.trans hk.2
        ·cases he
      ·cases he
     ·rw [if_neg hc] at he
      cases he
    ·cases he
   ·cases he
  ·rw [if_neg hn] at he
   cases he
end
end Go.Proofs.YtfobeapcmgjhbaaGreatDoor.VE
namespace Go.Proofs.YtfobeapcmgjhbaaGreatDoor.VE
open Go Go.RowKit
section
variable {P:Program} {C:Ctx} {G:Gh} {O:Nat→Obj} {w w':World}
theorem Core.adopt (h:Core C G O w) {d:Nat} (hd:O d=.no) {b o cp:Nat} {arr:Array Value} {e:TypeId} (hw:Put w w' b arr e) (hF:¬G.F b) (ho:own C b) (hfree:∀k b',(O k).live=true→Bl G (O k) k b'→b'≠b)
  (x:Obj) (hob:Ext G O w {G with m:=upd G.m d (some (b,o)),cp:=upd G.cp d cp} (upd O d x) w'→ObjR C {G with m:=upd G.m d (some (b,o)),cp:=upd G.cp d cp} (upd O d x) w' d) (hxd:x.qea=false:=by rfl) :
  Core C {G with m:=upd G.m d (some (b,o)),cp:=upd G.cp d cp} (upd O d x) w'∧Ext G O w {G with m:=upd G.m d (some (b,o)),cp:=upd G.cp d cp} (upd O d x) w':=by
 have ex:Ext G O w {G with m:=upd G.m d (some (b,o)),cp:=upd G.cp d cp} (upd O d x) w':=by
  refine ⟨fun _ h=>h,fun k hk=>hw.old k (by rintro rfl;exact hF hk),fun k hk=>?_⟩
  have hne:k≠d:=by rintro rfl;exact hk hd
  rw [upd_ne _ _ hne]
  exact ⟨hk,Sim.refl _,fun _=>⟨upd_ne _ _ hne,upd_ne _ _ hne,rfl,fun _ _ _=>rfl⟩⟩
 refine ⟨h.step ex (fun k=>k=d) (fun k hk=>⟨upd_ne _ _ hk,upd_ne _ _ hk,upd_ne _ _ hk,rfl,rfl⟩) (fun k b' hk hl hm=>⟨hw.old b' (hfree k b' hl hm),id⟩) (by rintro k rfl;exact hob ex) ?_ (fun b hb=>Or.inl hb) (hw.keeps ho) ?_,ex⟩
 ·rintro k d' b1 b' hne rfl hl hl' hmk hmk'
  rw [qad] at hmk
  obtain ⟨o1,e1⟩:=hmk.plain hxd
  have e1:upd G.m k (some (b,o)) k=some (b1,o1):=e1
  rw [qad] at e1
  cases e1
  rw [upd_ne _ _ (Ne.symm hne)] at hl' hmk'
  exact Ne.symm (hfree d' b' hl' (hmk'.old (upd_ne _ _ (Ne.symm hne)) rfl))
 ·rintro k hk rfl hn
  exact absurd hd hn
theorem run_append_room {t ty el:TypeId} {i:TypeInfo} (ht:P.underlying t=some (.slice el)) (hi:P.info? el=some i) {b o sLen sCap n c:Nat} {A:Option Addr} {vs:List Value} {arr:Array Value} {e:TypeId}
  (hroom:sLen+n≤sCap) (hl:vs.length=n*i.size) (hA:0<n→∃a,A=some a∧∀j v,vs[j]?=some v→w.cell? (a.add j)=some v) (hb:blk w b arr e) (ho:o+sLen*i.size+vs.length≤arr.size) (h1:∀v∈vs,one v=true) :
  (Builtin.append_ #[t,t] ty #[.slice (some ⟨b,o,none⟩) sLen sCap,.slice A n c]).run P w=.ok (.slice (some ⟨b,o,none⟩) (sLen+n) sCap) (w.setRow b (arr.toList.take (o+sLen*i.size)++vs++arr.toList.drop (o+sLen*i.size+vs.length)).toArray):=by
 have hst:=run_put (P:=P) hb ho h1
 have hf:(Builtin.firstCells i.size n (.slice A n c)).run P w=.ok vs.toArray w:=by
  cases A with
  |none=>
   have:n=0:=by
    rcases Nat.eq_zero_or_pos n with h|h
    ·exact h
    ·obtain ⟨a,ha,_⟩:=hA h;cases ha
   subst this
   rw [Nat.zero_mul] at hl
   rw [List.eq_nil_of_length_eq_zero hl]
   exact run_firstCells_none (P:=P) w i.size 0 0 c
  |some a=>
   refine run_firstCells_some (P:=P) w i.size n a n c vs hl (fun j v hj=>?_)
   rcases Nat.eq_zero_or_pos n with h|h
   ·rw [h,Nat.zero_mul] at hl
    rw [List.eq_nil_of_length_eq_zero hl] at hj
    simp at hj
   ·obtain ⟨a',ha,hc⟩:=hA h
    cases ha
    exact hc j v hj
 simp [Builtin.append_,run_underlying ht,sizeOf,typeInfo,hi,Builtin.lenOf,hroom,hf,qcb,hst]
theorem qfr {t ty el:TypeId} {i:TypeInfo} (ht:P.underlying t=some (.slice el)) (hi:P.info? el=some i) {sLen sCap c:Nat} {S A:Option Addr} (hroom:sLen≤sCap) :
  (Builtin.append_ #[t,t] ty #[.slice S sLen sCap,.slice A 0 c]).run P w=.ok (.slice S sLen sCap) w:=by
 have hf:(Builtin.firstCells i.size 0 (.slice A 0 c)).run P w=.ok #[] w:=by
  cases A with
  |none=>exact run_firstCells_none (P:=P) w i.size 0 0 c
  |some a=>exact run_firstCells_some (P:=P) w i.size 0 a 0 c [] (by simp) (fun j v hj=>by simp at hj)
 cases S with
 |none=>simp [Builtin.append_,run_underlying ht,sizeOf,typeInfo,hi,Builtin.lenOf,hroom,hf]
 |some a=>simp [Builtin.append_,run_underlying ht,sizeOf,typeInfo,hi,Builtin.lenOf,hroom,hf,storeCells]
theorem qev {F:Nat→Prop} {T:Ty} {b o:Nat}:∀{ys:List T.T},qfZ F w T ys b o→∃vs:List Value,vs.length=ys.length*T.sz∧(∀j u,vs[j]?=some u→w.cell? ⟨b,o+j,none⟩=some u)∧(∀v∈vs,one v=true)∧∀j y,ys[j]?=some y→∃ce,ce.length=T.sz∧Rep F w T y ce∧∀i u,ce[i]?=some u→vs[j*T.sz+i]?=some u:=by
 intro ys
 induction ys generalizing o with
 |nil=>intro _;exact ⟨[],by simp,(fun j u h=>by simp at h),(fun v h=>by cases h),(fun j y h=>by simp at h)⟩
 |cons y ys ih=>
  intro h
  obtain ⟨ce,c1,c2,c3⟩:=h 0 y rfl
  obtain ⟨vs,v1,v2,v3,v4⟩:=ih (o:=o+T.sz) (fun j z hj=>by
   obtain ⟨de,d1,d2,d3⟩:=h (j+1) z (by simpa using hj)
   refine ⟨de,d1,d2,fun i u hi=>?_⟩
   have:=d3 i u hi
   rw [Nat.add_mul,Nat.one_mul] at this
   rw [←this]
   congr 2
   omega)
  refine ⟨ce++vs,by rw [List.length_append,c1,v1,List.length_cons,Nat.add_mul,Nat.one_mul,Nat.add_comm],fun j u hj=>?_,fun v hv=>?_,fun j z hj=>?_⟩
  ·rcases Nat.lt_or_ge j ce.length with hl|hl
   ·rw [List.getElem?_append_left hl] at hj
    have:=c3 j u hj
    rw [Nat.zero_mul,Nat.zero_add] at this
    exact this
   ·rw [List.getElem?_append_right hl] at hj
    have:=v2 _ u hj
    rw [←this]
    congr 2
    omega
  ·rcases List.mem_append.1 hv with hv|hv
   ·exact Rep.one c2 v hv
   ·exact v3 v hv
  ·cases j with
   |zero=>
    simp only [List.getElem?_cons_zero,Option.some.injEq] at hj
    subst hj
    refine ⟨ce,c1,c2,fun i u hi=>?_⟩
    have hl:i<ce.length:=(List.getElem?_eq_some_iff.1 hi).1
    rw [Nat.zero_mul,Nat.zero_add,List.getElem?_append_left hl]
    exact hi
   |succ j=>
    rw [List.getElem?_cons_succ] at hj
    obtain ⟨de,d1,d2,d3⟩:=v4 j z hj
    refine ⟨de,d1,d2,fun i u hi=>?_⟩
    have:=d3 i u hi
    rw [Nat.add_mul,Nat.one_mul,List.getElem?_append_right (by omega),←this]
    congr 1
    omega
structure BaseR (C:Ctx) (G:Gh) (O:Nat→Obj) (w:World) (T:Ty) (b:Option Nat) (xs:List T.T) (A:Option Addr) (c:Nat):Prop where
 le:xs.length≤c
 room:c=0∨∃k g o arr e,b=some k∧(O k).live=true∧G.m k=some (g,o)∧(∃off,A=some ⟨g,o+off,none⟩∧blk w g arr e∧o+off+c*T.sz≤arr.size∧RowAt G.F w T xs arr (o+off))∧¬G.F g∧own C g
 nil:A=Option.none→c=0
 dead:∀k,b=some k→O k≠.no
theorem base_R (h:Core C G O w) {T:Ty} {x:Option Lf} {b:Option Nat} {xs:List T.T} {a:Value} (e:base O T x=some (b,xs)) (ha:LR G O w x a):∃A c,a=.slice A xs.length c∧BaseR C G O w T b xs A c:=by
 have key:∀{d:Nat} {e':TypeId} {ys:List T.T} {off len:Nat} {v:Value},O d=.row e' T ys false→HdR G d T.sz ys.length off len v→∃A c,v=.slice A ((ys.drop off).take len).length c∧BaseR C G O w T (some d) ((ys.drop off).take len) A c:=by
  intro d e' ys off len v hd hv
  obtain ⟨hl,A,c,rfl,h2,h3⟩:=h.elems hd hv
  obtain ⟨k1,A',c',k2,k3,k4,k5⟩:=hv
  cases k2
  refine ⟨A,c,by rw [hl],by rw [hl];exact h2,?_,?_,?_⟩
  ·rcases Nat.eq_zero_or_pos c with hc|hc
   ·exact Or.inl hc
   ·refine Or.inr ?_
    obtain ⟨g,o,hm,rfl⟩:=k5 hc
    rcases (h.row hd).2 with ⟨_,q⟩|⟨b',o',arr,t',q1,q2,q3,q4,q5,_,q7⟩
    ·rw [hm] at q;cases q
    ·rw [hm] at q1
     cases q1
     refine ⟨d,g,o,arr,t',rfl,by rw [hd];rfl,hm,⟨off*T.sz,rfl,q2,?_,?_⟩,q7 rfl,q5⟩
     ·have:off*T.sz+c*T.sz=G.cp d*T.sz:=by rw [←Nat.add_mul,k4]
      omega
     ·intro j x hj
      have hj':ys[off+j]?=some x:=by
       rw [List.getElem?_take] at hj
       split at hj
       ·rw [List.getElem?_drop] at hj;exact hj
       ·cases hj
      obtain ⟨ce,e1,e2,e3⟩:=q4 _ x hj'
      refine ⟨ce,e1,e2,fun i u hi=>?_⟩
      have:=e3 i u hi
      rw [Nat.add_mul] at this
      rw [←this]
      congr 1
      omega
  ·intro hA
   rcases Nat.eq_zero_or_pos c with hc|hc
   ·exact hc
   ·obtain ⟨g,o,_,hA'⟩:=k5 hc
    rw [hA] at hA';cases hA'
  ·intro k hk
   cases hk
   rw [hd];simp
 unfold base at e
 split at e
 ·cases e
  obtain rfl:a=.slice none 0 0:=(ha _ rfl).2
  exact ⟨none,0,rfl,⟨Nat.le_refl _,Or.inl rfl,fun _=>rfl,fun k hk=>by cases hk⟩⟩
 ·rename_i d
  split at e
  ·rename_i e' T' ys hd
   by_cases hT:T'=T
   ·subst hT
    simp only [dite_true,Option.some.injEq,Prod.mk.injEq] at e
    obtain ⟨rfl,rfl⟩:=e
    have:=key hd (qdd hd (ha _ rfl))
    rw [List.drop_zero,List.take_length] at this
    exact this
   ·rw [dif_neg hT] at e;cases e
  ·cases e
 ·rename_i d off len
  split at e
  ·rename_i e' T' ys hd
   by_cases hT:T'=T
   ·subst hT
    simp only [dite_true,Option.some.injEq,Prod.mk.injEq] at e
    obtain ⟨rfl,rfl⟩:=e
    exact key hd (qdZ hd (ha _ rfl))
   ·rw [dif_neg hT] at e;cases e
  ·cases e
 ·cases e
theorem kill_opt (h:Core C G O w):∀(b:Option Nat),(∀k,b=some k→O k≠.no)→Core C G (upds O (b.toList.map fun k=>(k,Obj.dead))) w∧Ext G O w G (upds O (b.toList.map fun k=>(k,Obj.dead))) w
 |none,_=>⟨h,Ext.refl _ _ _⟩
 |some k,hk=>h.kill k (hk k rfl)
theorem qfN (h:Core C G O w) {d:Nat} (hd:O d=.no) {t:TypeId} {T:Ty} (A:Option Addr) (rd:List Nat) :
  StepR C G O w ⟨.lf (.o d),rd,[(d,.row t T [] false)]⟩ (.slice A 0 0) w:=by
 have ex:Ext G O w {G with m:=upd G.m d none,cp:=upd G.cp d 0} (upd O d (.row t T [] false)) w:=by
  refine ⟨fun _ h=>h,fun _ _=>rfl,fun k hk=>?_⟩
  have hne:k≠d:=by rintro rfl;exact hk hd
  rw [upd_ne _ _ hne]
  exact ⟨hk,Sim.refl _,fun _=>⟨upd_ne _ _ hne,upd_ne _ _ hne,rfl,fun _ _ _=>rfl⟩⟩
 refine ⟨_,h.step ex (fun k=>k=d) (fun k hk=>⟨upd_ne _ _ hk,upd_ne _ _ hk,upd_ne _ _ hk,rfl,rfl⟩) (fun _ _ _ _ _=>⟨rfl,id⟩) ?_ ?_ (fun b hb=>Or.inl hb) (Keeps.refl _ _ _) ?_,ex,rfl,?_⟩
 ·rintro k rfl
  show ObjR C {G with m:=upd G.m k none,cp:=upd G.cp k 0} (upd O k (.row t T [] false)) w k
  unfold ObjR
  rw [qad]
  exact ⟨Nat.zero_le _,Or.inl ⟨qad _ _ _,qad _ _ _⟩⟩
 ·rintro k d' b1 b' hne rfl _ _ hmk
  change Bl _ (upd O k (.row t T [] false) k) k b1 at hmk
  rw [qad] at hmk
  obtain ⟨o1,e1⟩:=hmk.plain rfl
  have e1:upd G.m k none k=some (b1,o1):=e1
  rw [qad] at e1
  cases e1
 ·rintro k hk rfl hn
  exact absurd hd hn
 ·show LfB _ (upd O d (.row t T [] false)) w (.o d) _
  rw [lfb_o,qad]
  refine ⟨by simp,A,0,rfl,Nat.le_refl _,?_,fun hp=>absurd hp (by omega)⟩
  show 0+0=upd G.cp d 0 d
  rw [qad]
structure BaseF (C:Ctx) (G:Gh) (O:Nat→Obj) (w:World) (T:Ty) (xs:List T.T) (A:Option Addr) (c:Nat):Prop where
 le:xs.length≤c
 room:c=0∨∃g o arr e,A=some ⟨g,o,none⟩∧blk w g arr e∧o+c*T.sz≤arr.size∧RowAt G.F w T xs arr o∧¬G.F g∧own C g∧∀k b',(O k).live=true→Bl G (O k) k b'→b'≠g
 nil:A=Option.none→c=0
theorem qfX (h1:Core C G O w) {t ty el:TypeId} {d:Nat} (hd1:O d=.no) {T:Ty} {xs ys:List T.T} {A A':Option Addr} {c c':Nat} (hu:P.underlying t=some (.slice el)) {i:TypeInfo} {zv:Value} (hi:P.info? el=some i) (hzv:i.zero=some zv) (hby:i.bytes≠0) (hci:i.size=T.sz) (hzs:zv.cells.size=T.sz) (hsz0:T.sz≠0)
  (hfit:(xs.length+List.length ys)*i.bytes≤140737488355328) (hB:BaseF C G O w T xs A c) (hel:0<List.length ys→∃b o,A'=some ⟨b,o,none⟩∧qfZ G.F w T ys b o) (rd:List Nat) :
  ∃r w',(Builtin.append_ #[t,t] ty #[.slice A xs.length c,.slice A' (List.length ys) c']).run P w=.ok r w'∧StepR C G O w ⟨.lf (.o d),rd,[(d,.row el T (xs++ys) false)]⟩ r w':=by
 have hneed:xs.length+List.length ys≤140737488355328:=by
  have:(xs.length+List.length ys)*1≤(xs.length+List.length ys)*i.bytes:=Nat.mul_le_mul_left _ (by omega)
  omega
 -- the new elements' cells
 obtain ⟨vs,v1,v2,v3,v4⟩:∃vs:List Value,vs.length=List.length ys*T.sz∧(0<List.length ys→∃q,A'=some q∧∀j u,vs[j]?=some u→w.cell? (q.add j)=some u)∧(∀v∈vs,one v=true)∧∀j (y:T.T),(ys:List T.T)[j]?=some y→∃ce,ce.length=T.sz∧Rep G.F w T y ce∧∀i u,ce[i]?=some u→vs[j*T.sz+i]?=some u:=by
  rcases Nat.eq_zero_or_pos (List.length ys) with hn|hn
  ·exact ⟨[],by rw [hn];simp,(fun h=>absurd hn (by omega)),(fun v h=>by cases h),(fun j y hj=>by rw [List.eq_nil_of_length_eq_zero hn] at hj;simp at hj)⟩
  ·obtain ⟨g,o,rfl,hE⟩:=hel hn
   obtain ⟨vs,q1,q2,q3,q4⟩:=qev hE
   exact ⟨vs,q1,fun _=>⟨_,rfl,fun j u hj=>by rw [qcb];exact q2 j u hj⟩,q3,q4⟩
 by_cases hroom:xs.length+List.length ys≤c
 ·rcases hB.room with hc0|⟨g,o,arr,e',rfl,hblk,hcap,hrow,hF,ho,hfree⟩
  ·have hn:List.length ys=0:=by omega
   have hx0:xs=[]:=List.eq_nil_of_length_eq_zero (by omega)
   have hy0:ys=([]:List T.T):=List.eq_nil_of_length_eq_zero hn
   subst hx0
   subst hc0
   subst hy0
   exact ⟨_,w,qfr (P:=P) (w:=w) hu hi (Nat.le_refl _),(qfN h1 hd1 A _)⟩
  ·have hal:o+xs.length*i.size+vs.length≤arr.size:=by
    have h5:(xs.length+List.length ys)*T.sz≤c*T.sz:=Nat.mul_le_mul_right _ hroom
    rw [Nat.add_mul] at h5
    rw [hci,v1]
    omega
   refine ⟨_,_,run_append_room (P:=P) hu hi hroom (by rw [hci];exact v1) v2 hblk hal v3,?_⟩
   rw [hci] at hal ⊢
   have hput:=qbS (new:=(arr.toList.take (o+xs.length*T.sz)++vs++arr.toList.drop (o+xs.length*T.sz+vs.length)).toArray) hblk
   have hk:=h1.adopt hd1 (o:=o) (cp:=c) hput hF ho hfree (.row el T (xs++ys) false) (fun ex=>by
     unfold ObjR
     rw [qad]
     refine ⟨by show (xs++ys).length≤upd G.cp d c d;rw [qad,List.length_append];exact hroom,Or.inr ⟨g,o,_,_,qad _ _ _,hput.new,?_,?_,ho,fun hz=>(by cases hz),fun _=>hF⟩⟩
     ·show o+upd G.cp d c d*T.sz≤_
      rw [qad]
      simp only [List.size_toArray,List.length_append,List.length_take,List.length_drop,Array.length_toList]
      omega
     ·intro j z hj
      have hget:=qcU arr.toList vs (o+xs.length*T.sz)
      have hal':o+xs.length*T.sz+vs.length≤arr.toList.length:=by simpa using hal
      rcases Nat.lt_or_ge j xs.length with hjl|hjl
      ·rw [List.getElem?_append_left hjl] at hj
       obtain ⟨ce,c1,c2,c3⟩:=hrow j z hj
       refine ⟨ce,c1,c2.mono ex.F ex.Fw,fun q u hq=>?_⟩
       have hql:q<ce.length:=(List.getElem?_eq_some_iff.1 hq).1
       have hm1:(j+1)*T.sz≤xs.length*T.sz:=Nat.mul_le_mul_right _ (by omega)
       rw [Nat.add_mul,Nat.one_mul] at hm1
       simp only [List.getElem?_toArray]
       rw [hget _ hal',if_pos (by omega),←c3 q u hq,←Array.getElem?_toList]
      ·rw [List.getElem?_append_right hjl] at hj
       obtain ⟨ce,c1,c2,c3⟩:=v4 _ z hj
       refine ⟨ce,c1,c2.mono ex.F ex.Fw,fun q u hq=>?_⟩
       have hq2:=c3 q u hq
       have hql:(j - xs.length)*T.sz+q<vs.length:=(List.getElem?_eq_some_iff.1 hq2).1
       have hjj:j*T.sz=xs.length*T.sz+(j - xs.length)*T.sz:=by rw [←Nat.add_mul];congr 1;omega
       simp only [List.getElem?_toArray]
       rw [hget _ hal',if_neg (by omega),if_pos (by omega),←hq2]
       congr 1
       omega)
   refine ⟨_,hk.1,hk.2,rfl,?_⟩
   show LfB _ (upd _ d (.row el T (xs++ys) false)) _ (.o d) _
   rw [lfb_o,qad]
   refine ⟨by omega,_,_,by rw [List.length_append],by rw [List.length_append];exact hroom,?_,fun _=>⟨g,o,qad _ _ _,by simp⟩⟩
   show 0+c=upd G.cp d c d
   rw [qad];omega
 ·have hn:0<List.length ys:=by have:=hB.le;omega
  obtain ⟨q,rfl,hq⟩:=v2 hn
  have hfit48:Builtin.nextslicecap (xs.length+List.length ys) c*i.bytes≤281474976710656:=growslice_fits (by omega) hfit
  -- the old elements' cells
  obtain ⟨os,o1,o2,o3,o4⟩:∃os:List Value,os.length=xs.length*T.sz∧(∀p,A=some p→∀j u,os[j]?=some u→w.cell? (p.add j)=some u)∧(A=none→os=[])∧∀j (y:T.T),xs[j]?=some y→∃ce,ce.length=T.sz∧Rep G.F w T y ce∧∀i u,ce[i]?=some u→os[j*T.sz+i]?=some u:=by
   rcases Nat.eq_zero_or_pos xs.length with hx|hx
   ·exact ⟨[],by rw [hx];simp,(fun p _ j u h=>by simp at h),(fun _=>rfl),(fun j y hj=>by rw [List.eq_nil_of_length_eq_zero hx] at hj;simp at hj)⟩
   ·rcases hB.room with hc0|⟨g,o,arr,e',rfl,hblk,hcap,hrow,hF,ho,hfree⟩
    ·have:=hB.le;omega
    ·obtain ⟨os,q1,q2,_,q4⟩:=qev (F:=G.F) (w:=w) (T:=T) (b:=g) (o:=o) (ys:=xs) (fun j x hj=>by
      obtain ⟨ce,c1,c2,c3⟩:=hrow j x hj
      exact ⟨ce,c1,c2,fun i u hi=>by rw [hblk.cell];exact c3 i u hi⟩)
     exact ⟨os,q1,(fun p hp j u hj=>by cases hp;rw [qcb];exact q2 j u hj),(fun hA=>by cases hA),q4⟩
  have hgc:=grownCap_ge w (xs.length+List.length ys) c el
  have hrow:∀arr:Array Value,arr.toList=os++vs++(Builtin.zeroCells zv.cells (grownCap w (xs.length+List.length ys) c el - (xs.length+List.length ys))).toList→RowAt G.F w T (xs++ys) arr 0∧grownCap w (xs.length+List.length ys) c el*T.sz≤arr.size:=by
   intro arr harr
   constructor
   ·intro j z hj
    rcases Nat.lt_or_ge j xs.length with hjl|hjl
    ·rw [List.getElem?_append_left hjl] at hj
     obtain ⟨ce,c1,c2,c3⟩:=o4 j z hj
     refine ⟨ce,c1,c2,fun q u hq=>?_⟩
     have hq2:=c3 q u hq
     have hql:j*T.sz+q<os.length:=(List.getElem?_eq_some_iff.1 hq2).1
     rw [←Array.getElem?_toList,harr,List.append_assoc,Nat.zero_add,List.getElem?_append_left hql]
     exact hq2
    ·rw [List.getElem?_append_right hjl] at hj
     obtain ⟨ce,c1,c2,c3⟩:=v4 _ z hj
     refine ⟨ce,c1,c2,fun q u hq=>?_⟩
     have hq2:=c3 q u hq
     have hql:(j - xs.length)*T.sz+q<vs.length:=(List.getElem?_eq_some_iff.1 hq2).1
     have hjj:j*T.sz=xs.length*T.sz+(j - xs.length)*T.sz:=by rw [←Nat.add_mul];congr 1;omega
     rw [←Array.getElem?_toList,harr,List.append_assoc,Nat.zero_add,List.getElem?_append_right (by omega),List.getElem?_append_left (by omega),←hq2]
     congr 1
     omega
   ·have hsize:arr.size=arr.toList.length:=by simp
    rw [hsize,harr]
    simp only [List.length_append,o1,v1,Array.length_toList,Builtin.zeroCells,Array.size_map,Array.size_range,hzs]
    rw [←Nat.add_mul,←Nat.add_mul]
    refine Nat.mul_le_mul_right _ ?_
    omega
  cases A with
  |none=>
   have hc0:=hB.nil rfl
   have hx0:xs=[]:=List.eq_nil_of_length_eq_zero (by have:=hB.le;omega)
   subst hx0
   subst hc0
   have hos:=o3 rfl
   subst hos
   have hr:=run_append_nil (P:=P) w t ty el i zv hu hi hzv q (List.length ys) c' vs (by rw [hci];exact v1) hq hn (by omega) (by have:=hfit;simp only [List.length_nil,Nat.zero_add] at this;omega)
   have harr:=hrow (vs.toArray++Builtin.zeroCells zv.cells (grownCap w (List.length ys) 0 el - List.length ys)) (by simp)
   simp only [List.length_nil,Nat.zero_add,List.nil_append] at harr hgc
   have:=qcM (T:=T) (xs:=ys) h1 hd1 (w':=w.drew.alloc (.cells (vs.toArray++Builtin.zeroCells zv.cells (grownCap w (List.length ys) 0 el - List.length ys)) el)) ⟨rfl,rfl,rfl,rfl⟩ hgc harr.2 harr.1 rd
   exact ⟨_,_,hr,this⟩
  |some p=>
   have hr:=run_append_grow (P:=P) w t ty el i zv hu hi hzv p xs.length c os (by rw [hci];exact o1) (o2 p rfl) q (List.length ys) c' vs (by rw [hci];exact v1) hq (by omega) (by omega) hfit48
   have harr:=hrow (os.toArray++vs.toArray++Builtin.zeroCells zv.cells (grownCap w (xs.length+List.length ys) c el - (xs.length+List.length ys))) (by simp)
   have:=qcM h1 hd1 (w':=w.drew.alloc (.cells (os.toArray++vs.toArray++Builtin.zeroCells zv.cells (grownCap w (xs.length+List.length ys) c el - (xs.length+List.length ys))) el)) ⟨rfl,rfl,rfl,rfl⟩ (by rw [List.length_append];exact hgc) harr.2 harr.1 rd
   rw [List.length_append] at this
   exact ⟨_,_,hr,this⟩
theorem appendL_ok (h:Core C G O w) {t ty:TypeId} {d:Nat} {x y:Option Lf} {cs:List Chk} {e:Eff} (he:qdn P t d O x y=some (cs,e)) (hc:AllP cs) {a v:Value} (ha:LR G O w x a) (hv:LR G O w y v):Does P C G O w (Builtin.append_ #[t,t] ty #[a,v]) e:=by
 unfold qdn at he
 split at he
 ·rename_i el hu
  split at he
  ·rename_i T z hT hd hz
   split at he
   ·rename_i b xs tv ds hb hp
    split at he
    ·rename_i ys hys
     by_cases hcd:P.bytesOf el≠0∧T.sz=P.cellsOf el∧T.sz=z.length∧T.sz≠0∧b≠some d∧ds.all (fun k=>b≠some k∧k≠d)=true
     ·rw [if_pos hcd] at he
      cases he
      obtain ⟨hby,hsz,hzl,hsz0,hbd,hds⟩:=hcd
      have hfit:(xs.length+List.length ys)*P.bytesOf el≤140737488355328:=hc.cons.1
      obtain ⟨i,zv,hi,hzv,hrun,hzr⟩:=qbV (w:=w) (G:=G) (O:=O) hz
      have hbi:P.bytesOf el=i.bytes:=by unfold Program.bytesOf;rw [hi];rfl
      have hci:i.size=T.sz:=by rw [hsz];unfold Program.cellsOf;rw [hi];rfl
      have hzs:zv.cells.size=T.sz:=by rw [hzl,hzr.length];simp
      rw [hbi] at hfit hby
      have hneed:xs.length+List.length ys≤140737488355328:=by
       have:(xs.length+List.length ys)*1≤(xs.length+List.length ys)*i.bytes:=Nat.mul_le_mul_left _ (by omega)
       omega
      obtain ⟨A,c,rfl,hB⟩:=base_R h hb ha
      have hv':LfR G O w (y.getD .u) v:=by
       cases y with
       |none=>cases hp
       |some l=>exact hv l rfl
      obtain ⟨A',c',rfl,hc',hel⟩:=qdO h hv' hp hys
      -- the base given up
      obtain ⟨h1,x1⟩:=kill_opt h b hB.dead
      have hd1:upds O (b.toList.map fun k=>(k,Obj.dead)) d=.no:=by
       cases b with
       |none=>exact hd
       |some k=>
        show upd O k .dead d=.no
        rw [upd_ne _ _ (fun e=>hbd (by rw [e]))]
        exact hd
      have glue:∀{r:Value} {w':World} {sv:SV} {rd:List Nat},StepR C G (upds O (b.toList.map fun k=>(k,Obj.dead))) w ⟨sv,rd,[(d,.row el T (xs++ys) false)]⟩ r w'→StepR C G O w ⟨sv,rd,b.toList.map (fun k=>(k,Obj.dead))++[(d,.row el T (xs++ys) false)]⟩ r w':=by
       rintro r w' sv rd ⟨G',k1,k2,k3⟩
       refine ⟨G',?_,?_,?_⟩
       ·show Core C G' (upds O (_++_)) w'
        rw [qaZ];exact k1
       ·show Ext G O w G' (upds O (_++_)) w'
        rw [qaZ];exact x1.trans k2
       ·show SVR G' (upds O (_++_)) w' sv r
        rw [qaZ];exact k3
      have hcap:b=none→c=0:=by
       rintro rfl
       rcases hB.room with hc0|⟨k,_,_,_,_,hk,_⟩
       ·exact hc0
       ·cases hk
      have hBF:BaseF C G (upds O (b.toList.map fun k=>(k,Obj.dead))) w T xs A c:=by
       refine ⟨hB.le,hB.room.imp id ?_,hB.nil⟩
       rintro ⟨k,g,o,arr,e',rfl,hlv,hm,⟨off,rfl,hblk,hcap,hrow⟩,hF,ho⟩
       refine ⟨g,o+off,arr,e',rfl,hblk,hcap,hrow,hF,ho,fun k' b' hl hm'=>?_⟩
       have hne:k'≠k:=by
        rintro rfl
        have:(upd O k' Obj.dead k').live=true:=hl
        rw [qad] at this
        cases this
       have hl':(upd O k Obj.dead k').live=true:=hl
       rw [upd_ne _ _ hne] at hl'
       have hm2:Bl G (upd O k Obj.dead k') k' b':=hm'
       rw [upd_ne _ _ hne] at hm2
       exact h.injB k' k b' g hne hl' hlv hm2 (Or.inl ⟨o,hm⟩)
      obtain ⟨r,w',q1,q2⟩:=qfX (ty:=ty) (ys:=ys) (c':=c') h1 hd1 hu hi hzv hby hci hzs hsz0 hfit hBF hel (d::(b.toList++ds))
      exact ⟨r,w',q1,glue q2⟩
     ·rw [if_neg hcd] at he
      cases he
    ·cases he
   ·cases he
  ·cases he
 ·cases he
end
end Go.Proofs.YtfobeapcmgjhbaaGreatDoor.VE
namespace Go.Proofs.YtfobeapcmgjhbaaGreatDoor.VE
open Go Go.RowKit
section
variable {P:Program} {C:Ctx} {G:Gh} {O:Nat→Obj} {w w':World}
theorem eqF_ok {f:Field} {x y:Lf} {c:Chk} (e:eqF P f x y=some c) {u v:Value} (hx:LfR G O w x u) (hy:LfR G O w y v) (d:Nat):(Op.equalIn (d+1) f.type u v).run P w=.ok (@decide c.p c.i) w:=by
 unfold eqF at e
 split at e
 ·rename_i k0 k a k' b hu
  by_cases hk:k=k'
  ·rw [if_pos hk] at e
   cases e
   subst hk
   have h1:[u]=[.int k a]:=hx.2
   have h2:[v]=[.int k b]:=hy.2
   simp only [List.cons.injEq,and_true] at h1 h2
   subst h1 h2
   exact run_equalIn_int w d f.type k k0 a b hu
  ·rw [if_neg hk] at e;cases e
 ·rename_i a b hu
  cases e
  have h1:[u]=[.string a]:=hx.2
  have h2:[v]=[.string b]:=hy.2
  simp only [List.cons.injEq,and_true] at h1 h2
  subst h1 h2
  rw [run_equalIn_string w d f.type a b hu,toList_inj]
  rfl
 ·rename_i x y hu
  split at e
  ·rename_i a b ha hb
   cases e
   have h1:=qdB (v:=u) ha (fun l hl=>by cases hl;exact hx)
   have h2:=qdB (v:=v) hb (fun l hl=>by cases hl;exact hy)
   rw [h1,h2]
   exact run_equalIn_bool' w d f.type a b hu
  ·cases e
 ·cases e
theorem part_ok {t:TypeId} (ht:aggO P t=some false) {A:Array Value} {i:Nat} {v:Value} (hv:A[i]?=some v):(part t A i).run P w=.ok v w:=by
 simp [part,(qdT ht).2,hv]
theorem qfK {i:Nat} {f:Field} {fs:List Field} (h:qec P i (f::fs)=true):f.name≠ "_"∧f.offset=i∧aggO P f.type=some false∧qec P (i+1) fs=true∧∀d,P.eqGuardType (d+1) f.type=false:=by
 unfold qec at h
 simp only [Bool.and_eq_true] at h
 obtain ⟨⟨⟨h1,h2⟩,h3⟩,h4⟩:=h
 refine ⟨by simpa using h1,Nat.eq_of_beq_eq_true h2,?_,h4,fun d=>?_⟩
 ·unfold aggO
  split at h3<;>simp_all
 ·unfold Program.eqGuardType
  split at h3<;>simp_all
theorem qfM:∀(fs:List Field) (xs ys:List Lf) (c:Chk) (i:Nat) (A B:Array Value) (d:Nat),qec P i fs=true→eqLs P fs xs ys=some c→All2 (LfR G O w) xs (A.toList.drop i)→All2 (LfR G O w) ys (B.toList.drop i)→(Op.eqFields (d+1) A B fs).run P w=.ok (@decide c.p c.i) w
 |[],xs,ys,c,i,A,B,d,hf,e,hx,hy=>by simp [eqLs] at e
 |f::fs,[],ys,c,i,A,B,d,hf,e,hx,hy=>by cases fs<;>simp [eqLs] at e
 |f::fs,x::xs,[],c,i,A,B,d,hf,e,hx,hy=>by cases fs<;>cases xs<;>simp [eqLs] at e
 |f::fs,x::xs,y::ys,c,i,A,B,d,hf,e,hx,hy=>by
  obtain ⟨hn,ho,ha,hr,_⟩:=qfK hf
  obtain ⟨u,l1,e1,r1,t1⟩:=hx.cons_inv
  obtain ⟨v,l2,e2,r2,t2⟩:=hy.cons_inv
  have hu:A[f.offset]?=some u:=by
   rw [ho,←Array.getElem?_toList]
   have:(A.toList.drop i)[0]?=some u:=by rw [e1];rfl
   rw [List.getElem?_drop] at this
   simpa using this
  have hv:B[f.offset]?=some v:=by
   rw [ho,←Array.getElem?_toList]
   have:(B.toList.drop i)[0]?=some v:=by rw [e2];rfl
   rw [List.getElem?_drop] at this
   simpa using this
  have d1:l1=A.toList.drop (i+1):=by
   have:(A.toList.drop i).drop 1=l1:=by rw [e1];rfl
   rw [List.drop_drop] at this
   exact this.symm
  have d2:l2=B.toList.drop (i+1):=by
   have:(B.toList.drop i).drop 1=l2:=by rw [e2];rfl
   rw [List.drop_drop] at this
   exact this.symm
  have step:∀(c1:Chk),eqF P f x y=some c1→(Op.eqFields (d+1) A B (f::fs)).run P w=if @decide c1.p c1.i=true then (Op.eqFields (d+1) A B fs).run P w else .ok false w:=by
   intro c1 hc1
   conv=>lhs;unfold Op.eqFields
   rw [if_pos hn]
   simp only [Sem.run_bind,part_ok ha hu,part_ok ha hv,Result.andThen_ok,eqF_ok hc1 r1 r2 d]
   cases @decide c1.p c1.i<;>simp
  cases fs with
  |nil=>
   cases xs with
   |nil=>
    cases ys with
    |nil=>
     have e:eqF P f x y=some c:=e
     rw [step c e]
     cases @decide c.p c.i<;>simp [Op.eqFields]
    |cons y' ys=>simp [eqLs] at e
   |cons x' xs=>cases ys<;>simp [eqLs] at e
  |cons f' fs=>
   have e:(match eqF P f x y,eqLs P (f'::fs) xs ys with
    |some c,some d=>some ⟨c.p∧d.p,@instDecidableAnd _ _ c.i d.i⟩
    |_,_=>none)=some c:=by
    cases xs<;>cases ys<;>exact e
   split at e
   ·rename_i c1 c2 h1 h2
    cases e
    rw [step c1 h1,qfM (f'::fs) xs ys c2 (i+1) A B d hr h2 (by rw [←d1];exact t1) (by rw [←d2];exact t2)]
    obtain ⟨p1,i1⟩:=c1
    obtain ⟨p2,i2⟩:=c2
    by_cases q1:p1<;>by_cases q2:p2<;>simp [q1,q2]
   ·cases e
theorem eqGuard_flat {t:TypeId} {fs:Array Field} (hu:P.underlying t=some (.struct fs)) (hf:qec P 0 fs.toList=true):P.eqGuardType P.depth t=false:=by
 have key:∀(l:List Field) (i d:Nat),qec P i l=true→(l.any fun f=>f.name != "_" && P.eqGuardType (d+1) f.type)=false:=by
  intro l
  induction l with
  |nil=>intros;rfl
  |cons f l ih=>
   intro i d h
   obtain ⟨_,_,_,h2,h3⟩:=qfK h
   simp only [List.any_cons,h3 d,Bool.and_false,Bool.false_or]
   exact ih (i+1) d h2
 have:=key fs.toList 0 (2*(P.types.size+Made.depth)) hf
 show P.eqGuardType (2*(P.types.size+Made.depth)+1+1) t=false
 unfold Program.eqGuardType
 rw [hu]
 simp only
 rw [←Array.any_toList]
 exact this
theorem binA_ok (h:Core C G O w) {op:BinOp} {t:TypeId} {fs:Array Field} (hu:P.underlying t=some (.struct fs)) {x y:SV} {cs:List Chk} {e:Eff} (he:binA P op t fs.toList x y=some (cs,e)) {x' y':Operand} {u v:Value} (ha:SVR G O w x u) (hb:SVR G O w y v) :
  Does P C G O w (do eqGuard op t x' y' u v;binOp op t u v) e:=by
 unfold binA at he
 split at he
 ·rename_i xs ys
  by_cases hc:qec P 0 fs.toList=true∧P.stoodInHeld t=false
  ·rw [if_pos hc] at he
   obtain ⟨A,rfl,hA⟩:=(show CmR G O w (.a xs) u from ha)
   obtain ⟨B,rfl,hB⟩:=(show CmR G O w (.a ys) v from hb)
   split at he
   ·rename_i c hc'
    have hfo:P.fieldsOf t=fs:=by unfold Program.fieldsOf;rw [hu]
    have hr:(Op.equalIn 10000 t (.agg A) (.agg B)).run P w=.ok (@decide c.p c.i) w:=by
     have:=run_equalIn_struct (P:=P) w 9999 t A B (by rw [hfo];exact hu) hc.2
     rw [this,hfo]
     exact qfM fs.toList xs ys c 0 A B 9998 hc.1 hc' hA hB
    have hg:=eqGuard_flat hu hc.1
    split at he
    ·cases he
     refine Does.pure h (v:=.bool (@decide c.p c.i)) ?_ ⟨rfl,rfl⟩
     simp only [Sem.run_bind,run_eqGuard_agg w _ t x' y' A B hg,Result.andThen_ok,run_eql_struct,hr]
    ·cases he
     refine Does.pure h (v:=.bool (!@decide c.p c.i)) ?_ ⟨rfl,rfl⟩
     simp only [Sem.run_bind,run_eqGuard_agg w _ t x' y' A B hg,Result.andThen_ok,run_neq_struct,hr]
    ·cases he
   ·cases he
  ·rw [if_neg hc] at he;cases he
 ·cases he
theorem appendZ_ok (h:Core C G O w) {t t' ty:TypeId} {d:Nat} {x y:Option Lf} {cs:List Chk} {e:Eff} (he:qeA P t t' d O x y=some (cs,e)) (hc:AllP cs) {a b:Value} (ha:LR G O w x a) (hb:LR G O w y b):Does P C G O w (Builtin.append_ #[t,t'] ty #[a,b]) e:=by
 unfold qeA at he
 split at he
 ·rename_i el k0 k n hu hu'
  obtain rfl:a=.slice none 0 0:=(ha _ rfl).2
  obtain rfl:=hb.int
  split at he
  ·rename_i T z hT hz hd
   split at he
   ·rename_i y hp
    by_cases hcz:z.length=P.cellsOf el∧T.sz=z.length∧T.sz≠0
    ·rw [if_pos hcz] at he
     cases he
     obtain ⟨i,zv,hi,hzv,hrun,hzr⟩:=qbV (w:=w) (G:=G) (O:=O) hz
     have hzl:zv.cells.size=z.length:=by rw [hzr.length];simp
     have hsz:i.size=z.length:=by rw [hcz.1];unfold Program.cellsOf;rw [hi];rfl
     have hby:P.bytesOf el=i.bytes:=by unfold Program.bytesOf;rw [hi];rfl
     have h0:(0:Int)≤n:=hc.cons.1
     have h1:(n:Int)*(P.bytesOf el:Int)≤140737488355328:=hc.cons.2.cons.1
     have h2:(n:Int)≤140737488355328:=hc.cons.2.cons.2.cons.1
     obtain ⟨m,rfl⟩:∃m:Nat,n=(m:Int):=⟨Int.toNat n,(Int.toNat_of_nonneg h0).symm⟩
     rw [hby] at h1
     have h1':m*i.bytes≤140737488355328:=by
      have:((m*i.bytes:Nat):Int)≤140737488355328:=by rw [Int.natCast_mul];exact h1
      omega
     have h2':m≤140737488355328:=by
      have:(m:Int)≤140737488355328:=h2
      omega
     simp only [Int.toNat_natCast]
     rcases Nat.eq_zero_or_pos m with hm|hm
     ·subst hm
      have hw0:IntKind.i64.wrap 0=0:=by decide
      have hr:(Builtin.append_ #[t,t'] ty #[.slice none 0 0,.int k ((0:Nat):Int)]).run P w=.ok (.slice none 0 0) w:=by
       simp [Builtin.append_,run_underlying hu,run_underlying hu',sizeOf,typeInfo,hi,asInt,asIntOf,hw0]
      exact ⟨_,_,hr,qfN h hd none [d]⟩
     ·have hrun:=Go.Lib.run_append_nil_zeros (P:=P) w t t' ty el i zv k k0 hu hu' hi hzv m hm (by omega) (by omega) (by omega)
      have hgc:=grownCap_ge w m 0 el
      have hT':T.sz=zv.cells.size:=by rw [hcz.2.1,hzl]
      have hstep:=qcM h hd (w':=w.drew.alloc (.cells (Builtin.zeroCells zv.cells m++Builtin.zeroCells zv.cells (grownCap w m 0 el - m)) el)) ⟨rfl,rfl,rfl,rfl⟩ (cap:=grownCap w m 0 el) (T:=T) (xs:=List.replicate m y) (by rw [List.length_replicate];exact hgc) (by
       simp only [Array.size_append,Builtin.zeroCells,Array.size_map,Array.size_range]
       rw [←Nat.add_mul,hT']
       refine Nat.mul_le_mul_right _ ?_
       omega) ?_ [d]
      ·rw [List.length_replicate] at hstep
       exact ⟨_,_,hrun,hstep⟩
      ·intro j v hj
       have hjn:j<m∧v=y:=by
        rw [List.getElem?_replicate] at hj
        by_cases hlt:j<m
        ·rw [if_pos hlt] at hj
         exact ⟨hlt,(Option.some.inj hj).symm⟩
        ·rw [if_neg hlt] at hj
         cases hj
       obtain ⟨hj2,rfl⟩:=hjn
       have hy:=qeo h hp hzr (F:=G.F) (fun _ h=>h) (fun _ hd=>by cases hd)
       refine ⟨_,hy.len,hy,fun i' u hu'=>?_⟩
       have hlt:i'<zv.cells.size:=by
        have:=(List.getElem?_eq_some_iff.1 hu').1
        simpa using this
       have hjm:j*zv.cells.size+i'<m*zv.cells.size:=by
        have h5:(j+1)*zv.cells.size≤m*zv.cells.size:=Nat.mul_le_mul_right _ hj2
        rw [Nat.add_mul,Nat.one_mul] at h5
        omega
       have hmod:(j*zv.cells.size+i') % zv.cells.size=i':=by
        rw [Nat.mul_comm,Nat.mul_add_mod,Nat.mod_eq_of_lt hlt]
       have hu2:zv.cells[i']?=some u:=by simpa using hu'
       rw [hT',Nat.zero_add,Array.getElem?_append_left (by simpa [Builtin.zeroCells] using hjm)]
       unfold Builtin.zeroCells
       rw [Array.getElem?_map,Array.getElem?_range,if_pos hjm]
       simp only [Option.map_some,hmod]
       rw [←hu2,getElem!_pos zv.cells i' hlt,Array.getElem?_eq_getElem hlt]
    ·rw [if_neg hcz] at he
     cases he
   ·cases he
  ·cases he
 ·cases he
end
end Go.Proofs.YtfobeapcmgjhbaaGreatDoor.VE
namespace Go.Proofs.YtfobeapcmgjhbaaGreatDoor.VE
open Go Go.RowKit
section
variable {P:Program} {C:Ctx} {G:Gh} {O:Nat→Obj} {w w':World}
theorem makeMapL_ok (h:Core C G O w) {d:Nat} {cs:List Chk} {e:Eff} (he:qdw d O=some (cs,e)) (t:TypeId):Does P C G O w (Instr.makeMap t none) e:=by
 unfold qdw at he
 split at he
 ·rename_i hd
  cases he
  obtain ⟨hn,hold⟩:=MapKept.heap_alloc w (.map #[] 0)
  have ex:Ext G O w {G with m:=upd G.m d (some (w.heap.size,0))} (upd O d (.mp [])) (w.alloc (.map #[] 0)):=by
   refine ⟨fun _ h=>h,fun b hb=>hold b (h.F1 b hb),fun k hk=>?_⟩
   have hne:k≠d:=by rintro rfl;exact hk hd
   rw [upd_ne _ _ hne]
   exact ⟨hk,Sim.refl _,fun _=>⟨upd_ne _ _ hne,rfl,rfl,fun _ _ _=>rfl⟩⟩
  refine ⟨.map (some w.heap.size),w.alloc (.map #[] 0),rfl,{G with m:=upd G.m d (some (w.heap.size,0))},?_,ex,rfl,?_⟩
  ·refine h.step ex (fun k=>k=d) (fun k hk=>⟨upd_ne _ _ hk,upd_ne _ _ hk,rfl,rfl,rfl⟩) (fun k b hk hl hmk=>⟨hold b (h.qbR hl hmk).1,id⟩) ?_ ?_ (fun b hb=>Or.inl hb) ⟨rfl,rfl,rfl,by show w.heap.size≤(w.heap.push (.map #[] 0)).size;rw [Array.size_push];omega,fun b hb _=>hold b (Nat.lt_of_lt_of_le hb h.size)⟩ ?_
   ·rintro k rfl
    show ObjR C {G with m:=upd G.m k (some (w.heap.size,0))} (upd O k (.mp [])) (w.alloc (.map #[] 0)) k
    unfold ObjR
    rw [qad]
    exact ⟨w.heap.size,#[],0,qad _ _ _,hn,trivial,fun hF=>Nat.lt_irrefl _ (h.F1 _ hF),Or.inl h.size⟩
   ·rintro k d' b b' hne rfl hl hl' hmk hmk'
    change Bl _ (upd O k (.mp []) k) k b at hmk
    change (upd O k (.mp []) d').live=true at hl'
    change Bl _ (upd O k (.mp []) d') d' b' at hmk'
    rw [qad] at hmk
    obtain ⟨o,e1⟩:=hmk.plain rfl
    have e1:upd G.m k (some (w.heap.size,0)) k=some (b,o):=e1
    rw [qad] at e1
    have hne':d'≠k:=Ne.symm hne
    rw [upd_ne _ _ hne'] at hl' hmk'
    have e2:Bl G (O d') d' b':=hmk'.old (upd_ne _ _ hne') rfl
    have:=(h.qbR hl' e2).1
    cases e1;omega
   ·rintro k hk rfl hn'
    exact absurd hd hn'
  ·show OnMap (upd O d (.mp []) d) _
   rw [qad]
   exact ⟨w.heap.size,qad _ _ _,rfl⟩
 ·cases he
theorem Core.map (h:Core C G O w) {d:Nat} {es:List (Int×Int)} (hd:O d=.mp es):∃b arr clock,G.m d=some (b,0)∧w.heap[b]?=some (.map arr clock)∧EntR es arr.toList∧¬G.F b∧own C b:=by
 have k:=h.ob d
 unfold ObjR at k
 rw [hd] at k
 exact k
theorem mapOf_ok {t:TypeId} (h:mapOf P t=true):∃kt et i,P.underlying t=some (.map kt et)∧P.underlying kt=some (.int .i64)∧P.info? et=some i∧i.zero=some (.int .i64 0):=by
 unfold mapOf at h
 split at h
 ·rename_i kt et hu
  split at h
  ·rename_i hk
   split at h
   ·rename_i i hi
    split at h
    ·rename_i z hz
     obtain rfl:=of_decide_eq_true h
     exact ⟨kt,et,i,hu,hk,hi,hz⟩
    ·cases h
   ·cases h
  ·cases h
 ·cases h
theorem ent_find (k v:Int) (f:MapEntry→MapEntry) (hf:∀m,(f m).key=.int .i64 k∧(f m).val=.int .i64 v):∀(es:List (Int×Int)) (l:List MapEntry) (i:Nat),EntR es l→
  (mget es k=none∧Instr.findNow (.int .i64) (.int .i64 k) l i=some none∧mput es k v=es++[(k,v)])∨
  (∃j old m,mget es k=some old∧Instr.findNow (.int .i64) (.int .i64 k) l i=some (some (i+j,.int .i64 old))∧l[j]?=some m∧m.key=.int .i64 k∧EntR (mput es k v) (l.modify j f))
 |[],l,i,h=>by
  obtain rfl:=h.qbm
  exact Or.inl ⟨rfl,rfl,rfl⟩
 |(a,b)::es,l,i,h=>by
  obtain ⟨m,l',rfl,⟨h1,h2⟩,h3⟩:=h.cons_inv
  by_cases hk:a=k
  ·subst hk
   refine Or.inr ⟨0,b,m,by simp [mget],?_,rfl,h1,?_⟩
   ·simp [Instr.findNow,Instr.sameNow,h1,h2]
   ·simp only [mput,if_true,List.modify_zero_cons]
    exact ⟨hf m,h3⟩
  ·have hk':(k==a)=false:=by simp;omega
   rcases ent_find k v f hf es l' (i+1) h3 with ⟨e1,e2,e3⟩|⟨j,old,m',e1,e2,e3,e4,e5⟩
   ·refine Or.inl ⟨by simp [mget,hk,e1],?_,by simp [mput,hk,e3]⟩
    simp [Instr.findNow,Instr.sameNow,h1,hk',e2]
   ·refine Or.inr ⟨j+1,old,m',by simp [mget,hk,e1],?_,by simpa using e3,e4,?_⟩
    ·simp only [Instr.findNow,Instr.sameNow,h1,if_true,hk',e2]
     rw [show i+1+j=i+(j+1) by omega]
    ·simp only [mput,hk,if_false,List.modify_succ_cons]
     exact ⟨⟨h1,h2⟩,e5⟩
theorem lookupL_ok (h:Core C G O w) {t:TypeId} {x ix:Option Lf} {cs:List Chk} {e:Eff} (he:qer P t O x ix=some (cs,e)) {a b:Value} (ha:LR G O w x a) (hb:LR G O w ix b):Does P C G O w (Instr.lookup t a b true) e:=by
 unfold qer at he
 split at he
 ·rename_i d k ht
  split at he
  ·rename_i es hd
   cases he
   obtain ⟨kt,et,inf,u1,u2,u3,u4⟩:=mapOf_ok ht
   have q:OnMap (O d) (∃b,G.m d=some (b,0)∧a=.map (some b)):=(ha _ rfl).2
   rw [hd] at q
   obtain ⟨r,hm,rfl⟩:=q
   obtain rfl:=hb.int
   obtain ⟨r',arr,clock,hm',hw,hent,_,_⟩:=h.map hd
   rw [hm] at hm'
   cases hm'
   have hz:(zeroValue et).run P w=.ok (.int .i64 0) w:=by simp [zeroValue,typeInfo,u3,u4]
   have hk:MapKept.IsKey (.int .i64) (.int .i64 k):=rfl
   rcases ent_find k 0 (fun m=>{m with key:=.int .i64 k,val:=.int .i64 0}) (fun _=>⟨rfl,rfl⟩) es arr.toList 0 hent with ⟨e1,e2,_⟩|⟨j,old,m,e1,e2,e3,e4,_⟩
   ·refine Does.pure h (v:=.tuple #[.int .i64 0,.bool false]) ?_ ⟨_,rfl,?_⟩
    ·simp [Instr.lookup,run_underlying u1,MapKept.run_getObj_map hw,MapKept.run_checkKey u2 hk,MapKept.run_findKey u2 e2,hz,Result.andThen]
    ·rw [e1]
     exact ⟨qbK _ _,⟨rfl,rfl⟩,trivial⟩
   ·refine Does.pure h (v:=.tuple #[.int .i64 old,.bool true]) ?_ ⟨_,rfl,?_⟩
    ·simp [Instr.lookup,run_underlying u1,MapKept.run_getObj_map hw,MapKept.run_checkKey u2 hk,MapKept.run_findKey u2 e2,Result.andThen]
    ·rw [e1]
     exact ⟨qbK _ _,⟨rfl,rfl⟩,trivial⟩
  ·cases he
 ·cases he
theorem Core.writeM (h:Core C G O w) {d b o:Nat} (hl:(O d).live=true) (hm:G.m d=some (b,o)) (hF:¬G.F b) (hold:∀k,k≠b→w'.heap[k]?=w.heap[k]?) (hk:Keeps C.base C.W0 w w') (x:Obj) (hs:Sim (O d) x) (hlen:x.len=(O d).len)
  (hx:x.live=true) (ho:ObjR C G (upd O d x) w' d) (hxd:x.qea=false:=by rfl):Core C G (upd O d x) w'∧Ext G O w G (upd O d x) w':=by
 have ex:Ext G O w G (upd O d x) w':=by
  refine ⟨fun _ h=>h,fun k hk=>hold k (by rintro rfl;exact hF hk),fun k hk=>?_⟩
  by_cases hne:k=d
  ·subst hne
   rw [qad]
   refine ⟨?_,hs,fun _=>⟨rfl,rfl,rfl,fun _ _ _=>rfl⟩⟩
   rintro rfl;cases hx
  ·rw [upd_ne _ _ hne]
   exact ⟨hk,Sim.refl _,fun _=>⟨rfl,rfl,rfl,fun _ _ _=>rfl⟩⟩
 refine ⟨h.step ex (fun k=>k=d) (fun k hk=>⟨upd_ne _ _ hk,rfl,rfl,rfl,rfl⟩) (fun k b' hk hl' hm'=>⟨hold b' (h.injB k d b' b hk hl' hl hm' (Or.inl ⟨o,hm⟩)),id⟩) (by rintro k rfl;exact ho) ?_ (fun b hb=>Or.inl hb) hk ?_,ex⟩
 ·rintro k d' b1 b' hne rfl hl1 hl' hmk hmk'
  rw [upd_ne _ _ (Ne.symm hne)] at hl' hmk'
  rw [qad] at hmk
  exact h.injB k d' b1 b' hne hl hl' (Or.inl (hmk.plain hxd)) hmk'
 ·rintro k hk rfl hn hlv
  refine ⟨hl,rfl,rfl,?_⟩
  rw [qad];exact hlen
theorem mapUpdateL_ok (h:Core C G O w) {t:TypeId} {x y z:Option Lf} {cs:List Chk} {e:Eff} (he:qcs P t O x y z=some (cs,e)) {a b c:Value} (ha:LR G O w x a) (hb:LR G O w y b) (hc:LR G O w z c) :
  ∃w',(Instr.mapUpdate t a b c).run P w=.ok () w'∧∃G',Core C G' (upds O e.wr) w'∧Ext G O w G' (upds O e.wr) w'∧e.sv=.u:=by
 unfold qcs at he
 split at he
 ·rename_i d k v ht
  split at he
  ·rename_i es hd
   cases he
   obtain ⟨kt,et,inf,u1,u2,u3,u4⟩:=mapOf_ok ht
   have q:OnMap (O d) (∃b,G.m d=some (b,0)∧a=.map (some b)):=(ha _ rfl).2
   rw [hd] at q
   obtain ⟨r,hm,rfl⟩:=q
   obtain rfl:=hb.int
   obtain rfl:=hc.int
   obtain ⟨r',arr,clock,hm',hw,hent,hF,hown⟩:=h.map hd
   rw [hm] at hm'
   cases hm'
   have hk:MapKept.IsKey (.int .i64) (.int .i64 k):=rfl
   have fin:∀(arr':Array MapEntry) (clock':Nat),EntR (mput es k v) arr'.toList→(Instr.mapUpdate t (.map (some r)) (.int .i64 k) (.int .i64 v)).run P w=.ok () {w with heap:=w.heap.setIfInBounds r (.map arr' clock')}→
     ∃w',(Instr.mapUpdate t (.map (some r)) (.int .i64 k) (.int .i64 v)).run P w=.ok () w'∧∃G',Core C G' (upds O [(d,.mp (mput es k v))]) w'∧Ext G O w G' (upds O [(d,.mp (mput es k v))]) w'∧(SV.u:SV)=.u:=by
    intro arr' clock' hE hrun
    obtain ⟨hn,hold⟩:=MapKept.heap_set (o':=.map arr' clock') hw
    have hk:=h.writeM (w':={w with heap:=w.heap.setIfInBounds r (.map arr' clock')}) (d:=d) (by rw [hd];rfl) hm hF hold ⟨rfl,rfl,rfl,by simp,fun k' hk' hn'=>hold k' (by
     rintro rfl
     rcases hown with ho|ho
     ·omega
     ·exact hn' ho)⟩ (.mp (mput es k v)) (by rw [hd];trivial) (by rw [hd];rfl) rfl (by
      unfold ObjR
      rw [qad]
      exact ⟨r,arr',clock',hm,hn,hE,hF,hown⟩)
    exact ⟨_,hrun,G,hk.1,hk.2,rfl⟩
   rcases ent_find k v (fun m=>{m with key:=.int .i64 k,val:=.int .i64 v}) (fun _=>⟨rfl,rfl⟩) es arr.toList 0 hent with ⟨e1,e2,e3⟩|⟨j,old,m,e1,e2,e3,e4,e5⟩
   ·refine fin (arr.push {key:=.int .i64 k,val:=.int .i64 v,born:=clock}) (clock+1) ?_ ?_
    ·rw [e3,Array.toList_push]
     exact hent.append ⟨⟨rfl,rfl⟩,trivial⟩
    ·simp [Instr.mapUpdate,run_underlying u1,MapKept.run_getObj_map hw,MapKept.run_checkKey u2 hk,MapKept.run_findKey u2 e2,MapKept.run_setObj_map _ hw,Result.andThen]
   ·have hj:arr[j]?=some m:=by simpa using e3
    refine fin (arr.modify j fun m=>{m with key:=.int .i64 k,val:=.int .i64 v}) clock ?_ ?_
    ·rw [Array.toList_modify]
     exact e5
    ·have e2':Instr.findNow (.int .i64) (.int .i64 k) arr.toList 0=some (some (j,.int .i64 old)):=by simpa using e2
     simp [Instr.mapUpdate,run_underlying u1,MapKept.run_getObj_map hw,MapKept.run_checkKey u2 hk,MapKept.run_findKey u2 e2',hj,e4,MapKept.run_keyThatStays hk,MapKept.run_setObj_map _ hw,Result.andThen]
  ·cases he
 ·cases he
end
end Go.Proofs.YtfobeapcmgjhbaaGreatDoor.VE
namespace Go.Proofs.YtfobeapcmgjhbaaGreatDoor.VE
open Go Go.RowKit
section
variable {C:Ctx} {G:Gh} {O:Nat→Obj} {w:World}
theorem trunc_ok (h:Core C G O w) {d d2 len:Nat} {e:TypeId} {t:Ty} {xs:List t.T} (hd:O d=.row e t xs false) (h2:O d2=.no) {v:Value} (hv:LfR G O w (.os d 0 len) v) :
  ∃G',Core C G' (upds O [(d,.dead),(d2,.row e t (xs.take len) false)]) w∧Ext G O w G' (upds O [(d,.dead),(d2,.row e t (xs.take len) false)]) w∧LfR G' (upds O [(d,.dead),(d2,.row e t (xs.take len) false)]) w (.o d2) v:=by
 have hne:d2≠d:=by rintro rfl;rw [hd] at h2;cases h2
 obtain ⟨k1,kx⟩:=h.kill d (by rw [hd];simp)
 have h21:upd O d .dead d2=.no:=by rw [upd_ne _ _ hne];exact h2
 show ∃G',Core C G' (upd (upd O d .dead) d2 (.row e t (xs.take len) false)) w∧Ext G O w G' (upd (upd O d .dead) d2 (.row e t (xs.take len) false)) w∧LfR G' (upd (upd O d .dead) d2 (.row e t (xs.take len) false)) w (.o d2) v
 have ex:Ext G (upd O d .dead) w {G with m:=upd G.m d2 (G.m d),cp:=upd G.cp d2 (G.cp d)} (upd (upd O d .dead) d2 (.row e t (xs.take len) false)) w:=by
  refine ⟨fun _ h=>h,fun _ _=>rfl,fun k hk=>?_⟩
  have hkn:k≠d2:=by rintro rfl;exact hk h21
  rw [upd_ne _ _ hkn]
  exact ⟨hk,Sim.refl _,fun _=>⟨upd_ne _ _ hkn,upd_ne _ _ hkn,rfl,fun _ _ _=>rfl⟩⟩
 have hob:=h.ob d
 unfold ObjR at hob
 rw [hd] at hob
 obtain ⟨o1,o2⟩:=hob
 have hvb:OnRow (O d) (fun t n=>HdR G d t.sz n 0 len v):=hv.2
 rw [hd] at hvb
 have hvb:HdR G d t.sz xs.length 0 len v:=hvb
 obtain ⟨v1,A,c,rfl,v3,v4,v5⟩:=hvb
 have hlen:(xs.take len).length=len:=by rw [List.length_take];omega
 refine ⟨{G with m:=upd G.m d2 (G.m d),cp:=upd G.cp d2 (G.cp d)},?_,kx.trans ex,?_⟩
 ·refine k1.step ex (fun k=>k=d2) (fun k hk=>⟨upd_ne _ _ hk,upd_ne _ _ hk,upd_ne _ _ hk,rfl,rfl⟩) (fun _ _ _ _ _=>⟨rfl,id⟩) ?_ ?_ (fun b hb=>Or.inl hb) (Keeps.refl _ _ _) ?_
  ·rintro k rfl
   unfold ObjR
   rw [qad]
   show (xs.take len).length≤upd G.cp k (G.cp d) k∧((upd G.cp k (G.cp d) k=0∧upd G.m k (G.m d) k=none)∨_)
   rw [qad,qad]
   refine ⟨by omega,o2.imp id ?_⟩
   rintro ⟨b,o,arr,e',q1,q2,q3,q4,q5,q6,q7⟩
   refine ⟨b,o,arr,e',by show upd G.m k (G.m d) k=_;rw [qad];exact q1,q2,by show _+upd G.cp k (G.cp d) k*_≤_;rw [qad];exact q3,?_,q5,q6,q7⟩
   intro j x hj
   rw [List.getElem?_take] at hj
   split at hj
   ·obtain ⟨ce,c1,c2,c3⟩:=q4 j x hj
    exact ⟨ce,c1,c2,c3⟩
   ·cases hj
  ·rintro k d' b1 b' hk rfl hl hl' hm hm'
   rw [qad] at hm
   obtain ⟨p1,e1⟩:=hm.plain rfl
   have e1:upd G.m k (G.m d) k=some (b1,p1):=e1
   rw [qad] at e1
   rw [upd_ne _ _ (Ne.symm hk)] at hl' hm'
   have e2:Bl G (upd O d .dead d') d' b':=hm'.old (upd_ne _ _ (Ne.symm hk)) rfl
   have hdd:d'≠d:=by
    rintro rfl
    rw [qad] at hl';cases hl'
   rw [upd_ne _ _ hdd] at hl' e2
   exact h.injB d d' b1 b' (Ne.symm hdd) (by rw [hd];rfl) hl' (Or.inl ⟨p1,e1⟩) e2
  ·rintro k _ rfl hn _
   exact absurd h21 hn
 ·refine ⟨hv.1,?_⟩
  show OnRow (upd (upd O d .dead) d2 (.row e t (xs.take len) false) d2) (fun t n=>HdR _ d2 t.sz n 0 n _)
  rw [qad]
  show HdR _ d2 t.sz (xs.take len).length 0 (xs.take len).length _
  rw [hlen]
  refine ⟨by omega,A,c,rfl,v3,?_,?_⟩
  ·show 0+c=upd G.cp d2 (G.cp d) d2
   rw [qad];exact v4
  ·show 0<c→∃b o,upd G.m d2 (G.m d) d2=some (b,o)∧_
   rw [qad];exact v5
def inBl (G:Gh) (d v n:Nat) (b:Nat):Prop:=∃j p,j<n∧G.sub d v j=some (b,p)
theorem qfF (h:Core C G O w) {d v:Nat} {e e2:TypeId} {t:Ty} {xss:List (List t.T)} (hd:O d=.deep v e e2 t xss .ok) {i:Nat} {x:List t.T} (hx:xss[i]?=some x) {off len:Nat} {val:Value} (hh:HdI (G.sub d v i) t.sz x.length off len val) :
  Rep (fun b=>G.F b∨inBl G d v xss.length b) w (.list e2 t) ((x.drop off).take len) [val]:=by
 obtain ⟨h1,A,c,rfl,h2,h3,h4⟩:=hh
 have hl:((x.drop off).take len).length=len:=by rw [List.length_take,List.length_drop];omega
 refine ⟨A,c,by rw [hl],by rw [hl];exact h2,fun hn=>?_⟩
 rw [hl] at hn
 obtain ⟨b,o,k,hp,rfl⟩:=h4 (by omega)
 have hil:=(List.getElem?_eq_some_iff.1 hx).1
 refine ⟨b,o+off*t.sz,rfl,Or.inr ⟨i,(o,k),hil,hp⟩,fun j y hj=>?_⟩
 have hj':x[off+j]?=some y:=by
  rw [List.getElem?_take] at hj
  split at hj
  ·rw [List.getElem?_drop] at hj;exact hj
  ·cases hj
 rcases (h.deep hd).2 with ⟨q,_⟩|⟨b',o',arr,t',k1,k2,k3,k4,k5,k6⟩
 ·have:=(h.deep hd).1
  omega
 ·have hi:=k6.inner i x hx trivial
  rw [hp] at hi
  obtain ⟨_,_,arr2,e2,r3,r4,r5,r6,r7⟩:=hi
  obtain ⟨ce,e1,e2,e3⟩:=r5 _ y hj'
  refine ⟨ce,e1,e2.mono (fun _ h=>Or.inl h) (fun _ _=>rfl),fun i' u hu=>?_⟩
  rw [r3.cell]
  have:=e3 i' u hu
  rw [Nat.add_mul] at this
  rw [←this]
  congr 1
  omega
theorem qcZ (h:Core C G O w) {d v:Nat} {e e2:TypeId} {t:Ty} {xss:List (List t.T)} (hd:O d=.deep v e e2 t xss .ok):Core C {G with F:=fun b=>G.F b∨inBl G d v xss.length b} (upd O d (.row e (.list e2 t) xss false)) w∧Ext G O w {G with F:=fun b=>G.F b∨inBl G d v xss.length b} (upd O d (.row e (.list e2 t) xss false)) w:=by
 have hl:(O d).live=true:=by rw [hd];rfl
 have hI:∀b,inBl G d v xss.length b→Bl G (O d) d b:=fun b ⟨j,p,hj,hp⟩=>by rw [hd];exact Or.inr ⟨j,p,hj,trivial,hp⟩
 have ex:Ext G O w {G with F:=fun b=>G.F b∨inBl G d v xss.length b} (upd O d (.row e (.list e2 t) xss false)) w:=by
  refine ⟨fun _ h=>Or.inl h,fun _ _=>rfl,fun k hk=>?_⟩
  by_cases hne:k=d
  ·subst hne
   rw [qad,hd]
   exact ⟨by simp,⟨rfl,rfl⟩,fun _=>⟨rfl,rfl,rfl,fun _ _ _=>rfl⟩⟩
  ·rw [upd_ne _ _ hne]
   exact ⟨hk,Sim.refl _,fun _=>⟨rfl,rfl,rfl,fun _ _ _=>rfl⟩⟩
 refine ⟨h.step ex (fun k=>k=d) (fun k hk=>⟨upd_ne _ _ hk,rfl,rfl,rfl,rfl⟩) (fun k b hk hl' hm'=>⟨rfl,fun hF=>?_⟩) ?_ ?_ ?_ (Keeps.refl _ _ _) ?_,ex⟩
 ·rcases hF with hF|hF
  ·exact hF
  ·exact absurd rfl (h.injB k d b b hk hl' hl hm' (hI b hF))
 ·rintro k rfl
  unfold ObjR
  rw [qad]
  obtain ⟨h0,h1⟩:=h.deep hd
  refine ⟨h0,h1.imp id ?_⟩
  rintro ⟨b,o,arr,t',k1,k2,k3,k4,k5,k6⟩
  refine ⟨b,o,arr,t',k1,k2,by show o+G.cp k*1≤arr.size;omega,fun j x hj=>?_,k4,(fun hz=>by cases hz),fun _ hF=>?_⟩
  ·have hjl:=(List.getElem?_eq_some_iff.1 hj).1
   obtain ⟨_,u,q1,q2⟩:=k6.cells j j hjl rfl
   have r:=qfF h hd hj (q2 x hj)
   rw [List.drop_zero,List.take_length] at r
   refine ⟨[u],rfl,r,fun i u' hu=>?_⟩
   cases i with
   |zero=>
    cases hu
    show arr[o+(j*1+0)]?=_
    rw [show o+(j*1+0)=o+j by omega]
    exact q1
   |succ i=>cases hu
  ·rcases hF with hF|⟨j,p,hj,hp⟩
   ·exact k5 hF
   ·exact k6.ne j _ hj trivial hp rfl
 ·rintro k d' b1 b' hne rfl hl1 hl' hmk hmk'
  rw [upd_ne _ _ (Ne.symm hne)] at hl' hmk'
  rw [qad] at hmk
  exact h.injB k d' b1 b' hne hl hl' (Or.inl (hmk.plain rfl)) hmk'
 ·rintro b (hb|hb)
  ·exact Or.inl hb
  ·exact Or.inr ⟨(h.qbR hl (hI b hb)).1,(h.qbR hl (hI b hb)).2.1⟩
 ·rintro k hk rfl hn hlv
  refine ⟨hl,rfl,rfl,?_⟩
  rw [qad,hd];rfl
theorem redeep_ok (h:Core C G O w) {d d2 v:Nat} {e e2:TypeId} {t:Ty} {xss:List (List t.T)} (hd:O d=.deep v e e2 t xss .ok) (h2:O d2=.no) {val:Value} (hv:LfR G O w (.o d) val) :
  ∃G',Core C G' (upds O [(d,.dead),(d2,.deep v e e2 t xss .ok)]) w∧Ext G O w G' (upds O [(d,.dead),(d2,.deep v e e2 t xss .ok)]) w∧LfR G' (upds O [(d,.dead),(d2,.deep v e e2 t xss .ok)]) w (.o d2) val:=by
 have hne:d2≠d:=by rintro rfl;rw [hd] at h2;cases h2
 obtain ⟨k1,kx⟩:=h.kill d (by rw [hd];simp)
 have h21:upd O d .dead d2=.no:=by rw [upd_ne _ _ hne];exact h2
 show ∃G',Core C G' (upd (upd O d .dead) d2 (.deep v e e2 t xss .ok)) w∧Ext G O w G' (upd (upd O d .dead) d2 (.deep v e e2 t xss .ok)) w∧LfR G' (upd (upd O d .dead) d2 (.deep v e e2 t xss .ok)) w (.o d2) val
 have ex:Ext G (upd O d .dead) w {G with m:=upd G.m d2 (G.m d),cp:=upd G.cp d2 (G.cp d),sub:=upd G.sub d2 (G.sub d)} (upd (upd O d .dead) d2 (.deep v e e2 t xss .ok)) w:=by
  refine ⟨fun _ h=>h,fun _ _=>rfl,fun k hk=>?_⟩
  have hkn:k≠d2:=by rintro rfl;exact hk h21
  rw [upd_ne _ _ hkn]
  exact ⟨hk,Sim.refl _,fun _=>⟨upd_ne _ _ hkn,upd_ne _ _ hkn,rfl,fun u _ _=>by show upd G.sub d2 (G.sub d) k u=_;rw [upd_ne _ _ hkn]⟩⟩
 refine ⟨{G with m:=upd G.m d2 (G.m d),cp:=upd G.cp d2 (G.cp d),sub:=upd G.sub d2 (G.sub d)},?_,kx.trans ex,?_⟩
 ·refine k1.step ex (fun k=>k=d2) (fun k hk=>⟨upd_ne _ _ hk,upd_ne _ _ hk,upd_ne _ _ hk,rfl,upd_ne _ _ hk⟩) (fun _ _ _ _ _=>⟨rfl,id⟩) ?_ ?_ (fun b hb=>Or.inl hb) (Keeps.refl _ _ _) ?_
  ·rintro k rfl
   obtain ⟨o1,o2⟩:=h.deep hd
   unfold ObjR
   rw [qad]
   show xss.length≤upd G.cp k (G.cp d) k∧((upd G.cp k (G.cp d) k=0∧upd G.m k (G.m d) k=none)∨∃b o arr e,upd G.m k (G.m d) k=some (b,o)∧blk w b arr e∧o+upd G.cp k (G.cp d) k≤arr.size∧own C b∧¬G.F b∧DeepR C _ w t xss .ok (upd G.sub k (G.sub d) k v) b o arr)
   rw [qad,qad,qad]
   refine ⟨o1,o2.imp id ?_⟩
   rintro ⟨b,o,arr,t',q1,q2,q3,q4,q5,q6⟩
   exact ⟨b,o,arr,t',q1,q2,q3,q4,q5,⟨q6.cells,q6.inner,q6.ne,q6.sep⟩⟩
  ·rintro k d' b1 b' hk rfl hl hl' hm hm'
   have hB:Bl G (O d) d b1:=by
    rw [qad] at hm
    rw [hd]
    rcases hm with ⟨p,hp⟩|⟨j,p,hj,ho,hp⟩
    ·have hp:upd G.m k (G.m d) k=some (b1,p):=hp
     rw [qad] at hp
     exact Or.inl ⟨p,hp⟩
    ·have hp:upd G.sub k (G.sub d) k v j=some (b1,p):=hp
     rw [qad] at hp
     exact Or.inr ⟨j,p,hj,ho,hp⟩
   rw [upd_ne _ _ (Ne.symm hk)] at hl' hm'
   have e2:Bl G (upd O d .dead d') d' b':=hm'.old (upd_ne _ _ (Ne.symm hk)) (upd_ne _ _ (Ne.symm hk))
   have hdd:d'≠d:=by
    rintro rfl
    rw [qad] at hl';cases hl'
   rw [upd_ne _ _ hdd] at hl' e2
   exact h.injB d d' b1 b' (Ne.symm hdd) (by rw [hd];rfl) hl' hB e2
  ·rintro k _ rfl hn _
   exact absurd h21 hn
 ·refine ⟨hv.1,?_⟩
  have hb:OnRow (O d) (fun t n=>HdR G d t.sz n 0 n val):=hv.2
  rw [hd] at hb
  obtain ⟨v1,A,c,rfl,v3,v4,v5⟩:=hb
  show OnRow (upd (upd O d .dead) d2 (.deep v e e2 t xss .ok) d2) (fun t n=>HdR _ d2 t.sz n 0 n _)
  rw [qad]
  refine ⟨by omega,A,c,rfl,v3,?_,?_⟩
  ·show 0+c=upd G.cp d2 (G.cp d) d2
   rw [qad];exact v4
  ·show 0<c→∃b o,upd G.m d2 (G.m d) d2=some (b,o)∧_
   rw [qad];exact v5
theorem adoptV_ok (h:Core C G O w) {x y:Lf} {l:List (Nat×Obj)} (e:qdI O x=some (y,l)) {v:Value} (hv:LfR G O w x v):∃G',Core C G' (upds O l) w∧Ext G O w G' (upds O l) w∧LfR G' (upds O l) w y v:=by
 unfold qdI at e
 split at e
 ·rename_i d
  split at e
  ·rename_i u e' e2 t xss hd
   cases e
   obtain ⟨k1,k2⟩:=qcZ h hd
   exact ⟨_,k1,k2,LfR.mono k2 hv⟩
  ·cases e
 ·rename_i d a n
  split at e
  ·rename_i u e' e2 t xss hd
   cases e
   obtain ⟨k1,k2⟩:=qcZ h hd
   exact ⟨_,k1,k2,LfR.mono k2 hv⟩
  ·cases e
 ·rename_i d u i
  split at e
  ·rename_i u' e' e2 t xss hd
   by_cases hu:u=u'
   ·rw [if_pos hu] at e
    subst hu
    cases e
    obtain ⟨k1,k2⟩:=qcZ h hd
    refine ⟨_,k1,k2,hv.1,?_⟩
    have hb:qbu (O d) u (fun t L=>0≤i∧∃n:Nat,L i.toNat=some n∧HdI (G.sub d u i.toNat) t.sz n 0 n v):=hv.2
    rw [hd] at hb
    rcases hb with hb|⟨_,h0,n,hn,hh⟩
    ·omega
    ·have hn:(xss[i.toNat]?).map List.length=some n:=hn
     cases hx:xss[i.toNat]? with
     |none=>rw [hx] at hn;cases hn
     |some x=>
      rw [hx] at hn
      have hn:x.length=n:=Option.some.inj hn
      subst hn
      have r:=qfF h hd hx hh
      rw [List.drop_zero,List.take_length] at r
      have hrd:rd (.list e2 t) xss i=x:=by
       unfold rd
       rw [List.getD_eq_getElem?_getD,hx];rfl
      show Rep _ w (.list e2 t) (rd (.list e2 t) xss i) [v]
      rw [hrd]
      exact r
   ·rw [if_neg hu] at e;cases e
  ·cases e
 ·rename_i d u i a n
  split at e
  ·rename_i u' e' e2 t xss hd
   by_cases hu:u=u'
   ·rw [if_pos hu] at e
    subst hu
    cases e
    obtain ⟨k1,k2⟩:=qcZ h hd
    refine ⟨_,k1,k2,hv.1,?_⟩
    have hb:qbu (O d) u (fun t L=>0≤i∧∃m:Nat,L i.toNat=some m∧HdI (G.sub d u i.toNat) t.sz m a n v):=hv.2
    rw [hd] at hb
    rcases hb with hb|⟨_,h0,m,hn,hh⟩
    ·omega
    ·have hn:(xss[i.toNat]?).map List.length=some m:=hn
     cases hx:xss[i.toNat]? with
     |none=>rw [hx] at hn;cases hn
     |some x=>
      rw [hx] at hn
      have hn:x.length=m:=Option.some.inj hn
      subst hn
      have r:=qfF h hd hx hh
      have hrd:rd (.list e2 t) xss i=x:=by
       unfold rd
       rw [List.getD_eq_getElem?_getD,hx];rfl
      show Rep _ w (.list e2 t) (((rd (.list e2 t) xss i:List t.T).drop a).take n) [v]
      rw [hrd]
      exact r
   ·rw [if_neg hu] at e;cases e
  ·cases e
 ·cases e
theorem qeB:∀(xs:List Lf) {G:Gh} {O:Nat→Obj} {vs:List Value},Core C G O w→All2 (LfR G O w) xs vs→∃G',Core C G' (upds O (qca xs O).2) w∧Ext G O w G' (upds O (qca xs O).2) w∧All2 (LfR G' (upds O (qca xs O).2) w) (qca xs O).1 vs
 |[],G,O,vs,h,hv=>⟨G,h,Ext.refl _ _ _,hv⟩
 |x::xs,G,O,[],h,hv=>hv.elim
 |x::xs,G,O,v::vs,h,hv=>by
  unfold qca
  split
  ·rename_i y l e
   obtain ⟨G1,a1,a2,a3⟩:=adoptV_ok h e hv.1
   obtain ⟨G2,b1,b2,b3⟩:=qeB xs (vs:=vs) a1 (hv.2.mono fun _ _=>LfR.mono a2)
   show ∃G',Core C G' (upds O (l++_)) w∧Ext G O w G' (upds O (l++_)) w∧All2 (LfR G' (upds O (l++_)) w) (y::_) (v::vs)
   rw [qaZ]
   exact ⟨G2,b1,a2.trans b2,LfR.mono b2 a3,b3⟩
  ·obtain ⟨G2,b1,b2,b3⟩:=qeB xs (vs:=vs) h hv.2
   exact ⟨G2,b1,b2,LfR.mono b2 hv.1,b3⟩
theorem pkP_mk {b o cp:Nat} (hc:0<cp):pkP (some (b,o)) cp=some (b,o,cp):=by
 show (if cp=0 then none else some (b,o,cp))=_
 rw [if_neg (by omega)]
theorem pkP_zero {m:Option (Nat×Nat)}:pkP m 0=none:=by
 cases m with
 |none=>rfl
 |some q=>rfl
theorem fwd_oh (h:Core C G O w) {d d' v n:Nat} {i:Int} {t:Ty} (hd:O d=.fwd d' v i t n) {a:Value} (ha:LfR G O w (.o d) a):LfR G O w (.oh d' v i) a:=by
 refine ⟨ha.1,?_⟩
 have ho:=h.ob d
 unfold ObjR at ho
 rw [hd] at ho
 have ho:qbu (O d') v (fun t' L=>t'=t∧0≤i∧L i.toNat=some n∧G.sub d' v i.toNat=pkP (G.m d) (G.cp d)):=ho
 have hb:OnRow (O d) (fun t n=>HdR G d t.sz n 0 n a):=ha.2
 rw [hd] at hb
 have hb:HdR G d t.sz n 0 n a:=hb
 obtain ⟨_,A,c,rfl,h2,h3,h4⟩:=hb
 show qbu (O d') v (fun t L=>0≤i∧∃m:Nat,L i.toNat=some m∧HdI (G.sub d' v i.toNat) t.sz m 0 m (.slice A n c))
 have hdd:O d'=.dead∨O d'≠.dead:=Classical.em _
 refine qbu.mono (hdd.imp id fun q=>⟨Sim.refl _,q,fun _ _ t' L q=>?_⟩) ho
 obtain ⟨rfl,g0,gn,gs⟩:=q
 refine ⟨g0,n,gn,?_⟩
 rw [gs]
 refine ⟨by omega,A,c,rfl,h2,?_,fun hc=>?_⟩
 ·rcases Nat.eq_zero_or_pos c with hc|hc
  ·rw [←h3,hc,pkP_zero];rfl
  ·obtain ⟨b,o,hm,_⟩:=h4 hc
   rw [←h3,hm,pkP_mk (by omega)];rfl
 ·obtain ⟨b,o,hm,hA⟩:=h4 hc
  exact ⟨b,o,G.cp d,by rw [hm,pkP_mk (by omega)],hA⟩
theorem adoptC_ok (h:Core C G O w) {s:CSh} {x y:Cm} {l:List (Nat×Obj)} (e:qfY O s x=some (y,l)) {v:Value} (hv:CmR G O w x v):∃G',Core C G' (upds O l) w∧Ext G O w G' (upds O l) w∧CmR G' (upds O l) w y v:=by
 unfold qfY at e
 split at e
 ·rename_i t x
  split at e
  ·rename_i y l' e1
   cases e
   exact adoptV_ok h e1 hv
  ·cases e
 ·rename_i t xs
  cases e
  obtain ⟨cs,rfl,hv⟩:=hv
  obtain ⟨G',k1,k2,k3⟩:=qeB xs h hv
  exact ⟨G',k1,k2,cs,rfl,k3⟩
 ·rename_i d0 d
  split at e
  ·rename_i d' u i t n hd
   cases e
   exact ⟨G,h,Ext.refl _ _ _,fwd_oh h hd hv⟩
  ·cases e
 ·cases e
theorem adopt_ok {gn:List Nat} (h:Core C G O w) {s:CSh} {x y:Cm} {l:List (Nat×Obj)} (e:adopt gn O s x=some (y,l)) {v:Value} (hv:CmR G O w x v):∃G',Core C G' (upds O l) w∧Ext G O w G' (upds O l) w∧CmR G' (upds O l) w y v:=by
 unfold adopt at e
 split at e
 ·rename_i d0 d
  cases hg:gn.contains d with
  |false=>rw [hg] at e;cases e
  |true=>
   rw [hg] at e
   simp only [cond_true] at e
   split at e
   ·rename_i e' t xs hd h2
    cases e
    have hv':LfR G O w (.o d) v:=hv
    have hb:OnRow (O d) (fun t n=>HdR G d t.sz n 0 n v):=hv'.2
    rw [hd] at hb
    have hb:HdR G d t.sz xs.length 0 xs.length v:=hb
    have k:=trunc_ok h hd h2 (len:=xs.length) (v:=v) ⟨hv'.1,by show OnRow (O d) (fun t n=>HdR G d t.sz n 0 xs.length v);rw [hd];exact hb⟩
    rw [List.take_length] at k
    exact k
   ·rename_i u e' e2 t xss hd h2
    cases e
    exact redeep_ok h hd h2 hv
   ·cases e
 ·rename_i d0 d len
  split at e
  ·rename_i e' t xs hd h2
   cases e
   exact trunc_ok h hd h2 hv
  ·cases e
 ·exact adoptC_ok h e hv
theorem normC_ok:∀(ss:List CSh) (cms:List Cm) {G:Gh} {O:Nat→Obj} {vs:List Value},Core C G O w→All2 (CmR G O w) cms vs→∃G',Core C G' (upds O (normC ss cms O).2) w∧Ext G O w G' (upds O (normC ss cms O).2) w∧All2 (CmR G' (upds O (normC ss cms O).2) w) (normC ss cms O).1 vs
 |[],cms,G,O,vs,h,hv=>⟨G,by cases cms<;>exact h,by cases cms<;>exact Ext.refl _ _ _,by cases cms<;>exact hv⟩
 |s::ss,[],G,O,vs,h,hv=>⟨G,h,Ext.refl _ _ _,hv⟩
 |s::ss,x::xs,G,O,[],h,hv=>hv.elim
 |s::ss,x::xs,G,O,v::vs,h,hv=>by
  unfold normC
  split
  ·rename_i y l e
   obtain ⟨G1,a1,a2,a3⟩:=adoptC_ok h e hv.1
   obtain ⟨G2,b1,b2,b3⟩:=normC_ok ss xs (G:=G1) (vs:=vs) a1 (hv.2.mono fun _ _=>CmR.mono a2)
   show ∃G',Core C G' (upds O (l++_)) w∧Ext G O w G' (upds O (l++_)) w∧All2 (CmR G' (upds O (l++_)) w) (y::_) (v::vs)
   rw [qaZ]
   exact ⟨G2,b1,a2.trans b2,CmR.mono b2 a3,b3⟩
  ·obtain ⟨G2,b1,b2,b3⟩:=normC_ok ss xs (G:=G) (vs:=vs) h hv.2
   exact ⟨G2,b1,b2,CmR.mono b2 hv.1,b3⟩
theorem normW_ok (gn:List Nat):∀(ss:List CSh) (cms:List Cm) {G:Gh} {O:Nat→Obj} {vs:List Value},Core C G O w→All2 (CmR G O w) cms vs→∃G',Core C G' (upds O (normW gn ss cms O).2) w∧Ext G O w G' (upds O (normW gn ss cms O).2) w∧All2 (CmR G' (upds O (normW gn ss cms O).2) w) (normW gn ss cms O).1 vs
 |[],cms,G,O,vs,h,hv=>⟨G,h,Ext.refl _ _ _,hv⟩
 |_::_,[],G,O,vs,h,hv=>⟨G,h,Ext.refl _ _ _,hv⟩
 |s::ss,x::xs,G,O,[],h,hv=>hv.elim
 |s::ss,x::xs,G,O,v::vs,h,hv=>by
  unfold normW
  split
  ·rename_i y l e
   obtain ⟨G1,a1,a2,a3⟩:=adopt_ok h e hv.1
   obtain ⟨G2,b1,b2,b3⟩:=normW_ok gn ss xs (G:=G1) (vs:=vs) a1 (hv.2.mono fun _ _=>CmR.mono a2)
   show ∃G',Core C G' (upds O (l++_)) w∧Ext G O w G' (upds O (l++_)) w∧All2 (CmR G' (upds O (l++_)) w) (y::_) (v::vs)
   rw [qaZ]
   exact ⟨G2,b1,a2.trans b2,CmR.mono b2 a3,b3⟩
  ·obtain ⟨G2,b1,b2,b3⟩:=normW_ok gn ss xs (G:=G) (vs:=vs) h hv.2
   exact ⟨G2,b1,b2,CmR.mono b2 hv.1,b3⟩
theorem norm_ok (gn:List Nat) (ss:List CSh) (cms:List Cm) {G:Gh} {O:Nat→Obj} {vs:List Value} (h:Core C G O w) (hv:All2 (CmR G O w) cms vs):∃G',Core C G' (norm gn ss cms O).2 w∧Ext G O w G' (norm gn ss cms O).2 w∧All2 (CmR G' (norm gn ss cms O).2 w) (norm gn ss cms O).1 vs:=normW_ok gn ss cms h hv
theorem All2.setL {α β:Type} {R:α→β→Prop} {x:α} {y:β}:∀{l:List α} {m:List β} {i:Nat},All2 R l m→m[i]?=some y→R x y→All2 R (l.set i x) m
 |[],[],i,h,_,_=>by simpa using h
 |a::l,b::m,0,h,hy,hr=>by
  simp only [List.getElem?_cons_zero,Option.some.injEq] at hy
  subst hy
  exact ⟨hr,h.2⟩
 |a::l,b::m,i+1,h,hy,hr=>⟨h.1,All2.setL h.2 (by simpa using hy) hr⟩
 |[],_::_,_,h,_,_=>h.elim
 |_::_,[],_,h,_,_=>h.elim
theorem normB1_go (h:Core C G O w) {d i d2 d3:Nat} {e:TypeId} {cs:List Lf} (hd:O d=.box e cs) (hi:cs[i]?=some (.o d2)) {x:Obj} (hd2:O d2≠.no) (hx:∀e cs,O d2≠.box e cs) (h3:O d3=.no)
  (go:∀v,LfR G O w (.o d2) v→∃G',Core C G' (upds O [(d2,.dead),(d3,x)]) w∧Ext G O w G' (upds O [(d2,.dead),(d3,x)]) w∧LfR G' (upds O [(d2,.dead),(d3,x)]) w (.o d3) v) :
  ∃G',Core C G' (upds O [(d2,.dead),(d3,x),(d,.box e (cs.set i (.o d3)))]) w∧Ext G O w G' (upds O [(d2,.dead),(d3,x),(d,.box e (cs.set i (.o d3)))]) w:=by
 have hb:=h.ob d
 unfold ObjR at hb
 rw [hd] at hb
 obtain ⟨b,arr,b1,b2,b3,b4,b5⟩:=hb
 have hil:i<cs.length:=(List.getElem?_eq_some_iff.1 hi).1
 have hial:i<arr.toList.length:=by rw [←b3.length];exact hil
 obtain ⟨v,hv⟩:∃v,arr.toList[i]?=some v:=⟨_,List.getElem?_eq_getElem hial⟩
 have hvl:LfR G O w (.o d2) v:=b3.get i hi hv
 obtain ⟨G1,k1,k2,k3⟩:=go v hvl
 generalize hO1:upds O [(d2,.dead),(d3,x)]=O1 at k1 k2 k3
 have n1:d≠d2:=by rintro rfl;exact hx _ _ hd
 have n2:d≠d3:=by rintro e0;rw [←e0,hd] at h3;cases h3
 have hd1:O1 d=.box e cs:=by
  rw [←hO1]
  show upd (upd O d2 .dead) (d3) _ d=_
  rw [upd_ne _ _ n2,upd_ne _ _ n1];exact hd
 have goal2:upds O [(d2,.dead),(d3,x),(d,.box e (cs.set i (.o (d3))))]=upd O1 d (.box e (cs.set i (.o (d3)))):=by
  rw [←hO1];rfl
 rw [goal2]
 have hl1:(O1 d).live=true:=by rw [hd1];rfl
 have ex:Ext G1 O1 w G1 (upd O1 d (.box e (cs.set i (.o (d3))))) w:=by
  refine ⟨fun _ h=>h,fun _ _=>rfl,fun k hk=>?_⟩
  by_cases hne:k=d
  ·subst hne
   rw [qad,hd1]
   exact ⟨by simp,trivial,fun _=>⟨rfl,rfl,rfl,fun _ _ _=>rfl⟩⟩
  ·rw [upd_ne _ _ hne]
   exact ⟨hk,Sim.refl _,fun _=>⟨rfl,rfl,rfl,fun _ _ _=>rfl⟩⟩
 refine ⟨G1,k1.step ex (fun k=>k=d) (fun k hk=>⟨upd_ne _ _ hk,rfl,rfl,rfl,rfl⟩) (fun _ _ _ _ _=>⟨rfl,id⟩) ?_ ?_ (fun b hb=>Or.inl hb) (Keeps.refl _ _ _) ?_,k2.trans ex⟩
 ·rintro k rfl
  have hb1:=k1.ob k
  unfold ObjR at hb1 ⊢
  rw [qad]
  rw [hd1] at hb1
  obtain ⟨b',arr',c1,c2,c3,c4,c5⟩:=hb1
  have hmm:G1.m k=G.m k:=((k2.sim k (by rw [hd];simp)).2.2 (by rw [hd1];simp)).1
  have hbb:b'=b:=by
   rw [hmm,b1] at c1
   cases c1;rfl
  subst hbb
  have harr:arr'=arr:=by
   have e1:w.heap[b']?=some (.cells arr' e (0,0)):=c2
   have e2:w.heap[b']?=some (.cells arr e (0,0)):=b2
   rw [e1] at e2
   cases e2;rfl
  subst harr
  refine ⟨b',arr',c1,c2,?_,c4,c5⟩
  have c3':=c3.mono fun _ _=>LfR.mono ex
  have k3':=LfR.mono ex k3
  refine All2.setL c3' hv k3'
 ·rintro k d' b1' b2' hne rfl hl hl' hm hm'
  rw [qad] at hm
  rw [upd_ne _ _ (Ne.symm hne)] at hl' hm'
  refine k1.injB k d' b1' b2' hne hl1 hl' ?_ hm'
  rw [hd1]
  exact Or.inl (hm.plain rfl)
 ·rintro k hk rfl hn hlv
  refine ⟨hl1,rfl,rfl,?_⟩
  rw [qad,hd1]
  show (cs.set i _).length=cs.length
  rw [List.length_set]
theorem normB1_ok (gn:List Nat) (d i:Nat) (h:Core C G O w):∃G',Core C G' (normB1 gn d i O) w∧Ext G O w G' (normB1 gn d i O) w:=by
 have triv:∃G',Core C G' O w∧Ext G O w G' O w:=⟨G,h,Ext.refl _ _ _⟩
 unfold normB1
 split
 ·rename_i e cs hd
  split
  ·rename_i d2 hi
   cases hg:gn.contains d2 with
   |false=>exact triv
   |true=>
    simp only [cond_true]
    split
    ·rename_i e2 t xs hd2 h3
     refine normB1_go h hd hi (by rw [hd2];simp) (fun _ _ he=>by rw [hd2] at he;cases he) h3 (fun v hvl=>?_)
     have hk:OnRow (O d2) (fun t n=>HdR G d2 t.sz n 0 n v):=hvl.2
     rw [hd2] at hk
     have hk:HdR G d2 t.sz xs.length 0 xs.length v:=hk
     have k:=trunc_ok h hd2 h3 (len:=xs.length) (v:=v) ⟨hvl.1,by show OnRow (O d2) (fun t n=>HdR G d2 t.sz n 0 xs.length v);rw [hd2];exact hk⟩
     rw [List.take_length] at k
     exact k
    ·rename_i u e1 e2 t xss hd2 h3
     exact normB1_go h hd hi (by rw [hd2];simp) (fun _ _ he=>by rw [hd2] at he;cases he) h3 (fun v hvl=>redeep_ok h hd2 h3 hvl)
    ·exact triv
  ·exact triv
 ·exact triv
theorem qfA (gn:List Nat) (d:Nat):∀(ss:List LSh) (i:Nat) {G:Gh} {O:Nat→Obj},Core C G O w→∃G',Core C G' (normBi gn d ss i O) w∧Ext G O w G' (normBi gn d ss i O) w
 |[],i,G,O,h=>⟨G,h,Ext.refl _ _ _⟩
 |s::ss,i,G,O,h=>by
  cases s with
  |row d'=>
   obtain ⟨G1,a1,a2⟩:=normB1_ok gn d i h
   obtain ⟨G2,b1,b2⟩:=qfA gn d ss (i+1) a1
   exact ⟨G2,b1,a2.trans b2⟩
  |_=>exact qfA gn d ss (i+1) h
theorem normB_ok (gn:List Nat):∀(l:List (Nat×OSh)) {G:Gh} {O:Nat→Obj},Core C G O w→∃G',Core C G' (normB gn l O) w∧Ext G O w G' (normB gn l O) w
 |[],G,O,h=>⟨G,h,Ext.refl _ _ _⟩
 |(d,s)::l,G,O,h=>by
  cases s with
  |box e ss=>
   obtain ⟨G1,a1,a2⟩:=qfA gn d ss 0 h
   obtain ⟨G2,b1,b2⟩:=normB_ok gn l a1
   exact ⟨G2,b1,a2.trans b2⟩
  |_=>exact normB_ok gn l h
theorem normA_ok (gn:List Nat) (ss:List CSh) (os:List (Nat×OSh)) (cms:List Cm) {vs:List Value} (h:Core C G O w) (hv:All2 (CmR G O w) cms vs):∃G',Core C G' (normB gn os (norm gn ss cms O).2) w∧All2 (CmR G' (normB gn os (norm gn ss cms O).2) w) (norm gn ss cms O).1 vs:=by
 obtain ⟨G1,a1,_,a3⟩:=norm_ok gn ss cms h hv
 obtain ⟨G2,b1,b2⟩:=normB_ok gn os a1
 exact ⟨G2,b1,a3.mono fun _ _=>CmR.mono b2⟩
end
end Go.Proofs.YtfobeapcmgjhbaaGreatDoor.VE
