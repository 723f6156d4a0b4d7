/- An evaluator over the model's code that reads slices as lists (definitions; no statement is proved here). -/
import Derived.Calls
import Derived.Below
import Derived.KernelRfl
import Derived.RowKit
import Derived.Lib.Bytealg
namespace Go.Proofs.YtamgbcgfjhpedaaDoor.VE
open Go Go.RowKit

/-- Codes of the types of values. -/
inductive Ty where
  | int (k : IntKind)
  | bool
  | str
  | list (e : TypeId) (t : Ty)
  | pair (a b : Ty)
  | unit
  | fn (cs : List Nat)
  deriving DecidableEq

abbrev Ty.T : Ty → Type
  | .int _ => Int
  | .bool => Bool
  | .str => ByteArray
  | .list _ t => List t.T
  | .pair a b => a.T × b.T
  | .unit => Unit
  | .fn _ => Nat

def Ty.dflt : (t : Ty) → t.T
  | .int _ => (0 : Int)
  | .bool => false
  | .str => ByteArray.empty
  | .list _ _ => []
  | .pair a b => (a.dflt, b.dflt)
  | .unit => ()
  | .fn _ => (0 : Nat)

def Ty.sz : Ty → Nat
  | .pair a b => a.sz + b.sz
  | .unit => 0
  | _ => 1

/-- A typed value. -/
inductive TV where
  | mk (t : Ty) (x : t.T)
  | nil

/-- What one cell holds. u: unknown. q: a bool that is n unless p holds (a slice held against nil). o: a header of a whole row; os: of a part of it. p: a pointer into an object's cells. e: a pointer to a cell of a value that stays. oe: to an element's cell of an object's row. -/
inductive Lf where
  | u
  | v (t : Ty) (x : t.T)
  | bl (b : Bool)
  | b (p : Prop) (i : Decidable p)
  | nb (p : Prop) (i : Decidable p)
  | q (n : Bool) (p : Prop) (i : Decidable p)
  | nils
  | np
  | o (d : Nat)
  | os (d off len : Nat)
  | p (d c : Nat)
  | e (t : Ty) (x : t.T) (c : Nat)
  | oe (d : Nat) (i : Int) (c : Nat)
  | fn0 (f : FuncId)
  | fn (f : FuncId) (d : Nat)
  | m (d : Nat)
  | oh (d : Nat) (i : Int) (n : Nat)
  | oi (d : Nat) (i j : Int) (c : Nat)
  | ap (d : Nat)

/-- A component: unknown, one cell's, a struct's. -/
inductive Cm where
  | u
  | l (x : Lf)
  | a (xs : List Lf)

inductive SV where
  | c (x : Cm)
  | t (xs : List Cm)

abbrev mpT : Ty := .list 0 (.pair (.int .i64) (.int .i64))
abbrev SV.u : SV := .c .u
abbrev SV.lf (x : Lf) : SV := .c (.l x)

inductive Obj where
  | no
  | dead
  | box (e : TypeId) (cs : List Lf)
  | row (e : TypeId) (t : Ty) (xs : List t.T) (fz : Bool)
  | caps (cs : List Cm)
  | mp (es : List (Int × Int))
  | deep (e e2 : TypeId) (t : Ty) (xss : List (List t.T))

structure St where
  t : Nat → SV
  o : Nat → Obj

def St.new : St := ⟨fun _ => .u, fun _ => .no⟩

/-- A function's value at one place. -/
def upd {α : Type} (f : Nat → α) (d : Nat) (v : α) : Nat → α := fun k => bif Nat.beq k d then v else f k
def upds {α : Type} (f : Nat → α) : List (Nat × α) → Nat → α
  | [] => f
  | (d, v) :: l => upds (upd f d v) l

def wr (k : IntKind) (n : Int) : Int := match k with
  | .i64 => wrap64 n
  | k => k.wrap n
def rd (t : Ty) (xs : List t.T) (i : Int) : t.T := xs.getD i.toNat t.dflt
def bt (s : ByteArray) (i : Int) : Int := if h : i.toNat < s.size then ((s[i.toNat]'h).toNat : Int) else 0
/-- Shifts and bits of k. -/
def shrI (k : IntKind) (a b : Int) : Int := a.fdiv (2 ^ (min b.toNat k.bits))
def shlI (k : IntKind) (a b : Int) : Int := wr k (a * 2 ^ (min b.toNat k.bits))
def andI (k : IntKind) (a b : Int) : Int := wr k ((BitVec.ofInt k.bits a &&& BitVec.ofInt k.bits b).toNat : Int)
def mx (a b : Int) : Int := if a < b then b else a
def mn (a b : Int) : Int := if b < a then b else a

/-- A map's entries, in the order of their making. -/
def mget : List (Int × Int) → Int → Option Int
  | [], _ => none
  | (k, v) :: l, x => if k = x then some v else mget l x
def mput : List (Int × Int) → Int → Int → List (Int × Int)
  | [], x, y => [(x, y)]
  | (k, v) :: l, x, y => if k = x then (x, y) :: l else (k, v) :: mput l x y

/-- What a row's arguments hold; B: the bytes of a type. -/
def OkV (B : TypeId → Nat) : (t : Ty) → t.T → Prop
  | .int k, x => k.min ≤ (x : Int) ∧ (x : Int) ≤ k.max
  | .bool, _ => True
  | .str, x => ByteArray.size x ≤ 140737488351232
  | .list e t, xs => List.length xs * B e ≤ 140737488351232 ∧ ∀ x ∈ (xs : List t.T), OkV B t x
  | .pair a b, x => OkV B a x.1 ∧ OkV B b x.2
  | .unit, _ => True
  | .fn _, _ => True
theorem OkV.i64 {B : TypeId → Nat} {x : Int} (h : OkV B (.int .i64) x) : -9223372036854775808 ≤ x ∧ x ≤ 9223372036854775807 := h
/-! ### types of the program -/
def tyPairs : List Ty → Ty
  | [] => .unit
  | [t] => t
  | t :: ts => .pair t (tyPairs ts)
def tyOf (P : Program) : Nat → TypeId → Option Ty
  | 0, _ => none
  | n + 1, t => match P.underlying t with
    | some .bool => some .bool
    | some (.int k) => some (.int k)
    | some .string => some .str
    | some (.slice e) => (tyOf P n e).map (.list e)
    | some (.struct fs) => (fs.toList.mapM fun f => tyOf P n f.type).map tyPairs
    | some (.array k e) => if k ≤ 8 then (tyOf P n e).map fun t => tyPairs (List.replicate k t) else none
    | _ => none
abbrev tyIn (P : Program) (t : TypeId) : Option Ty := tyOf P 12 t
def aggO (P : Program) (t : TypeId) : Option Bool := match P.underlying t with
  | some (.struct _) => some true
  | some (.array _ _) => some true
  | some _ => some false
  | none => none

/-! ### values and cells -/
def leafOf : Value → Option Lf
  | .bool b => some (.bl b)
  | .int k n => some (.v (.int k) n)
  | .string s => some (.v .str s)
  | .slice none 0 0 => some .nils
  | .pointer none => some .np
  | .func (.func f) ⟨[]⟩ ⟨[]⟩ => some (.fn0 f)
  | .agg _ => none
  | .tuple _ => none
  | _ => some .u
def leavesOf : List Value → Option (List Lf)
  | [] => some []
  | v :: l => match leafOf v, leavesOf l with
    | some x, some xs => some (x :: xs)
    | _, _ => none
def ofValue : Value → SV
  | .agg cs => match leavesOf cs.toList with
    | some xs => .c (.a xs)
    | none => .u
  | v => match leafOf v with
    | some x => .lf x
    | none => .u
def ev (st : St) : Operand → SV
  | .tmp t => st.t t
  | .const v => ofValue v
  | .global _ => .u
  | .func f => .lf (.fn0 f)
def SV.cells : SV → Option (List Lf)
  | .c (.l x) => some [x]
  | .c (.a xs) => some xs
  | _ => none
def SV.leaf : SV → Option Lf
  | .c (.l x) => some x
  | _ => none
def SV.cm : SV → Cm
  | .c x => x
  | .t _ => .u
/-- The cells from c on as a value of a type. -/
def cutSV (P : Program) (t : TypeId) (ls : List Lf) (c : Nat) : Option SV :=
  let l := (ls.drop c).take (P.cellsOf t)
  if l.length = P.cellsOf t then
    match aggO P t, l with
    | some true, l => some (.c (.a l))
    | some false, [x] => some (.c (.l x))
    | _, _ => none
  else none
def leaves : (t : Ty) → t.T → List Lf
  | .int k, x => [.v (.int k) x]
  | .bool, x => [.v .bool x]
  | .str, x => [.v .str x]
  | .list e t, x => [.v (.list e t) x]
  | .pair a b, x => leaves a x.1 ++ leaves b x.2
  | .unit, _ => []
  | .fn cs, x => [.v (.fn cs) x]

/-- A leaf as a value that stays; the objects that must stay with it. -/
def pureL (O : Nat → Obj) : Lf → Option (TV × List Nat)
  | .v t x => some (.mk t x, [])
  | .bl b => some (.mk .bool b, [])
  | .b p i => some (.mk .bool (@decide p i), [])
  | .nb p i => some (.mk .bool (!@decide p i), [])
  | .nils => some (.nil, [])
  | .o d => match O d with
    | .row e t xs _ => some (.mk (.list e t) xs, [d])
    | _ => none
  | .os d off len => match O d with
    | .row e t xs _ => some (.mk (.list e t) ((xs.drop off).take len), [d])
    | _ => none
  | _ => none
def pureLs (O : Nat → Obj) : List Lf → Option (List TV × List Nat)
  | [] => some ([], [])
  | x :: xs => match pureL O x, pureLs O xs with
    | some (v, ds), some (vs, es) => some (v :: vs, ds ++ es)
    | _, _ => none
def ofTV (t : Ty) : TV → Option t.T
  | .mk t' x => if h : t' = t then some (h ▸ x) else none
  | .nil => match t with
    | .list _ _ => some []
    | _ => none
def ofTVs : (t : Ty) → List TV → Option (t.T × List TV)
  | .unit, l => some ((), l)
  | .pair a b, l => match ofTVs a l with
    | some (x, l1) => match ofTVs b l1 with
      | some (y, l2) => some ((x, y), l2)
      | none => none
    | none => none
  | t, v :: l => match ofTV t v with
    | some x => some (x, l)
    | none => none
  | _, [] => none
/-- The cells as one value of a type. -/
def packs (O : Nat → Obj) (t : Ty) (ls : List Lf) : Option (t.T × List Nat) := match pureLs O ls with
  | some (vs, ds) => match ofTVs t vs with
    | some (x, []) => some (x, ds)
    | _ => none
  | none => none
def splice (ls : List Lf) (c : Nat) (new : List Lf) : List Lf := ls.take c ++ new ++ ls.drop (c + new.length)
/-- The objects, the given ones standing. -/
def freeze (O : Nat → Obj) : List Nat → Option (List (Nat × Obj))
  | [] => some []
  | d :: ds => match O d, freeze O ds with
    | .row e t xs _, some l => some ((d, .row e t xs true) :: l)
    | _, _ => none

/-! ### one operation -/
structure Chk where
  p : Prop
  i : Decidable p
def ck (p : Prop) [i : Decidable p] : Chk := ⟨p, i⟩
def chks {R : Type} : List Chk → Option R → Option R
  | [], k => k
  | c :: cs, k => @ite _ c.p c.i (chks cs k) none
/-- What an operation does: the slot's value; the objects that it looks at; those that it leaves turned. -/
structure Eff where
  sv : SV
  rd : List Nat
  wr : List (Nat × Obj)
def splitB {R : Type} : Option Lf → (Bool → Option R) → Option R
  | some (.bl true), k => k true
  | some (.bl false), k => k false
  | some (.b p i), k => @ite _ p i (k true) (k false)
  | some (.nb p i), k => @ite _ p i (k false) (k true)
  | some (.v .bool x), k => if (x : Bool) = true then k true else k false
  | _, _ => none
abbrev OE := Option (List Chk × Eff)
def val (x : Lf) : OE := some ([], ⟨.lf x, [], []⟩)

def boolOf : Option Lf → Option Bool
  | some (.v .bool x) => some x
  | some (.bl b) => some b
  | some (.b p i) => some (@decide p i)
  | some (.nb p i) => some (!@decide p i)
  | _ => none
def binB (op : BinOp) (x y : Option Bool) : OE := match op, x, y with
  | .eql, some a, some b => val (.b (a = b) inferInstance)
  | .neq, some a, some b => val (.nb (a = b) inferInstance)
  | _, _, _ => none
def binL (op : BinOp) (x y : Option Lf) : OE := match x, y with
  | some (.v (.int k) a), some (.v (.int k') b) =>
    match op with
    | .shr => some ([ck ((0 : Int) ≤ b)], ⟨.lf (.v (.int k) (shrI k a b)), [], []⟩)
    | .shl => some ([ck ((0 : Int) ≤ b)], ⟨.lf (.v (.int k) (shlI k a b)), [], []⟩)
    | op => if k = k' then
      match op with
      | .and => val (.v (.int k) (andI k a b))
      | .add => val (.v (.int k) (wr k (a + b)))
      | .sub => val (.v (.int k) (wr k (a - b)))
      | .mul => val (.v (.int k) (wr k (a * b)))
      | .quo => some ([ck (b ≠ 0)], ⟨.lf (.v (.int k) (wr k (Int.tdiv a b))), [], []⟩)
      | .rem => some ([ck (b ≠ 0)], ⟨.lf (.v (.int k) (Int.tmod a b)), [], []⟩)
      | .eql => val (.b (a = b) inferInstance)
      | .neq => val (.nb (a = b) inferInstance)
      | .lss => val (.b (a < b) inferInstance)
      | .leq => val (.b (a ≤ b) inferInstance)
      | .gtr => val (.b (b < a) inferInstance)
      | .geq => val (.b (b ≤ a) inferInstance)
      | _ => none
    else none
  | some (.v .str a), some (.v .str b) =>
    match op with
    | .eql => val (.b (a = b) inferInstance)
    | .neq => val (.nb (a = b) inferInstance)
    | .add => some ([ck (((a : ByteArray).size : Int) + ((b : ByteArray).size : Int) ≤ 9223372036854775807)], ⟨.lf (.v .str ((a : ByteArray) ++ (b : ByteArray))), [], []⟩)
    | _ => none
  | some (.v (.list _ _) xs), some .nils =>
    match op with
    | .eql => val (.q false (List.length xs = 0) inferInstance)
    | .neq => val (.q true (List.length xs = 0) inferInstance)
    | _ => none
  | some .nils, some .nils =>
    match op with
    | .eql => val (.bl true)
    | .neq => val (.bl false)
    | _ => none
  | x, y => binB op (boolOf x) (boolOf y)
/-- By the operands' type, where it matters. -/
def binP (P : Program) (op : BinOp) (t : TypeId) (x y : Option Lf) : OE := match y with
  | some (.v (.int k) b) => binL op x (some (.v (.int k) b))
  | some (.v .str b) => binL op x (some (.v .str b))
  | some .nils => match P.underlying t with
    | some (.slice _) => binL op x (some .nils)
    | _ => none
  | y => match P.underlying t with
    | some .bool => binB op (boolOf x) (boolOf y)
    | _ => none
/-- Two fields' equality; two structs' of such fields. -/
def eqF (P : Program) (f : Field) (x y : Lf) : Option Chk := match P.underlying f.type, x, y with
  | some (.int _), .v (.int k) a, .v (.int k') b => if k = k' then some (ck ((a : Int) = b)) else none
  | some .string, .v .str a, .v .str b => some (ck ((a : ByteArray) = b))
  | some .bool, x, y => match boolOf (some x), boolOf (some y) with
    | some a, some b => some (ck (a = b))
    | _, _ => none
  | _, _, _ => none
def eqLs (P : Program) : List Field → List Lf → List Lf → Option Chk
  | [f], [x], [y] => eqF P f x y
  | f :: fs, x :: xs, y :: ys => match eqF P f x y, eqLs P fs xs ys with
    | some c, some d => some ⟨c.p ∧ d.p, @instDecidableAnd _ _ c.i d.i⟩
    | _, _ => none
  | _, _, _ => none
def flatFs (P : Program) : Nat → List Field → Bool
  | _, [] => true
  | i, f :: fs => (f.name != "_") && Nat.beq f.offset i && (match P.underlying f.type with
    | some .bool => true
    | some (.int _) => true
    | some .string => true
    | _ => false) && flatFs P (i + 1) fs
def binA (P : Program) (op : BinOp) (t : TypeId) (fs : List Field) (x y : SV) : OE := match x, y with
  | .c (.a xs), .c (.a ys) => if flatFs P 0 fs = true ∧ P.stoodInHeld t = false then match eqLs P fs xs ys with
      | some c => match op with
        | .eql => val (.b c.p c.i)
        | .neq => val (.nb c.p c.i)
        | _ => none
      | none => none
    else none
  | _, _ => none
def notL : Lf → OE
  | .bl b => val (.bl (!b))
  | .b p i => val (.nb p i)
  | .nb p i => val (.b p i)
  | .v .bool x => val (.nb (x = true) inferInstance)
  | _ => none
def unL (op : UnOp) (x : Option Lf) : OE := match op, x with
  | .not, some x => notL x
  | .neg, some (.v (.int k) a) => val (.v (.int k) (wr k (0 - a)))
  | _, _ => none

def loadL (P : Program) (t : TypeId) (O : Nat → Obj) (a : Option Lf) : OE := match a with
  | some (.p d c) => match O d with
    | .box _ cs => (cutSV P t cs c).map fun s => ([], ⟨s, [d], []⟩)
    | _ => none
  | some (.e T x c) => (cutSV P t (leaves T x) c).map fun s => ([], ⟨s, [], []⟩)
  | some (.oe d i c) => match O d with
    | .row _ T xs _ => (cutSV P t (leaves T (VE.rd T xs i)) c).map fun s => ([], ⟨s, [d], []⟩)
    | .deep _ e2 T xss => (cutSV P t [.oh d i (List.length (VE.rd (.list e2 T) xss i))] c).map fun s => ([], ⟨s, [d], []⟩)
    | _ => none
  | some (.oi d i j c) => match O d with
    | .deep _ e2 T xss => (cutSV P t (leaves T (VE.rd T (VE.rd (.list e2 T) xss i) j)) c).map fun s => ([], ⟨s, [d], []⟩)
    | _ => none
  | _ => none
/-- A row's header into a row of rows: the row is taken over. -/
def takeL (P : Program) (t : TypeId) (O : Nat → Obj) (a : Option Lf) (x : SV) : OE := match a, x with
  | some (.oe d i 0), .c (.l (.o d2)) => match O d, O d2 with
    | .deep e e2 T xss, .row _ T2 ys false => if h : T2 = T then
        if d ≠ d2 ∧ P.cellsOf t = 1 ∧ (P.info? t).isSome = true then
          some ([ck ((VE.rd (.list e2 T) xss i).length = 0)], ⟨.u, [d, d2], [(d2, .dead), (d, .deep e e2 T (xss.set i.toNat (h ▸ ys)))]⟩)
        else none
      else none
    | _, _ => none
  | _, _ => none
def storeL (P : Program) (t : TypeId) (O : Nat → Obj) (a : Option Lf) (x : SV) : OE := match x.cells with
  | none => none
  | some ls => if ls.length = P.cellsOf t ∧ (P.info? t).isSome = true then
      match a with
      | some (.p d c) => match O d with
        | .box e cs => if c + ls.length ≤ cs.length then some ([], ⟨.u, [d], [(d, .box e (splice cs c ls))]⟩) else none
        | _ => none
      | some (.oe d i c) => match O d with
        | .row e T xs false => if c + ls.length ≤ T.sz then
            match packs O T (splice (leaves T (VE.rd T xs i)) c ls) with
            | some (y, ds) => if ds.contains d then none else match freeze O ds with
              | some fz => some ([], ⟨.u, d :: ds, fz ++ [(d, .row e T (xs.set i.toNat y) false)]⟩)
              | none => none
            | none => none
          else none
        | _ => none
      | some (.oi d i j c) => match O d with
        | .deep e e2 T xss => if c + ls.length ≤ T.sz ∧ T.sz ≠ 0 then
            match packs O T (splice (leaves T (VE.rd T (VE.rd (.list e2 T) xss i) j)) c ls) with
            | some (y, ds) => if ds.contains d then none else match freeze O ds with
              | some fz => some ([], ⟨.u, d :: ds, fz ++ [(d, .deep e e2 T (xss.set i.toNat ((VE.rd (.list e2 T) xss i).set j.toNat y)))]⟩)
              | none => none
            | none => none
          else none
        | _ => none
      | _ => none
    else none
def lenL (P : Program) (t : TypeId) (O : Nat → Obj) (x : Option Lf) : OE := match P.underlying t with
  | some (.slice _) => match x with
    | some (.v (.list _ _) xs) => val (.v (.int .i64) (xs.length : Int))
    | some .nils => val (.v (.int .i64) 0)
    | some (.o d) => match O d with
      | .row _ _ xs _ => some ([], ⟨.lf (.v (.int .i64) (xs.length : Int)), [d], []⟩)
      | .deep _ _ _ xss => some ([], ⟨.lf (.v (.int .i64) (xss.length : Int)), [d], []⟩)
      | _ => none
    | some (.os d _ len) => match O d with
      | .row _ _ _ _ => some ([], ⟨.lf (.v (.int .i64) (len : Int)), [d], []⟩)
      | _ => none
    | _ => none
  | some .string => match x with
    | some (.v .str s) => val (.v (.int .i64) ((s : ByteArray).size : Int))
    | _ => none
  | _ => none
def capL (P : Program) (t : TypeId) (x : Option Lf) : OE := match P.underlying t with
  | some (.slice _) => match x with
    | some .nils => val (.v (.int .i64) 0)
    | _ => none
  | _ => none
def indexAddrL (n : Nat) (O : Nat → Obj) (x ix : Option Lf) : OE := match ix with
  | some (.v (.int _) i) => match x with
    | some (.v (.list _ t) xs) => if t.sz = n ∧ n ≠ 0 then some ([ck ((0 : Int) ≤ i), ck ((i : Int) < (xs.length : Int))], ⟨.lf (.e t (VE.rd t xs i) 0), [], []⟩) else none
    | some (.o d) => match O d with
      | .row _ t xs _ => if t.sz = n ∧ n ≠ 0 then some ([ck ((0 : Int) ≤ i), ck ((i : Int) < (xs.length : Int))], ⟨.lf (.oe d i 0), [d], []⟩) else none
      | .deep _ _ _ xss => if 1 = n then some ([ck ((0 : Int) ≤ i), ck ((i : Int) < (xss.length : Int))], ⟨.lf (.oe d i 0), [d], []⟩) else none
      | _ => none
    | some (.oh d i' len) => match O d with
      | .deep _ _ t _ => if t.sz = n ∧ n ≠ 0 then some ([ck ((0 : Int) ≤ i), ck ((i : Int) < (len : Int))], ⟨.lf (.oi d i' i 0), [d], []⟩) else none
      | _ => none
    | some (.os d off len) => match O d with
      | .row _ t _ _ => if t.sz = n ∧ n ≠ 0 then some ([ck ((0 : Int) ≤ i), ck ((i : Int) < (len : Int))], ⟨.lf (.oe d ((off : Int) + i) 0), [d], []⟩) else none
      | _ => none
    | _ => none
  | _ => none
def fieldOff (P : Program) (s : TypeId) (f : Nat) : Option (Nat × TypeId) := match P.underlying s with
  | some (.struct fs) => match fs[f]? with
    | some g => if P.cellsOf g.type = 0 then none else some (g.offset, g.type)
    | none => none
  | _ => none
def fieldAddrL (P : Program) (s : TypeId) (f : Nat) (O : Nat → Obj) (x : Option Lf) : OE := match fieldOff P s f with
  | some (n, _) => match x with
    | some (.p d c) => match O d with
      | .box _ _ => some ([], ⟨.lf (.p d (c + n)), [d], []⟩)
      | _ => none
    | some (.e T y c) => val (.e T y (c + n))
    | some (.oe d i c) => match O d with
      | .row _ _ _ _ => some ([], ⟨.lf (.oe d i (c + n)), [d], []⟩)
      | _ => none
    | some (.oi d i j c) => match O d with
      | .deep _ _ _ _ => some ([], ⟨.lf (.oi d i j (c + n)), [d], []⟩)
      | _ => none
    | _ => none
  | none => none
def nilL (O : Nat → Obj) (x : Option Lf) : OE := match x with
  | some (.p d c) => match O d with
    | .box _ _ => some ([], ⟨.lf (.p d c), [d], []⟩)
    | _ => none
  | some (.e T y c) => val (.e T y c)
  | some (.oe d i c) => match O d with
    | .row _ _ _ _ => some ([], ⟨.lf (.oe d i c), [d], []⟩)
    | _ => none
  | some (.fn0 f) => val (.fn0 f)
  | _ => none
def fieldL (P : Program) (s : TypeId) (f : Nat) (x : SV) : OE := match x with
  | .c (.a ls) => match fieldOff P s f with
    | some (n, t) => (cutSV P t ls n).map fun s => ([], ⟨s, [], []⟩)
    | none => none
  | _ => none
def fillL (place : Nat → Option (Nat × Nat)) (cells : List Lf) : List (Nat × List Lf) → Option (List Lf)
  | [] => some cells
  | (i, v) :: rest => match place i with
    | none => none
    | some (off, size) => if v.length = size ∧ off + size ≤ cells.length then fillL place (splice cells off v) rest else none
def partsL (st : St) : List (Nat × Operand) → Option (List (Nat × List Lf))
  | [] => some []
  | (i, x) :: l => match (ev st x).cells, partsL st l with
    | some c, some r => some ((i, c) :: r)
    | _, _ => none
def zeroL (P : Program) (t : TypeId) : Option (List Lf) := match P.info? t with
  | some i => match i.zero with
    | some z => (ofValue z).cells
    | none => none
  | none => none
def buildL (P : Program) (t : TypeId) (ps : List (Nat × List Lf)) : OE := match zeroL P t, P.underlying t with
  | some z, some (.struct fs) => if fs.toList.all (fun f => (P.info? f.type).isSome) = true then match fillL (fun i => (fs[i]?).map fun f => (f.offset, P.cellsOf f.type)) z ps with
      | some c => some ([], ⟨.c (.a c), [], []⟩)
      | none => none
    else none
  | _, _ => none
/-- An array's value. -/
def buildAL (P : Program) (e : TypeId) (z : List Lf) (ps : List (Nat × List Lf)) : OE := if (P.info? e).isSome = true then match fillL (fun i => some (i * P.cellsOf e, P.cellsOf e)) z ps with
    | some c => some ([], ⟨.c (.a c), [], []⟩)
    | none => none
  else none
def buildX (P : Program) (t : TypeId) (ps : List (Nat × List Lf)) : OE := match P.underlying t, zeroL P t with
  | some (.array _ e), some z => buildAL P e z ps
  | _, _ => buildL P t ps
def chunks (O : Nat → Obj) (t : Ty) (sz : Nat) : Nat → List Lf → Option (List t.T × List Nat)
  | 0, _ => some ([], [])
  | n + 1, ls => match packs O t (ls.take sz), chunks O t sz n (ls.drop sz) with
    | some (x, ds), some (xs, es) => some (x :: xs, ds ++ es)
    | _, _ => none
def reps {α : Type} (n : Nat) (l : List α) : List α := match n with
  | 0 => []
  | n + 1 => l ++ reps n l
/-- Functions without captured values. -/
def fnsOf : List Lf → Option (List Nat)
  | [] => some []
  | .fn0 f :: l => match fnsOf l with
    | some fs => some (f :: fs)
    | none => none
  | _ => none
def buildSliceL (P : Program) (t : TypeId) (n : Nat) (d : Nat) (O : Nat → Obj) (ps : List (Nat × List Lf)) : OE := match P.underlying t with
  | some (.slice e) => match tyIn P e, zeroL P e, O d with
    | some T, some z, .no => if z.length = P.cellsOf e ∧ T.sz = z.length ∧ n * z.length ≤ 2 ^ 24 then
        match fillL (fun i => some (i * z.length, z.length)) (reps n z) ps with
        | some c => match chunks O T z.length n c with
          | some (xs, ds) => if ds.contains d then none else match freeze O ds with
            | some fz => some ([], ⟨.lf (.o d), d :: ds, fz ++ [(d, .row e T xs false)]⟩)
            | none => none
          | none => none
        | none => none
      else none
    | none, some z, .no => match fillL (fun i => some (i * z.length, z.length)) (reps n z) ps with
      | some c => match fnsOf c with
        | some fs => if z.length = P.cellsOf e ∧ z.length = 1 ∧ n = fs.length ∧ n * z.length ≤ 2 ^ 24 then some ([], ⟨.lf (.o d), [d], [(d, .row e (.fn fs) (List.range n) false)]⟩) else none
        | none => none
      | none => none
    | _, _, _ => none
  | _ => none
/-- A row made of one element: of rows, as one that owns them. -/
def madeRow (e : TypeId) : (T : Ty) → Nat → T.T → Obj
  | .list e2 t, n, [] => .deep e e2 t (List.replicate n [])
  | T, n, y => .row e T (List.replicate n y) false
def makeSliceL (P : Program) (t : TypeId) (d : Nat) (O : Nat → Obj) (same : Bool) (l c : Option Lf) : OE := match P.underlying t, l, c with
  | some (.slice e), some (.v (.int .i64) n), some (.v (.int .i64) m) => match tyIn P e, zeroL P e, O d with
    | some T, some z, .no => match packs O T z with
      | some (y, []) => if z.length = P.cellsOf e ∧ T.sz = z.length then
          some ((if same then [ck ((0 : Int) ≤ n)] else [ck ((0 : Int) ≤ n), ck ((n : Int) ≤ m)]) ++ [ck ((m : Int) * (P.bytesOf e : Int) ≤ 140737488355328), ck ((m : Int) ≤ 140737488355328)],
            ⟨.lf (.o d), [d], [(d, madeRow e T (Int.toNat n) y)]⟩)
        else none
      | _ => none
    | _, _, _ => none
  | _, _, _ => none
def newBox (d : Nat) (O : Nat → Obj) (e : TypeId) (ls : List Lf) : OE := match O d with
  | .no => some ([], ⟨.lf (.p d 0), [d], [(d, .box e ls)]⟩)
  | _ => none
/-- What an append starts from: the object that is used up, its contents. -/
def base (O : Nat → Obj) (T : Ty) (x : Option Lf) : Option (Option Nat × List T.T) := match x with
  | some .nils => some (none, [])
  | some (.o d) => match O d with
    | .row _ T' xs false => if h : T' = T then some (some d, h ▸ xs) else none
    | _ => none
  | some (.os d off len) => match O d with
    | .row _ T' xs false => if h : T' = T then some (some d, h ▸ ((xs.drop off).take len)) else none
    | _ => none
  | _ => none
def appendL (P : Program) (t : TypeId) (d : Nat) (O : Nat → Obj) (x y : Option Lf) : OE := match P.underlying t with
  | some (.slice e) => match tyIn P e, O d, zeroL P e with
    | some T, .no, some z => match base O T x, pureL O (y.getD .u) with
      | some (b, xs), some (v, ds) => match ofTV (.list e T) v with
        | some ys => if P.bytesOf e ≠ 0 ∧ T.sz = P.cellsOf e ∧ T.sz = z.length ∧ T.sz ≠ 0 ∧ b ≠ some d ∧ ds.all (fun k => b ≠ some k ∧ k ≠ d) then
            some ([ck ((xs.length + (ys : List T.T).length) * P.bytesOf e ≤ 140737488355328)],
              ⟨.lf (.o d), d :: (b.toList ++ ds), b.toList.map (fun k => (k, Obj.dead)) ++ [(d, .row e T (xs ++ ys) false)]⟩)
          else none
        | none => none
      | _, _ => none
    | _, _, _ => none
  | _ => none
/-- append(nil, make([]T, n)...). -/
def appendZ (P : Program) (t t' : TypeId) (d : Nat) (O : Nat → Obj) (x y : Option Lf) : OE := match P.underlying t, P.underlying t', x, y with
  | some (.slice e), some (.int _), some .nils, some (.v (.int _) n) => match tyIn P e, zeroL P e, O d with
    | some T, some z, .no => match packs O T z with
      | some (v, []) => if z.length = P.cellsOf e ∧ T.sz = z.length ∧ T.sz ≠ 0 then
          some ([ck ((0 : Int) ≤ n), ck ((n : Int) * (P.bytesOf e : Int) ≤ 140737488355328), ck ((n : Int) ≤ 140737488355328)],
            ⟨.lf (.o d), [d], [(d, .row e T (List.replicate (Int.toNat n) v) false)]⟩)
        else none
      | _ => none
    | _, _, _ => none
  | _, _, _, _ => none
def bnd : Option Lf → Option Int
  | some (.v (.int _) i) => some i
  | _ => none
def optB (st : St) : Option Operand → Option (Option Int)
  | none => some none
  | some x => match bnd (ev st x).leaf with
    | some i => some (some i)
    | none => none
def sliceChk (n : Int) (lo hi : Option Int) : List Chk :=
  (match hi with | some h => [ck (h ≤ n)] | none => []) ++ (match lo with | some l => [ck (0 ≤ l), ck (l ≤ hi.getD n)] | none => match hi with | some h => [ck (0 ≤ h)] | none => [])
def subL {α : Type} (xs : List α) (lo hi : Option Int) : List α := match lo, hi with
  | none, none => xs
  | some l, none => xs.drop l.toNat
  | none, some h => xs.take h.toNat
  | some l, some h => (xs.take h.toNat).drop l.toNat
def sliceL (P : Program) (t : TypeId) (O : Nat → Obj) (x : Option Lf) (lo hi : Option Int) : OE := match P.underlying t with
  | some .string => match x with
    | some (.v .str s) => some (sliceChk ((s : ByteArray).size : Int) lo hi, ⟨.lf (.v .str (ByteArray.extract s (lo.getD 0).toNat (hi.getD ((s : ByteArray).size : Int)).toNat)), [], []⟩)
    | _ => none
  | some (.slice el) => match x with
    | some .nils => if P.cellsOf el ≠ 0 then some (sliceChk 0 lo hi, ⟨.lf .nils, [], []⟩) else none
    | some (.v (.list e T) xs) => if T.sz = P.cellsOf el ∧ T.sz ≠ 0 then some (sliceChk (xs.length : Int) lo hi, ⟨.lf (.v (.list e T) (subL xs lo hi)), [], []⟩) else none
    | some (.o d) => match O d with
      | .row _ T xs _ => if T.sz = P.cellsOf el ∧ T.sz ≠ 0 then match lo, hi with
          | none, none => some ([], ⟨.lf (.o d), [d], []⟩)
          | _, _ => some (sliceChk (xs.length : Int) lo hi, ⟨.lf (.os d (lo.getD 0).toNat ((hi.getD (xs.length : Int)).toNat - (lo.getD 0).toNat)), [d], []⟩)
        else none
      | _ => none
    | some (.os d off len) => match O d with
      | .row _ T _ _ => if T.sz = P.cellsOf el ∧ T.sz ≠ 0 then
          some (sliceChk (len : Int) lo hi, ⟨.lf (.os d (off + (lo.getD 0).toNat) ((hi.getD (len : Int)).toNat - (lo.getD 0).toNat)), [d], []⟩)
        else none
      | _ => none
    | _ => none
  | _ => none
def indexL (x ix : Option Lf) : OE := match x, ix with
  | some (.v .str s), some (.v (.int _) i) => some ([ck ((0 : Int) ≤ i), ck ((i : Int) < ((s : ByteArray).size : Int))], ⟨.lf (.v (.int .u8) (bt s i)), [], []⟩)
  | _, _ => none
def convL (P : Program) (src dst : TypeId) (x : Option Lf) : OE := match P.underlying src, P.underlying dst, x with
  | some _, some (.int k), some (.v (.int _) n) => val (.v (.int k) (wr k n))
  | some .string, some .string, some (.v .str s) => val (.v .str s)
  | _, _, _ => none
/-- The bytes of a text, and a text of bytes. -/
def bytesL (s : ByteArray) : List Int := s.data.toList.map fun b => (b.toNat : Int)
def ofBytes (l : List Int) : ByteArray := ⟨(l.map fun n => UInt8.ofNat n.toNat).toArray⟩
def isU8 (P : Program) (e : TypeId) : Bool := match P.underlying e with
  | some (.int .u8) => true
  | _ => false
def toBytesL (e : Nat) (x : Option Lf) : OE := match x with
  | some (.v .str s) => some ([], ⟨.lf (.v (.list e (.int .u8)) (bytesL s)), [], []⟩)
  | _ => none
def toStrL (O : Nat → Obj) (x : Option Lf) : OE := match x with
  | some .nils => some ([], ⟨.lf (.v .str ByteArray.empty), [], []⟩)
  | some (.v (.list _ (.int .u8)) xs) => some ([], ⟨.lf (.v .str (ofBytes xs)), [], []⟩)
  | some (.o d) => match O d with
    | .row _ (.int .u8) xs _ => some ([], ⟨.lf (.v .str (ofBytes xs)), [d], []⟩)
    | _ => none
  | _ => none
def convX (P : Program) (O : Nat → Obj) (src t : TypeId) (x : Option Lf) : OE := match P.underlying src, P.underlying t with
  | some .string, some (.slice e) => if isU8 P e = true then toBytesL e x else none
  | some (.slice e), some .string => if isU8 P e = true then toStrL O x else none
  | _, _ => convL P src t x
/-- Arrays: rows of as many elements as they can hold. -/
def allocL (P : Program) (d : Nat) (O : Nat → Obj) (t : TypeId) (z : List Lf) : OE := match P.underlying t with
  | some (.array n e) => match tyIn P e, O d with
    | some T, .no => if 0 < n ∧ T.sz ≠ 0 ∧ z.length = n * T.sz then match chunks O T T.sz n z with
        | some (xs, []) => some ([], ⟨.lf (.ap d), [d], [(d, .row e T xs false)]⟩)
        | _ => none
      else none
    | _, _ => none
  | _ => newBox d O t z
def indexArrL (n sz : Nat) (O : Nat → Obj) (x ix : Option Lf) : OE := match ix, x with
  | some (.v (.int _) i), some (.ap d) => match O d with
    | .row _ t xs _ => if t.sz = sz ∧ sz ≠ 0 then some ([ck ((0 : Int) ≤ i), ck ((i : Int) < (n : Int)), ck ((i : Int) < (xs.length : Int))], ⟨.lf (.oe d i 0), [d], []⟩) else none
    | _ => none
  | _, _ => none
/-- An element of an array's value. -/
def indexArrV (P : Program) (n : Nat) (el : TypeId) (O : Nat → Obj) (x : SV) (ix : Option Lf) : OE := match x, ix with
  | .c (.a ls), some (.v (.int _) i) => match tyIn P el with
    | some T => if T.sz = P.cellsOf el ∧ T.sz ≠ 0 ∧ ls.length = n * T.sz then match chunks O T T.sz n ls with
        | some (xs, []) => (cutSV P el (leaves T (VE.rd T xs i)) 0).map fun s => ([ck ((0 : Int) ≤ i), ck ((i : Int) < (n : Int))], ⟨s, [], []⟩)
        | _ => none
      else none
    | none => none
  | _, _ => none
/-- A whole array's value into an array. -/
def storeArr (P : Program) (t : TypeId) (O : Nat → Obj) (a : Option Lf) (x : SV) : OE := match a, x.cells, P.underlying t with
  | some (.ap d), some ls, some (.array n _) => match O d with
    | .row e T xs false => if T.sz ≠ 0 ∧ ls.length = P.cellsOf t ∧ ls.length = n * T.sz ∧ (P.info? t).isSome = true then match chunks O T T.sz n ls with
        | some (ys, ds) => if ds.contains d then none else match freeze O ds with
          | some fz => some ([ck (xs.length = n)], ⟨.u, d :: ds, fz ++ [(d, .row e T ys false)]⟩)
          | none => none
        | none => none
      else none
    | _ => none
  | _, _, _ => none
/-- A row's part that is written by copy: the object, its contents, the part. -/
def dstOf (O : Nat → Obj) (T : Ty) (x : Option Lf) : Option (Nat × TypeId × List T.T × Nat × Nat) := match x with
  | some (.o d) => match O d with
    | .row e T' xs false => if h : T' = T then some (d, e, h ▸ xs, 0, xs.length) else none
    | _ => none
  | some (.os d off len) => match O d with
    | .row e T' xs false => if h : T' = T then some (d, e, h ▸ xs, off, len) else none
    | _ => none
  | _ => none
def copyL (P : Program) (t : TypeId) (O : Nat → Obj) (x y : Option Lf) : OE := match P.underlying t with
  | some (.slice el) => match tyIn P el with
    | some T => match dstOf O T x, pureL O (y.getD .u) with
      | some (d, e, xs, off, len), some (v, ds) => match ofTV (.list el T) v with
        | some ys => if T.sz = P.cellsOf el ∧ T.sz ≠ 0 then
            some ([], ⟨.lf (.v (.int .i64) ((min len (ys : List T.T).length : Nat) : Int)), d :: ds, [(d, .row e T (xs.take off ++ (ys : List T.T).take (min len (ys : List T.T).length) ++ xs.drop (off + min len (ys : List T.T).length)) false)]⟩)
          else none
        | none => none
      | _, _ => none
    | none => none
  | _ => none
def sliceArrL (n sz : Nat) (O : Nat → Obj) (x : Option Lf) (lo hi : Option Int) : OE := match x, lo, hi with
  | some (.ap d), none, none => match O d with
    | .row _ t xs _ => if t.sz = sz ∧ sz ≠ 0 then some ([ck (xs.length = n)], ⟨.lf (.o d), [d], []⟩) else none
    | _ => none
  | _, _, _ => none
/-- The first place of a byte in a text, or -1. -/
def idxB (s : ByteArray) (c : Int) : Int := Lib.indexByte s.data.toList c.toNat.toUInt8
def externL (P : Program) (f : FuncId) (xs : List (Option Lf)) : OE := match P.funcs[f]? with
  | some fn => if (fn.name == "internal/bytealg.IndexByteString") = true ∧ fn.body.isNone = true ∧ (Extern.findNext fn).isNone = true then match xs with
      | [some (.v .str s), some (.v (.int .u8) c)] => some ([], ⟨.lf (.v (.int .i64) (idxB s c)), [], []⟩)
      | _ => none
    else none
  | none => none
/-- Maps of integers. -/
def mapOf (P : Program) (t : TypeId) : Bool := match P.underlying t with
  | some (.map kt et) => match P.underlying kt with
    | some (.int .i64) => match P.info? et with
      | some i => match i.zero with
        | some (.int .i64 z) => decide (z = 0)
        | _ => false
      | none => false
    | _ => false
  | _ => false
def makeMapL (d : Nat) (O : Nat → Obj) : OE := match O d with
  | .no => some ([], ⟨.lf (.m d), [d], [(d, .mp [])]⟩)
  | _ => none
def lookupL (P : Program) (t : TypeId) (O : Nat → Obj) (x ix : Option Lf) : OE := match mapOf P t, x, ix with
  | true, some (.m d), some (.v (.int .i64) k) => match O d with
    | .mp es => some ([], ⟨.t [.l (.v (.int .i64) ((mget es k).getD 0)), .l (.v .bool (mget es k).isSome)], [d], []⟩)
    | _ => none
  | _, _, _ => none
def mapUpdateL (P : Program) (t : TypeId) (O : Nat → Obj) (x k v : Option Lf) : OE := match mapOf P t, x, k, v with
  | true, some (.m d), some (.v (.int .i64) k), some (.v (.int .i64) v) => match O d with
    | .mp es => some ([], ⟨.u, [d], [(d, .mp (mput es k v))]⟩)
    | _ => none
  | _, _, _, _ => none
/-- From the left: min(a, b, c) is min(min(a, b), c). -/
def foldL (f : Int → Int → Int) : Option Lf → List (Option Lf) → OE
  | some x, [] => val x
  | some (.v (.int k) a), some (.v (.int k') b) :: l => if k = k' then foldL f (some (.v (.int k) (f a b))) l else none
  | _, _ => none

/-! ### cut points and contracts: which slots and objects are told, in which form -/
inductive LSh where
  | val (t : Ty)
  | row (d : Nat)
  | ptr (d c : Nat)
  | fnc (f : FuncId) (d : Nat)
  | fn0 (f : FuncId)
  | np
  | nils
  | u
  | mp (d : Nat)
  | ap (d : Nat)
inductive CSh where
  | u
  | l (s : LSh)
  | a (ss : List LSh)
  | av (t : Ty)
inductive OSh where
  | row (e : TypeId) (t : Ty)
  | box (e : TypeId) (ss : List LSh)
  | caps (cs : List CSh)
  | gone
  | mp
  | deep (e e2 : TypeId) (t : Ty)
structure Cut where
  slots : List (Nat × CSh)
  objs : List (Nat × OSh)
def LSh.tys : LSh → List Ty
  | .val t => [t]
  | _ => []
def LSh.tysAll : List LSh → List Ty
  | [] => []
  | s :: ss => s.tys ++ tysAll ss
def CSh.tys : CSh → List Ty
  | .u => []
  | .l s => s.tys
  | .a ss => LSh.tysAll ss
  | .av t => [t]
def CSh.tysAll : List CSh → List Ty
  | [] => []
  | s :: ss => s.tys ++ tysAll ss
def OSh.tys : OSh → List Ty
  | .row e t => [.list e t]
  | .box _ ss => LSh.tysAll ss
  | .caps cs => CSh.tysAll cs
  | .gone => []
  | .mp => [mpT]
  | .deep e e2 t => [.list e (.list e2 t)]
def Cut.tys (c : Cut) : List Ty := CSh.tysAll (c.slots.map (·.2)) ++ c.objs.flatMap (·.2.tys)
abbrev prods : List Ty → Type
  | [] => Unit
  | [t] => t.T
  | t :: t' :: ts => t.T × prods (t' :: ts)
def ofProds : (ts : List Ty) → prods ts → List TV
  | [], _ => []
  | [t], x => [.mk t x]
  | t :: t' :: ts, x => .mk t x.1 :: ofProds (t' :: ts) x.2
def toProds : (ts : List Ty) → List TV → Option (prods ts)
  | [], [] => some ()
  | [t], [v] => ofTV t v
  | t :: t' :: ts, v :: l => match ofTV t v, toProds (t' :: ts) l with
    | some x, some y => some (x, y)
    | _, _ => none
  | _, _ => none
/-- A contract: what comes in, what goes out, the function between. -/
structure Con where
  cin : Cut
  cout : Cut
  sem : prods cin.tys → Option (prods cout.tys)

/-- A look at the state along a cut: its objects' numbers (none: a nil row), the objects that stand from now on, the values. -/
structure Gr where
  ren : List (Nat × Option Nat)
  fz : List Nat
  out : List TV
def look {α : Type} : List (Nat × α) → Nat → Option α
  | [], _ => none
  | (k, v) :: l, d => bif Nat.beq k d then some v else look l d
def Gr.bind (g : Gr) (d : Nat) (d' : Option Nat) : Option Gr := match look g.ren d with
  | none => some { g with ren := (d, d') :: g.ren }
  | some x => if x = d' then some g else none
def grabL (O : Nat → Obj) (g : Gr) (s : LSh) (x : Lf) : Option Gr := match s, x with
  | .val _, x => match pureL O x with
    | some (v, ds) => some { g with fz := ds ++ g.fz, out := v :: g.out }
    | none => none
  | .row d, .o d' => g.bind d (some d')
  | .row d, .nils => g.bind d none
  | .ptr d c, .p d' c' => if c = c' then g.bind d (some d') else none
  | .fnc f d, .fn f' d' => if f = f' then g.bind d (some d') else none
  | .fn0 f, .fn0 f' => if f = f' then some g else none
  | .np, .np => some g
  | .nils, .nils => some g
  | .u, _ => some g
  | .mp d, .m d' => g.bind d (some d')
  | .ap d, .ap d' => g.bind d (some d')
  | _, _ => none
def grabLs (O : Nat → Obj) (g : Gr) : List LSh → List Lf → Option Gr
  | [], [] => some g
  | s :: ss, x :: xs => match grabL O g s x with
    | some g' => grabLs O g' ss xs
    | none => none
  | _, _ => none
def grabC (O : Nat → Obj) (g : Gr) (s : CSh) (x : Cm) : Option Gr := match s, x with
  | .l s, .l x => grabL O g s x
  | .a ss, .a xs => grabLs O g ss xs
  | .av t, .a xs => match packs O t xs with
    | some (y, ds) => some { g with fz := ds ++ g.fz, out := .mk t y :: g.out }
    | none => none
  | .u, _ => some g
  | _, _ => none
def grabCs (O : Nat → Obj) (g : Gr) : List CSh → List Cm → Option Gr
  | [], [] => some g
  | s :: ss, x :: xs => match grabC O g s x with
    | some g' => grabCs O g' ss xs
    | none => none
  | _, _ => none
def grabO (O : Nat → Obj) (g : Gr) (d : Nat) (s : OSh) : Option Gr := match look g.ren d with
  | none => none
  | some none => match s with
    | .row e t => some { g with out := .mk (.list e t) [] :: g.out }
    | _ => none
  | some (some d') => match s, O d' with
    | .row e t, .row e' t' xs false => if e = e' ∧ t = t' then some { g with out := .mk (.list e' t') xs :: g.out } else none
    | .box e ss, .box e' cs => if e = e' then grabLs O g ss cs else none
    | .caps ss, .caps cs => grabCs O g ss cs
    | .gone, .dead => some g
    | .mp, .mp es => some { g with out := .mk mpT es :: g.out }
    | .deep e e2 t, .deep e' e2' t' xss => if e = e' ∧ e2 = e2' ∧ t = t' then some { g with out := .mk (.list e' (.list e2' t')) xss :: g.out } else none
    | _, _ => none
def grabOs (O : Nat → Obj) (g : Gr) : List (Nat × OSh) → Option Gr
  | [] => some g
  | (d, s) :: l => match grabO O g d s with
    | some g' => grabOs O g' l
    | none => none
def nodupB : List Nat → Bool
  | [] => true
  | d :: l => !(l.contains d) && nodupB l
def renIds : List (Nat × Option Nat) → List Nat
  | [] => []
  | (_, some d) :: l => d :: renIds l
  | (_, none) :: l => renIds l
/-- fixed: objects that keep their number. -/
def grab (c : Cut) (fixed : List Nat) (cms : List Cm) (O : Nat → Obj) : Option (Gr × prods c.tys) :=
  match grabCs O ⟨fixed.map (fun d => (d, some d)), [], []⟩ (c.slots.map (·.2)) cms with
  | some g => match grabOs O g c.objs with
    | some g => if nodupB (c.objs.map (·.1)) && nodupB (renIds g.ren) && g.ren.all (fun r => (c.objs.any fun o => Nat.beq o.1 r.1)) && g.fz.all (fun d => g.ren.all fun r => r.2 != some d) then
        match toProds c.tys g.out.reverse with
        | some x => some (g, x)
        | none => none
      else none
    | none => none
  | none => none

/-- The state that a cut's values tell. -/
def putL : LSh → List TV → Option (Lf × List TV)
  | .val _, .mk t x :: l => some (.v t x, l)
  | .row d, l => some (.o d, l)
  | .ptr d c, l => some (.p d c, l)
  | .fnc f d, l => some (.fn f d, l)
  | .fn0 f, l => some (.fn0 f, l)
  | .np, l => some (.np, l)
  | .nils, l => some (.nils, l)
  | .u, l => some (.u, l)
  | .mp d, l => some (.m d, l)
  | .ap d, l => some (.ap d, l)
  | _, _ => none
def putLs : List LSh → List TV → Option (List Lf × List TV)
  | [], l => some ([], l)
  | s :: ss, l => match putL s l with
    | some (x, l1) => match putLs ss l1 with
      | some (xs, l2) => some (x :: xs, l2)
      | none => none
    | none => none
def putC : CSh → List TV → Option (Cm × List TV)
  | .u, l => some (.u, l)
  | .l s, l => match putL s l with
    | some (x, l1) => some (.l x, l1)
    | none => none
  | .a ss, l => match putLs ss l with
    | some (xs, l1) => some (.a xs, l1)
    | none => none
  | .av _, .mk t x :: l => some (.a (leaves t x), l)
  | _, _ => none
def putCs : List CSh → List TV → Option (List Cm × List TV)
  | [], l => some ([], l)
  | s :: ss, l => match putC s l with
    | some (x, l1) => match putCs ss l1 with
      | some (xs, l2) => some (x :: xs, l2)
      | none => none
    | none => none
def putO : OSh → List TV → Option (Obj × List TV)
  | .row e _, .mk (.list _ t) xs :: l => some (.row e t xs false, l)
  | .box e ss, l => match putLs ss l with
    | some (xs, l1) => some (.box e xs, l1)
    | none => none
  | .caps ss, l => match putCs ss l with
    | some (xs, l1) => some (.caps xs, l1)
    | none => none
  | .gone, l => some (.dead, l)
  | .mp, .mk (.list _ (.pair (.int .i64) (.int .i64))) es :: l => some (.mp es, l)
  | .deep _ _ _, .mk (.list e (.list e2 t)) xss :: l => some (.deep e e2 t xss, l)
  | _, _ => none
def putOs : List (Nat × OSh) → List TV → Option (List (Nat × Obj))
  | [], _ => some []
  | (d, s) :: ss, l => match putO s l with
    | some (x, l1) => match putOs ss l1 with
      | some xs => some ((d, x) :: xs)
      | none => none
    | none => none
def Cut.put (c : Cut) (x : prods c.tys) : Option (List Cm × List (Nat × Obj)) := match putCs (c.slots.map (·.2)) (ofProds c.tys x) with
  | some (cms, l) => match putOs c.objs l with
    | some os => some (cms, os)
    | none => none
  | none => none
def Cut.st (c : Cut) (x : prods c.tys) : St := match c.put x with
  | some (cms, os) => ⟨upds (fun _ => .u) ((c.slots.map (·.1)).zip (cms.map .c)), upds (fun _ => .no) os⟩
  | none => St.new

/-! ### calls -/
def renL (τ : Nat → Nat) : Lf → Lf
  | .o d => .o (τ d)
  | .os d a b => .os (τ d) a b
  | .p d c => .p (τ d) c
  | .oe d i c => .oe (τ d) i c
  | .fn f d => .fn f (τ d)
  | .m d => .m (τ d)
  | .ap d => .ap (τ d)
  | .oh d i n => .oh (τ d) i n
  | .oi d i j c => .oi (τ d) i j c
  | x => x
def renC (τ : Nat → Nat) : Cm → Cm
  | .u => .u
  | .l x => .l (renL τ x)
  | .a xs => .a (xs.map (renL τ))
def renO (τ : Nat → Nat) : Obj → Obj
  | .box e cs => .box e (cs.map (renL τ))
  | .caps cs => .caps (cs.map (renC τ))
  | x => x
/-- No value of these types leads to memory. -/
def Ty.flat : Ty → Bool
  | .list _ _ => false
  | .pair a b => a.flat && b.flat
  | _ => true
def Lf.flat : Lf → Bool
  | .v t _ => t.flat
  | .e _ _ _ => false
  | _ => true
def Cm.flat : Cm → Bool
  | .u => true
  | .l x => x.flat
  | .a xs => xs.all Lf.flat
def Obj.flat : Obj → Bool
  | .row _ t _ _ => t.flat
  | .box _ cs => cs.all Lf.flat
  | .caps cs => cs.all Cm.flat
  | _ => true
def resSV : List Cm → SV
  | [x] => .c x
  | xs => .t xs
def Lf.okIds (p : Nat → Bool) : Lf → Bool
  | .o d => p d
  | .os d _ _ => p d
  | .p d _ => p d
  | .oe d _ _ => p d
  | .fn _ d => p d
  | .m d => p d
  | .ap d => p d
  | .oh d _ _ => p d
  | .oi d _ _ _ => p d
  | _ => true
def Cm.okIds (p : Nat → Bool) : Cm → Bool
  | .u => true
  | .l x => x.okIds p
  | .a xs => xs.all (Lf.okIds p)
def Obj.okIds (p : Nat → Bool) : Obj → Bool
  | .box _ cs => cs.all (Lf.okIds p)
  | .row _ _ _ _ => true
  | .dead => true
  | .mp _ => true
  | _ => false
/-- Two objects of one kind. -/
def kindB : Obj → Obj → Bool
  | .row _ t _ _, .row _ t' _ _ => decide (t = t')
  | .box _ _, .box _ _ => true
  | .row _ _ _ _, .dead => true
  | .mp _, .mp _ => true
  | _, _ => false
/-- A row of rows that owns them. -/
def Obj.isDeep : Obj → Bool
  | .deep _ _ _ _ => true
  | _ => false
def isNo : Obj → Bool
  | .no => true
  | _ => false
/-- An object's number behind a call. -/
def callId (ren : List (Nat × Option Nat)) (dst d : Nat) : Nat := match look ren d with
  | some (some d') => d'
  | _ => (dst + 1) * 1000 + d
/-- The objects that a call leaves, in the caller's numbers. -/
def callOs (ren : List (Nat × Option Nat)) (dst : Nat) (τ : Nat → Nat) : List (Nat × Obj) → List (Nat × Obj)
  | [] => []
  | (d, y) :: l => match look ren d with
    | some none => callOs ren dst τ l
    | _ => (τ d, renO τ y) :: callOs ren dst τ l
def callOk (O : Nat → Obj) (ren : List (Nat × Option Nat)) (dst : Nat) (cms : List Cm) (os : List (Nat × Obj)) : Bool :=
  let p : Nat → Bool := fun d => match look ren d with
    | some none => false
    | _ => true
  (renIds ren).all (fun d => !(O d).isDeep) && nodupB (os.map (·.1)) && cms.all (Cm.okIds p) && os.all fun o => o.2.okIds p && match look ren o.1 with
    | some (some d') => kindB (O d') o.2
    | some none => true
    | none => isNo (O ((dst + 1) * 1000 + o.1))
def callK {R : Type} (c : Con) (dst : Nat) (args : List Cm) (O : Nat → Obj) (k : Eff → Option R) : Option R :=
  match grab c.cin [] args O with
  | none => none
  | some (g, x) => (c.sem x).bind fun y =>
    match c.cout.put y with
    | none => none
    | some (cms, os) => match callOk O g.ren dst cms os with
      | false => none
      | true =>
        match (bif cms.all Cm.flat && os.all (fun o => o.2.flat) then some [] else freeze O g.fz) with
        | none => none
        | some fz =>
          k ⟨resSV (cms.map (renC (callId g.ren dst))), g.fz ++ renIds g.ren ++ (os.map fun o => callId g.ren dst o.1),
            fz ++ callOs g.ren dst (callId g.ren dst) os⟩

def argCms (st : St) : List Operand → List Cm
  | [] => []
  | x :: xs => (ev st x).cm :: argCms st xs
def fin {R : Type} (r : OE) (k : Eff → Option R) : Option R := match r with
  | some (cs, e) => chks cs (k e)
  | none => none
def sameOp : Operand → Operand → Bool
  | .tmp a, .tmp b => Nat.beq a b
  | _, _ => false
/-- The function of that number. -/
def fnK {R : Type} (Γ : FuncId → Option Con) (x : Nat) (k : Con → Option R) : Nat → List Nat → Option R
  | _, [] => none
  | i, f :: cs => if x = i then (match Γ f with
      | some c => k c
      | none => none) else fnK Γ x k (i + 1) cs
def opK {R : Type} (P : Program) (Γ : FuncId → Option Con) (o : Oper) (st : St) (k : Eff → Option R) : Option R :=
  match o.op with
  | .move x => k ⟨ev st x, [], []⟩
  | .assign x => k ⟨ev st x, [], []⟩
  | .pick c a b => splitB (ev st c).leaf fun d => k ⟨match d with | true => ev st a | false => ev st b, [], []⟩
  | .alloc e => match o.dst, zeroL P e with
    | some d, some z => fin (allocL P d st.o e z) k
    | _, _ => none
  | .box e x => match o.dst, (ev st x).cells with
    | some d, some ls => if ls.length = P.cellsOf e then fin (newBox d st.o e ls) k else none
    | _, _ => none
  | .build t ps => match partsL st ps.toList with
    | some l => fin (buildX P t l) k
    | none => none
  | .buildSlice t n ps => match o.dst, partsL st ps.toList with
    | some d, some l => fin (buildSliceL P t n d st.o l) k
    | _, _ => none
  | .load t a => fin (loadL P t st.o (ev st a).leaf) k
  | .store t a x => match takeL P t st.o (ev st a).leaf (ev st x) with
    | some r => fin (some r) k
    | none => match storeArr P t st.o (ev st a).leaf (ev st x) with
      | some r => fin (some r) k
      | none => fin (storeL P t st.o (ev st a).leaf (ev st x)) k
  | .nilCheck x => fin (nilL st.o (ev st x).leaf) k
  | .binOp op t x y _ => match P.underlying t with
    | some (.struct fs) => fin (binA P op t fs.toList (ev st x) (ev st y)) k
    | _ => fin (binP P op t (ev st x).leaf (ev st y).leaf) k
  | .unOp op _ x => fin (unL op (ev st x).leaf) k
  | .convert c d x => fin (convX P st.o c d (ev st x).leaf) k
  | .makeFunc (.func f) ⟨[]⟩ cs => match o.dst, cs.toList with
    | _, [] => k ⟨.lf (.fn0 f), [], []⟩
    | some d, x :: xs => match st.o d with
      | .no => k ⟨.lf (.fn f d), [d], [(d, .caps (argCms st (x :: xs)))]⟩
      | _ => none
    | _, _ => none
  | .makeSlice t l c => match o.dst with
    | some d => fin (makeSliceL P t d st.o (sameOp l c) (ev st l).leaf (ev st c).leaf) k
    | none => none
  | .slice t x lo hi none => match optB st lo, optB st hi with
    | some l, some h => match P.underlying t with
      | some (.array n e) => fin (sliceArrL n (P.cellsOf e) st.o (ev st x).leaf l h) k
      | _ => fin (sliceL P t st.o (ev st x).leaf l h) k
    | _, _ => none
  | .makeMap _ none => match o.dst with
    | some d => fin (makeMapL d st.o) k
    | none => none
  | .lookup t x ix true => fin (lookupL P t st.o (ev st x).leaf (ev st ix).leaf) k
  | .mapUpdate t m x v => fin (mapUpdateL P t st.o (ev st m).leaf (ev st x).leaf (ev st v).leaf) k
  | .fieldAddr s x f => fin (fieldAddrL P s f st.o (ev st x).leaf) k
  | .field s x f => fin (fieldL P s f (ev st x)) k
  | .indexAddr t x ix => match P.underlying t with
    | some (.slice e) => fin (indexAddrL (P.cellsOf e) st.o (ev st x).leaf (ev st ix).leaf) k
    | some (.array n e) => fin (indexArrL n (P.cellsOf e) st.o (ev st x).leaf (ev st ix).leaf) k
    | _ => none
  | .index t x ix => match P.underlying t with
    | some .string => fin (indexL (ev st x).leaf (ev st ix).leaf) k
    | some (.array n e) => fin (indexArrV P n e st.o (ev st x) (ev st ix).leaf) k
    | _ => none
  | .extract x i => match ev st x with
    | .t cs => match cs[i]? with
      | some c => k ⟨.c c, [], []⟩
      | none => none
    | _ => none
  | .call c => match c.callee with
    | .builtin .len => match c.argTypes.toList, c.args.toList with
      | [t], [x] => fin (lenL P t st.o (ev st x).leaf) k
      | _, _ => none
    | .builtin .cap => match c.argTypes.toList, c.args.toList with
      | [t], [x] => fin (capL P t (ev st x).leaf) k
      | _, _ => none
    | .builtin .min => match c.args.toList with
      | x :: l => fin (foldL mn (ev st x).leaf (l.map fun y => (ev st y).leaf)) k
      | _ => none
    | .builtin .max => match c.args.toList with
      | x :: l => fin (foldL mx (ev st x).leaf (l.map fun y => (ev st y).leaf)) k
      | _ => none
    | .builtin .copy => match c.argTypes.toList, c.args.toList with
      | [t, _], [x, y] => fin (copyL P t st.o (ev st x).leaf (ev st y).leaf) k
      | _, _ => none
    | .builtin .append => match c.argTypes.toList, c.args.toList, o.dst with
      | [t, t'], [x, y], some d => if t = t' then fin (appendL P t d st.o (ev st x).leaf (ev st y).leaf) k
        else fin (appendZ P t t' d st.o (ev st x).leaf (ev st y).leaf) k
      | _, _, _ => none
    | .value f => match (ev st f).leaf with
      | some (.fn0 f) => match Γ f with
        | some c' => callK c' (o.dst.getD 0) (argCms st c.args.toList) st.o k
        | none => fin (externL P f (c.args.toList.map fun y => (ev st y).leaf)) k
      | some (.fn f d) => match Γ f, st.o d with
        | some c', .caps cs => callK c' (o.dst.getD 0) (argCms st c.args.toList ++ cs) st.o (fun e => k { e with rd := d :: e.rd })
        | _, _ => none
      | some (.v (.fn cs) x) => fnK Γ x (fun c' => callK c' (o.dst.getD 0) (argCms st c.args.toList) st.o k) 0 cs
      | _ => none
    | _ => none
  | _ => none

/-! ### a region -/
structure Log where
  i : Nat
  rd : List Nat
  wr : List Nat
def guards (ops : List Oper) (i : Nat) : Bool := ops.any fun o => match o.guard with
  | some (j, _) => Nat.beq j i
  | none => false
def St.eff (st : St) (dst : Option Tmp) (e : Eff) : St :=
  ⟨match dst with | some d => upd st.t d e.sv | none => st.t, upds st.o e.wr⟩
/-- Whether an operation runs. -/
def runs (ops : List Oper) (o : Oper) (st : St) : Option Bool := match o.guard with
  | none => some true
  | some (j, want) => match ops[j]? with
    | some g => match g.dst with
      | some d => match st.t d with
        | .c (.l (.bl true)) => some want
        | .c (.l (.bl false)) => some (!want)
        | .t [] => some false
        | _ => none
      | none => none
    | none => none
def runK {R : Type} (P : Program) (Γ : FuncId → Option Con) (ops : List Oper) : List (Nat × Oper) → St → List Log → (St → List Log → Option R) → Option R
  | [], st, lg, k => k st lg
  | (i, o) :: l, st, lg, k => match runs ops o st with
    | some true => opK P Γ o st fun e =>
        match guards ops i with
        | true => splitB e.sv.leaf fun b => runK P Γ ops l (st.eff o.dst { e with sv := .lf (.bl b) }) (⟨i, e.rd, e.wr.map (·.1)⟩ :: lg) k
        | false => runK P Γ ops l (st.eff o.dst e) (⟨i, e.rd, e.wr.map (·.1)⟩ :: lg) k
    | some false => runK P Γ ops l (st.eff o.dst ⟨.t [], [], []⟩) (⟨i, [], []⟩ :: lg) k
    | none => none
/-- The operations that stand ahead of each one, as bits. -/
def bitsOf : List Oper → List Nat → List Nat
  | [], acc => acc
  | o :: l, acc => bitsOf l (acc ++ [o.after.toList.foldl (fun s e => if Region.binds .any e ∧ e.on < acc.length then s ||| 2 ^ e.on ||| acc.getD e.on 0 else s) 0])
def tmpsOf (xs : List Operand) : List Nat := xs.filterMap fun x => match x with
  | .tmp t => some t
  | _ => none
def guardTmp (ops : List Oper) (o : Oper) : List Nat := match o.guard with
  | some (j, _) => match ops[j]? with
    | some g => g.dst.toList
    | none => []
  | none => []
def meets (a b : List Nat) : Bool := a.any fun x => b.any fun y => Nat.beq x y
def clash (ops : List Oper) (a b : Oper) (la lb : Log) : Bool :=
  meets a.dst.toList (b.dst.toList ++ tmpsOf b.op.operands.toList ++ guardTmp ops b) || meets b.dst.toList (tmpsOf a.op.operands.toList ++ guardTmp ops a) || meets la.wr (lb.rd ++ lb.wr) || meets lb.wr (la.rd ++ la.wr)
def orderOk (ops : List Oper) (lg : List Log) : Bool :=
  let bits := bitsOf ops []
  lg.all fun lb => lg.all fun la => if la.i < lb.i then (bits.getD lb.i 0).testBit la.i || (match ops[la.i]?, ops[lb.i]? with
    | some a, some b => !(clash ops a b la lb)
    | _, _ => false) else true
def ixs {α : Type} : Nat → List α → List (Nat × α)
  | _, [] => []
  | n, x :: l => (n, x) :: ixs (n + 1) l
def regK {R : Type} (P : Program) (Γ : FuncId → Option Con) (ops : List Oper) (draw : Bool) (st : St) (k : St → Option R) : Option R :=
  runK P Γ ops (ixs 0 ops) st [] fun st' lg => match draw with
    | false => k st'
    | true => match orderOk ops lg with
      | true => k st'
      | false => none

/-! ### a function -/
/-- A cut point and what follows it. -/
structure Hint (R : Type) where
  c : Cut
  k : prods c.tys → Option R
def cmsAt (st : St) (l : List Nat) : List Cm := l.map fun t => (st.t t).cm
def resultCms (P : Program) (st : St) : List ResultVar → Option (List Cm)
  | [] => some []
  | r :: l => match resultCms P st l with
    | none => none
    | some cs => match r with
      | .tmp t => some ((st.t t).cm :: cs)
      | .cell a t => match loadL P t st.o (st.t a).leaf with
        | some ([], e) => some (e.sv.cm :: cs)
        | _ => none
/-- Where a row of its own is looked for: a header of a row's beginning takes the row over. -/
def adopt (gn : List Nat) (O : Nat → Obj) (s : CSh) (x : Cm) : Option (Cm × List (Nat × Obj)) := match s, x with
  | .l (.row _), .l (.o d) => bif gn.contains d then match O d, O (900000 + d) with
      | .row e t xs false, .no => some (.l (.o (900000 + d)), [(d, .dead), (900000 + d, .row e t xs false)])
      | _, _ => none
    else none
  | .l (.val _), .l (.o d) => match O d with
    | .deep e e2 t xss => some (.l (.o d), [(d, .row e (.list e2 t) xss false)])
    | _ => none
  | .l (.row _), .l (.os d 0 len) => match O d, O (900000 + d) with
    | .row e t xs false, .no => some (.l (.o (900000 + d)), [(d, .dead), (900000 + d, .row e t (xs.take len) false)])
    | _, _ => none
  | _, _ => none
def norm (gn : List Nat) : List CSh → List Cm → (Nat → Obj) → List Cm × (Nat → Obj)
  | s :: ss, x :: xs, O => match adopt gn O s x with
    | some (y, l) => (y :: (norm gn ss xs (upds O l)).1, (norm gn ss xs (upds O l)).2)
    | none => (x :: (norm gn ss xs O).1, (norm gn ss xs O).2)
  | _, xs, O => (xs, O)
/-- The objects that are used up on the way. -/
def goneOf : List (Nat × OSh) → List Nat
  | [] => []
  | (d, .gone) :: l => d :: goneOf l
  | _ :: l => goneOf l
/-- A box's header of a row that is used up elsewhere: it takes the row over. -/
def normB1 (gn : List Nat) (d i : Nat) (O : Nat → Obj) : Nat → Obj := match O d with
  | .box e cs => match cs[i]? with
    | some (.o d2) => bif gn.contains d2 then match O d2, O (900000 + d2) with
        | .row e2 t xs false, .no => upds O [(d2, .dead), (900000 + d2, .row e2 t xs false), (d, .box e (cs.set i (.o (900000 + d2))))]
        | _, _ => O
      else O
    | _ => O
  | _ => O
def normBi (gn : List Nat) (d : Nat) : List LSh → Nat → (Nat → Obj) → (Nat → Obj)
  | [], _, O => O
  | .row _ :: ss, i, O => normBi gn d ss (i + 1) (normB1 gn d i O)
  | _ :: ss, i, O => normBi gn d ss (i + 1) O
def normB (gn : List Nat) : List (Nat × OSh) → (Nat → Obj) → (Nat → Obj)
  | [], O => O
  | (d, .box _ ss) :: l, O => normB gn l (normBi gn d ss 0 O)
  | _ :: l, O => normB gn l O
structure Fin (P : Program) where
  cout : Cut
  fixed : List Nat
  res : List ResultVar
def Fin.go {P : Program} (F : Fin P) (st : St) : Option (prods F.cout.tys) := match resultCms P st F.res with
  | some cs => match norm (goneOf F.cout.objs) (F.cout.slots.map (·.2)) cs st.o with
    | (cs, o) => match grab F.cout F.fixed cs (normB (goneOf F.cout.objs) F.cout.objs o) with
      | some (_, x) => some x
      | none => none
  | none => none
def toK {R : Type} (h : Hint R) (fixed : List Nat) (st : St) : Option R := match norm (goneOf h.c.objs) (h.c.slots.map (·.2)) (cmsAt st (h.c.slots.map (·.1))) st.o with
  | (cs, o) => match grab h.c fixed cs (normB (goneOf h.c.objs) h.c.objs o) with
    | some (_, x) => h.k x
    | none => none
/-- One answer by two roads. -/
def Ty.deq : (t : Ty) → DecidableEq t.T
  | .int _ => Int.instDecidableEq
  | .bool => instDecidableEqBool
  | .str => ByteArray.instDecidableEq
  | .list _ t => @instDecidableEqList _ t.deq
  | .pair a b => @instDecidableEqProd _ _ a.deq b.deq
  | .unit => instDecidableEqPUnit
  | .fn _ => instDecidableEqNat
def prodsDeq : (ts : List Ty) → DecidableEq (prods ts)
  | [] => instDecidableEqPUnit
  | [t] => t.deq
  | t :: t' :: ts => @instDecidableEqProd _ _ t.deq (prodsDeq (t' :: ts))
def both {R : Type} [i : DecidableEq R] (x y : Option R) : Option R := if x = y then x else none
noncomputable def goK {P : Program} (Γ : FuncId → Option Con) (F : Fin P) (T : Nat → Option (Hint (prods F.cout.tys))) : Nat → List Item → St → Option (prods F.cout.tys)
  | 0, _, _ => none
  | _ + 1, [], st => F.go st
  | m + 1, .inBlock _ :: k, st => goK Γ F T m k st
  | m + 1, .inLoop b :: k, st => goK Γ F T m (.code b :: .inLoop b :: k) st
  | m + 1, .code c :: k, st => match c with
    | .skip => goK Γ F T m k st
    | .region id ops draw => match T id with
      | some h => toK h F.fixed st
      | none => regK P Γ ops.toList draw st fun st' => goK Γ F T m k st'
    | .seq a b => goK Γ F T m (.code a :: .code b :: k) st
    | .cond x a b => match (ev st x).leaf with
      | some (.q n p i) => @ite _ p i (@both _ (prodsDeq F.cout.tys) (goK Γ F T m (.code a :: k) st) (goK Γ F T m (.code b :: k) st)) (match n with
        | true => goK Γ F T m (.code a :: k) st
        | false => goK Γ F T m (.code b :: k) st)
      | y => splitB y fun d => match d with
        | true => goK Γ F T m (.code a :: k) st
        | false => goK Γ F T m (.code b :: k) st
    | .block id b => goK Γ F T m (.code b :: .inBlock id :: k) st
    | .loop b => goK Γ F T m (.code b :: .inLoop b :: k) st
    | .exit id => match exitTo id k with
      | some k' => goK Γ F T m k' st
      | none => none
    | .ret => F.go st
    | _ => none
  | _ + 1, _, _ => none
/-- The regions of a function's code, each with what is to do behind it. -/
def sites : Code → List Item → List (Nat × List Oper × Bool × List Item)
  | .region id ops draw, k => [(id, ops.toList, draw, k)]
  | .seq a b, k => sites a (.code b :: k) ++ sites b k
  | .cond _ a b, k => sites a k ++ sites b k
  | .block id b, k => sites b (.inBlock id :: k)
  | .loop b, k => sites b (.inLoop b :: k)
  | _, _ => []
/-- From a cut point on. -/
noncomputable def segK {P : Program} (Γ : FuncId → Option Con) (F : Fin P) (T : Nat → Option (Hint (prods F.cout.tys))) (body : Code) (id : Nat) (st : St) : Option (prods F.cout.tys) :=
  match look (sites body []) id with
  | some (ops, draw, k) => regK P Γ ops draw st fun st' => goK Γ F T 2000 k st'
  | none => none
end Go.Proofs.YtamgbcgfjhpedaaDoor.VE
