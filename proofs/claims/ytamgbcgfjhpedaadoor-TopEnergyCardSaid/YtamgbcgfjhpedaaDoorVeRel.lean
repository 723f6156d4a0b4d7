/- What the evaluator's state says of the machine's slots and memory (definitions and lemmas; no statement is proved here). -/
import Derived.Test.YtamgbcgfjhpedaaDoorVeDef
namespace Go.Proofs.YtamgbcgfjhpedaaDoor.VE
open Go Go.RowKit

def All2 {α β : Type} (R : α → β → Prop) : List α → List β → Prop
  | [], [] => True
  | x :: xs, y :: ys => R x y ∧ All2 R xs ys
  | _, _ => False
section
variable {α β : Type} {R R' : α → β → Prop}
theorem All2.length : ∀ {l : List α} {l' : List β}, All2 R l l' → l.length = l'.length
  | [], [], _ => rfl
  | _ :: _, _ :: _, h => by simp only [List.length_cons, All2.length h.2]
  | [], _ :: _, h => h.elim
  | _ :: _, [], h => h.elim
theorem All2.mono (hr : ∀ x y, R x y → R' x y) : ∀ {l : List α} {l' : List β}, All2 R l l' → All2 R' l l'
  | [], [], _ => trivial
  | _ :: _, _ :: _, h => ⟨hr _ _ h.1, All2.mono hr h.2⟩
  | [], _ :: _, h => h.elim
  | _ :: _, [], h => h.elim
theorem All2.append : ∀ {l m : List α} {l' m' : List β}, All2 R l l' → All2 R m m' → All2 R (l ++ m) (l' ++ m')
  | [], _, [], _, _, h => h
  | _ :: _, _, _ :: _, _, h, k => ⟨h.1, All2.append h.2 k⟩
  | [], _, _ :: _, _, h, _ => h.elim
  | _ :: _, _, [], _, h, _ => h.elim
theorem All2.take : ∀ (n : Nat) {l : List α} {l' : List β}, All2 R l l' → All2 R (l.take n) (l'.take n)
  | 0, _, _, _ => by simp [All2]
  | _ + 1, [], [], _ => by simp [All2]
  | n + 1, _ :: _, _ :: _, h => ⟨h.1, All2.take n h.2⟩
  | _ + 1, [], _ :: _, h => h.elim
  | _ + 1, _ :: _, [], h => h.elim
theorem All2.drop : ∀ (n : Nat) {l : List α} {l' : List β}, All2 R l l' → All2 R (l.drop n) (l'.drop n)
  | 0, _, _, h => h
  | _ + 1, [], [], _ => by simp [All2]
  | n + 1, _ :: _, _ :: _, h => All2.drop n h.2
  | _ + 1, [], _ :: _, h => h.elim
  | _ + 1, _ :: _, [], h => h.elim
theorem All2.split : ∀ {l m : List α} {l' : List β}, All2 R (l ++ m) l' → ∃ a b, l' = a ++ b ∧ All2 R l a ∧ All2 R m b
  | [], _, l', h => ⟨[], l', rfl, trivial, h⟩
  | _ :: _, _, y :: _, h => by
    obtain ⟨a, b, rfl, h1, h2⟩ := All2.split h.2
    exact ⟨y :: a, b, rfl, ⟨h.1, h1⟩, h2⟩
  | _ :: _, _, [], h => h.elim
theorem All2.get : ∀ {l : List α} {l' : List β}, All2 R l l' → ∀ (i : Nat) {x : α} {y : β}, l[i]? = some x → l'[i]? = some y → R x y
  | _ :: _, _ :: _, h, 0, _, _, hx, hy => by
    simp only [List.getElem?_cons_zero, Option.some.injEq] at hx hy
    subst hx hy
    exact h.1
  | _ :: _, _ :: _, h, i + 1, _, _, hx, hy => All2.get h.2 i hx hy
  | [], [], _, _, _, _, hx, _ => by simp at hx
  | [], _ :: _, h, _, _, _, _, _ => h.elim
  | _ :: _, [], h, _, _, _, _, _ => h.elim
theorem All2.cons_inv {x : α} {l : List α} {l' : List β} (h : All2 R (x :: l) l') : ∃ y m, l' = y :: m ∧ R x y ∧ All2 R l m := by
  cases l' with
  | nil => exact h.elim
  | cons y m => exact ⟨y, m, rfl, h.1, h.2⟩
theorem All2.nil_inv {l' : List β} (h : All2 R [] l') : l' = [] := by
  cases l' with
  | nil => rfl
  | cons y m => exact h.elim
end

/-! ### memory -/
def blk (w : World) (b : Nat) (arr : Array Value) (e : TypeId) : Prop := w.heap[b]? = some (.cells arr e (0, 0))
theorem blk.cell {w : World} {b : Nat} {arr : Array Value} {e : TypeId} (h : blk w b arr e) (o : Nat) : w.cell? ⟨b, o, none⟩ = arr[o]? := by
  unfold blk at h
  simp [World.cell?, h]
theorem blk.frozen {w : World} {b : Nat} {arr : Array Value} {e : TypeId} (h : blk w b arr e) (o : Nat) : w.frozen? ⟨b, o, none⟩ = false := by
  unfold blk at h
  simp [World.frozen?, h]
theorem blk.lt {w : World} {b : Nat} {arr : Array Value} {e : TypeId} (h : blk w b arr e) : b < w.heap.size := by
  unfold blk at h
  exact (Array.getElem?_eq_some_iff.1 h).1
theorem add_mk (b o n : Nat) : (⟨b, o, none⟩ : Addr).add n = ⟨b, o + n, none⟩ := by
  unfold Addr.add
  by_cases h : n = 0
  · subst h; rfl
  · rw [if_neg h]

/-- What cells say as a value of a type; F: the blocks that stay. -/
def Rep (F : Nat → Prop) (w : World) : (t : Ty) → t.T → List Value → Prop
  | .int k, x, cs => cs = [.int k x]
  | .bool, x, cs => cs = [.bool x]
  | .str, x, cs => cs = [.string x]
  | .list _ t, xs, cs => ∃ A c, cs = [.slice A (List.length xs) c] ∧ List.length xs ≤ c ∧ (0 < List.length xs → ∃ b o, A = some ⟨b, o, none⟩ ∧ F b ∧
      ∀ j x, (xs : List t.T)[j]? = some x → ∃ ce, ce.length = t.sz ∧ Rep F w t x ce ∧ ∀ i u, ce[i]? = some u → w.cell? ⟨b, o + (j * t.sz + i), none⟩ = some u)
  | .pair a b, x, cs => ∃ c0 c1, cs = c0 ++ c1 ∧ Rep F w a x.1 c0 ∧ Rep F w b x.2 c1
  | .unit, _, cs => cs = []
  | .fn fs, x, cs => ∃ f, fs[(x : Nat)]? = some f ∧ cs = [.func (.func f) #[] #[]]
theorem Rep.len {F : Nat → Prop} {w : World} : ∀ {t : Ty} {x : t.T} {cs : List Value}, Rep F w t x cs → cs.length = t.sz
  | .int _, _, _, h => by rw [show _ = _ from h]; rfl
  | .bool, _, _, h => by rw [show _ = _ from h]; rfl
  | .str, _, _, h => by rw [show _ = _ from h]; rfl
  | .list _ _, _, _, ⟨_, _, h, _⟩ => by rw [h]; rfl
  | .pair _ _, _, _, ⟨_, _, h, h0, h1⟩ => by rw [h, List.length_append, Rep.len h0, Rep.len h1]; rfl
  | .unit, _, _, h => by rw [show _ = _ from h]; rfl
  | .fn _, _, _, ⟨_, _, h⟩ => by rw [h]; rfl
theorem Rep.mono {F F' : Nat → Prop} {w w' : World} (hF : ∀ b, F b → F' b) (hw : ∀ b, F b → w'.heap[b]? = w.heap[b]?) : ∀ {t : Ty} {x : t.T} {cs : List Value}, Rep F w t x cs → Rep F' w' t x cs
  | .int _, _, _, h => h
  | .bool, _, _, h => h
  | .str, _, _, h => h
  | .list _ t, xs, cs, h => by
    obtain ⟨A, c, h1, h2, h3⟩ := h
    refine ⟨A, c, h1, h2, fun hn => ?_⟩
    obtain ⟨b, o, ha, hb, hc⟩ := h3 hn
    refine ⟨b, o, ha, hF b hb, fun j x hj => ?_⟩
    obtain ⟨ce, hl, hr, hu⟩ := hc j x hj
    refine ⟨ce, hl, Rep.mono hF hw hr, fun i u hi => ?_⟩
    rw [World.cell?_of_block (w := w) (hw b hb)]
    exact hu i u hi
  | .pair _ _, _, _, ⟨c0, c1, h, h0, h1⟩ => ⟨c0, c1, h, Rep.mono hF hw h0, Rep.mono hF hw h1⟩
  | .unit, _, _, h => h
  | .fn _, _, _, h => h

/-! ### the state -/
/-- What is known beside the state: the blocks that stay; each object's place, its capacity (a row's), the values that a closure captured. -/
structure Gh where
  F : Nat → Prop
  m : Nat → Option (Nat × Nat)
  cp : Nat → Nat
  cap : Nat → List Value
  sub : Nat → Nat → Option (Nat × Nat)
/-- A header of a part of a row of n elements. -/
def HdR (G : Gh) (d sz n off len : Nat) (v : Value) : Prop :=
  off + len ≤ n ∧ ∃ A c, v = .slice A len c ∧ len ≤ c ∧ off + c = G.cp d ∧ (0 < c → ∃ b o, G.m d = some (b, o) ∧ A = some ⟨b, o + off * sz, none⟩)
def OnRow (o : Obj) (R : Ty → Nat → Prop) : Prop := match o with
  | .row _ t xs _ => R t xs.length
  | .deep _ e2 t xss => R (.list e2 t) xss.length
  | .dead => True
  | _ => False
/-- On a row of rows: the elements' code, the length of each row. -/
def OnDeep (o : Obj) (R : Ty → (Nat → Option Nat) → Prop) : Prop := match o with
  | .deep _ _ t xss => R t (fun i => (xss[i]?).map List.length)
  | .row _ _ _ _ => True
  | .dead => True
  | _ => False
def OnBox (o : Obj) (R : Prop) : Prop := match o with
  | .box _ _ => R
  | .dead => True
  | _ => False
def OnCaps (o : Obj) (R : Prop) : Prop := match o with
  | .caps _ => R
  | .dead => True
  | _ => False
def OnMap (o : Obj) (R : Prop) : Prop := match o with
  | .mp _ => R
  | .dead => True
  | _ => False
def one : Value → Bool
  | .agg _ => false
  | .tuple _ => false
  | _ => true
def LfB (G : Gh) (O : Nat → Obj) (w : World) : Lf → Value → Prop
  | .u, _ => True
  | .v t x, v => Rep G.F w t x [v]
  | .bl b, v => v = .bool b
  | .b p i, v => v = .bool (@decide p i)
  | .nb p i, v => v = .bool (!@decide p i)
  | .q n p _, v => ∃ b : Bool, v = .bool b ∧ (b ≠ n → p)
  | .nils, v => v = .slice none 0 0
  | .np, v => v = .pointer none
  | .o d, v => OnRow (O d) fun t n => HdR G d t.sz n 0 n v
  | .os d off len, v => OnRow (O d) fun t n => HdR G d t.sz n off len v
  | .p d c, v => OnBox (O d) (∃ b o, G.m d = some (b, o) ∧ v = .pointer (some ⟨b, o + c, none⟩))
  | .e t x c, v => ∃ b o cs, G.F b ∧ Rep G.F w t x cs ∧ (∀ i u, cs[i]? = some u → w.cell? ⟨b, o + i, none⟩ = some u) ∧ v = .pointer (some ⟨b, o + c, none⟩)
  | .oe d i c, v => OnRow (O d) fun t n => 0 ≤ i ∧ i < (n : Int) ∧ ∃ b o, G.m d = some (b, o) ∧ v = .pointer (some ⟨b, o + i.toNat * t.sz + c, none⟩)
  | .fn0 f, v => v = .func (.func f) #[] #[]
  | .fn f d, v => OnCaps (O d) (v = .func (.func f) #[] (G.cap d).toArray)
  | .m d, v => OnMap (O d) (∃ b, G.m d = some (b, 0) ∧ v = .map (some b))
  | .oh d i n, v => OnDeep (O d) fun _ L => ∃ A c, v = .slice A n c ∧ n ≤ c ∧ (0 < n → 0 ≤ i ∧ L i.toNat = some n ∧ ∃ b o, G.sub d i.toNat = some (b, o) ∧ A = some ⟨b, o, none⟩)
  | .oi d i j c, v => OnDeep (O d) fun t L => 0 ≤ i ∧ 0 ≤ j ∧ ∃ n : Nat, L i.toNat = some n ∧ j < (n : Int) ∧ ∃ b o, G.sub d i.toNat = some (b, o) ∧ v = .pointer (some ⟨b, o + j.toNat * t.sz + c, none⟩)
  | .ap d, v => OnRow (O d) fun _ n => 0 < n ∧ n = G.cp d ∧ ∃ b o, G.m d = some (b, o) ∧ v = .pointer (some ⟨b, o, none⟩)
def LfR (G : Gh) (O : Nat → Obj) (w : World) (x : Lf) (v : Value) : Prop := one v = true ∧ LfB G O w x v
def CmR (G : Gh) (O : Nat → Obj) (w : World) : Cm → Value → Prop
  | .u, _ => True
  | .l x, v => LfR G O w x v
  | .a xs, v => ∃ cs, v = .agg cs ∧ All2 (LfR G O w) xs cs.toList
def SVR (G : Gh) (O : Nat → Obj) (w : World) : SV → Value → Prop
  | .c x, v => CmR G O w x v
  | .t xs, v => ∃ vs, v = .tuple vs ∧ All2 (CmR G O w) xs vs.toList

/-- What a function's run may count on: the blocks ahead of base are the caller's; F0: those that stay; W0: those that it may write. fx: objects that came in. -/
structure Ctx where
  base : Nat
  F0 : Nat → Prop
  W0 : Nat → Prop
  w0 : World
  fx : List Nat
  G0 : Gh
  n0 : Nat → Nat
structure Keeps (base : Nat) (W0 : Nat → Prop) (w w' : World) : Prop where
  os : w'.os = w.os
  tape : w'.tape = w.tape
  output : w'.output = w.output
  size : w.heap.size ≤ w'.heap.size
  block : ∀ b, b < base → ¬ W0 b → w'.heap[b]? = w.heap[b]?
theorem Keeps.refl (base : Nat) (W0 : Nat → Prop) (w : World) : Keeps base W0 w w := ⟨rfl, rfl, rfl, Nat.le_refl _, fun _ _ _ => rfl⟩
theorem Keeps.trans {base : Nat} {W0 : Nat → Prop} {a b c : World} (h : Keeps base W0 a b) (k : Keeps base W0 b c) : Keeps base W0 a c :=
  ⟨k.os.trans h.os, k.tape.trans h.tape, k.output.trans h.output, Nat.le_trans h.size k.size, fun x hx hn => (k.block x hx hn).trans (h.block x hx hn)⟩
theorem Keeps.below {base : Nat} {w w' : World} (h : Keeps base (fun _ => False) w w') : Below base w w' := ⟨h.os, h.tape, h.output, h.size, fun k hk => h.block k hk (fun x => x)⟩

def Obj.live : Obj → Bool
  | .box _ _ => true
  | .row _ _ _ _ => true
  | .mp _ => true
  | .deep _ _ _ _ => true
  | _ => false
def Obj.len : Obj → Nat
  | .box _ cs => cs.length
  | .row _ _ xs _ => xs.length
  | .deep _ _ _ xss => xss.length
  | _ => 0
def RowAt (F : Nat → Prop) (w : World) (t : Ty) (xs : List t.T) (arr : Array Value) (o : Nat) : Prop :=
  ∀ j x, xs[j]? = some x → ∃ ce, ce.length = t.sz ∧ Rep F w t x ce ∧ ∀ i u, ce[i]? = some u → arr[o + (j * t.sz + i)]? = some u
/-- The blocks of an object. -/
def Bl (G : Gh) (o : Obj) (d b : Nat) : Prop := (∃ p, G.m d = some (b, p)) ∨ match o with
  | .deep _ _ _ xss => ∃ j : Nat, ∃ x p, xss[j]? = some x ∧ 0 < x.length ∧ G.sub d j = some (b, p)
  | _ => False
/-- A map's entries. -/
def EntR : List (Int × Int) → List MapEntry → Prop := All2 fun e m => m.key = .int .i64 e.1 ∧ m.val = .int .i64 e.2
def own (C : Ctx) (b : Nat) : Prop := C.base ≤ b ∨ C.W0 b
def ObjR (C : Ctx) (G : Gh) (O : Nat → Obj) (w : World) (d : Nat) : Prop := match O d with
  | .no => True
  | .dead => True
  | .box e cs => ∃ b arr, G.m d = some (b, 0) ∧ blk w b arr e ∧ All2 (LfR G O w) cs arr.toList ∧ ¬ G.F b ∧ own C b
  | .row _ t xs fz => xs.length ≤ G.cp d ∧ ((G.cp d = 0 ∧ G.m d = none) ∨ ∃ b o arr e, G.m d = some (b, o) ∧ blk w b arr e ∧ o + G.cp d * t.sz ≤ arr.size ∧ RowAt G.F w t xs arr o ∧ own C b ∧ (fz = true → G.F b) ∧ (fz = false → ¬ G.F b))
  | .caps cs => All2 (CmR G O w) cs (G.cap d)
  | .deep _ _ t xss => xss.length ≤ G.cp d ∧ ((G.cp d = 0 ∧ G.m d = none) ∨ ∃ b o arr e, G.m d = some (b, o) ∧ blk w b arr e ∧ o + G.cp d ≤ arr.size ∧ own C b ∧ ¬ G.F b ∧
      (∀ (j : Nat) x, xss[j]? = some x → ∃ A c, arr[o + j]? = some (.slice A x.length c) ∧ x.length ≤ c ∧ (x.length = 0 → G.sub d j = none) ∧ (0 < x.length → ∃ b' o' arr' e', G.sub d j = some (b', o') ∧ A = some ⟨b', o', none⟩ ∧ blk w b' arr' e' ∧ RowAt G.F w t x arr' o' ∧ own C b' ∧ ¬ G.F b' ∧ b' ≠ b)) ∧
      ∀ (j j' : Nat) x x' b1 o1 b2 o2, j ≠ j' → xss[j]? = some x → xss[j']? = some x' → 0 < x.length → 0 < x'.length → G.sub d j = some (b1, o1) → G.sub d j' = some (b2, o2) → b1 ≠ b2)
  | .mp es => ∃ b arr clock, G.m d = some (b, 0) ∧ w.heap[b]? = some (.map arr clock) ∧ EntR es arr.toList ∧ ¬ G.F b ∧ own C b
structure Core (C : Ctx) (G : Gh) (O : Nat → Obj) (w : World) : Prop where
  ob : ∀ d, ObjR C G O w d
  injB : ∀ d d' b b', d ≠ d' → (O d).live = true → (O d').live = true → Bl G (O d) d b → Bl G (O d') d' b' → b ≠ b'
  F1 : ∀ b, G.F b → b < w.heap.size
  F2 : ∀ b, C.F0 b → G.F b
  F3 : ∀ b, G.F b → C.F0 b ∨ own C b
  keep : Keeps C.base C.W0 C.w0 w
  size : C.base ≤ w.heap.size
  fix : ∀ d, d ∈ C.fx → O d ≠ .no ∧ ((O d).live = true → G.m d = C.G0.m d ∧ G.cp d = C.G0.cp d ∧ (O d).len = C.n0 d)
theorem Core.inj {C : Ctx} {G : Gh} {O : Nat → Obj} {w : World} (h : Core C G O w) : ∀ d d' b o b' o', d ≠ d' → (O d).live = true → (O d').live = true → G.m d = some (b, o) → G.m d' = some (b', o') → b ≠ b' := fun d d' b o b' o' hn hl hl' hm hm' => h.injB d d' b b' hn hl hl' (Or.inl ⟨o, hm⟩) (Or.inl ⟨o', hm'⟩)
def TmR (G : Gh) (st : St) (w : World) (tmps : Array Value) : Prop := ∀ t, SVR G st.o w (st.t t) (tmps.getD t undef)

/-! ### what a step leaves -/
def Sim : Obj → Obj → Prop
  | .no, _ => True
  | _, .dead => True
  | .row _ t xs _, .row _ t' xs' _ => t = t' ∧ xs.length = xs'.length
  | .box _ _, .box _ _ => True
  | .caps _, .caps _ => True
  | .mp _, .mp _ => True
  | .deep _ e2 t xs, .deep _ e2' t' xs' => e2 = e2' ∧ t = t' ∧ xs.length = xs'.length ∧ ∀ (i n : Nat), 0 < n → (xs[i]?).map List.length = some n → (xs'[i]?).map List.length = some n
  | .deep _ e2 t xs, .row _ t' xs' _ => t' = .list e2 t ∧ xs.length = xs'.length
  | _, _ => False
theorem Sim.refl (x : Obj) : Sim x x := by cases x <;> simp [Sim]
theorem Sim.trans {a b c : Obj} (h : Sim a b) (k : Sim b c) (hb : b ≠ .no) : Sim a c := by
  cases a <;> cases b <;> cases c <;> first | (simp_all [Sim]; done) | skip
  · exact ⟨h.1.trans k.1, h.2.1.trans k.2.1, h.2.2.1.trans k.2.2.1, fun i n hn hi => k.2.2.2 i n hn (h.2.2.2 i n hn hi)⟩
structure Ext (G : Gh) (O : Nat → Obj) (w : World) (G' : Gh) (O' : Nat → Obj) (w' : World) : Prop where
  F : ∀ b, G.F b → G'.F b
  Fw : ∀ b, G.F b → w'.heap[b]? = w.heap[b]?
  sim : ∀ d, O d ≠ .no → O' d ≠ .no ∧ Sim (O d) (O' d) ∧ (O' d ≠ .dead → G'.m d = G.m d ∧ G'.cp d = G.cp d ∧ G'.cap d = G.cap d ∧ ∀ j z, G.sub d j = some z → G'.sub d j = some z)
theorem Ext.refl (G : Gh) (O : Nat → Obj) (w : World) : Ext G O w G O w := ⟨fun _ h => h, fun _ _ => rfl, fun _ h => ⟨h, Sim.refl _, fun _ => ⟨rfl, rfl, rfl, fun _ _ h => h⟩⟩⟩
theorem Ext.trans {G G1 G2 : Gh} {O O1 O2 : Nat → Obj} {w w1 w2 : World} (h : Ext G O w G1 O1 w1) (k : Ext G1 O1 w1 G2 O2 w2) : Ext G O w G2 O2 w2 :=
  ⟨fun b hb => k.F b (h.F b hb), fun b hb => (k.Fw b (h.F b hb)).trans (h.Fw b hb), fun d hd => by
    obtain ⟨h1, h2, h3⟩ := h.sim d hd
    obtain ⟨k1, k2, k3⟩ := k.sim d h1
    refine ⟨k1, Sim.trans h2 k2 h1, fun hn => ?_⟩
    obtain ⟨e1, e2, e3, e4⟩ := k3 hn
    have hn1 : O1 d ≠ .dead := by
      intro e
      rw [e] at k2
      cases h4 : O2 d <;> rw [h4] at k2 hn <;> simp_all [Sim]
    obtain ⟨f1, f2, f3, f4⟩ := h3 hn1
    exact ⟨e1.trans f1, e2.trans f2, e3.trans f3, fun j z hz => e4 j z (f4 j z hz)⟩⟩
section
variable {G G' : Gh} {O O' : Nat → Obj} {w w' : World}
theorem OnRow.mono {a b : Obj} {R R' : Ty → Nat → Prop} (hs : b = .dead ∨ Sim a b ∧ b ≠ .dead ∧ ∀ t n, R t n → R' t n) (h : OnRow a R) : OnRow b R' := by
  rcases hs with rfl | ⟨hs, hd, hr⟩
  · trivial
  · cases a <;> cases b <;> simp_all [OnRow, Sim]
theorem OnBox.mono {a b : Obj} {R R' : Prop} (hs : b = .dead ∨ Sim a b ∧ b ≠ .dead ∧ (R → R')) (h : OnBox a R) : OnBox b R' := by
  rcases hs with rfl | ⟨hs, hd, hr⟩
  · trivial
  · cases a <;> cases b <;> simp_all [OnBox, Sim]
theorem OnCaps.mono {a b : Obj} {R R' : Prop} (hs : b = .dead ∨ Sim a b ∧ b ≠ .dead ∧ (R → R')) (h : OnCaps a R) : OnCaps b R' := by
  rcases hs with rfl | ⟨hs, hd, hr⟩
  · trivial
  · cases a <;> cases b <;> simp_all [OnCaps, Sim]
theorem OnMap.mono {a b : Obj} {R R' : Prop} (hs : b = .dead ∨ Sim a b ∧ b ≠ .dead ∧ (R → R')) (h : OnMap a R) : OnMap b R' := by
  rcases hs with rfl | ⟨hs, hd, hr⟩
  · trivial
  · cases a <;> cases b <;> simp_all [OnMap, Sim]
theorem OnDeep.mono {a b : Obj} {R R' : Ty → (Nat → Option Nat) → Prop} (hs : b = .dead ∨ Sim a b ∧ b ≠ .dead ∧ ∀ t L L', (∀ (i n : Nat), 0 < n → L i = some n → L' i = some n) → R t L → R' t L') (h : OnDeep a R) : OnDeep b R' := by
  rcases hs with rfl | ⟨hs, hd, hr⟩
  · trivial
  · cases a <;> cases b <;> first | (simp_all [OnDeep, Sim]; done) | skip
    obtain ⟨rfl, rfl, hl, hi⟩ := hs
    exact hr _ _ _ hi h
theorem OnDeep.ne {a : Obj} {R : Ty → (Nat → Option Nat) → Prop} (h : OnDeep a R) : a ≠ .no := by rintro rfl; exact h
theorem OnMap.ne {a : Obj} {R : Prop} (h : OnMap a R) : a ≠ .no := by rintro rfl; exact h
theorem OnRow.ne {a : Obj} {R : Ty → Nat → Prop} (h : OnRow a R) : a ≠ .no := by rintro rfl; exact h
theorem OnBox.ne {a : Obj} {R : Prop} (h : OnBox a R) : a ≠ .no := by rintro rfl; exact h
theorem OnCaps.ne {a : Obj} {R : Prop} (h : OnCaps a R) : a ≠ .no := by rintro rfl; exact h
theorem Ext.at {d : Nat} (h : Ext G O w G' O' w') (hd : O d ≠ .no) : O' d = .dead ∨ Sim (O d) (O' d) ∧ O' d ≠ .dead ∧ G'.m d = G.m d ∧ G'.cp d = G.cp d ∧ G'.cap d = G.cap d ∧ ∀ j z, G.sub d j = some z → G'.sub d j = some z := by
  obtain ⟨_, h2, h3⟩ := h.sim d hd
  by_cases e : O' d = .dead
  · exact Or.inl e
  · exact Or.inr ⟨h2, e, h3 e⟩
theorem LfB.mono (h : Ext G O w G' O' w') : ∀ {x : Lf} {v : Value}, LfB G O w x v → LfB G' O' w' x v
  | .u, _, _ => trivial
  | .v t x, v, hx => Rep.mono h.F h.Fw (show Rep G.F w t x [v] from hx)
  | .bl _, _, hx => hx
  | .b _ _, _, hx => hx
  | .nb _ _, _, hx => hx
  | .q _ _ _, _, hx => hx
  | .nils, _, hx => hx
  | .np, _, hx => hx
  | .fn0 _, _, hx => hx
  | .e t x c, v, ⟨b, o, cs, h1, h2, h3, h4⟩ => ⟨b, o, cs, h.F b h1, Rep.mono h.F h.Fw h2, fun i u hi => by
      rw [World.cell?_of_block (w := w) (h.Fw b h1)]
      exact h3 i u hi, h4⟩
  | .o d, v, hx => by
    have hx' : OnRow (O d) (fun t n => HdR G d t.sz n 0 n v) := hx
    show OnRow (O' d) (fun t n => HdR G' d t.sz n 0 n v)
    refine OnRow.mono ((h.at hx'.ne).imp id fun ⟨a, b, c, e, _⟩ => ⟨a, b, fun t n => ?_⟩) hx'
    unfold HdR; rw [c, e]; exact id
  | .os d off len, v, hx => by
    have hx' : OnRow (O d) (fun t n => HdR G d t.sz n off len v) := hx
    show OnRow (O' d) (fun t n => HdR G' d t.sz n off len v)
    refine OnRow.mono ((h.at hx'.ne).imp id fun ⟨a, b, c, e, _⟩ => ⟨a, b, fun t n => ?_⟩) hx'
    unfold HdR; rw [c, e]; exact id
  | .p d c, v, hx => OnBox.mono ((h.at (OnBox.ne hx)).imp id fun ⟨a, b, c, e, _⟩ => ⟨a, b, by rw [c]; exact id⟩) hx
  | .oe d i c, v, hx => by
    have hx' : OnRow (O d) (fun t n => 0 ≤ i ∧ i < (n : Int) ∧ ∃ b o, G.m d = some (b, o) ∧ v = .pointer (some ⟨b, o + i.toNat * t.sz + c, none⟩)) := hx
    show OnRow (O' d) (fun t n => 0 ≤ i ∧ i < (n : Int) ∧ ∃ b o, G'.m d = some (b, o) ∧ v = .pointer (some ⟨b, o + i.toNat * t.sz + c, none⟩))
    refine OnRow.mono ((h.at hx'.ne).imp id fun ⟨a, b, c, e, _⟩ => ⟨a, b, fun t n => ?_⟩) hx'
    rw [c]; exact id
  | .fn f d, v, hx => OnCaps.mono ((h.at (OnCaps.ne hx)).imp id fun ⟨a, b, c, e, f, _⟩ => ⟨a, b, by rw [f]; exact id⟩) hx
  | .m d, v, hx => OnMap.mono ((h.at (OnMap.ne hx)).imp id fun ⟨a, b, c, e, _⟩ => ⟨a, b, by rw [c]; exact id⟩) hx
  | .oh d i n, v, hx => by
    have hx' : OnDeep (O d) (fun _ L => ∃ A c, v = .slice A n c ∧ n ≤ c ∧ (0 < n → 0 ≤ i ∧ L i.toNat = some n ∧ ∃ b o, G.sub d i.toNat = some (b, o) ∧ A = some ⟨b, o, none⟩)) := hx
    show OnDeep (O' d) (fun _ L => ∃ A c, v = .slice A n c ∧ n ≤ c ∧ (0 < n → 0 ≤ i ∧ L i.toNat = some n ∧ ∃ b o, G'.sub d i.toNat = some (b, o) ∧ A = some ⟨b, o, none⟩))
    refine OnDeep.mono ((h.at hx'.ne).imp id fun ⟨a, b, _, _, _, s⟩ => ⟨a, b, fun t L L' hL ⟨A, c, q1, q2, q3⟩ => ⟨A, c, q1, q2, fun hn => ?_⟩⟩) hx'
    obtain ⟨r1, r2, b', o', r3, r4⟩ := q3 hn
    exact ⟨r1, hL _ _ hn r2, b', o', s _ _ r3, r4⟩
  | .oi d i j c, v, hx => by
    have hx' : OnDeep (O d) (fun t L => 0 ≤ i ∧ 0 ≤ j ∧ ∃ n : Nat, L i.toNat = some n ∧ j < (n : Int) ∧ ∃ b o, G.sub d i.toNat = some (b, o) ∧ v = .pointer (some ⟨b, o + j.toNat * t.sz + c, none⟩)) := hx
    show OnDeep (O' d) (fun t L => 0 ≤ i ∧ 0 ≤ j ∧ ∃ n : Nat, L i.toNat = some n ∧ j < (n : Int) ∧ ∃ b o, G'.sub d i.toNat = some (b, o) ∧ v = .pointer (some ⟨b, o + j.toNat * t.sz + c, none⟩))
    refine OnDeep.mono ((h.at hx'.ne).imp id fun ⟨a, b, _, _, _, s⟩ => ⟨a, b, fun t L L' hL ⟨q1, q2, n, q3, q4, b', o', q5, q6⟩ => ⟨q1, q2, n, hL _ _ (by omega) q3, q4, b', o', s _ _ q5, q6⟩⟩) hx'
  | .ap d, v, hx => by
    have hx' : OnRow (O d) (fun _ n => 0 < n ∧ n = G.cp d ∧ ∃ b o, G.m d = some (b, o) ∧ v = .pointer (some ⟨b, o, none⟩)) := hx
    show OnRow (O' d) (fun _ n => 0 < n ∧ n = G'.cp d ∧ ∃ b o, G'.m d = some (b, o) ∧ v = .pointer (some ⟨b, o, none⟩))
    refine OnRow.mono ((h.at hx'.ne).imp id fun ⟨a, b, c, e, _⟩ => ⟨a, b, fun t n => ?_⟩) hx'
    rw [c, e]; exact id
theorem LfR.mono (h : Ext G O w G' O' w') {x : Lf} {v : Value} (hx : LfR G O w x v) : LfR G' O' w' x v := ⟨hx.1, LfB.mono h hx.2⟩
theorem CmR.mono (h : Ext G O w G' O' w') : ∀ {x : Cm} {v : Value}, CmR G O w x v → CmR G' O' w' x v
  | .u, _, _ => trivial
  | .l _, _, hx => LfR.mono h hx
  | .a _, _, ⟨cs, e, hx⟩ => ⟨cs, e, hx.mono fun _ _ => LfR.mono h⟩
theorem SVR.mono (h : Ext G O w G' O' w') : ∀ {x : SV} {v : Value}, SVR G O w x v → SVR G' O' w' x v
  | .c _, _, hx => CmR.mono h hx
  | .t _, _, ⟨vs, e, hx⟩ => ⟨vs, e, hx.mono fun _ _ => CmR.mono h⟩
end
theorem SVR.leaf {G : Gh} {O : Nat → Obj} {w : World} : ∀ {x : SV} {v : Value} {y : Lf}, SVR G O w x v → x.leaf = some y → LfR G O w y v
  | .c (.l _), _, _, h, e => by cases e; exact h
  | .c (.a _), _, _, _, e => by cases e
  | .c .u, _, _, _, e => by cases e
  | .t _, _, _, _, e => by cases e
theorem SVR.cm {G : Gh} {O : Nat → Obj} {w : World} : ∀ {x : SV} {v : Value}, SVR G O w x v → CmR G O w x.cm v
  | .c _, _, h => h
  | .t _, _, _ => trivial
theorem Rep.one {F : Nat → Prop} {w : World} : ∀ {t : Ty} {x : t.T} {cs : List Value}, Rep F w t x cs → ∀ u ∈ cs, one u = true
  | .int _, _, _, h, u, hu => by rw [show _ = _ from h, List.mem_singleton] at hu; rw [hu]; rfl
  | .bool, _, _, h, u, hu => by rw [show _ = _ from h, List.mem_singleton] at hu; rw [hu]; rfl
  | .str, _, _, h, u, hu => by rw [show _ = _ from h, List.mem_singleton] at hu; rw [hu]; rfl
  | .list _ _, _, _, ⟨_, _, h, _⟩, u, hu => by rw [h, List.mem_singleton] at hu; rw [hu]; rfl
  | .pair _ _, _, _, ⟨_, _, h, h0, h1⟩, u, hu => by
    rw [h, List.mem_append] at hu
    rcases hu with hu | hu
    · exact Rep.one h0 u hu
    · exact Rep.one h1 u hu
  | .unit, _, _, h, u, hu => by rw [show _ = _ from h] at hu; cases hu
  | .fn _, _, _, ⟨_, _, h⟩, u, hu => by rw [h, List.mem_singleton] at hu; rw [hu]; rfl
end Go.Proofs.YtamgbcgfjhpedaaDoor.VE
