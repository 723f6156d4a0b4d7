/- The evaluator's operations against the model's: those that leave memory alone (lemmas; no statement is proved here). -/
import Derived.Test.YtamgbcgfjhpedaaDoorVePack
import Derived.Laws.Strings
import Derived.Laws.Small
import Derived.Laws.MakeOwn
import Derived.Laws.Append
import Derived.Laws.CopyRow
import Derived.RowKit3
namespace Go.Proofs.YtamgbcgfjhpedaaDoor.VE
open Go Go.RowKit
def AllP (cs : List Chk) : Prop := ∀ c ∈ cs, c.p
/-- What holds behind an operation. -/
def StepR (C : Ctx) (G : Gh) (O : Nat → Obj) (w : World) (e : Eff) (v : Value) (w' : World) : Prop :=
  ∃ G', Core C G' (upds O e.wr) w' ∧ Ext G O w G' (upds O e.wr) w' ∧ SVR G' (upds O e.wr) w' e.sv v
def Does (P : Program) (C : Ctx) (G : Gh) (O : Nat → Obj) (w : World) (m : Sem Value) (e : Eff) : Prop :=
  ∃ v w', m.run P w = .ok v w' ∧ StepR C G O w e v w'
section
variable {P : Program} {C : Ctx} {G : Gh} {O : Nat → Obj} {w : World}
theorem StepR.pure (h : Core C G O w) {sv : SV} {rd : List Nat} {v : Value} (hs : SVR G O w sv v) : StepR C G O w ⟨sv, rd, []⟩ v w := ⟨G, h, Ext.refl _ _ _, hs⟩
theorem Does.pure (h : Core C G O w) {m : Sem Value} {sv : SV} {rd : List Nat} {v : Value} (hr : m.run P w = .ok v w) (hs : SVR G O w sv v) : Does P C G O w m ⟨sv, rd, []⟩ := ⟨v, w, hr, StepR.pure h hs⟩
theorem AllP.cons {c : Chk} {cs : List Chk} (h : AllP (c :: cs)) : c.p ∧ AllP cs := ⟨h c List.mem_cons_self, fun d hd => h d (List.mem_cons_of_mem _ hd)⟩
theorem wr_eq (k : IntKind) (n : Int) : wr k n = k.wrap n := by
  cases k <;> first | rfl | (unfold wr wrap64; exact (IntKind.wrap_i64 n).symm)
abbrev LR (G : Gh) (O : Nat → Obj) (w : World) (x : Option Lf) (v : Value) : Prop := ∀ l, x = some l → LfR G O w l v
theorem LR.int {k : IntKind} {n : Int} {v : Value} (h : LR G O w (some (.v (.int k) n)) v) : v = .int k n := by
  have := (h _ rfl).2
  have e : [v] = [.int k n] := this
  simpa using e
theorem LR.str {s : ByteArray} {v : Value} (h : LR G O w (some (.v .str s)) v) : v = .string s := by
  have := (h _ rfl).2
  have e : [v] = [.string s] := this
  simpa using e
theorem lf_int (k : IntKind) (n : Int) : LfR G O w (.v (.int k) n) (.int k n) := ⟨rfl, rfl⟩
theorem lf_str (s : ByteArray) : LfR G O w (.v .str s) (.string s) := ⟨rfl, rfl⟩
theorem lf_b (p : Prop) (i : Decidable p) : LfR G O w (.b p i) (.bool (@decide p i)) := ⟨rfl, rfl⟩
theorem lf_nb (p : Prop) (i : Decidable p) : LfR G O w (.nb p i) (.bool (!@decide p i)) := ⟨rfl, rfl⟩
theorem boolOf_R {x : Option Lf} {b : Bool} {v : Value} (e : boolOf x = some b) (h : LR G O w x v) : v = .bool b := by
  cases x with
  | none => cases e
  | some l =>
    have k := (h l rfl).2
    cases l with
    | v t y =>
      cases t with
      | bool =>
        cases e
        have k' : [v] = [.bool b] := k
        simpa using k'
      | _ => cases e
    | bl c => cases e; exact k
    | b p i => cases e; exact k
    | nb p i => cases e; exact k
    | _ => cases e
theorem toList_inj {a b : ByteArray} : (a.toList == b.toList) = decide (a = b) := by
  rw [Bool.eq_iff_iff]
  simp only [beq_iff_eq, decide_eq_true_eq]
  rw [ByteArray.toList_eq, ByteArray.toList_eq]
  constructor
  · intro h
    cases a; cases b
    congr 1
    exact Array.toList_inj.1 h
  · rintro rfl; rfl

theorem lt_nat (i : Int) (n : Nat) (h0 : 0 ≤ i) (h1 : i < (n : Int)) : i.toNat < n := by omega
theorem pos_nat (i : Int) (n : Nat) (h0 : 0 ≤ i) (h1 : i < (n : Int)) : 0 < n := by omega
theorem run_equalIn_nil {t el : TypeId} (ht : P.underlying t = some (.slice el)) (d : Nat) (A : Option Addr) (n c : Nat) : (Op.equalIn (d + 1) t (.slice A n c) (.slice none 0 0)).run P w = .ok A.isNone w := by
  cases A <;> simp [Op.equalIn, run_underlying ht]
theorem run_eql_nil {t el : TypeId} (ht : P.underlying t = some (.slice el)) (x' y' : Operand) (A : Option Addr) (n c : Nat) : (do eqGuard .eql t x' y' (.slice A n c) (.slice none 0 0); binOp .eql t (.slice A n c) (.slice none 0 0) : Sem Value).run P w = .ok (.bool A.isNone) w := by
  have := run_equalIn_nil (w := w) ht 9999 A n c
  simp only [eqGuard, binOp, Op.equal, Sem.run_bind, Sem.run_pure]
  show ((Sem.run P (Op.equalIn (9999 + 1) t (.slice A n c) (.slice none 0 0)) w).andThen _) = _
  rw [this]
  rfl
theorem run_neq_nil {t el : TypeId} (ht : P.underlying t = some (.slice el)) (x' y' : Operand) (A : Option Addr) (n c : Nat) : (do eqGuard .neq t x' y' (.slice A n c) (.slice none 0 0); binOp .neq t (.slice A n c) (.slice none 0 0) : Sem Value).run P w = .ok (.bool (!A.isNone)) w := by
  have := run_equalIn_nil (w := w) ht 9999 A n c
  simp only [eqGuard, binOp, Op.equal, Sem.run_bind, Sem.run_pure]
  show ((Sem.run P (Op.equalIn (9999 + 1) t (.slice A n c) (.slice none 0 0)) w).andThen _) = _
  rw [this]
  rfl
theorem binB_ok (h : Core C G O w) {op : BinOp} {x y : Option Lf} {cs : List Chk} {e : Eff} (he : binB op (boolOf x) (boolOf y) = some (cs, e)) {t : TypeId} {x' y' : Operand} {a b : Value} (ht : P.underlying t = some .bool) (ha : LR G O w x a) (hb : LR G O w y b) :
    Does P C G O w (do eqGuard op t x' y' a b; binOp op t a b) e := by
  unfold binB at he
  split at he <;> cases he
  · rename_i p q e1 e2
    rw [boolOf_R e1 ha, boolOf_R e2 hb]
    refine Does.pure h (v := .bool (p == q)) ?_ ?_
    · simp [eqGuard, run_eql_bool, ht]
    · exact lf_b _ _
  · rename_i p q e1 e2
    rw [boolOf_R e1 ha, boolOf_R e2 hb]
    refine Does.pure h (v := .bool (!(p == q))) ?_ ?_
    · simp [eqGuard, run_neq_bool, ht]
    · exact lf_nb _ _
theorem binL_ok (h : Core C G O w) {op : BinOp} {x y : Option Lf} {cs : List Chk} {e : Eff} (he : binL op x y = some (cs, e)) (hc : AllP cs) {t : TypeId} {x' y' : Operand} {a b : Value}
    (ht : ∀ p q, boolOf x = some p → boolOf y = some q → P.underlying t = some .bool) (ht' : y = some .nils → ∃ el, P.underlying t = some (.slice el)) (ha : LR G O w x a) (hb : LR G O w y b) :
    Does P C G O w (do eqGuard op t x' y' a b; binOp op t a b) e := by
  unfold binL at he
  split at he
  · rename_i k m k' n
    obtain rfl := ha.int
    obtain rfl := hb.int
    split at he
    · cases he
      have hn : ¬ n < 0 := Int.not_lt.2 hc.cons.1
      exact Does.pure h (v := .int k (m.fdiv (2 ^ (min n.toNat k.bits)))) (by simp [eqGuard, binOp, Op.shift, hn]) (lf_int _ _)
    · cases he
      have hn : ¬ n < 0 := Int.not_lt.2 hc.cons.1
      exact Does.pure h (v := .int k (k.wrap (m * 2 ^ (min n.toNat k.bits)))) (by simp [eqGuard, binOp, Op.shift, hn]) (by rw [← wr_eq]; exact lf_int _ _)
    · by_cases hk : k = k'
      · subst hk
        rw [if_pos rfl] at he
        split at he <;> cases he
        · exact Does.pure h (v := .int k (k.wrap ((BitVec.ofInt k.bits m &&& BitVec.ofInt k.bits n).toNat : Int))) (by simp [eqGuard, binOp, Op.intBits]) (by rw [← wr_eq]; exact lf_int _ _)
        · exact Does.pure h (v := .int k (k.wrap (m + n))) (by simp [eqGuard, binOp, Op.intArith]) (by rw [← wr_eq]; exact lf_int _ _)
        · exact Does.pure h (v := .int k (k.wrap (m - n))) (by simp [eqGuard, binOp, Op.intArith]) (by rw [← wr_eq]; exact lf_int _ _)
        · exact Does.pure h (v := .int k (k.wrap (m * n))) (by simp [eqGuard, binOp, Op.intArith]) (by rw [← wr_eq]; exact lf_int _ _)
        · have hn : n ≠ 0 := hc.cons.1
          exact Does.pure h (v := .int k (k.wrap (Int.tdiv m n))) (by simp [eqGuard, binOp, Op.intDiv, hn]) (by rw [← wr_eq]; exact lf_int _ _)
        · have hn : n ≠ 0 := hc.cons.1
          exact Does.pure h (v := .int k (Int.tmod m n)) (by simp [eqGuard, binOp, Op.intDiv, hn]) (lf_int _ _)
        · exact Does.pure h (v := .bool (m == n)) (by simp [eqGuard, binOp, Op.intCmp]) (lf_b _ _)
        · exact Does.pure h (v := .bool (m != n)) (by simp [eqGuard, binOp, Op.intCmp]) (lf_nb _ _)
        · exact Does.pure h (v := .bool (m < n)) (by simp [eqGuard, binOp, Op.intCmp]) (lf_b _ _)
        · exact Does.pure h (v := .bool (m ≤ n)) (by simp [eqGuard, binOp, Op.intCmp]) (lf_b _ _)
        · exact Does.pure h (v := .bool (m > n)) (by simp [eqGuard, binOp, Op.intCmp]) (lf_b _ _)
        · exact Does.pure h (v := .bool (m ≥ n)) (by simp [eqGuard, binOp, Op.intCmp]) (lf_b _ _)
      · rw [if_neg hk] at he
        cases he
  · rename_i s u
    obtain rfl := ha.str
    obtain rfl := hb.str
    cases op <;> cases he
    · have hn : ¬ ((s.size : Int) + (u.size : Int) > 9223372036854775807) := Int.not_lt.2 hc.cons.1
      have hn' : ¬ (((s.size + u.size : Nat) : Int) > IntKind.i64.max) := by
        show ¬ (((s.size + u.size : Nat) : Int) > 9223372036854775807)
        omega
      refine Does.pure h (v := .string (s ++ u)) ?_ (lf_str _)
      simp only [eqGuard, binOp, Op.stringOp]
      rw [if_neg hn']
      rfl
    · exact Does.pure h (v := .bool (s.toList == u.toList)) (by simp [eqGuard, binOp, Op.stringOp]) (by rw [toList_inj]; exact lf_b _ _)
    · exact Does.pure h (v := .bool (!(s.toList == u.toList))) (by simp [eqGuard, binOp, Op.stringOp]) (by rw [toList_inj]; exact lf_nb _ _)
  · rename_i el t' xs
    obtain ⟨e', hs⟩ := ht' rfl
    have k : Rep G.F w (.list el t') xs [a] := (ha _ rfl).2
    obtain ⟨A, c, k1, k2, k3⟩ := k
    obtain rfl : a = .slice A (List.length xs) c := by simpa using k1
    obtain rfl : b = .slice none 0 0 := (hb _ rfl).2
    have hA : A = none → List.length xs = 0 := by
      intro hn
      subst hn
      by_cases hz : List.length xs = 0
      · exact hz
      · obtain ⟨b, o, hA, _⟩ := k3 (by omega)
        cases hA
    cases op <;> cases he
    · refine Does.pure h (v := .bool A.isNone) ?_ ⟨rfl, ⟨A.isNone, rfl, fun hb => ?_⟩⟩
      · exact run_eql_nil hs _ _ _ _ _
      · refine hA ?_
        cases A with
        | none => rfl
        | some x => simp at hb
    · refine Does.pure h (v := .bool (!A.isNone)) ?_ ⟨rfl, ⟨!A.isNone, rfl, fun hb => ?_⟩⟩
      · exact run_neq_nil hs _ _ _ _ _
      · refine hA ?_
        cases A with
        | none => rfl
        | some x => simp at hb
  · obtain ⟨e', hs⟩ := ht' rfl
    obtain rfl : a = .slice none 0 0 := (ha _ rfl).2
    obtain rfl : b = .slice none 0 0 := (hb _ rfl).2
    cases op <;> cases he
    · exact Does.pure h (v := .bool true) (run_eql_nil hs _ _ _ _ _) ⟨rfl, rfl⟩
    · exact Does.pure h (v := .bool false) (run_neq_nil hs _ _ _ _ _) ⟨rfl, rfl⟩
  · have : ∃ p q, boolOf x = some p ∧ boolOf y = some q := by
      unfold binB at he
      split at he
      · rename_i e1 e2; exact ⟨_, _, e1, e2⟩
      · rename_i e1 e2; exact ⟨_, _, e1, e2⟩
      · cases he
    obtain ⟨p, q, e1, e2⟩ := this
    exact binB_ok h he (ht p q e1 e2) ha hb
theorem unL_ok (h : Core C G O w) {op : UnOp} {x : Option Lf} {cs : List Chk} {e : Eff} (he : unL op x = some (cs, e)) {a : Value} (ha : LR G O w x a) : Does P C G O w (Op.unary op a) e := by
  unfold unL at he
  split at he
  · rename_i l
    have k := (ha l rfl).2
    unfold notL at he
    split at he <;> cases he
    · rename_i b
      obtain rfl : a = .bool b := k
      exact Does.pure h (v := .bool (!b)) (by simp [Op.unary]) ⟨rfl, rfl⟩
    · rename_i p i
      obtain rfl : a = .bool (@decide p i) := k
      exact Does.pure h (v := .bool (!@decide p i)) (by simp [Op.unary]) ⟨rfl, rfl⟩
    · rename_i p i
      obtain rfl : a = .bool (!@decide p i) := k
      exact Does.pure h (v := .bool (@decide p i)) (by simp [Op.unary]) ⟨rfl, rfl⟩
    · rename_i b
      have k' : [a] = [.bool b] := k
      obtain rfl : a = .bool b := by simpa using k'
      refine Does.pure h (v := .bool (!b)) (by simp [Op.unary]) ⟨rfl, ?_⟩
      show Value.bool (!b) = .bool (!decide (b = true))
      cases b <;> rfl
  · rename_i k n
    obtain rfl := ha.int
    cases he
    exact Does.pure h (v := .int k (k.wrap (0 - n))) (by simp [Op.unary, Op.intArith]) (by rw [← wr_eq]; exact lf_int _ _)
  · cases he
theorem convL_ok (h : Core C G O w) {s d : TypeId} {x : Option Lf} {cs : List Chk} {e : Eff} (he : convL P s d x = some (cs, e)) {a : Value} (ha : LR G O w x a) : Does P C G O w (convert s d a) e := by
  unfold convL at he
  split at he <;> cases he
  · rename_i ds k k' n e1 e2
    obtain rfl := ha.int
    exact Does.pure h (v := .int k (k.wrap n)) (by simp [convert, run_underlying e1, run_underlying e2, Conv.intToInt]) (by rw [← wr_eq]; exact lf_int _ _)
  · rename_i str e1 e2
    obtain rfl := ha.str
    exact Does.pure h (v := .string str) (by simp [convert, run_underlying e1, run_underlying e2]) (lf_str _)
theorem indexL_ok (h : Core C G O w) {t : TypeId} {x y : Option Lf} {cs : List Chk} {e : Eff} (ht : P.underlying t = some .string) (he : indexL x y = some (cs, e)) (hc : AllP cs) {a b : Value} (ha : LR G O w x a) (hb : LR G O w y b) : Does P C G O w (Instr.index t a b) e := by
  unfold indexL at he
  split at he <;> cases he
  rename_i s k i
  obtain rfl := ha.str
  obtain rfl := hb.int
  have h0 : (0 : Int) ≤ i := hc.cons.1
  have h1 : i < ((s : ByteArray).size : Int) := hc.cons.2.cons.1
  have hl : i.toNat < (s : ByteArray).size := lt_nat _ _ h0 h1
  refine Does.pure h (v := .int .u8 (bt s i)) ?_ (lf_int _ _)
  simp [Instr.index, asIntOf, run_underlying ht, h0, bt, hl]
theorem foldL_ok (h : Core C G O w) (f : Int → Int → Int) (g : Value → Value → Sem Value) (hg : ∀ k a b, (g (.int k a) (.int k b)).run P w = .ok (.int k (f a b)) w) : ∀ (ys : List (Option Lf)) (x : Option Lf) {cs : List Chk} {e : Eff} (vs : List Value) (a : Value), foldL f x ys = some (cs, e) → LR G O w x a → All2 (LR G O w) ys vs → Does P C G O w (vs.foldlM g a) e
  | [], x, cs, e, vs, a, he, ha, hv => by
    obtain rfl := hv.nil_inv
    unfold foldL at he
    cases x with
    | none => cases he
    | some l =>
      cases he
      exact Does.pure h (v := a) rfl (ha l rfl)
  | y :: ys, x, cs, e, vs0, a, he, ha, hv0 => by
    obtain ⟨b, vs, rfl, hb, hv⟩ := hv0.cons_inv
    clear hv0
    unfold foldL at he
    split at he
    · rename_i e1; cases e1
    · rename_i k m k' n l e1
      cases e1
      by_cases hk : k = k'
      · subst hk
        rw [if_pos rfl] at he
        obtain rfl := ha.int
        obtain rfl := hb.int
        obtain ⟨v, w', hr, hs⟩ := foldL_ok h f g hg ys (some (.v (.int k) (f m n))) vs (.int k (f m n)) he (fun l hl => by cases hl; exact lf_int _ _) hv
        refine ⟨v, w', ?_, hs⟩
        rw [List.foldlM_cons, Sem.run_bind, hg]
        exact hr
      · rw [if_neg hk] at he
        cases he
    · cases he

/-! slices and places -/
theorem info_of {t : TypeId} {d : TypeDesc} (h : P.underlying t = some d) : ∃ i, P.info? t = some i := by
  unfold Program.underlying at h
  cases e : P.info? t with
  | none => rw [e] at h; cases h
  | some i => exact ⟨i, rfl⟩
theorem cells_ne {t : TypeId} (h : P.cellsOf t ≠ 0) : ∃ i, P.info? t = some i ∧ i.size = P.cellsOf t := by
  unfold Program.cellsOf at h ⊢
  cases e : P.info? t with
  | none => rw [e] at h; exact absurd rfl h
  | some i => exact ⟨i, rfl, rfl⟩
theorem lfb_oe (d : Nat) (i : Int) (c : Nat) (v : Value) : LfB G O w (.oe d i c) v = OnRow (O d) (fun t n => 0 ≤ i ∧ i < (n : Int) ∧ ∃ b o, G.m d = some (b, o) ∧ v = .pointer (some ⟨b, o + i.toNat * t.sz + c, none⟩)) := rfl
theorem row_hdr {d : Nat} {e : TypeId} {t : Ty} {xs : List t.T} {fz : Bool} {v : Value} (hd : O d = .row e t xs fz) (hv : LfR G O w (.o d) v) : HdR G d t.sz xs.length 0 xs.length v := by
  have k : OnRow (O d) (fun t n => HdR G d t.sz n 0 n v) := hv.2
  rw [hd] at k
  exact k
theorem row_hdrs {d off len : Nat} {e : TypeId} {t : Ty} {xs : List t.T} {fz : Bool} {v : Value} (hd : O d = .row e t xs fz) (hv : LfR G O w (.os d off len) v) : HdR G d t.sz xs.length off len v := by
  have k : OnRow (O d) (fun t n => HdR G d t.sz n off len v) := hv.2
  rw [hd] at k
  exact k
theorem deep_hdr {d : Nat} {e e2 : TypeId} {t : Ty} {xss : List (List t.T)} {v : Value} (hd : O d = .deep e e2 t xss) (hv : LfR G O w (.o d) v) : HdR G d 1 xss.length 0 xss.length v := by
  have k : OnRow (O d) (fun t n => HdR G d t.sz n 0 n v) := hv.2
  rw [hd] at k
  exact k
theorem lenL_ok (h : Core C G O w) {t : TypeId} {x : Option Lf} {cs : List Chk} {e : Eff} (he : lenL P t O x = some (cs, e)) {a : Value} (ha : LR G O w x a) (ty : TypeId) : Does P C G O w (Builtin.len_ #[t] ty #[a]) e := by
  unfold lenL at he
  split at he
  · rename_i el ht
    have run : ∀ A n c, (Builtin.len_ #[t] ty #[.slice A n c]).run P w = .ok (.int .i64 (n : Int)) w := by
      intro A n c
      simp [Builtin.len_, run_underlying ht, goInt]
    split at he
    · rename_i e' t' xs
      cases he
      obtain ⟨A, c, k1, _⟩ := (show Rep G.F w (.list e' t') xs [a] from (ha _ rfl).2)
      obtain rfl : a = .slice A (List.length xs) c := by simpa using k1
      exact Does.pure h (run _ _ _) (lf_int _ _)
    · cases he
      obtain rfl : a = .slice none 0 0 := (ha _ rfl).2
      exact Does.pure h (run _ _ _) (lf_int _ _)
    · rename_i d
      split at he
      · rename_i e' t' xs fz hd
        cases he
        obtain ⟨_, A, c, rfl, _⟩ := row_hdr hd (ha _ rfl)
        exact Does.pure h (run _ _ _) (lf_int _ _)
      · rename_i e' e2 t' xss hd
        cases he
        obtain ⟨_, A, c, rfl, _⟩ := deep_hdr hd (ha _ rfl)
        exact Does.pure h (run _ _ _) (lf_int _ _)
      · cases he
    · rename_i d off len
      split at he <;> cases he
      rename_i e' t' xs fz hd
      obtain ⟨_, A, c, rfl, _⟩ := row_hdrs hd (ha _ rfl)
      exact Does.pure h (run _ _ _) (lf_int _ _)
    · cases he
  · rename_i ht
    split at he <;> cases he
    rename_i s
    obtain rfl := ha.str
    exact Does.pure h (v := .int .i64 ((s : ByteArray).size : Int)) (by simp [Builtin.len_, run_underlying ht, goInt]) (lf_int _ _)
  · cases he
theorem capL_ok (h : Core C G O w) {t : TypeId} {x : Option Lf} {cs : List Chk} {e : Eff} (he : capL P t x = some (cs, e)) {a : Value} (ha : LR G O w x a) (ty : TypeId) : Does P C G O w (Builtin.cap_ #[t] ty #[a]) e := by
  unfold capL at he
  split at he
  · rename_i el ht
    split at he <;> cases he
    obtain rfl : a = .slice none 0 0 := (ha _ rfl).2
    exact Does.pure h (v := .int .i64 ((0 : Nat) : Int)) (by simp [Builtin.cap_, run_underlying ht, goInt]) (lf_int _ _)
  · cases he
theorem run_indexAt {t el : TypeId} {k : IntKind} {i : Int} {b o len c : Nat} (ht : P.underlying t = some (.slice el)) (hn : P.cellsOf el ≠ 0) (h0 : 0 ≤ i) (h1 : i < (len : Int)) :
    (Instr.indexAt t (.slice (some ⟨b, o, none⟩) len c) (.int k i)).run P w = .ok (.pointer (some ⟨b, o + i.toNat * P.cellsOf el, none⟩)) w := by
  obtain ⟨inf, hi, hs⟩ := cells_ne hn
  simp [Instr.indexAt, asIntOf, run_underlying ht, h0, h1, sizeOf, typeInfo, hi, hs, add_mk]
theorem indexAddrL_ok (h : Core C G O w) {t el : TypeId} {x y : Option Lf} {cs : List Chk} {e : Eff} (ht : P.underlying t = some (.slice el)) (he : indexAddrL (P.cellsOf el) O x y = some (cs, e)) (hc : AllP cs) {a b : Value} (ha : LR G O w x a) (hb : LR G O w y b) : Does P C G O w (Instr.indexAt t a b) e := by
  unfold indexAddrL at he
  split at he
  · rename_i k i
    obtain rfl := hb.int
    split at he
    · rename_i e' t' xs
      by_cases hz : t'.sz = P.cellsOf el ∧ P.cellsOf el ≠ 0
      · rw [if_pos hz] at he
        cases he
        have h0 : (0 : Int) ≤ i := hc.cons.1
        have h1 : i < ((List.length xs : Nat) : Int) := hc.cons.2.cons.1
        obtain ⟨A, c, k1, k2, k3⟩ := (show Rep G.F w (.list e' t') xs [a] from (ha _ rfl).2)
        obtain rfl : a = .slice A (List.length xs) c := by simpa using k1
        obtain ⟨b, o, rfl, hF, hcell⟩ := k3 (pos_nat _ _ h0 h1)
        have hl : i.toNat < List.length xs := lt_nat _ _ h0 h1
        obtain ⟨ce, c1, c2, c3⟩ := hcell i.toNat _ (List.getElem?_eq_getElem hl)
        refine Does.pure h (run_indexAt ht hz.2 h0 h1) ⟨rfl, b, o + i.toNat * P.cellsOf el, ce, hF, ?_, fun j u hj => ?_, rfl⟩
        · unfold rd
          rw [List.getD_eq_getElem?_getD, List.getElem?_eq_getElem hl]
          exact c2
        · have := c3 j u hj
          rw [hz.1] at this
          rw [← this]
          congr 2
          omega
      · rw [if_neg hz] at he
        cases he
    · rename_i d
      split at he
      · rename_i e' t' xs fz hd
        by_cases hz : t'.sz = P.cellsOf el ∧ P.cellsOf el ≠ 0
        · rw [if_pos hz] at he
          cases he
          have h0 : (0 : Int) ≤ i := hc.cons.1
          have h1 : i < ((List.length xs : Nat) : Int) := hc.cons.2.cons.1
          obtain ⟨_, A, c, rfl, k2, k3, k4⟩ := row_hdr hd (ha _ rfl)
          obtain ⟨b, o, hm, rfl⟩ := k4 (Nat.lt_of_lt_of_le (pos_nat _ _ h0 h1) k2)
          refine Does.pure h (run_indexAt ht hz.2 h0 h1) ⟨rfl, ?_⟩
          rw [lfb_oe, hd]
          refine ⟨h0, h1, b, o, hm, ?_⟩
          rw [hz.1]
          simp
        · rw [if_neg hz] at he
          cases he
      · rename_i e' e2 t' xss hd
        by_cases hz : 1 = P.cellsOf el
        · rw [if_pos hz] at he
          cases he
          have h0 : (0 : Int) ≤ i := hc.cons.1
          have h1 : i < ((List.length xss : Nat) : Int) := hc.cons.2.cons.1
          obtain ⟨_, A, c, rfl, k2, k3, k4⟩ := deep_hdr hd (ha _ rfl)
          obtain ⟨b, o, hm, rfl⟩ := k4 (Nat.lt_of_lt_of_le (pos_nat _ _ h0 h1) k2)
          refine Does.pure h (run_indexAt ht (by omega) h0 h1) ⟨rfl, ?_⟩
          rw [lfb_oe, hd]
          refine ⟨h0, h1, b, o, hm, ?_⟩
          rw [← hz]
          show Value.pointer (some ⟨b, o + 0 * 1 + i.toNat * 1, none⟩) = .pointer (some ⟨b, o + i.toNat * 1 + 0, none⟩)
          simp
        · rw [if_neg hz] at he
          cases he
      · cases he
    · rename_i d i' len
      split at he
      · rename_i e' e2 t' xss hd
        by_cases hz : t'.sz = P.cellsOf el ∧ P.cellsOf el ≠ 0
        · rw [if_pos hz] at he
          cases he
          have h0 : (0 : Int) ≤ i := hc.cons.1
          have h1 : i < (len : Int) := hc.cons.2.cons.1
          have k : OnDeep (O d) (fun _ L => ∃ A c, a = .slice A len c ∧ len ≤ c ∧ (0 < len → 0 ≤ i' ∧ L i'.toNat = some len ∧ ∃ b o, G.sub d i'.toNat = some (b, o) ∧ A = some ⟨b, o, none⟩)) := (ha _ rfl).2
          rw [hd] at k
          obtain ⟨A, c, rfl, q2, q3⟩ := k
          obtain ⟨r1, r2, b, o, r3, rfl⟩ := q3 (pos_nat _ _ h0 h1)
          refine Does.pure h (run_indexAt ht hz.2 h0 h1) ⟨rfl, ?_⟩
          show OnDeep (O d) (fun t L => 0 ≤ i' ∧ 0 ≤ i ∧ ∃ n : Nat, L i'.toNat = some n ∧ i < (n : Int) ∧ ∃ b1 o1, G.sub d i'.toNat = some (b1, o1) ∧ Value.pointer (some ⟨b, o + i.toNat * P.cellsOf el, none⟩) = .pointer (some ⟨b1, o1 + i.toNat * t.sz + 0, none⟩))
          rw [hd]
          exact ⟨r1, h0, len, r2, h1, b, o, r3, by rw [hz.1]; rfl⟩
        · rw [if_neg hz] at he
          cases he
      · cases he
    · rename_i d off len
      split at he
      · rename_i e' t' xs fz hd
        by_cases hz : t'.sz = P.cellsOf el ∧ P.cellsOf el ≠ 0
        · rw [if_pos hz] at he
          cases he
          have h0 : (0 : Int) ≤ i := hc.cons.1
          have h1 : i < (len : Int) := hc.cons.2.cons.1
          obtain ⟨k1, A, c, rfl, k2, k3, k4⟩ := row_hdrs hd (ha _ rfl)
          obtain ⟨b, o, hm, rfl⟩ := k4 (Nat.lt_of_lt_of_le (pos_nat _ _ h0 h1) k2)
          refine Does.pure h (run_indexAt ht hz.2 h0 h1) ⟨rfl, ?_⟩
          rw [lfb_oe, hd]
          have key : ∀ i : Int, 0 ≤ i → i < (len : Int) → 0 ≤ (off : Int) + i ∧ (off : Int) + i < (xs.length : Int) ∧ ((off : Int) + i).toNat = off + i.toNat := by intro i h0 h1; omega
          obtain ⟨q1, q2, q3⟩ := key i h0 h1
          refine ⟨q1, q2, b, o, hm, ?_⟩
          rw [hz.1, q3, Nat.add_mul]
          simp [Nat.add_assoc]
        · rw [if_neg hz] at he
          cases he
      · cases he
    · cases he
  · cases he
theorem fieldOff_ok {s : TypeId} {f n : Nat} {t : TypeId} (e : fieldOff P s f = some (n, t)) : ∃ fs fd, P.underlying s = some (.struct fs) ∧ fs[f]? = some fd ∧ fd.offset = n ∧ fd.type = t ∧ P.cellsOf t ≠ 0 := by
  unfold fieldOff at e
  split at e
  · rename_i fs hu
    split at e
    · rename_i g hg
      by_cases hz : P.cellsOf g.type = 0
      · rw [if_pos hz] at e; cases e
      · rw [if_neg hz] at e
        cases e
        exact ⟨fs, g, hu, hg, rfl, rfl, hz⟩
    · cases e
  · cases e
theorem fieldAddrL_ok (h : Core C G O w) {s : TypeId} {f : Nat} {x : Option Lf} {cs : List Chk} {e : Eff} (he : fieldAddrL P s f O x = some (cs, e)) {a : Value} (ha : LR G O w x a) : Does P C G O w (Instr.fieldAt s a f) e := by
  unfold fieldAddrL at he
  split at he
  · rename_i n t hf
    obtain ⟨fs, fd, hu, hg, rfl, rfl, hz⟩ := fieldOff_ok hf
    obtain ⟨inf, hi, hs⟩ := cells_ne hz
    have run : ∀ b o, (Instr.fieldAt s (.pointer (some ⟨b, o, none⟩)) f).run P w = .ok (.pointer (some ⟨b, o + fd.offset, none⟩)) w := by
      intro b o
      have hs' : inf.size ≠ 0 := by rw [hs]; exact hz
      simp [Instr.fieldAt, run_underlying hu, hg, Instr.sureAddr, fieldPlace, sizeOf, typeInfo, hi, hs', add_mk]
    split at he
    · rename_i d c
      split at he <;> cases he
      rename_i e' cs hd
      have k : OnBox (O d) (∃ b o, G.m d = some (b, o) ∧ a = .pointer (some ⟨b, o + c, none⟩)) := (ha _ rfl).2
      rw [hd] at k
      obtain ⟨b, o, hm, rfl⟩ := k
      refine Does.pure h (run _ _) ⟨rfl, ?_⟩
      show OnBox (O d) _
      rw [hd]
      exact ⟨b, o, hm, by rw [Nat.add_assoc]⟩
    · rename_i T y c
      cases he
      obtain ⟨b, o, cs, h1, h2, h3, rfl⟩ := (ha _ rfl).2
      exact Does.pure h (run _ _) ⟨rfl, b, o, cs, h1, h2, h3, by rw [Nat.add_assoc]⟩
    · rename_i d i c
      split at he <;> cases he
      rename_i e' T xs fz hd
      have k : OnRow (O d) (fun t n => 0 ≤ i ∧ i < (n : Int) ∧ ∃ b o, G.m d = some (b, o) ∧ a = .pointer (some ⟨b, o + i.toNat * t.sz + c, none⟩)) := (ha _ rfl).2
      rw [hd] at k
      obtain ⟨h0, h1, b, o, hm, rfl⟩ := k
      refine Does.pure h (run _ _) ⟨rfl, ?_⟩
      rw [lfb_oe, hd]
      exact ⟨h0, h1, b, o, hm, by rw [Nat.add_assoc]⟩
    · rename_i d i j c
      split at he <;> cases he
      rename_i e' e2 T xss hd
      have k : OnDeep (O d) (fun t L => 0 ≤ i ∧ 0 ≤ j ∧ ∃ n : Nat, L i.toNat = some n ∧ j < (n : Int) ∧ ∃ b o, G.sub d i.toNat = some (b, o) ∧ a = .pointer (some ⟨b, o + j.toNat * t.sz + c, none⟩)) := (ha _ rfl).2
      rw [hd] at k
      obtain ⟨q1, q2, n', q3, q4, b, o, q5, rfl⟩ := k
      refine Does.pure h (run _ _) ⟨rfl, ?_⟩
      show OnDeep (O d) (fun t L => 0 ≤ i ∧ 0 ≤ j ∧ ∃ n : Nat, L i.toNat = some n ∧ j < (n : Int) ∧ ∃ b1 o1, G.sub d i.toNat = some (b1, o1) ∧ Value.pointer (some ⟨b, o + j.toNat * T.sz + c + fd.offset, none⟩) = .pointer (some ⟨b1, o1 + j.toNat * t.sz + (c + fd.offset), none⟩))
      rw [hd]
      exact ⟨q1, q2, n', q3, q4, b, o, q5, by rw [Nat.add_assoc]⟩
    · cases he
  · cases he
theorem cutSV_ok {t : TypeId} {ls : List Lf} {c : Nat} {s : SV} (e : cutSV P t ls c = some s) {vs : List Value} (hv : All2 (LfR G O w) ls vs) :
    ∃ l, l = (vs.drop c).take (P.cellsOf t) ∧ l.length = P.cellsOf t ∧ ((aggO P t = some true ∧ SVR G O w s (.agg l.toArray)) ∨ (aggO P t = some false ∧ ∃ v, l = [v] ∧ SVR G O w s v)) := by
  unfold cutSV at e
  have h2 := (hv.drop c).take (P.cellsOf t)
  refine ⟨_, rfl, ?_⟩
  by_cases hl : ((ls.drop c).take (P.cellsOf t)).length = P.cellsOf t
  · simp only [hl, if_true] at e
    refine ⟨by rw [← h2.length, hl], ?_⟩
    split at e
    · rename_i e1
      cases e
      exact Or.inl ⟨e1, _, rfl, h2⟩
    · rename_i e1 e2
      cases e
      rw [e2] at h2
      obtain ⟨y, m, e3, h3, h4⟩ := h2.cons_inv
      have := h4.nil_inv
      subst this
      exact Or.inr ⟨e1, y, e3, h3⟩
    · cases e
  · simp only [hl, if_false] at e
    cases e
theorem aggO_ok {t : TypeId} {b : Bool} (e : aggO P t = some b) : (∃ i, P.info? t = some i) ∧ (isAgg t).run P w = .ok b w := by
  unfold aggO at e
  split at e <;> cases e
  · rename_i fs hu
    exact ⟨info_of hu, by simp [isAgg, run_underlying hu]⟩
  · rename_i n el hu
    exact ⟨info_of hu, by simp [isAgg, run_underlying hu]⟩
  · rename_i d h1 h2 hu
    refine ⟨info_of hu, ?_⟩
    simp only [isAgg, Sem.run_bind, run_underlying hu, Result.andThen_ok]
    rfl
theorem fieldL_ok (h : Core C G O w) {s : TypeId} {f : Nat} {x : SV} {cs : List Chk} {e : Eff} (he : fieldL P s f x = some (cs, e)) {a : Value} (ha : SVR G O w x a) : Does P C G O w (Instr.field s a f) e := by
  unfold fieldL at he
  split at he
  · rename_i ls
    obtain ⟨vs, rfl, hv⟩ := ha
    split at he
    · rename_i n t hf
      obtain ⟨fs, fd, hu, hg, rfl, rfl, hz⟩ := fieldOff_ok hf
      cases e1 : cutSV P fd.type ls fd.offset with
      | none => rw [e1] at he; cases he
      | some sv =>
        rw [e1] at he
        cases he
        obtain ⟨l, hl, hn, hs⟩ := cutSV_ok e1 hv
        obtain ⟨inf, hi, hsz⟩ := cells_ne hz
        rcases hs with ⟨ha, hs⟩ | ⟨ha, v, rfl, hs⟩
        · refine Does.pure h ?_ hs
          simp only [Instr.field, Sem.run_bind, run_underlying hu, Result.andThen_ok, hg, asAgg, Sem.run_pure, part, (aggO_ok ha).2, if_true, sizeOf, typeInfo, run_program, hi]
          rw [hl, hsz]
          congr 2
          apply Array.ext'
          simp [List.extract_eq_take_drop]
        · refine Does.pure h ?_ hs
          simp only [Instr.field, Sem.run_bind, run_underlying hu, Result.andThen_ok, hg, asAgg, Sem.run_pure, part, (aggO_ok ha).2]
          have : vs[fd.offset]? = some v := by
            have e2 : ((vs.toList.drop fd.offset).take (P.cellsOf fd.type))[0]? = some v := by rw [← hl]; rfl
            rw [List.getElem?_take] at e2
            split at e2
            · rw [List.getElem?_drop] at e2
              simpa using e2
            · cases e2
          simp [this]
    · cases he
  · cases he
/-- A load of what lies at an address. -/
theorem run_loadAt {t : TypeId} {b o : Nat} {l : List Value} (hl : l.length = P.cellsOf t) (hc : ∀ i u, l[i]? = some u → w.cell? ⟨b, o + i, none⟩ = some u) :
    (aggO P t = some true → (Instr.loadAt t (.pointer (some ⟨b, o, none⟩))).run P w = .ok (.agg l.toArray) w) ∧ (aggO P t = some false → ∀ v, l = [v] → (Instr.loadAt t (.pointer (some ⟨b, o, none⟩))).run P w = .ok v w) := by
  refine ⟨fun ha => ?_, fun ha v hv => ?_⟩
  · obtain ⟨⟨inf, hi⟩, hag⟩ := aggO_ok (w := w) ha
    have hsz : inf.size = l.length := by rw [hl]; unfold Program.cellsOf; rw [hi]; rfl
    simp only [Instr.loadAt, Instr.sureAddr, Sem.run_bind, Sem.run_pure, Result.andThen_ok, loadVar, hag, if_true, sizeOf, typeInfo, run_program, hi, hsz]
    rw [run_loadCells_list w ⟨b, o, none⟩ l (fun j v hj => by rw [add_mk]; exact hc j v hj)]
    rfl
  · obtain ⟨⟨inf, hi⟩, hag⟩ := aggO_ok (w := w) ha
    subst hv
    have := hc 0 v rfl
    rw [Nat.add_zero] at this
    simp only [Instr.loadAt, Instr.sureAddr, Sem.run_bind, Sem.run_pure, Result.andThen_ok, loadVar, hag]
    rw [if_neg (by decide), run_load, this]
theorem loadL_pure (h : Core C G O w) {t : TypeId} {x : Option Lf} {cs : List Chk} {e : Eff} (he : loadL P t O x = some (cs, e)) {a : Value} (ha : LR G O w x a) : ∃ v, (Instr.loadAt t a).run P w = .ok v w ∧ SVR G O w e.sv v ∧ e.wr = [] := by
  have fin : ∀ (sv : SV) (rd : List Nat) (b o c : Nat) (ls : List Lf) (vs : List Value), cutSV P t ls c = some sv → All2 (LfR G O w) ls vs → (∀ i u, vs[i]? = some u → w.cell? ⟨b, o + i, none⟩ = some u) → ∃ v, (Instr.loadAt t (.pointer (some ⟨b, o + c, none⟩))).run P w = .ok v w ∧ SVR G O w sv v ∧ ((⟨sv, rd, []⟩ : Eff).wr = []) := by
    intro sv rd b o c ls vs e1 hv hcell
    obtain ⟨l, hl, hn, hs⟩ := cutSV_ok e1 hv
    have hr := run_loadAt (P := P) (w := w) (t := t) (b := b) (o := o + c) hn (fun i u hi => by
      rw [Nat.add_assoc]
      refine hcell (c + i) u ?_
      rw [hl, List.getElem?_take] at hi
      split at hi
      · rw [List.getElem?_drop] at hi; exact hi
      · cases hi)
    rcases hs with ⟨ha, hs⟩ | ⟨ha, v, hv, hs⟩
    · exact ⟨_, hr.1 ha, hs, rfl⟩
    · exact ⟨_, hr.2 ha v hv, hs, rfl⟩
  unfold loadL at he
  split at he
  · rename_i d c
    split at he
    · rename_i e' ls hd
      cases e1 : cutSV P t ls c with
      | none => rw [e1] at he; cases he
      | some sv =>
        rw [e1] at he
        cases he
        have k : OnBox (O d) (∃ b o, G.m d = some (b, o) ∧ a = .pointer (some ⟨b, o + c, none⟩)) := (ha _ rfl).2
        rw [hd] at k
        obtain ⟨b, o, hm, rfl⟩ := k
        obtain ⟨b', arr, hm', hb, hall, _⟩ := h.box hd
        rw [hm] at hm'
        cases hm'
        exact fin sv [d] b 0 c ls arr.toList e1 hall (fun i u hi => by rw [hb.cell]; simpa using hi)
    · cases he
  · rename_i T y c
    cases e1 : cutSV P t (leaves T y) c with
    | none => rw [e1] at he; cases he
    | some sv =>
      rw [e1] at he
      cases he
      obtain ⟨b, o, vs, h1, h2, h3, rfl⟩ := (ha _ rfl).2
      exact fin sv [] b o c _ vs e1 (leaves_R h2) h3
  · rename_i d i c
    split at he
    · rename_i e' T xs fz hd
      cases e1 : cutSV P t (leaves T (rd T xs i)) c with
      | none => rw [e1] at he; cases he
      | some sv =>
        rw [e1] at he
        cases he
        have k : OnRow (O d) (fun t n => 0 ≤ i ∧ i < (n : Int) ∧ ∃ b o, G.m d = some (b, o) ∧ a = .pointer (some ⟨b, o + i.toNat * t.sz + c, none⟩)) := (ha _ rfl).2
        rw [hd] at k
        obtain ⟨h0, h1, b, o, hm, rfl⟩ := k
        rcases (h.row hd).2 with ⟨_, k⟩ | ⟨b', o', arr, t', k1, k2, k3, k4, _⟩
        · rw [hm] at k; cases k
        · rw [hm] at k1
          cases k1
          have hl : i.toNat < xs.length := by omega
          obtain ⟨ce, c1, c2, c3⟩ := k4 i.toNat _ (List.getElem?_eq_getElem hl)
          have hrd : rd T xs i = xs[i.toNat] := by
            unfold rd
            rw [List.getD_eq_getElem?_getD, List.getElem?_eq_getElem hl]
            rfl
          rw [hrd] at e1
          exact fin sv [d] b (o + i.toNat * T.sz) c _ ce e1 (leaves_R c2) (fun j u hj => by
            rw [k2.cell]
            have := c3 j u hj
            rw [← this]
            congr 1
            omega)
    · rename_i e' e2 T xss hd
      cases e1 : cutSV P t [.oh d i (List.length (rd (.list e2 T) xss i))] c with
      | none => rw [e1] at he; cases he
      | some sv =>
        rw [e1] at he
        cases he
        have k : OnRow (O d) (fun t n => 0 ≤ i ∧ i < (n : Int) ∧ ∃ b o, G.m d = some (b, o) ∧ a = .pointer (some ⟨b, o + i.toNat * t.sz + c, none⟩)) := (ha _ rfl).2
        rw [hd] at k
        obtain ⟨h0, h1, b, o, hm, rfl⟩ := k
        have hl : i.toNat < xss.length := by omega
        have hrd : rd (.list e2 T) xss i = xss[i.toNat] := by
          unfold rd
          rw [List.getD_eq_getElem?_getD, List.getElem?_eq_getElem hl]
          rfl
        rcases (h.deep hd).2 with ⟨_, k⟩ | ⟨b', o', arr, t', k1, k2, k3, k4, k5, k6, k7⟩
        · rw [hm] at k; cases k
        · rw [hm] at k1
          cases k1
          obtain ⟨A, cc, q1, q2, _, q3⟩ := k6 i.toNat _ (List.getElem?_eq_getElem hl)
          rw [hrd] at e1
          refine fin sv [d] b (o + i.toNat * 1) c _ [.slice A (xss[i.toNat]).length cc] e1 ⟨⟨rfl, ?_⟩, trivial⟩ (fun j u hj => ?_)
          · show OnDeep (O d) (fun _ L => ∃ A1 c1, Value.slice A (xss[i.toNat]).length cc = .slice A1 (xss[i.toNat]).length c1 ∧ (xss[i.toNat]).length ≤ c1 ∧ (0 < (xss[i.toNat]).length → 0 ≤ i ∧ L i.toNat = some (xss[i.toNat]).length ∧ ∃ b o, G.sub d i.toNat = some (b, o) ∧ A1 = some ⟨b, o, none⟩))
            rw [hd]
            refine ⟨A, cc, rfl, q2, fun hn => ⟨h0, ?_, ?_⟩⟩
            · show (xss[i.toNat]?).map List.length = _
              rw [List.getElem?_eq_getElem hl]; rfl
            · obtain ⟨b2, o2, arr2, e2', r1, r2, _⟩ := q3 hn
              exact ⟨b2, o2, r1, r2⟩
          · cases j with
            | zero =>
              cases hj
              rw [k2.cell]
              rw [show o + i.toNat * 1 + 0 = o + i.toNat by omega]
              exact q1
            | succ j => cases hj
    · cases he
  · rename_i d i j c
    split at he
    · rename_i e' e2 T xss hd
      cases e1 : cutSV P t (leaves T (rd T (rd (.list e2 T) xss i) j)) c with
      | none => rw [e1] at he; cases he
      | some sv =>
        rw [e1] at he
        cases he
        have k : OnDeep (O d) (fun t L => 0 ≤ i ∧ 0 ≤ j ∧ ∃ n : Nat, L i.toNat = some n ∧ j < (n : Int) ∧ ∃ b o, G.sub d i.toNat = some (b, o) ∧ a = .pointer (some ⟨b, o + j.toNat * t.sz + c, none⟩)) := (ha _ rfl).2
        rw [hd] at k
        obtain ⟨g0, g1, n', g3, g4, b, o, g5, rfl⟩ := k
        have g3 : (xss[i.toNat]?).map List.length = some n' := g3
        cases hx : xss[i.toNat]? with
        | none => rw [hx] at g3; cases g3
        | some y =>
          rw [hx] at g3
          have g3 : y.length = n' := by simpa using g3
          have hrd : rd (.list e2 T) xss i = y := by
            unfold rd
            rw [List.getD_eq_getElem?_getD, hx]
            rfl
          have hl : j.toNat < y.length := by omega
          have hrd2 : rd T y j = y[j.toNat] := by
            unfold rd
            rw [List.getD_eq_getElem?_getD, List.getElem?_eq_getElem hl]
            rfl
          rw [hrd, hrd2] at e1
          rcases (h.deep hd).2 with ⟨k, _⟩ | ⟨b', o', arr, t', k1, k2, k3, k4, k5, k6, k7⟩
          · have := (h.deep hd).1
            have := (List.getElem?_eq_some_iff.1 hx).1
            omega
          · obtain ⟨A, cc, q1, q2, _, q3⟩ := k6 i.toNat y hx
            obtain ⟨b2, o2, arr2, e2', r1, r2, r3, r4, _⟩ := q3 (by omega)
            rw [g5] at r1
            cases r1
            obtain ⟨ce, c1, c2, c3⟩ := r4 j.toNat _ (List.getElem?_eq_getElem hl)
            exact fin sv [d] b (o + j.toNat * T.sz) c _ ce e1 (leaves_R c2) (fun m u hm => by
              rw [r3.cell]
              have := c3 m u hm
              rw [← this]
              congr 1
              omega)
    · cases he
  · cases he
theorem loadL_ok (h : Core C G O w) {t : TypeId} {x : Option Lf} {cs : List Chk} {e : Eff} (he : loadL P t O x = some (cs, e)) {a : Value} (ha : LR G O w x a) : Does P C G O w (Instr.loadAt t a) e := by
  obtain ⟨v, h1, h2, h3⟩ := loadL_pure h he ha
  refine ⟨v, w, h1, G, ?_, ?_, ?_⟩ <;> rw [h3]
  · exact h
  · exact Ext.refl _ _ _
  · exact h2
end
end Go.Proofs.YtamgbcgfjhpedaaDoor.VE
