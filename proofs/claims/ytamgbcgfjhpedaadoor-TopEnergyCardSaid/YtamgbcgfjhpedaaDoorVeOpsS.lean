/- Texts and their bytes, arrays, what runs in place (lemmas; no statement is proved here). -/
import Derived.Test.YtamgbcgfjhpedaaDoorVeOpsH
import Derived.Lib.ConvBytes
import Derived.Laws.IdiomStrings
import Derived.Laws.StandIn
namespace Go.Proofs.YtamgbcgfjhpedaaDoor.VE
open Go Go.RowKit
section
variable {P : Program} {C : Ctx} {G : Gh} {O : Nat → Obj} {w w' : World}
/-- A new block that stays. -/
theorem Core.newF (h : Core C G O w) (hold : ∀ b, b < w.heap.size → w'.heap[b]? = w.heap[b]?) (hs : w'.heap.size = w.heap.size + 1) (ho : w'.os = w.os) (ht : w'.tape = w.tape) (hp : w'.output = w.output) :
    Core C { G with F := fun b => G.F b ∨ b = w.heap.size } O w' ∧ Ext G O w { G with F := fun b => G.F b ∨ b = w.heap.size } O w' := by
  have x : Ext G O w { G with F := fun b => G.F b ∨ b = w.heap.size } O w' := ⟨fun _ h => Or.inl h, fun b hb => hold b (h.F1 b hb), fun _ h => ⟨h, Sim.refl _, fun _ => ⟨rfl, rfl, rfl, fun _ _ h => h⟩⟩⟩
  refine ⟨h.step x (fun _ => False) (fun _ _ => ⟨rfl, rfl, rfl, rfl, rfl⟩) (fun d b _ hl hb => ?_) (fun _ h => h.elim) (fun _ _ _ _ _ h => h.elim) (fun b hb => ?_)
    ⟨ho, ht, hp, by rw [hs]; omega, fun b hb _ => hold b (Nat.lt_of_lt_of_le hb h.size)⟩ (fun _ _ h => h.elim), x⟩
  · have := (h.blockB hl hb).1
    refine ⟨hold b this, fun hF => ?_⟩
    rcases hF with hF | hF
    · exact hF
    · omega
  · rcases hb with hb | rfl
    · exact Or.inl hb
    · exact Or.inr ⟨by rw [hs]; omega, Or.inl h.size⟩
theorem isU8_ok {e : TypeId} (h : isU8 P e = true) : P.underlying e = some (.int .u8) := by
  unfold isU8 at h
  split at h
  · assumption
  · cases h
theorem drew_same (w : World) : w.drew.heap = w.heap ∧ w.drew.os = w.os ∧ w.drew.tape = w.tape ∧ w.drew.output = w.output := ⟨rfl, rfl, rfl, rfl⟩
theorem toBytes_ok (h : Core C G O w) {s t e : TypeId} (hs : P.underlying s = some .string) (ht : P.underlying t = some (.slice e)) (he : P.underlying e = some (.int .u8)) {x : Option Lf} {cs : List Chk} {ef : Eff} (hx : toBytesL e x = some (cs, ef)) {a : Value} (ha : LR G O w x a) : Does P C G O w (convert s t a) ef := by
  unfold toBytesL at hx
  split at hx
  · rename_i str
    cases hx
    obtain rfl := ha.str
    have hrun := Lib.run_convert_string_bytes w s t e str hs ht he
    have hb := Lib.bytesWorld_size w e str
    have hold := fun b hb => Lib.bytesWorld_at_old w e str b hb
    have hcell := fun j hj => Lib.bytesWorld_cell w e str j hj
    have hos : (Lib.bytesWorld w e str).os = w.os ∧ (Lib.bytesWorld w e str).tape = w.tape ∧ (Lib.bytesWorld w e str).output = w.output := by
      unfold Lib.bytesWorld World.freeze
      rw [if_neg (by decide)]
      exact ⟨rfl, rfl, rfl⟩
    obtain ⟨k1, k2⟩ := h.newF hold hb hos.1 hos.2.1 hos.2.2
    have hcap : str.size ≤ grownCap w str.size 0 e := by
      unfold grownCap
      show str.size ≤ str.size + _
      omega
    have hlen : (bytesL str).length = str.size := by
      unfold bytesL
      rw [List.length_map]
      show str.data.toList.length = str.data.size
      simp
    refine ⟨_, _, hrun, _, k1, k2, rfl, ?_⟩
    refine ⟨some ⟨w.heap.size, 0, none⟩, _, by rw [hlen], by rw [hlen]; exact hcap, fun _ => ⟨w.heap.size, 0, rfl, Or.inr rfl, fun j y hj => ?_⟩⟩
    have hj2 : j < str.size := by
      rw [← hlen]
      exact (List.getElem?_eq_some_iff.1 hj).1
    refine ⟨[.int .u8 y], rfl, rfl, fun i u hu => ?_⟩
    cases i with
    | succ i => simp at hu
    | zero =>
      simp only [List.getElem?_cons_zero, Option.some.injEq] at hu
      subst hu
      have := hcell j hj2
      rw [show (0 : Nat) + (j * (Ty.int IntKind.u8).sz + 0) = j by simp [Ty.sz]]
      rw [this]
      unfold bytesL at hj
      rw [List.getElem?_map] at hj
      have hjl : j < str.data.toList.length := by
        show j < str.data.toList.length
        have : str.data.toList.length = str.size := Array.length_toList
        omega
      rw [List.getElem?_eq_getElem hjl] at hj
      have hj := Option.some.inj hj
      rw [List.getD_eq_getElem?_getD, List.getElem?_eq_getElem hjl]
      show some (Value.int .u8 ((str.data.toList[j].toNat : Nat) : Int)) = _
      rw [← hj]
  · cases hx
theorem byte_back (xs : List Int) : (xs.foldl (fun r n => r.push (UInt8.ofNat n.toNat)) ByteArray.empty) = ofBytes xs := by
  have : ∀ (l : List Int) (r : ByteArray), l.foldl (fun r n => r.push (UInt8.ofNat n.toNat)) r = ⟨r.data ++ (l.map fun n => UInt8.ofNat n.toNat).toArray⟩ := by
    intro l
    induction l with
    | nil => intro r; simp
    | cons n l ih =>
      intro r
      rw [List.foldl_cons, ih]
      simp [ByteArray.push]
  rw [this]
  unfold ofBytes
  have he0 : ByteArray.empty.data = #[] := rfl
  rw [he0]
  simp
theorem run_toStr {s t e : TypeId} (hs : P.underlying s = some (.slice e)) (he : P.underlying e = some (.int .u8)) (ht : P.underlying t = some .string) {A : Option Addr} {c : Nat} {xs : List Int}
    (hA : 0 < xs.length → ∃ b o, A = some ⟨b, o, none⟩ ∧ ∀ j y, xs[j]? = some y → w.cell? ⟨b, o + j, none⟩ = some (.int .u8 y)) : (convert s t (.slice A xs.length c)).run P w = .ok (.string (ofBytes xs)) w := by
  rw [run_convert_bytes_string w s t e A xs.length c hs he ht]
  cases A with
  | none =>
    have hz : xs = [] := by
      cases xs with
      | nil => rfl
      | cons y ys => obtain ⟨b, o, h, _⟩ := hA (by simp); cases h
    subst hz
    rfl
  | some q =>
    have hl : (loadCells q xs.length).run P w = .ok ((xs.map (Value.int .u8)).toArray) w := by
      have := run_loadCells_list (P := P) w q (xs.map (Value.int .u8)) (fun j v hj => by
        rw [List.getElem?_map] at hj
        cases hx : xs[j]? with
        | none => rw [hx] at hj; cases hj
        | some y =>
          rw [hx] at hj
          have hj := Option.some.inj hj
          have hpos : 0 < xs.length := by
            have := (List.getElem?_eq_some_iff.1 hx).1
            omega
          obtain ⟨b, o, hq, hc⟩ := hA hpos
          cases hq
          rw [add_mk, hc j y hx, hj])
      simpa using this
    rw [run_bytesToString w q xs.length c xs (by simpa using hl), byte_back]
theorem toStr_ok (h : Core C G O w) {s t e : TypeId} (hs : P.underlying s = some (.slice e)) (ht : P.underlying t = some .string) (he : P.underlying e = some (.int .u8)) {x : Option Lf} {cs : List Chk} {ef : Eff} (hx : toStrL O x = some (cs, ef)) {a : Value} (ha : LR G O w x a) : Does P C G O w (convert s t a) ef := by
  unfold toStrL at hx
  split at hx
  · cases hx
    obtain rfl : a = .slice none 0 0 := (ha _ rfl).2
    refine Does.pure h (v := .string ByteArray.empty) ?_ (lf_str _)
    have := run_toStr (P := P) (w := w) hs he ht (A := none) (c := 0) (xs := []) (fun h => by simp at h)
    exact this
  · rename_i e' xs
    cases hx
    obtain ⟨A, c, k1, k2, k3⟩ := (show Rep G.F w (.list e' (.int .u8)) xs [a] from (ha _ rfl).2)
    obtain rfl : a = .slice A (List.length xs) c := by simpa using k1
    refine Does.pure h (v := .string (ofBytes xs)) ?_ (lf_str _)
    refine run_toStr hs he ht (xs := xs) (fun hn => ?_)
    obtain ⟨b, o, hA, _, hc⟩ := k3 hn
    refine ⟨b, o, hA, fun j y hj => ?_⟩
    obtain ⟨ce, c1, c2, c3⟩ := hc j y hj
    have c2 : ce = [.int .u8 y] := c2
    have := c3 0 (.int .u8 y) (by rw [c2]; rfl)
    simpa [Ty.sz] using this
  · rename_i d
    split at hx
    · rename_i e' xs fz hd
      cases hx
      obtain ⟨k1, A, c, rfl, k2, k3, k4⟩ := row_hdr hd (ha _ rfl)
      refine Does.pure h (v := .string (ofBytes xs)) ?_ (lf_str _)
      refine run_toStr hs he ht (xs := xs) (fun hn => ?_)
      obtain ⟨b, o, hm, hA⟩ := k4 (by omega)
      have hob := h.ob d
      unfold ObjR at hob
      rw [hd] at hob
      obtain ⟨q0, q⟩ := hob
      rcases q with ⟨q1, q2⟩ | ⟨b', o', arr, t', q1, q2, q3, q4, _⟩
      · rw [hm] at q2; cases q2
      · rw [hm] at q1
        cases q1
        refine ⟨b, o, by rw [hA]; simp, fun j y hj => ?_⟩
        obtain ⟨ce, c1, c2, c3⟩ := q4 j y hj
        have c2 : ce = [.int .u8 y] := c2
        have := c3 0 (.int .u8 y) (by rw [c2]; rfl)
        rw [q2.cell]
        simpa [Ty.sz] using this
    · cases hx
  · cases hx
theorem convX_ok (h : Core C G O w) {s t : TypeId} {x : Option Lf} {cs : List Chk} {e : Eff} (he : convX P O s t x = some (cs, e)) {a : Value} (ha : LR G O w x a) : Does P C G O w (convert s t a) e := by
  unfold convX at he
  split at he
  · rename_i el h1 h2
    split at he
    · rename_i hu
      exact toBytes_ok h h1 h2 (isU8_ok hu) he ha
    · cases he
  · rename_i el h1 h2
    split at he
    · rename_i hu
      exact toStr_ok h h1 h2 (isU8_ok hu) he ha
    · cases he
  · exact convL_ok h he ha
/-! arrays -/
theorem lfb_ap (d : Nat) (v : Value) : LfB G O w (.ap d) v = OnRow (O d) (fun _ n => 0 < n ∧ n = G.cp d ∧ ∃ b o, G.m d = some (b, o) ∧ v = .pointer (some ⟨b, o, none⟩)) := rfl
theorem allocL_ok (h : Core C G O w) {d : Nat} {t : TypeId} {z : List Lf} (hz : zeroL P t = some z) {cs : List Chk} {e : Eff} (he : allocL P d O t z = some (cs, e)) : Does P C G O w (Instr.alloc t true (.tuple #[])) e := by
  unfold allocL at he
  split at he
  · rename_i n el hu
    split at he
    · rename_i T hT hd
      split at he
      · rename_i hc
        obtain ⟨hn, hsz, hlen⟩ := hc
        split at he
        · rename_i xs hch
          cases he
          obtain ⟨i, zv, hi, hzv, hrun, hzr⟩ := zeroL_ok (w := w) (G := G) (O := O) hz
          obtain ⟨hxl, hxr⟩ := chunks_R h rfl (F := G.F) (fun _ h => h) hch hzr (fun _ h => by cases h)
          have hzl : zv.cells.size = z.length := by rw [hzr.length]; simp
          have hw := made_alloc (w := w) zv.cells t
          have hF : ∀ b, G.F b → (w.alloc (.cells zv.cells t)).heap[b]? = w.heap[b]? := fun b hb => hw.old (h.F1 b hb)
          have hr : RowAt G.F w T xs zv.cells 0 := by
            intro j y hj
            have hjn : j < n := by
              rw [← hxl]
              exact (List.getElem?_eq_some_iff.1 hj).1
            have hrep := hxr j y hj
            refine ⟨_, hrep.len, hrep, fun i' u hu' => ?_⟩
            rw [List.getElem?_take] at hu'
            split at hu'
            · rw [List.getElem?_drop] at hu'
              rw [Nat.zero_add, ← Array.getElem?_toList]
              exact hu'
            · cases hu'
          have hk := h.make hd hw (.row el T xs false) (some (w.heap.size, 0)) n (Or.inr rfl) (by
            unfold ObjR
            rw [upd_self]
            refine ⟨by show xs.length ≤ upd G.cp d n d; rw [upd_self, hxl]; exact Nat.le_refl _, Or.inr ⟨w.heap.size, 0, zv.cells, t, upd_self _ _ _, hw.new, by show 0 + upd G.cp d n d * T.sz ≤ zv.cells.size; rw [upd_self, hzl, hlen]; omega, hr.mono (fun _ h => h) hF, Or.inl h.size, fun h => (by cases h), fun _ hF => Nat.lt_irrefl _ (h.F1 _ hF)⟩⟩)
          refine ⟨.pointer (some ⟨w.heap.size, 0, none⟩), w.alloc (.cells zv.cells t), by simp [Instr.alloc, hrun, newVar, run_newRow], _, hk.1, hk.2, rfl, ?_⟩
          show LfB _ (upd O d (.row el T xs false)) _ (.ap d) _
          rw [lfb_ap, upd_self]
          refine ⟨by rw [hxl]; exact hn, by show xs.length = upd G.cp d n d; rw [upd_self, hxl], w.heap.size, 0, upd_self _ _ _, rfl⟩
        · cases he
      · cases he
    · cases he
  · exact alloc_ok h hz he
theorem apv {d : Nat} {v : Value} (hv : LfR G O w (.ap d) v) : OnRow (O d) (fun _ n => 0 < n ∧ n = G.cp d ∧ ∃ b o, G.m d = some (b, o) ∧ v = .pointer (some ⟨b, o, none⟩)) := hv.2
theorem indexArrL_ok (h : Core C G O w) {t el : TypeId} {n : Nat} {x y : Option Lf} {cs : List Chk} {e : Eff} (ht : P.underlying t = some (.array n el)) (he : indexArrL n (P.cellsOf el) O x y = some (cs, e)) (hc : AllP cs) {a b : Value} (ha : LR G O w x a) (hb : LR G O w y b) : Does P C G O w (Instr.indexAt t a b) e := by
  unfold indexArrL at he
  split at he
  · rename_i k i d
    obtain rfl := hb.int
    split at he
    · rename_i e' T xs fz hd
      by_cases hz : T.sz = P.cellsOf el ∧ P.cellsOf el ≠ 0
      · rw [if_pos hz] at he
        cases he
        have h0 : (0 : Int) ≤ i := hc.cons.1
        have h1 : (i : Int) < (n : Int) := hc.cons.2.cons.1
        have h2 : (i : Int) < (xs.length : Int) := hc.cons.2.cons.2.cons.1
        have k := apv (ha _ rfl)
        rw [hd] at k
        obtain ⟨q1, q2, b, o, q3, rfl⟩ := k
        obtain ⟨j, hj, hjs⟩ := cells_ne hz.2
        refine Does.pure h (v := .pointer (some ⟨b, o + i.toNat * P.cellsOf el, none⟩)) ?_ ⟨rfl, ?_⟩
        · simp [Instr.indexAt, asIntOf, run_underlying ht, Instr.sureAddr, h0, h1, sizeOf, hj, typeInfo, hjs, add_mk]
        · rw [lfb_oe, hd]
          exact ⟨h0, h2, b, o, q3, by rw [hz.1, Nat.add_zero]⟩
      · rw [if_neg hz] at he
        cases he
    · cases he
  · cases he
theorem sliceArrL_ok (h : Core C G O w) {t el : TypeId} {n : Nat} {x : Option Lf} {lo hi : Option Int} {cs : List Chk} {e : Eff} (ht : P.underlying t = some (.array n el)) (he : sliceArrL n (P.cellsOf el) O x lo hi = some (cs, e)) (hc : AllP cs) {a : Value} {vlo vhi : Option Value} (ha : LR G O w x a) (hl : BndR lo vlo) (hh : BndR hi vhi) : Does P C G O w (Instr.sliceAt t a vlo vhi none) e := by
  unfold sliceArrL at he
  split at he
  · rename_i d
    cases vlo with
    | some v => exact hl.elim
    | none =>
    cases vhi with
    | some v => exact hh.elim
    | none =>
    split at he
    · rename_i e' T xs fz hd
      by_cases hz : T.sz = P.cellsOf el ∧ P.cellsOf el ≠ 0
      · rw [if_pos hz] at he
        cases he
        have h1 : xs.length = n := hc.cons.1
        have k := apv (ha _ rfl)
        rw [hd] at k
        obtain ⟨q1, q2, b, o, q3, rfl⟩ := k
        obtain ⟨j, hj, hjs⟩ := cells_ne hz.2
        refine Does.pure h (v := .slice (some ⟨b, o, none⟩) n n) ?_ ⟨rfl, ?_⟩
        · simp [Instr.sliceAt, run_underlying ht, Instr.sureAddr, sizeOf, hj, typeInfo, Instr.sliceBounds, add_mk]
        · rw [lfb_o, hd]
          exact ⟨by omega, some ⟨b, o, none⟩, n, by rw [h1], by omega, by omega, fun _ => ⟨b, o, q3, by simp⟩⟩
      · rw [if_neg hz] at he
        cases he
    · cases he
  · cases he
/-! what runs in place -/
theorem find_idx {fn : Func} (h : (fn.name == "internal/bytealg.IndexByteString") = true) : Extern.find fn = some Extern.BytealgIndexByte.indexByte := by
  have h : fn.name = "internal/bytealg.IndexByteString" := by simpa using h
  cases fn
  simp only at h
  subst h
  exact rfl
theorem externL_ok (h : Core C G O w) {f : FuncId} {xs : List (Option Lf)} {cs : List Chk} {e : Eff} (he : externL P f xs = some (cs, e)) {vs : List Value} (hv : All2 (LR G O w) xs vs) :
    ∃ v, (callFunc f vs.toArray).run P w = .ok (.value v) w ∧ StepR C G O w e v w := by
  unfold externL at he
  split at he
  · rename_i fn hfn
    split at he
    · rename_i hc
      obtain ⟨h1, h2, h3⟩ := hc
      split at he
      · rename_i s c
        cases he
        obtain ⟨a, l1, rfl, ha, hl1⟩ := hv.cons_inv
        obtain ⟨b, l2, rfl, hb, hl2⟩ := hl1.cons_inv
        obtain rfl := hl2.nil_inv
        obtain rfl := ha.str
        obtain rfl := hb.int
        have hn : (fn.name == "runtime.NumGoroutine") = false := by
          have : fn.name = "internal/bytealg.IndexByteString" := by simpa using h1
          rw [this]
          decide
        have h3' : Extern.findNext fn = none := by simpa using h3
        refine ⟨.int .i64 (idxB s c), ?_, StepR.pure h (lf_int _ _)⟩
        rw [run_callFunc_indexByte hfn hn h2 h3' (find_idx h1)]
        have := Lib.run_indexByteString (P := P) s c w
        show ((Extern.BytealgIndexByte.indexByte #[.string s, .int .u8 c]).run P w).andThen _ = _
        rw [this]
        rfl
      · cases he
    · cases he
  · cases he
end
end Go.Proofs.YtamgbcgfjhpedaaDoor.VE
