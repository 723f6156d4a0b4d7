/- Equality of structs, and append of zeros to nil, against the model's (lemmas; no statement is proved here). -/
import Derived.Test.YtamgbcgfjhpedaaDoorVeOpsE
import Derived.Laws.StructEq
import Derived.Lib.AppendZeros
namespace Go.Proofs.YtamgbcgfjhpedaaDoor.VE
open Go Go.RowKit
section
variable {P : Program} {C : Ctx} {G : Gh} {O : Nat → Obj} {w w' : World}
theorem eqF_ok {f : Field} {x y : Lf} {c : Chk} (e : eqF P f x y = some c) {u v : Value} (hx : LfR G O w x u) (hy : LfR G O w y v) (d : Nat) : (Op.equalIn (d + 1) f.type u v).run P w = .ok (@decide c.p c.i) w := by
  unfold eqF at e
  split at e
  · rename_i k0 k a k' b hu
    by_cases hk : k = k'
    · rw [if_pos hk] at e
      cases e
      subst hk
      have h1 : [u] = [.int k a] := hx.2
      have h2 : [v] = [.int k b] := hy.2
      simp only [List.cons.injEq, and_true] at h1 h2
      subst h1 h2
      exact run_equalIn_int w d f.type k k0 a b hu
    · rw [if_neg hk] at e; cases e
  · rename_i a b hu
    cases e
    have h1 : [u] = [.string a] := hx.2
    have h2 : [v] = [.string b] := hy.2
    simp only [List.cons.injEq, and_true] at h1 h2
    subst h1 h2
    rw [run_equalIn_string w d f.type a b hu, toList_inj]
    rfl
  · rename_i x y hu
    split at e
    · rename_i a b ha hb
      cases e
      have h1 := boolOf_R (v := u) ha (fun l hl => by cases hl; exact hx)
      have h2 := boolOf_R (v := v) hb (fun l hl => by cases hl; exact hy)
      rw [h1, h2]
      exact run_equalIn_bool' w d f.type a b hu
    · cases e
  · cases e
theorem part_ok {t : TypeId} (ht : aggO P t = some false) {A : Array Value} {i : Nat} {v : Value} (hv : A[i]? = some v) : (part t A i).run P w = .ok v w := by
  simp [part, (aggO_ok ht).2, hv]
theorem flatFs_cons {i : Nat} {f : Field} {fs : List Field} (h : flatFs P i (f :: fs) = true) : f.name ≠ "_" ∧ f.offset = i ∧ aggO P f.type = some false ∧ flatFs P (i + 1) fs = true ∧ ∀ d, P.eqGuardType (d + 1) f.type = false := by
  unfold flatFs at h
  simp only [Bool.and_eq_true] at h
  obtain ⟨⟨⟨h1, h2⟩, h3⟩, h4⟩ := h
  refine ⟨by simpa using h1, Nat.eq_of_beq_eq_true h2, ?_, h4, fun d => ?_⟩
  · unfold aggO
    split at h3 <;> simp_all
  · unfold Program.eqGuardType
    split at h3 <;> simp_all
theorem eqFields_ok : ∀ (fs : List Field) (xs ys : List Lf) (c : Chk) (i : Nat) (A B : Array Value) (d : Nat), flatFs P i fs = true → eqLs P fs xs ys = some c → All2 (LfR G O w) xs (A.toList.drop i) → All2 (LfR G O w) ys (B.toList.drop i) → (Op.eqFields (d + 1) A B fs).run P w = .ok (@decide c.p c.i) w
  | [], xs, ys, c, i, A, B, d, hf, e, hx, hy => by simp [eqLs] at e
  | f :: fs, [], ys, c, i, A, B, d, hf, e, hx, hy => by cases fs <;> simp [eqLs] at e
  | f :: fs, x :: xs, [], c, i, A, B, d, hf, e, hx, hy => by cases fs <;> cases xs <;> simp [eqLs] at e
  | f :: fs, x :: xs, y :: ys, c, i, A, B, d, hf, e, hx, hy => by
    obtain ⟨hn, ho, ha, hr, _⟩ := flatFs_cons hf
    obtain ⟨u, l1, e1, r1, t1⟩ := hx.cons_inv
    obtain ⟨v, l2, e2, r2, t2⟩ := hy.cons_inv
    have hu : A[f.offset]? = some u := by
      rw [ho, ← Array.getElem?_toList]
      have : (A.toList.drop i)[0]? = some u := by rw [e1]; rfl
      rw [List.getElem?_drop] at this
      simpa using this
    have hv : B[f.offset]? = some v := by
      rw [ho, ← Array.getElem?_toList]
      have : (B.toList.drop i)[0]? = some v := by rw [e2]; rfl
      rw [List.getElem?_drop] at this
      simpa using this
    have d1 : l1 = A.toList.drop (i + 1) := by
      have : (A.toList.drop i).drop 1 = l1 := by rw [e1]; rfl
      rw [List.drop_drop] at this
      exact this.symm
    have d2 : l2 = B.toList.drop (i + 1) := by
      have : (B.toList.drop i).drop 1 = l2 := by rw [e2]; rfl
      rw [List.drop_drop] at this
      exact this.symm
    have step : ∀ (c1 : Chk), eqF P f x y = some c1 → (Op.eqFields (d + 1) A B (f :: fs)).run P w = if @decide c1.p c1.i = true then (Op.eqFields (d + 1) A B fs).run P w else .ok false w := by
      intro c1 hc1
      conv => lhs; unfold Op.eqFields
      rw [if_pos hn]
      simp only [Sem.run_bind, part_ok ha hu, part_ok ha hv, Result.andThen_ok, eqF_ok hc1 r1 r2 d]
      cases @decide c1.p c1.i <;> simp
    cases fs with
    | nil =>
      cases xs with
      | nil =>
        cases ys with
        | nil =>
          have e : eqF P f x y = some c := e
          rw [step c e]
          cases @decide c.p c.i <;> simp [Op.eqFields]
        | cons y' ys => simp [eqLs] at e
      | cons x' xs => cases ys <;> simp [eqLs] at e
    | cons f' fs =>
      have e : (match eqF P f x y, eqLs P (f' :: fs) xs ys with
        | some c, some d => some ⟨c.p ∧ d.p, @instDecidableAnd _ _ c.i d.i⟩
        | _, _ => none) = some c := by
        cases xs <;> cases ys <;> exact e
      split at e
      · rename_i c1 c2 h1 h2
        cases e
        rw [step c1 h1, eqFields_ok (f' :: fs) xs ys c2 (i + 1) A B d hr h2 (by rw [← d1]; exact t1) (by rw [← d2]; exact t2)]
        obtain ⟨p1, i1⟩ := c1
        obtain ⟨p2, i2⟩ := c2
        by_cases q1 : p1 <;> by_cases q2 : p2 <;> simp [q1, q2]
      · cases e
theorem eqGuard_flat {t : TypeId} {fs : Array Field} (hu : P.underlying t = some (.struct fs)) (hf : flatFs P 0 fs.toList = true) : P.eqGuardType P.depth t = false := by
  have key : ∀ (l : List Field) (i d : Nat), flatFs P i l = true → (l.any fun f => f.name != "_" && P.eqGuardType (d + 1) f.type) = false := by
    intro l
    induction l with
    | nil => intros; rfl
    | cons f l ih =>
      intro i d h
      obtain ⟨_, _, _, h2, h3⟩ := flatFs_cons h
      simp only [List.any_cons, h3 d, Bool.and_false, Bool.false_or]
      exact ih (i + 1) d h2
  have := key fs.toList 0 (2 * (P.types.size + Made.depth)) hf
  show P.eqGuardType (2 * (P.types.size + Made.depth) + 1 + 1) t = false
  unfold Program.eqGuardType
  rw [hu]
  simp only
  rw [← Array.any_toList]
  exact this
theorem binA_ok (h : Core C G O w) {op : BinOp} {t : TypeId} {fs : Array Field} (hu : P.underlying t = some (.struct fs)) {x y : SV} {cs : List Chk} {e : Eff} (he : binA P op t fs.toList x y = some (cs, e)) {x' y' : Operand} {u v : Value} (ha : SVR G O w x u) (hb : SVR G O w y v) :
    Does P C G O w (do eqGuard op t x' y' u v; binOp op t u v) e := by
  unfold binA at he
  split at he
  · rename_i xs ys
    by_cases hc : flatFs P 0 fs.toList = true ∧ P.stoodInHeld t = false
    · rw [if_pos hc] at he
      obtain ⟨A, rfl, hA⟩ := (show CmR G O w (.a xs) u from ha)
      obtain ⟨B, rfl, hB⟩ := (show CmR G O w (.a ys) v from hb)
      split at he
      · rename_i c hc'
        have hfo : P.fieldsOf t = fs := by unfold Program.fieldsOf; rw [hu]
        have hr : (Op.equalIn 10000 t (.agg A) (.agg B)).run P w = .ok (@decide c.p c.i) w := by
          have := run_equalIn_struct (P := P) w 9999 t A B (by rw [hfo]; exact hu) hc.2
          rw [this, hfo]
          exact eqFields_ok fs.toList xs ys c 0 A B 9998 hc.1 hc' hA hB
        have hg := eqGuard_flat hu hc.1
        split at he
        · cases he
          refine Does.pure h (v := .bool (@decide c.p c.i)) ?_ ⟨rfl, rfl⟩
          simp only [Sem.run_bind, run_eqGuard_agg w _ t x' y' A B hg, Result.andThen_ok, run_eql_struct, hr]
        · cases he
          refine Does.pure h (v := .bool (!@decide c.p c.i)) ?_ ⟨rfl, rfl⟩
          simp only [Sem.run_bind, run_eqGuard_agg w _ t x' y' A B hg, Result.andThen_ok, run_neq_struct, hr]
        · cases he
      · cases he
    · rw [if_neg hc] at he; cases he
  · cases he
theorem appendZ_ok (h : Core C G O w) {t t' ty : TypeId} {d : Nat} {x y : Option Lf} {cs : List Chk} {e : Eff} (he : appendZ P t t' d O x y = some (cs, e)) (hc : AllP cs) {a b : Value} (ha : LR G O w x a) (hb : LR G O w y b) : Does P C G O w (Builtin.append_ #[t, t'] ty #[a, b]) e := by
  unfold appendZ at he
  split at he
  · rename_i el k0 k n hu hu'
    obtain rfl : a = .slice none 0 0 := (ha _ rfl).2
    obtain rfl := hb.int
    split at he
    · rename_i T z hT hz hd
      split at he
      · rename_i y hp
        by_cases hcz : z.length = P.cellsOf el ∧ T.sz = z.length ∧ T.sz ≠ 0
        · rw [if_pos hcz] at he
          cases he
          obtain ⟨i, zv, hi, hzv, hrun, hzr⟩ := zeroL_ok (w := w) (G := G) (O := O) hz
          have hzl : zv.cells.size = z.length := by rw [hzr.length]; simp
          have hsz : i.size = z.length := by rw [hcz.1]; unfold Program.cellsOf; rw [hi]; rfl
          have hby : P.bytesOf el = i.bytes := by unfold Program.bytesOf; rw [hi]; rfl
          have h0 : (0 : Int) ≤ n := hc.cons.1
          have h1 : (n : Int) * (P.bytesOf el : Int) ≤ 140737488355328 := hc.cons.2.cons.1
          have h2 : (n : Int) ≤ 140737488355328 := hc.cons.2.cons.2.cons.1
          obtain ⟨m, rfl⟩ : ∃ m : Nat, n = (m : Int) := ⟨Int.toNat n, (Int.toNat_of_nonneg h0).symm⟩
          rw [hby] at h1
          have h1' : m * i.bytes ≤ 140737488355328 := by
            have : ((m * i.bytes : Nat) : Int) ≤ 140737488355328 := by rw [Int.natCast_mul]; exact h1
            omega
          have h2' : m ≤ 140737488355328 := by
            have : (m : Int) ≤ 140737488355328 := h2
            omega
          simp only [Int.toNat_natCast]
          rcases Nat.eq_zero_or_pos m with hm | hm
          · subst hm
            have hw0 : IntKind.i64.wrap 0 = 0 := by decide
            have hr : (Builtin.append_ #[t, t'] ty #[.slice none 0 0, .int k ((0 : Nat) : Int)]).run P w = .ok (.slice none 0 0) w := by
              simp [Builtin.append_, run_underlying hu, run_underlying hu', sizeOf, typeInfo, hi, asInt, asIntOf, hw0]
            exact ⟨_, _, hr, emptyRow_ok h hd none [d]⟩
          · have hrun := Go.Lib.run_append_nil_zeros (P := P) w t t' ty el i zv k k0 hu hu' hi hzv m hm (by omega) (by omega) (by omega)
            have hgc := grownCap_ge w m 0 el
            have hT' : T.sz = zv.cells.size := by rw [hcz.2.1, hzl]
            have hstep := newRow_ok h hd (w' := w.drew.alloc (.cells (Builtin.zeroCells zv.cells m ++ Builtin.zeroCells zv.cells (grownCap w m 0 el - m)) el)) ⟨rfl, rfl, rfl, rfl⟩ (cap := grownCap w m 0 el) (T := T) (xs := List.replicate m y) (by rw [List.length_replicate]; exact hgc) (by
              simp only [Array.size_append, Builtin.zeroCells, Array.size_map, Array.size_range]
              rw [← Nat.add_mul, hT']
              refine Nat.mul_le_mul_right _ ?_
              omega) ?_ [d]
            · rw [List.length_replicate] at hstep
              exact ⟨_, _, hrun, hstep⟩
            · intro j v hj
              have hjn : j < m ∧ v = y := by
                rw [List.getElem?_replicate] at hj
                by_cases hlt : j < m
                · rw [if_pos hlt] at hj
                  exact ⟨hlt, (Option.some.inj hj).symm⟩
                · rw [if_neg hlt] at hj
                  cases hj
              obtain ⟨hj2, rfl⟩ := hjn
              have hy := packs_R h hp hzr (F := G.F) (fun _ h => h) (fun _ hd => by cases hd)
              refine ⟨_, hy.len, hy, fun i' u hu' => ?_⟩
              have hlt : i' < zv.cells.size := by
                have := (List.getElem?_eq_some_iff.1 hu').1
                simpa using this
              have hjm : j * zv.cells.size + i' < m * zv.cells.size := by
                have h5 : (j + 1) * zv.cells.size ≤ m * zv.cells.size := Nat.mul_le_mul_right _ hj2
                rw [Nat.add_mul, Nat.one_mul] at h5
                omega
              have hmod : (j * zv.cells.size + i') % zv.cells.size = i' := by
                rw [Nat.mul_comm, Nat.mul_add_mod, Nat.mod_eq_of_lt hlt]
              have hu2 : zv.cells[i']? = some u := by simpa using hu'
              rw [hT', Nat.zero_add, Array.getElem?_append_left (by simpa [Builtin.zeroCells] using hjm)]
              unfold Builtin.zeroCells
              rw [Array.getElem?_map, Array.getElem?_range, if_pos hjm]
              simp only [Option.map_some, hmod]
              rw [← hu2, getElem!_pos zv.cells i' hlt, Array.getElem?_eq_getElem hlt]
        · rw [if_neg hcz] at he
          cases he
      · cases he
    · cases he
  · cases he
end
end Go.Proofs.YtamgbcgfjhpedaaDoor.VE
