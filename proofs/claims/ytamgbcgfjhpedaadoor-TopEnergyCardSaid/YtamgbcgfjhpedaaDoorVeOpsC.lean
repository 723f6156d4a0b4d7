/- The evaluator's operations against the model's: memory made and written (lemmas; no statement is proved here). -/
import Derived.Test.YtamgbcgfjhpedaaDoorVeOpsB
import Derived.Great.BuildSlice
namespace Go.Proofs.YtamgbcgfjhpedaaDoor.VE
open Go Go.RowKit
section
variable {P : Program} {C : Ctx} {G : Gh} {O : Nat → Obj} {w : World}
theorem run_mapM_places (fs : List Field) (h : fs.all (fun f => (P.info? f.type).isSome) = true) :
    (fs.mapM (fun f => do pure (f.offset, ← sizeOf f.type) : Field → Sem (Nat × Nat))).run P w = .ok (fs.map fun f => (f.offset, P.cellsOf f.type)) w := by
  induction fs with
  | nil => rfl
  | cons f fs ih =>
    simp only [List.all_cons, Bool.and_eq_true] at h
    obtain ⟨h1, h2⟩ := h
    obtain ⟨i, hi⟩ := Option.isSome_iff_exists.1 h1
    have hc : P.cellsOf f.type = i.size := by unfold Program.cellsOf; rw [hi]; rfl
    have hr : (sizeOf f.type).run P w = .ok i.size w := by simp [sizeOf, typeInfo, hi]
    simp only [List.mapM_cons, Sem.run_bind, hr, Result.andThen_ok, Sem.run_pure, ih h2, List.map_cons, hc]
theorem buildL_ok (h : Core C G O w) {t : TypeId} {ps : List (Nat × List Lf)} {cs : List Chk} {e : Eff} (he : buildL P t ps = some (cs, e)) {qs : Array (Nat × Value)} (hq : All2 (fun p q => p.1 = q.1 ∧ All2 (LfR G O w) p.2 q.2.cells.toList) ps qs.toList) : Does P C G O w (Instr.build t qs) e := by
  unfold buildL at he
  split at he
  · rename_i z fs hz hu
    by_cases hall : fs.toList.all (fun f => (P.info? f.type).isSome) = true
    · rw [if_pos hall] at he
      split at he
      · rename_i c hf
        cases he
        obtain ⟨i, zv, hi, hzv, hrun, hzr⟩ := zeroL_ok (w := w) (G := G) (O := O) hz
        have hpl : (fun i : Nat => (fs[i]?).map fun f : Field => (f.offset, P.cellsOf f.type)) = (fun i : Nat => (fs.map fun f : Field => (f.offset, P.cellsOf f.type))[i]?) := by
          funext i
          simp
        rw [hpl] at hf
        obtain ⟨vo, k1, k2⟩ := fill_R hq hzr hf
        refine Does.pure h (v := .agg vo) ?_ ⟨vo, rfl, k2⟩
        have hm : (fs.mapM (fun f => do pure (f.offset, ← sizeOf f.type) : Field → Sem (Nat × Nat))).run P w = .ok (fs.map fun f => (f.offset, P.cellsOf f.type)) w := by
          rw [Array.mapM_eq_mapM_toList, Sem.run_map, run_mapM_places _ hall]
          simp only [Result.andThen_ok]
          congr 1
          apply Array.ext'
          simp
        simp only [Instr.build, Sem.run_bind, hrun, Result.andThen_ok, run_underlying hu, hm, k1, Sem.run_pure]
      · cases he
    · rw [if_neg hall] at he
      cases he
  · cases he

/-! memory made -/
theorem run_newRow (e : TypeId) (cells : Array Value) : (newRow e cells).run P w = .ok ⟨w.heap.size, 0, none⟩ (w.alloc (.cells cells e)) := rfl
theorem made_alloc (cells : Array Value) (e : TypeId) : Made w (w.alloc (.cells cells e)) cells e := ⟨rfl, rfl, rfl, rfl⟩
theorem lfb_o (d : Nat) (v : Value) : LfB G O w (.o d) v = OnRow (O d) (fun t n => HdR G d t.sz n 0 n v) := rfl
theorem newBox_ok (h : Core C G O w) {d : Nat} {t : TypeId} {ls : List Lf} {cs : List Chk} {e : Eff} (he : newBox d O t ls = some (cs, e)) {v : Value} (hv : All2 (LfR G O w) ls v.cells.toList) :
    StepR C G O w e (.pointer (some ⟨w.heap.size, 0, none⟩)) (w.alloc (.cells v.cells t)) := by
  unfold newBox at he
  split at he
  · rename_i hd
    cases he
    have hm := made_alloc (w := w) v.cells t
    have hk := h.make hd hm (.box t ls) (some (w.heap.size, 0)) 0 (Or.inr rfl) ?_
    · refine ⟨_, hk.1, hk.2, rfl, ?_⟩
      show OnBox (upd O d (.box t ls) d) _
      rw [upd_self]
      exact ⟨w.heap.size, 0, upd_self _ _ _, rfl⟩
    · unfold ObjR
      rw [upd_self]
      refine ⟨w.heap.size, v.cells, upd_self _ _ _, hm.new, ?_, fun hF => Nat.lt_irrefl _ (h.F1 _ hF), Or.inl h.size⟩
      have x : Ext G O w { G with m := upd G.m d (some (w.heap.size, 0)), cp := upd G.cp d 0 } (upd O d (.box t ls)) (w.alloc (.cells v.cells t)) := by
        refine ⟨fun _ h => h, fun b hb => hm.old (h.F1 b hb), fun k hk => ?_⟩
        have hne : k ≠ d := by rintro rfl; exact hk hd
        rw [upd_ne _ _ hne]
        exact ⟨hk, Sim.refl _, fun _ => ⟨upd_ne _ _ hne, upd_ne _ _ hne, rfl, fun _ _ h => h⟩⟩
      exact hv.mono fun _ _ => LfR.mono x
  · cases he
theorem alloc_ok (h : Core C G O w) {d : Nat} {t : TypeId} {ls : List Lf} (hz : zeroL P t = some ls) {cs : List Chk} {e : Eff} (he : newBox d O t ls = some (cs, e)) : Does P C G O w (Instr.alloc t true (.tuple #[])) e := by
  obtain ⟨i, z, hi, hzv, hrun, hzr⟩ := zeroL_ok (w := w) (G := G) (O := O) hz
  refine ⟨_, _, ?_, newBox_ok h he hzr⟩
  simp [Instr.alloc, hrun, newVar, run_newRow]
theorem box_ok (h : Core C G O w) {d : Nat} {t : TypeId} {ls : List Lf} {cs : List Chk} {e : Eff} (he : newBox d O t ls = some (cs, e)) {v : Value} (hv : All2 (LfR G O w) ls v.cells.toList) : Does P C G O w (Instr.box t v) e := by
  refine ⟨_, _, ?_, newBox_ok h he hv⟩
  simp [Instr.box, newVar, run_newRow]
/-- A row of the call's own, newly made. -/
theorem newRow_ok (h : Core C G O w) {d : Nat} (hd : O d = .no) {t : TypeId} {T : Ty} {xs : List T.T} {arr : Array Value} {cap : Nat} {w' : World} (hw : Made w w' arr t) (hl : xs.length ≤ cap) (hs : cap * T.sz ≤ arr.size) (hr : RowAt G.F w T xs arr 0) (rd : List Nat) :
    StepR C G O w ⟨.lf (.o d), rd, [(d, .row t T xs false)]⟩ (.slice (some ⟨w.heap.size, 0, none⟩) xs.length cap) w' := by
  have hF : ∀ b, G.F b → w'.heap[b]? = w.heap[b]? := fun b hb => hw.old (h.F1 b hb)
  by_cases hc : cap = 0
  · have hk := h.make hd hw (.row t T xs false) none 0 (Or.inl rfl) (by
      unfold ObjR
      rw [upd_self]
      exact ⟨by show xs.length ≤ upd G.cp d 0 d; rw [upd_self]; omega, Or.inl ⟨upd_self _ _ _, upd_self _ _ _⟩⟩)
    refine ⟨_, hk.1, hk.2, rfl, ?_⟩
    show LfB _ (upd O d (.row t T xs false)) w' (.o d) _
    rw [lfb_o, upd_self]
    refine ⟨by omega, _, _, rfl, by omega, ?_, fun hp => by omega⟩
    show 0 + cap = upd G.cp d 0 d
    rw [upd_self]; omega
  · have hk := h.make hd hw (.row t T xs false) (some (w.heap.size, 0)) cap (Or.inr rfl) (by
      unfold ObjR
      rw [upd_self]
      refine ⟨by show xs.length ≤ upd G.cp d cap d; rw [upd_self]; exact hl, Or.inr ⟨w.heap.size, 0, arr, t, upd_self _ _ _, hw.new, by show 0 + upd G.cp d cap d * T.sz ≤ arr.size; rw [upd_self]; omega, hr.mono (fun _ h => h) hF, Or.inl h.size, fun h => (by cases h), fun _ hF => Nat.lt_irrefl _ (h.F1 _ hF)⟩⟩)
    refine ⟨_, hk.1, hk.2, rfl, ?_⟩
    show LfB _ (upd O d (.row t T xs false)) w' (.o d) _
    rw [lfb_o, upd_self]
    refine ⟨by omega, _, _, rfl, by omega, ?_, fun hp => ⟨w.heap.size, 0, upd_self _ _ _, by simp⟩⟩
    show 0 + cap = upd G.cp d cap d
    rw [upd_self]; omega

/-- A row of empty rows, newly made. -/
theorem newDeep_ok (h : Core C G O w) {d : Nat} (hd : O d = .no) {t e2 : TypeId} {T : Ty} {arr : Array Value} {n cap : Nat} {w' : World} (hw : Made w w' arr t) (hl : n ≤ cap) (hs : cap ≤ arr.size) (hr : ∀ j, j < n → ∃ A c, arr[j]? = some (.slice A 0 c)) (rd : List Nat) :
    StepR C G O w ⟨.lf (.o d), rd, [(d, .deep t e2 T (List.replicate n []))]⟩ (.slice (some ⟨w.heap.size, 0, none⟩) n cap) w' := by
  have hF : ∀ b, G.F b → w'.heap[b]? = w.heap[b]? := fun b hb => hw.old (h.F1 b hb)
  have hnil : ∀ (j : Nat) (x : List T.T), (List.replicate n ([] : List T.T))[j]? = some x → x = [] ∧ j < n := by
    intro j x hj
    rw [List.getElem?_replicate] at hj
    split at hj
    · cases hj; exact ⟨rfl, by assumption⟩
    · cases hj
  obtain ⟨m, hm⟩ : ∃ m : Option (Nat × Nat), m = if cap = 0 then none else some (w.heap.size, 0) := ⟨_, rfl⟩
  have ex : Ext G O w { G with m := upd G.m d m, cp := upd G.cp d cap, sub := upd G.sub d (fun _ => none) } (upd O d (.deep t e2 T (List.replicate n []))) w' := by
    refine ⟨fun _ h => h, hF, fun k hk => ?_⟩
    have hne : k ≠ d := by rintro rfl; exact hk hd
    rw [upd_ne _ _ hne]
    refine ⟨hk, Sim.refl _, fun _ => ⟨upd_ne _ _ hne, upd_ne _ _ hne, rfl, fun j z hz => ?_⟩⟩
    show upd G.sub d (fun _ => none) k j = some z
    rw [upd_ne _ _ hne]; exact hz
  refine ⟨_, ?_, ex, rfl, ?_⟩
  · refine h.step ex (fun k => k = d) (fun k hk => ⟨upd_ne _ _ hk, upd_ne _ _ hk, upd_ne _ _ hk, rfl, upd_ne _ _ hk⟩) (fun k b hk hl hmk => ⟨hw.old (h.blockB hl hmk).1, id⟩) ?_ ?_ (fun b hb => Or.inl hb) (hw.keeps h.size) ?_
    · rintro k rfl
      show ObjR C { G with m := upd G.m k m, cp := upd G.cp k cap, sub := upd G.sub k (fun _ => none) } (upd O k (.deep t e2 T (List.replicate n []))) w' k
      unfold ObjR
      rw [upd_self]
      show (List.replicate n ([] : List T.T)).length ≤ upd G.cp k cap k ∧ ((upd G.cp k cap k = 0 ∧ upd G.m k m k = none) ∨ _)
      rw [upd_self, upd_self, List.length_replicate]
      refine ⟨hl, ?_⟩
      by_cases hc : cap = 0
      · exact Or.inl ⟨hc, by rw [hm, if_pos hc]⟩
      · refine Or.inr ⟨w.heap.size, 0, arr, t, by show upd G.m k m k = _; rw [upd_self, hm, if_neg hc], hw.new, by show 0 + upd G.cp k cap k ≤ arr.size; rw [upd_self]; omega, Or.inl h.size, fun hF => Nat.lt_irrefl _ (h.F1 _ hF), fun j x hj => ?_, fun j j' x x' b1 o1 b2 o2 _ hj _ hx => ?_⟩
        · obtain ⟨rfl, hjn⟩ := hnil j x hj
          obtain ⟨A, c, hA⟩ := hr j hjn
          refine ⟨A, c, ?_, Nat.zero_le _, fun _ => (by show upd G.sub k (fun _ => none) k j = none; rw [upd_self]), fun hn => absurd hn (by simp)⟩
          rw [Nat.zero_add]; exact hA
        · obtain ⟨rfl, _⟩ := hnil j x hj
          exact absurd hx (by simp)
    · rintro k d' b b' hne rfl hl1 hl' hmk hmk'
      change Bl _ (upd O k (.deep t e2 T (List.replicate n [])) k) k b at hmk
      change (upd O k (.deep t e2 T (List.replicate n [])) d').live = true at hl'
      change Bl _ (upd O k (.deep t e2 T (List.replicate n [])) d') d' b' at hmk'
      rw [upd_self] at hmk
      have hb : b = w.heap.size := by
        rcases hmk with ⟨p, hp⟩ | ⟨j, x, p, hj, hx, _⟩
        · have e1 : upd G.m k m k = some (b, p) := hp
          rw [upd_self, hm] at e1
          split at e1
          · cases e1
          · cases e1; rfl
        · obtain ⟨rfl, _⟩ := hnil j x hj
          exact absurd hx (by simp)
      have hne' : d' ≠ k := Ne.symm hne
      rw [upd_ne _ _ hne'] at hl' hmk'
      have e2 : Bl G (O d') d' b' := hmk'.old (upd_ne _ _ hne') (upd_ne _ _ hne')
      have := (h.blockB hl' e2).1
      omega
    · rintro k hk rfl hn
      exact absurd hd hn
  · show LfB _ (upd O d (.deep t e2 T (List.replicate n []))) w' (.o d) _
    rw [lfb_o, upd_self]
    show HdR _ d 1 (List.replicate n ([] : List T.T)).length 0 (List.replicate n ([] : List T.T)).length _
    rw [List.length_replicate]
    refine ⟨by omega, _, _, rfl, hl, ?_, fun hp => ?_⟩
    · show 0 + cap = upd G.cp d cap d
      rw [upd_self]; omega
    · refine ⟨w.heap.size, 0, ?_, by simp⟩
      show upd G.m d m d = _
      rw [upd_self, hm, if_neg (by omega)]
theorem madeRow_cases (e : TypeId) (T : Ty) (n : Nat) (y : T.T) : madeRow e T n y = .row e T (List.replicate n y) false ∨ ∃ e2 t, T = .list e2 t ∧ HEq y ([] : List t.T) ∧ ∃ q : T.T = (Ty.list e2 t).T, madeRow e T n y = .deep e e2 t (List.replicate n []) := by
  cases T with
  | list e2 t =>
    have y' : List t.T := y
    cases hy : (show List t.T from y) with
    | nil =>
      have hy' : y = ([] : List t.T) := hy
      subst hy'
      exact Or.inr ⟨e2, t, rfl, HEq.rfl, rfl, rfl⟩
    | cons a l =>
      have hy' : y = (a :: l : List t.T) := hy
      subst hy'
      exact Or.inl rfl
  | _ => exact Or.inl rfl

/-! rows built of parts -/
theorem reps_length {α : Type} (n : Nat) (l : List α) : (reps n l).length = n * l.length := by
  induction n with
  | zero => simp [reps]
  | succ n ih => simp only [reps, List.length_append, ih, Nat.add_mul, Nat.one_mul, Nat.add_comm]
theorem reps_R {R : Lf → Value → Prop} {ls : List Lf} {vs : List Value} (h : All2 R ls vs) : ∀ n, All2 R (reps n ls) (reps n vs)
  | 0 => trivial
  | n + 1 => h.append (reps_R h n)
theorem reps_get {α : Type} (l : List α) : ∀ (n j : Nat), j < n * l.length → (reps n l)[j]? = l[j % l.length]?
  | 0, j, h => by simp at h
  | n + 1, j, h => by
    rw [Nat.add_mul, Nat.one_mul] at h
    unfold reps
    by_cases hj : j < l.length
    · rw [List.getElem?_append_left hj, Nat.mod_eq_of_lt hj]
    · rw [List.getElem?_append_right (by omega), reps_get l n (j - l.length) (by omega)]
      congr 1
      exact (Nat.mod_eq_sub_mod (by omega)).symm
theorem range_reps (z : Array Value) (n : Nat) : ((Array.range (n * z.size)).map (z[· % z.size]!)).toList = reps n z.toList := by
  apply List.ext_getElem?
  intro j
  by_cases hj : j < n * z.size
  · have hz : 0 < z.size := by
      rcases Nat.eq_zero_or_pos z.size with h | h
      · rw [h, Nat.mul_zero] at hj; omega
      · exact h
    have hm : j % z.size < z.size := Nat.mod_lt _ hz
    rw [reps_get _ _ _ (by simpa using hj)]
    simp [hj, hm]
  · rw [List.getElem?_eq_none (by simp; omega), List.getElem?_eq_none (by rw [reps_length]; simp; omega)]
theorem chunks_R (h : Core C G O w) {T : Ty} {sz : Nat} (hsz : T.sz = sz) {F : Nat → Prop} (hF : ∀ b, G.F b → F b) : ∀ {n : Nat} {ls : List Lf} {vs : List Value} {xs : List T.T} {ds : List Nat}, chunks O T sz n ls = some (xs, ds) → All2 (LfR G O w) ls vs → (∀ d ∈ ds, ∀ b o, G.m d = some (b, o) → F b) →
    xs.length = n ∧ ∀ j x, xs[j]? = some x → Rep F w T x ((vs.drop (j * sz)).take sz)
  | 0, ls, vs, xs, ds, e, _, _ => by
    cases e
    exact ⟨rfl, fun j x hj => by simp at hj⟩
  | n + 1, ls, vs, xs, ds, e, hv, hds => by
    unfold chunks at e
    cases e1 : packs O T (ls.take sz) with
    | none => rw [e1] at e; cases e
    | some r1 =>
      obtain ⟨x, d1⟩ := r1
      cases e2 : chunks O T sz n (ls.drop sz) with
      | none => rw [e1, e2] at e; cases e
      | some r2 =>
        obtain ⟨ys, d2⟩ := r2
        rw [e1, e2] at e
        cases e
        have h1 := packs_R h e1 (hv.take sz) hF (fun d hd => hds d (List.mem_append_left _ hd))
        obtain ⟨h2, h3⟩ := chunks_R h hsz hF e2 (hv.drop sz) (fun d hd => hds d (List.mem_append_right _ hd))
        refine ⟨by rw [List.length_cons, h2], fun j y hj => ?_⟩
        cases j with
        | zero =>
          simp only [List.getElem?_cons_zero, Option.some.injEq] at hj
          subst hj
          simpa using h1
        | succ j =>
          rw [List.getElem?_cons_succ] at hj
          have := h3 j y hj
          rw [List.drop_drop] at this
          rw [Nat.add_mul, Nat.one_mul, Nat.add_comm]
          exact this
theorem StepR.freeze (h : Core C G O w) {ds : List Nat} {wr : List (Nat × Obj)} (hf : freeze O ds = some wr) {e : Eff} {v : Value} {w' : World}
    (k : ∀ G', Core C G' (upds O wr) w → Ext G O w G' (upds O wr) w → G' = { G with F := FzF G ds } → StepR C G' (upds O wr) w e v w') : StepR C G O w { e with wr := wr ++ e.wr } v w' := by
  obtain ⟨h1, x1⟩ := freeze_R h hf
  obtain ⟨G', k1, k2, k3⟩ := k _ h1 x1 rfl
  refine ⟨G', ?_, ?_, ?_⟩
  · show Core C G' (upds O (wr ++ e.wr)) w'
    rw [upds_append]; exact k1
  · show Ext G O w G' (upds O (wr ++ e.wr)) w'
    rw [upds_append]; exact x1.trans k2
  · show SVR G' (upds O (wr ++ e.wr)) w' e.sv v
    rw [upds_append]; exact k3
theorem fnsOf_R : ∀ {c : List Lf} {fs : List Nat} {vs : List Value}, fnsOf c = some fs → All2 (LfR G O w) c vs → vs = fs.map fun f => Value.func (.func f) #[] #[]
  | [], fs, vs, e, h => by
    cases e
    exact h.nil_inv
  | x :: c, fs, vs, e, h => by
    obtain ⟨v, m, rfl, h1, h2⟩ := h.cons_inv
    cases x with
    | fn0 f =>
      unfold fnsOf at e
      cases e1 : fnsOf c with
      | none => rw [e1] at e; cases e
      | some l =>
        rw [e1] at e
        cases e
        rw [fnsOf_R e1 h2, show v = _ from h1.2]
        rfl
    | _ => cases e
theorem fillL_length {z : List Lf} : ∀ (ps : List (Nat × List Lf)) (cells out : List Lf), fillL (fun i => some (i * z.length, z.length)) cells ps = some out → out.length = cells.length := by
  intro ps
  induction ps with
  | nil => intro cells out e; cases e; rfl
  | cons p ps ih =>
    intro cells out e
    obtain ⟨i, v⟩ := p
    unfold fillL at e
    simp only at e
    split at e
    · rename_i hcnd
      rw [ih _ _ e]
      unfold splice
      simp only [List.length_append, List.length_take, List.length_drop]
      omega
    · cases e
theorem buildSliceL_ok (h : Core C G O w) {t : TypeId} {n d : Nat} {ps : List (Nat × List Lf)} {cs : List Chk} {e : Eff} (he : buildSliceL P t n d O ps = some (cs, e)) {qs : Array (Nat × Value)} (hq : All2 (fun p q => p.1 = q.1 ∧ All2 (LfR G O w) p.2 q.2.cells.toList) ps qs.toList) : Does P C G O w (Instr.buildSlice t n qs) e := by
  unfold buildSliceL at he
  split at he
  · rename_i el hu
    split at he
    · rename_i T z hT hz hd
      by_cases hc : z.length = P.cellsOf el ∧ T.sz = z.length ∧ n * z.length ≤ 2 ^ 24
      · rw [if_pos hc] at he
        split at he
        · rename_i c hfill
          split at he
          · rename_i xs ds hch
            split at he
            · cases he
            · rename_i hnd
              split at he
              · rename_i fz hfz
                cases he
                obtain ⟨i, zv, hi, hzv, hrun, hzr⟩ := zeroL_ok (w := w) (G := G) (O := O) hz
                have hzl : zv.cells.size = z.length := by rw [hzr.length]; simp
                have hsz : i.size = z.length := by rw [hc.1]; unfold Program.cellsOf; rw [hi]; rfl
                have hcells : All2 (LfR G O w) (reps n z) ((Array.range (n * i.size)).map (zv.cells[· % zv.cells.size]!)).toList := by
                  have := range_reps zv.cells n
                  rw [hzl, ← hsz] at this
                  rw [hzl, ← hsz, this]
                  exact reps_R hzr n
                obtain ⟨vo, k1, k2⟩ := fill_R hq hcells hfill
                have hvo : vo.size = n * T.sz := by
                  have e1 := k2.length
                  have e2 : c.length = n * z.length := by
                    have : ∀ (ps : List (Nat × List Lf)) (cells out : List Lf), fillL (fun i => some (i * z.length, z.length)) cells ps = some out → out.length = cells.length := by
                      intro ps
                      induction ps with
                      | nil => intro cells out e; cases e; rfl
                      | cons p ps ih =>
                        intro cells out e
                        obtain ⟨i, v⟩ := p
                        unfold fillL at e
                        simp only at e
                        split at e
                        · rename_i hcnd
                          rw [ih _ _ e]
                          unfold splice
                          simp only [List.length_append, List.length_take, List.length_drop]
                          omega
                        · cases e
                    rw [this _ _ _ hfill, reps_length]
                  rw [hc.2.1, ← e2, e1]; simp
                have hds : d ∉ ds := by
                  intro hm
                  exact hnd (by simpa using hm)
                have hfd : upds O fz d = .no := by rw [freeze_ids hfz d hds]; exact hd
                refine ⟨_, _, ?_, StepR.freeze h hfz fun G' h1 x1 hG => newRow_ok h1 hfd (made_alloc vo el) (cap := n) (xs := xs) ?_ ?_ ?_ (d :: ds)⟩
                · have hxl := (chunks_R (F := FzF G ds) h hc.2.1 (fun b hb => Or.inl hb) hch k2 (fun k hk b o hm => Or.inr ⟨k, hk, o, hm⟩)).1
                  rw [hxl]
                  by_cases hz0 : n * i.size = 0
                  · have hsmall : ¬ n * i.size > 2 ^ 24 := by omega
                    have hk1 : Instr.fill (fun j => some (j * i.size, i.size)) #[] qs.toList = some vo := by
                      have : (Array.range (n * i.size)).map (zv.cells[· % zv.cells.size]!) = #[] := by rw [hz0]; simp
                      rw [this, ← hsz] at k1
                      exact k1
                    have hr0 : Array.range 0 = #[] := rfl
                    simp [Instr.buildSlice, run_underlying hu, sizeOf, typeInfo, hi, hz0, newRow, hk1, hr0]
                  · exact run_buildSlice w t el n qs vo i zv hu hi hzv (by rw [hsz]; omega) hz0 (by rw [← hsz] at k1; exact k1)
                · have hxl := (chunks_R (F := FzF G ds) h hc.2.1 (fun b hb => Or.inl hb) hch k2 (fun k hk b o hm => Or.inr ⟨k, hk, o, hm⟩)).1
                  omega
                · rw [hvo]; exact Nat.le_refl _
                · subst hG
                  intro j x hj
                  have hx := (chunks_R (F := FzF G ds) h hc.2.1 (fun b hb => Or.inl hb) hch k2 (fun k hk b o hm => Or.inr ⟨k, hk, o, hm⟩)).2 j x hj
                  rw [← hc.2.1] at hx
                  refine ⟨_, hx.len, hx, fun i u hu => ?_⟩
                  rw [List.getElem?_take] at hu
                  split at hu
                  · rw [List.getElem?_drop] at hu
                    simpa using hu
                  · cases hu
              · cases he
          · cases he
        · cases he
      · rw [if_neg hc] at he
        cases he
    · rename_i z hT hz hd
      split at he
      · rename_i c hfill
        split at he
        · rename_i fs hfs
          by_cases hc : z.length = P.cellsOf el ∧ z.length = 1 ∧ n = fs.length ∧ n * z.length ≤ 2 ^ 24
          · rw [if_pos hc] at he
            cases he
            obtain ⟨i, zv, hi, hzv, hrun, hzr⟩ := zeroL_ok (w := w) (G := G) (O := O) hz
            have hzl : zv.cells.size = z.length := by rw [hzr.length]; simp
            have hsz : i.size = z.length := by rw [hc.1]; unfold Program.cellsOf; rw [hi]; rfl
            have hcells : All2 (LfR G O w) (reps n z) ((Array.range (n * i.size)).map (zv.cells[· % zv.cells.size]!)).toList := by
              have := range_reps zv.cells n
              rw [hzl, ← hsz] at this
              rw [hzl, ← hsz, this]
              exact reps_R hzr n
            obtain ⟨vo, k1, k2⟩ := fill_R hq hcells hfill
            have hvo := fnsOf_R hfs k2
            have hvl : vo.size = n := by
              have : vo.toList.length = n := by rw [hvo, List.length_map]; exact hc.2.2.1.symm
              simpa using this
            have hxl : (List.range n).length = n := List.length_range
            refine ⟨_, _, ?_, newRow_ok h hd (T := .fn fs) (made_alloc vo el) (cap := n) (xs := List.range n) (Nat.le_of_eq hxl) ?_ ?_ [d]⟩
            · rw [hxl]
              by_cases hz0 : n * i.size = 0
              · have hsmall : ¬ n * i.size > 2 ^ 24 := by omega
                have hk1 : Instr.fill (fun j => some (j * i.size, i.size)) #[] qs.toList = some vo := by
                  have : (Array.range (n * i.size)).map (zv.cells[· % zv.cells.size]!) = #[] := by rw [hz0]; simp
                  rw [this, ← hsz] at k1
                  exact k1
                have hr0 : Array.range 0 = #[] := rfl
                simp [Instr.buildSlice, run_underlying hu, sizeOf, typeInfo, hi, hz0, newRow, hk1, hr0]
              · exact run_buildSlice w t el n qs vo i zv hu hi hzv (by rw [hsz]; omega) hz0 (by rw [← hsz] at k1; exact k1)
            · show n * 1 ≤ vo.size
              omega
            · intro j x hj
              have hjl : j < n := by
                have := (List.getElem?_eq_some_iff.1 hj).1
                rw [hxl] at this; exact this
              have hxj : x = j := by
                rw [List.getElem?_range hjl] at hj
                cases hj; rfl
              have hjf : j < fs.length := by omega
              refine ⟨[.func (.func fs[j]) #[] #[]], rfl, ⟨fs[j], by rw [hxj]; exact List.getElem?_eq_getElem hjf, rfl⟩, fun i u hu => ?_⟩
              cases i with
              | zero =>
                cases hu
                show vo[0 + (j * 1 + 0)]? = _
                rw [show 0 + (j * 1 + 0) = j by omega, ← Array.getElem?_toList, hvo, List.getElem?_map, List.getElem?_eq_getElem hjf]
                rfl
              | succ i => cases hu
          · rw [if_neg hc] at he
            cases he
        · cases he
      · cases he
    · cases he
  · cases he
theorem makeSliceL_ok (h : Core C G O w) {t : TypeId} {d : Nat} {same : Bool} {x y : Option Lf} {cs : List Chk} {e : Eff} (he : makeSliceL P t d O same x y = some (cs, e)) (hc : AllP cs) {a b : Value} (ha : LR G O w x a) (hb : LR G O w y b) (hs : same = true → a = b) : Does P C G O w (Instr.makeSlice t a b) e := by
  unfold makeSliceL at he
  split at he
  · rename_i el n m hu
    obtain rfl := ha.int
    obtain rfl := hb.int
    split at he
    · rename_i T z hT hz hd
      split at he
      · rename_i y hp
        by_cases hcz : z.length = P.cellsOf el ∧ T.sz = z.length
        · rw [if_pos hcz] at he
          cases he
          obtain ⟨i, zv, hi, hzv, hrun, hzr⟩ := zeroL_ok (w := w) (G := G) (O := O) hz
          have hzl : zv.cells.size = z.length := by rw [hzr.length]; simp
          have hsz : i.size = z.length := by rw [hcz.1]; unfold Program.cellsOf; rw [hi]; rfl
          have hby : P.bytesOf el = i.bytes := by unfold Program.bytesOf; rw [hi]; rfl
          have hnm : (0 : Int) ≤ n ∧ (n : Int) ≤ m ∧ (m : Int) * (P.bytesOf el : Int) ≤ 140737488355328 ∧ (m : Int) ≤ 140737488355328 := by
            cases same with
            | true =>
              have e1 : n = m := by have := hs rfl; injection this
              have h1 : (0 : Int) ≤ n := hc.cons.1
              have h2 : (m : Int) * (P.bytesOf el : Int) ≤ 140737488355328 := hc.cons.2.cons.1
              have h3 : (m : Int) ≤ 140737488355328 := hc.cons.2.cons.2.cons.1
              exact ⟨h1, by rw [e1]; exact Int.le_refl _, h2, h3⟩
            | false =>
              have h1 : (0 : Int) ≤ n := hc.cons.1
              have h2 : (n : Int) ≤ m := hc.cons.2.cons.1
              have h3 : (m : Int) * (P.bytesOf el : Int) ≤ 140737488355328 := hc.cons.2.cons.2.cons.1
              have h4 : (m : Int) ≤ 140737488355328 := hc.cons.2.cons.2.cons.2.cons.1
              exact ⟨h1, h2, h3, h4⟩
          obtain ⟨h0, h1, h2, h3⟩ := hnm
          rw [hby] at h2
          have key : ∀ (n m : Int) (b : Nat), 0 ≤ n → n ≤ m → m * (b : Int) ≤ 140737488355328 → m ≤ 140737488355328 → (b : Int) * m ≤ 281474976710656 ∧ m ≤ 9223372036854775807 ∧ n.toNat ≤ m.toNat := by
            intro n m b q0 q1 q2 q3
            rw [Int.mul_comm]
            omega
          obtain ⟨g1, g2, g3⟩ := key n m i.bytes h0 h1 h2 h3
          have hrun := run_make (P := P) w t el i zv hu hi hzv .i64 .i64 n m h0 h1 g1 g2
          have hstep := newRow_ok h hd (made_alloc (w := w) (madeCells zv.cells (m.toNat * i.size)) el) (cap := m.toNat) (T := T) (xs := List.replicate n.toNat y) (by rw [List.length_replicate]; exact g3) (by rw [size_madeCells, hcz.2, hsz]; exact Nat.le_refl _) ?_ [d]
          · rw [List.length_replicate] at hstep
            rcases madeRow_cases el T (Int.toNat n) y with e0 | ⟨e2, t', rfl, e1, _, e0⟩
            · rw [e0]; exact ⟨_, _, hrun, hstep⟩
            · rw [e0]
              have e1 : y = ([] : List t'.T) := eq_of_heq e1
              have hy := packs_R h hp hzr (F := G.F) (fun _ h => h) (fun _ hd => by cases hd)
              rw [e1] at hy
              obtain ⟨A, c, q1, _⟩ := (show Rep G.F w (.list e2 t') ([] : List t'.T) zv.cells.toList from hy)
              have hs1 : zv.cells.size = 1 := by rw [hzl, ← hcz.2]; rfl
              have hi1 : i.size = 1 := by rw [hsz, ← hcz.2]; rfl
              refine ⟨_, _, hrun, newDeep_ok h hd (made_alloc (w := w) (madeCells zv.cells (m.toNat * i.size)) el) g3 (by rw [size_madeCells, hi1]; omega) (fun j hj => ⟨A, c, ?_⟩) [d]⟩
              unfold madeCells
              have hjm : j < m.toNat * i.size := by rw [hi1]; omega
              have h0 : zv.cells[0]? = some (.slice A 0 c) := by
                rw [← Array.getElem?_toList, q1]; rfl
              have hmod : j % zv.cells.size = 0 := by rw [hs1]; exact Nat.mod_one j
              have hlt : 0 < zv.cells.size := by omega
              simp [hjm, hmod, hlt]
              exact (Array.getElem?_eq_some_iff.1 h0).2
          · intro j v hj
            have hjn : j < Int.toNat n ∧ v = y := by
              rw [List.getElem?_replicate] at hj
              by_cases hlt : j < Int.toNat n
              · rw [if_pos hlt] at hj
                exact ⟨hlt, (Option.some.inj hj).symm⟩
              · rw [if_neg hlt] at hj
                cases hj
            obtain ⟨hj2, rfl⟩ := hjn
            have hjm' : j + 1 ≤ Int.toNat m := Nat.lt_of_lt_of_le hj2 g3
            have hy := packs_R h hp hzr (F := G.F) (fun _ h => h) (fun _ hd => by cases hd)
            refine ⟨_, hy.len, hy, fun i' u hu' => ?_⟩
            have hlt : i' < zv.cells.size := by
              have := (List.getElem?_eq_some_iff.1 hu').1
              simpa using this
            unfold madeCells
            have hT' : T.sz = zv.cells.size := by rw [hcz.2, hzl]
            have hs' : i.size = zv.cells.size := by rw [hsz, hzl]
            have hjm : j * zv.cells.size + i' < m.toNat * zv.cells.size := by
              have h5 : (j + 1) * zv.cells.size ≤ m.toNat * zv.cells.size := Nat.mul_le_mul_right _ hjm'
              rw [Nat.add_mul, Nat.one_mul] at h5
              omega
            have hmod : (j * zv.cells.size + i') % zv.cells.size = i' := by
              rw [Nat.mul_comm, Nat.mul_add_mod, Nat.mod_eq_of_lt hlt]
            have hu2 : zv.cells[i']? = some u := by simpa using hu'
            rw [hT', hs', Nat.zero_add]
            simp [hjm, hmod, hlt]
            exact (Array.getElem?_eq_some_iff.1 hu2).2
        · rw [if_neg hcz] at he
          cases he
      · cases he
    · cases he
  · cases he
end
end Go.Proofs.YtamgbcgfjhpedaaDoor.VE
