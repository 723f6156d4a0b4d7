/- How the evaluator's state stands along changes of memory (lemmas; no statement is proved here). -/
import Derived.Test.YtamgbcgfjhpedaaDoorVeRel
namespace Go.Proofs.YtamgbcgfjhpedaaDoor.VE
open Go Go.RowKit

theorem RowAt.mono {F F' : Nat → Prop} {w w' : World} {t : Ty} {xs : List t.T} {arr : Array Value} {o : Nat} (hF : ∀ b, F b → F' b) (hw : ∀ b, F b → w'.heap[b]? = w.heap[b]?) (h : RowAt F w t xs arr o) : RowAt F' w' t xs arr o := fun j x hj => by
  obtain ⟨ce, h1, h2, h3⟩ := h j x hj
  exact ⟨ce, h1, Rep.mono hF hw h2, h3⟩
section
variable {C : Ctx} {G G' : Gh} {O O' : Nat → Obj} {w w' : World}
theorem ObjR.keep {d : Nat} (x : Ext G O w G' O' w') (ho : O' d = O d) (hm : G'.m d = G.m d) (hc : G'.cp d = G.cp d) (hk : G'.cap d = G.cap d) (hs : G'.sub d = G.sub d)
    (hB : ∀ b, (O d).live = true → Bl G (O d) d b → w'.heap[b]? = w.heap[b]? ∧ (G'.F b → G.F b)) (h : ObjR C G O w d) : ObjR C G' O' w' d := by
  have hb : ∀ b o, (O d).live = true → G.m d = some (b, o) → w'.heap[b]? = w.heap[b]? ∧ (G'.F b → G.F b) := fun b o hl hm => hB b hl (Or.inl ⟨o, hm⟩)
  unfold ObjR at h ⊢
  rw [ho]
  cases e : O d with
  | no => trivial
  | dead => trivial
  | box t cs =>
    rw [e] at h hb
    obtain ⟨b, arr, h1, h2, h3, h4, h5⟩ := h
    obtain ⟨k1, k2⟩ := hb b 0 rfl h1
    exact ⟨b, arr, hm.trans h1, k1.trans h2, h3.mono fun _ _ => LfR.mono x, fun hF => h4 (k2 hF), h5⟩
  | row t ty xs fz =>
    rw [e] at h hb
    obtain ⟨h0, h⟩ := h
    refine ⟨by rw [hc]; exact h0, ?_⟩
    rcases h with ⟨h1, h2⟩ | ⟨b, o, arr, t', h1, h2, h3, h4, h5, h6, h7⟩
    · exact Or.inl ⟨hc.trans h1, hm.trans h2⟩
    · obtain ⟨k1, k2⟩ := hb b o rfl h1
      exact Or.inr ⟨b, o, arr, t', hm.trans h1, k1.trans h2, by rw [hc]; exact h3, h4.mono x.F x.Fw, h5, fun hz => x.F b (h6 hz), fun hz hF => h7 hz (k2 hF)⟩
  | caps cs =>
    rw [e] at h
    show All2 _ cs (G'.cap d)
    rw [hk]
    exact h.mono fun _ _ => CmR.mono x
  | mp es =>
    rw [e] at h hb
    obtain ⟨b, arr, clock, h1, h2, h3, h4, h5⟩ := h
    obtain ⟨k1, k2⟩ := hb b 0 rfl h1
    exact ⟨b, arr, clock, hm.trans h1, k1.trans h2, h3, fun hF => h4 (k2 hF), h5⟩
  | deep t t2 ty xss =>
    rw [e] at h hb hB
    obtain ⟨h0, h⟩ := h
    refine ⟨by rw [hc]; exact h0, ?_⟩
    rcases h with ⟨h1, h2⟩ | ⟨b, o, arr, t', h1, h2, h3, h4, h5, h6, h7⟩
    · exact Or.inl ⟨hc.trans h1, hm.trans h2⟩
    · obtain ⟨k1, k2⟩ := hb b o rfl h1
      refine Or.inr ⟨b, o, arr, t', hm.trans h1, k1.trans h2, by rw [hc]; exact h3, h4, fun hF => h5 (k2 hF), fun j y hj => ?_, fun j j' y y' b1 o1 b2 o2 hne hj hj' hy hy' s1 s2 => ?_⟩
      · obtain ⟨A, c, q1, q2, q0, q3⟩ := h6 j y hj
        refine ⟨A, c, q1, q2, fun hz => (by rw [hs]; exact q0 hz), fun hn => ?_⟩
        obtain ⟨b', o', arr', e', r1, r2, r3, r4, r5, r6, r7⟩ := q3 hn
        obtain ⟨m1, m2⟩ := hB b' rfl (Or.inr ⟨j, y, o', hj, hn, r1⟩)
        exact ⟨b', o', arr', e', by rw [hs]; exact r1, r2, m1.trans r3, r4.mono x.F x.Fw, r5, fun hF => r6 (m2 hF), r7⟩
      · rw [hs] at s1 s2
        exact h7 j j' y y' b1 o1 b2 o2 hne hj hj' hy hy' s1 s2
theorem Core.block (h : Core C G O w) {d b o : Nat} (hl : (O d).live = true) (hm : G.m d = some (b, o)) : b < w.heap.size ∧ own C b := by
  have k := h.ob d
  unfold ObjR at k
  cases e : O d with
  | no => rw [e] at hl; cases hl
  | dead => rw [e] at hl; cases hl
  | caps cs => rw [e] at hl; cases hl
  | box t cs =>
    rw [e] at k
    obtain ⟨b', arr, h1, h2, h3, h4, h5⟩ := k
    rw [hm] at h1
    cases h1
    exact ⟨h2.lt, h5⟩
  | row t ty xs fz =>
    rw [e] at k
    rcases k.2 with ⟨_, h2⟩ | ⟨b', o', arr, t', h1, h2, h3, h4, h5, h6, h7⟩
    · rw [hm] at h2; cases h2
    · rw [hm] at h1
      cases h1
      exact ⟨h2.lt, h5⟩
  | mp es =>
    rw [e] at k
    obtain ⟨b', arr, clock, h1, h2, h3, h4, h5⟩ := k
    rw [hm] at h1
    cases h1
    exact ⟨(Array.getElem?_eq_some_iff.1 h2).1, h5⟩
  | deep t t2 ty xss =>
    rw [e] at k
    rcases k.2 with ⟨_, h2⟩ | ⟨b', o', arr, t', h1, h2, h3, h4, h5, h6, h7⟩
    · rw [hm] at h2; cases h2
    · rw [hm] at h1
      cases h1
      exact ⟨h2.lt, h4⟩
theorem Core.deep (h : Core C G O w) {d : Nat} {e e2 : TypeId} {t : Ty} {xss : List (List t.T)} (hd : O d = .deep e e2 t xss) :
    xss.length ≤ G.cp d ∧ ((G.cp d = 0 ∧ G.m d = none) ∨ ∃ b o arr e, G.m d = some (b, o) ∧ blk w b arr e ∧ o + G.cp d ≤ arr.size ∧ own C b ∧ ¬ G.F b ∧
      (∀ (j : Nat) x, xss[j]? = some x → ∃ A c, arr[o + j]? = some (.slice A x.length c) ∧ x.length ≤ c ∧ (x.length = 0 → G.sub d j = none) ∧ (0 < x.length → ∃ b' o' arr' e', G.sub d j = some (b', o') ∧ A = some ⟨b', o', none⟩ ∧ blk w b' arr' e' ∧ RowAt G.F w t x arr' o' ∧ own C b' ∧ ¬ G.F b' ∧ b' ≠ b)) ∧
      ∀ (j j' : Nat) x x' b1 o1 b2 o2, j ≠ j' → xss[j]? = some x → xss[j']? = some x' → 0 < x.length → 0 < x'.length → G.sub d j = some (b1, o1) → G.sub d j' = some (b2, o2) → b1 ≠ b2) := by
  have k := h.ob d
  unfold ObjR at k
  rw [hd] at k
  exact k
theorem Core.blockB (h : Core C G O w) {d b : Nat} (hl : (O d).live = true) (hB : Bl G (O d) d b) : b < w.heap.size ∧ own C b ∧ ((∃ e e2 t xss, O d = .deep e e2 t xss) → ¬ G.F b) := by
  rcases hB with ⟨o, hm⟩ | hB
  · refine ⟨(h.block hl hm).1, (h.block hl hm).2, ?_⟩
    rintro ⟨e, e2, t, xss, hd⟩
    rcases (h.deep hd).2 with ⟨_, h2⟩ | ⟨b', o', arr, t', h1, h2, h3, h4, h5, h6, h7⟩
    · rw [hm] at h2; cases h2
    · rw [hm] at h1; cases h1; exact h5
  · cases e : O d with
    | deep t t2 ty xss =>
      rw [e] at hB
      obtain ⟨j, y, p, hj, hn, hs⟩ := hB
      have hlt : j < xss.length := (List.getElem?_eq_some_iff.1 hj).1
      rcases (h.deep e).2 with ⟨h1, _⟩ | ⟨b', o', arr, t', h1, h2, h3, h4, h5, h6, h7⟩
      · have := (h.deep e).1
        omega
      · obtain ⟨A, c, q1, q2, _, q3⟩ := h6 j y hj
        obtain ⟨b2, o2, arr2, e2, r1, r2, r3, r4, r5, r6, r7⟩ := q3 hn
        rw [hs] at r1
        cases r1
        exact ⟨r3.lt, r5, fun _ => r6⟩
    | _ => rw [e] at hB; exact hB.elim
theorem Bl.plain {o : Obj} {d b : Nat} (h : Bl G o d b) (hn : o.isDeep = false) : ∃ p, G.m d = some (b, p) := by
  rcases h with h | h
  · exact h
  · cases o <;> first | exact h.elim | cases hn
theorem Bl.old {o : Obj} {d b : Nat} (h : Bl G' o d b) (hm : G'.m d = G.m d) (hs : G'.sub d = G.sub d) : Bl G o d b := by
  unfold Bl at h ⊢
  rw [hm] at h
  cases o <;> first | exact h | (rw [hs] at h; exact h)
theorem Core.step (h : Core C G O w) (x : Ext G O w G' O' w') (D : Nat → Prop)
    (same : ∀ d, ¬ D d → O' d = O d ∧ G'.m d = G.m d ∧ G'.cp d = G.cp d ∧ G'.cap d = G.cap d ∧ G'.sub d = G.sub d)
    (keepb : ∀ d b, ¬ D d → (O d).live = true → Bl G (O d) d b → w'.heap[b]? = w.heap[b]? ∧ (G'.F b → G.F b))
    (new : ∀ d, D d → ObjR C G' O' w' d)
    (inj : ∀ d d' b b', d ≠ d' → D d → (O' d).live = true → (O' d').live = true → Bl G' (O' d) d b → Bl G' (O' d') d' b' → b ≠ b')
    (F1 : ∀ b, G'.F b → G.F b ∨ b < w'.heap.size ∧ own C b) (keep : Keeps C.base C.W0 w w')
    (fix : ∀ d, d ∈ C.fx → D d → O d ≠ .no → (O' d).live = true → (O d).live = true ∧ G'.m d = G.m d ∧ G'.cp d = G.cp d ∧ (O' d).len = (O d).len) : Core C G' O' w' where
  ob d := by
    by_cases hD : D d
    · exact new d hD
    · obtain ⟨h1, h2, h3, h4, h5⟩ := same d hD
      exact ObjR.keep x h1 h2 h3 h4 h5 (fun b hl hm => keepb d b hD hl hm) (h.ob d)
  injB d d' b b' hne hl hl' hm hm' := by
    by_cases hD : D d
    · exact inj d d' b b' hne hD hl hl' hm hm'
    · by_cases hD' : D d'
      · exact Ne.symm (inj d' d b' b (Ne.symm hne) hD' hl' hl hm' hm)
      · obtain ⟨h1, h2, h3, h4, h5⟩ := same d hD
        obtain ⟨k1, k2, k3, k4, k5⟩ := same d' hD'
        rw [h1] at hl hm; rw [k1] at hl' hm'
        exact h.injB d d' b b' hne hl hl' (hm.old h2 h5) (hm'.old k2 k5)
  F1 b hb := by
    rcases F1 b hb with k | k
    · exact Nat.lt_of_lt_of_le (h.F1 b k) keep.size
    · exact k.1
  F2 b hb := x.F b (h.F2 b hb)
  F3 b hb := by
    rcases F1 b hb with k | k
    · exact h.F3 b k
    · exact Or.inr k.2
  keep := h.keep.trans keep
  size := Nat.le_trans h.size keep.size
  fix d hd := by
    obtain ⟨h1, h2⟩ := h.fix d hd
    refine ⟨(x.sim d h1).1, fun hl => ?_⟩
    by_cases hD : D d
    · obtain ⟨k0, k1, k2, k3⟩ := fix d hd hD h1 hl
      obtain ⟨e1, e2, e3⟩ := h2 k0
      exact ⟨k1.trans e1, k2.trans e2, k3.trans e3⟩
    · obtain ⟨k1, k2, k3, k4, _⟩ := same d hD
      rw [k1] at hl ⊢
      obtain ⟨e1, e2, e3⟩ := h2 hl
      exact ⟨k2.trans e1, k3.trans e2, e3⟩
/-- Only what no object shows has changed (a draw). -/
theorem Core.world (h : Core C G O w) (hh : w'.heap = w.heap) (ho : w'.os = w.os) (ht : w'.tape = w.tape) (hp : w'.output = w.output) : Core C G O w' ∧ Ext G O w G O w' := by
  have x : Ext G O w G O w' := ⟨fun _ h => h, fun _ _ => by rw [hh], fun _ h => ⟨h, Sim.refl _, fun _ => ⟨rfl, rfl, rfl, fun _ _ h => h⟩⟩⟩
  refine ⟨h.step x (fun _ => False) (fun _ _ => ⟨rfl, rfl, rfl, rfl, rfl⟩) (fun _ _ _ _ _ => ⟨by rw [hh], id⟩) (fun _ h => h.elim) (fun _ _ _ _ _ h => h.elim) (fun b hb => Or.inl hb)
    ⟨ho, ht, hp, by rw [hh]; exact Nat.le_refl _, fun _ _ _ => by rw [hh]⟩ (fun _ _ h => h.elim), x⟩

theorem upd_self {α : Type} (f : Nat → α) (d : Nat) (v : α) : upd f d v d = v := by simp [upd]
theorem upd_ne {α : Type} (f : Nat → α) {d k : Nat} (v : α) (h : k ≠ d) : upd f d v k = f k := by
  unfold upd
  have : Nat.beq k d = false := by
    cases e : Nat.beq k d with
    | false => rfl
    | true => exact absurd (Nat.eq_of_beq_eq_true e) h
  rw [this]; rfl

/-- w' is w with one more block. -/
structure Made (w w' : World) (arr : Array Value) (e : TypeId) : Prop where
  heap : w'.heap = w.heap.push (.cells arr e (0, 0))
  os : w'.os = w.os
  tape : w'.tape = w.tape
  output : w'.output = w.output
theorem Made.old {arr : Array Value} {e : TypeId} (h : Made w w' arr e) {b : Nat} (hb : b < w.heap.size) : w'.heap[b]? = w.heap[b]? := by
  rw [h.heap, Array.getElem?_push, if_neg (by omega)]
theorem Made.new {arr : Array Value} {e : TypeId} (h : Made w w' arr e) : blk w' w.heap.size arr e := by
  unfold blk
  rw [h.heap, Array.getElem?_push, if_pos rfl]
theorem Made.keeps {arr : Array Value} {e : TypeId} (h : Made w w' arr e) (hC : C.base ≤ w.heap.size) : Keeps C.base C.W0 w w' :=
  ⟨h.os, h.tape, h.output, by rw [h.heap, Array.size_push]; omega, fun b hb _ => h.old (by omega)⟩
/-- A new object. -/
theorem Core.make (h : Core C G O w) {d : Nat} (hd : O d = .no) {arr : Array Value} {e : TypeId} (hw : Made w w' arr e) (x : Obj) (m : Option (Nat × Nat)) (cp : Nat)
    (hm : m = none ∨ m = some (w.heap.size, 0))
    (ho : ObjR C { G with m := upd G.m d m, cp := upd G.cp d cp } (upd O d x) w' d) (hx : x.isDeep = false := by rfl) :
    Core C { G with m := upd G.m d m, cp := upd G.cp d cp } (upd O d x) w' ∧ Ext G O w { G with m := upd G.m d m, cp := upd G.cp d cp } (upd O d x) w' := by
  have hF : ∀ b, G.F b → w'.heap[b]? = w.heap[b]? := fun b hb => hw.old (h.F1 b hb)
  have ex : Ext G O w { G with m := upd G.m d m, cp := upd G.cp d cp } (upd O d x) w' := by
    refine ⟨fun _ h => h, hF, fun k hk => ?_⟩
    have hne : k ≠ d := by rintro rfl; exact hk hd
    rw [upd_ne _ _ hne]
    refine ⟨hk, Sim.refl _, fun _ => ⟨?_, ?_, rfl, fun _ _ h => h⟩⟩
    · exact upd_ne _ _ hne
    · exact upd_ne _ _ hne
  refine ⟨h.step ex (fun k => k = d) (fun k hk => ⟨upd_ne _ _ hk, upd_ne _ _ hk, upd_ne _ _ hk, rfl, rfl⟩) (fun k b hk hl hmk => ⟨hw.old (h.blockB hl hmk).1, id⟩) (by rintro k rfl; exact ho) ?_ (fun b hb => Or.inl hb) (hw.keeps h.size) ?_, ex⟩
  · rintro k d' b b' hne rfl hl hl' hmk hmk'
    rw [upd_self] at hmk
    obtain ⟨o, e1⟩ := hmk.plain hx
    have e1 : upd G.m k m k = some (b, o) := e1
    rw [upd_self] at e1
    have hne' : d' ≠ k := Ne.symm hne
    rw [upd_ne _ _ hne'] at hl' hmk'
    have e2 : Bl G (O d') d' b' := hmk'.old (upd_ne _ _ hne') rfl
    have := (h.blockB hl' e2).1
    rcases hm with rfl | rfl
    · cases e1
    · cases e1; omega
  · rintro k hk rfl hn
    exact absurd hd hn

/-- w' is w, the cells of one block written. -/
structure Put (w w' : World) (b : Nat) (arr : Array Value) (e : TypeId) : Prop where
  new : blk w' b arr e
  old : ∀ k, k ≠ b → w'.heap[k]? = w.heap[k]?
  size : w'.heap.size = w.heap.size
  os : w'.os = w.os
  tape : w'.tape = w.tape
  output : w'.output = w.output
theorem Put.keeps {b : Nat} {arr : Array Value} {e : TypeId} (h : Put w w' b arr e) (ho : own C b) : Keeps C.base C.W0 w w' :=
  ⟨h.os, h.tape, h.output, by rw [h.size]; exact Nat.le_refl _, fun k hk hn => h.old k (by
    rintro rfl
    rcases ho with ho | ho
    · omega
    · exact hn ho)⟩
/-- An object's block is written. -/
theorem Core.write (h : Core C G O w) {d b o : Nat} {arr : Array Value} {e : TypeId} (hl : (O d).live = true) (hm : G.m d = some (b, o)) (hF : ¬ G.F b) (hw : Put w w' b arr e) (x : Obj) (hs : Sim (O d) x) (hlen : x.len = (O d).len)
    (hx : x.live = true) (ho : Ext G O w G (upd O d x) w' → ObjR C G (upd O d x) w' d) (hxd : x.isDeep = false := by rfl) : Core C G (upd O d x) w' ∧ Ext G O w G (upd O d x) w' := by
  have ex : Ext G O w G (upd O d x) w' := by
    refine ⟨fun _ h => h, fun k hk => hw.old k (by rintro rfl; exact hF hk), fun k hk => ?_⟩
    by_cases hne : k = d
    · subst hne
      rw [upd_self]
      refine ⟨?_, hs, fun _ => ⟨rfl, rfl, rfl, fun _ _ h => h⟩⟩
      rintro rfl; cases hx
    · rw [upd_ne _ _ hne]
      exact ⟨hk, Sim.refl _, fun _ => ⟨rfl, rfl, rfl, fun _ _ h => h⟩⟩
  refine ⟨h.step ex (fun k => k = d) (fun k hk => ⟨upd_ne _ _ hk, rfl, rfl, rfl, rfl⟩) (fun k b' hk hl' hm' => ⟨hw.old b' (h.injB k d b' b hk hl' hl hm' (Or.inl ⟨o, hm⟩)), id⟩) (by rintro k rfl; exact ho ex) ?_ (fun b hb => Or.inl hb) (hw.keeps (h.block hl hm).2) ?_, ex⟩
  · rintro k d' b1 b' hne rfl hl1 hl' hmk hmk'
    rw [upd_ne _ _ (Ne.symm hne)] at hl' hmk'
    rw [upd_self] at hmk
    exact h.injB k d' b1 b' hne hl hl' (Or.inl (hmk.plain hxd)) hmk'
  · rintro k hk rfl hn hlv
    refine ⟨hl, rfl, rfl, ?_⟩
    rw [upd_self]; exact hlen
/-- An object is given up. -/
theorem Core.kill (h : Core C G O w) (d : Nat) (hd : O d ≠ .no) : Core C G (upd O d .dead) w ∧ Ext G O w G (upd O d .dead) w := by
  have ex : Ext G O w G (upd O d .dead) w := by
    refine ⟨fun _ h => h, fun _ _ => rfl, fun k hk => ?_⟩
    by_cases hne : k = d
    · subst hne
      rw [upd_self]
      exact ⟨by simp, by cases O k <;> simp [Sim], fun h => absurd rfl h⟩
    · rw [upd_ne _ _ hne]
      exact ⟨hk, Sim.refl _, fun _ => ⟨rfl, rfl, rfl, fun _ _ h => h⟩⟩
  refine ⟨h.step ex (fun k => k = d) (fun k hk => ⟨upd_ne _ _ hk, rfl, rfl, rfl, rfl⟩) (fun _ _ _ _ _ => ⟨rfl, id⟩) ?_ ?_ (fun b hb => Or.inl hb) (Keeps.refl _ _ _) ?_, ex⟩
  · rintro k rfl
    unfold ObjR; rw [upd_self]; trivial
  · rintro k d' b1 b' hne rfl hl1
    rw [upd_self] at hl1; cases hl1
  · rintro k hk rfl hn hlv
    rw [upd_self] at hlv; cases hlv

/-! ### rows that stand from now on -/
theorem upds_append {α : Type} (f : Nat → α) : ∀ (l m : List (Nat × α)), upds f (l ++ m) = upds (upds f l) m
  | [], _ => rfl
  | (d, v) :: l, m => upds_append (upd f d v) l m
theorem Core.freeze1 (h : Core C G O w) {d : Nat} {e : TypeId} {t : Ty} {xs : List t.T} {fz : Bool} (hd : O d = .row e t xs fz) :
    Core C { G with F := fun b => G.F b ∨ ∃ o, G.m d = some (b, o) } (upd O d (.row e t xs true)) w ∧ Ext G O w { G with F := fun b => G.F b ∨ ∃ o, G.m d = some (b, o) } (upd O d (.row e t xs true)) w := by
  have hl : (O d).live = true := by rw [hd]; rfl
  have ex : Ext G O w { G with F := fun b => G.F b ∨ ∃ o, G.m d = some (b, o) } (upd O d (.row e t xs true)) w := by
    refine ⟨fun _ h => Or.inl h, fun _ _ => rfl, fun k hk => ?_⟩
    by_cases hne : k = d
    · subst hne
      rw [upd_self, hd]
      exact ⟨by simp, ⟨rfl, rfl⟩, fun _ => ⟨rfl, rfl, rfl, fun _ _ h => h⟩⟩
    · rw [upd_ne _ _ hne]
      exact ⟨hk, Sim.refl _, fun _ => ⟨rfl, rfl, rfl, fun _ _ h => h⟩⟩
  refine ⟨h.step ex (fun k => k = d) (fun k hk => ⟨upd_ne _ _ hk, rfl, rfl, rfl, rfl⟩) (fun k b hk hl' hm' => ⟨rfl, fun hF => ?_⟩) ?_ ?_ ?_ (Keeps.refl _ _ _) ?_, ex⟩
  · rcases hF with hF | ⟨o', hF⟩
    · exact hF
    · exact absurd rfl (h.injB k d b b hk hl' hl hm' (Or.inl ⟨o', hF⟩))
  · rintro k rfl
    have ho := h.ob k
    unfold ObjR at ho ⊢
    rw [upd_self]
    rw [hd] at ho
    obtain ⟨h0, ho⟩ := ho
    refine ⟨h0, ho.imp id ?_⟩
    rintro ⟨b, o, arr, t', h1, h2, h3, h4, h5, h6, h7⟩
    exact ⟨b, o, arr, t', h1, h2, h3, h4.mono (fun _ h => Or.inl h) (fun _ _ => rfl), h5, fun _ => Or.inr ⟨o, h1⟩, fun hz => by cases hz⟩
  · rintro k d' b1 b' hne rfl hl1 hl' hmk hmk'
    rw [upd_ne _ _ (Ne.symm hne)] at hl' hmk'
    rw [upd_self] at hmk
    exact h.injB k d' b1 b' hne hl hl' (Or.inl (hmk.plain rfl)) hmk'
  · rintro b (hb | ⟨o, hb⟩)
    · exact Or.inl hb
    · exact Or.inr (h.block hl hb)
  · rintro k hk rfl hn hlv
    refine ⟨hl, rfl, rfl, ?_⟩
    rw [upd_self, hd]; rfl
end
end Go.Proofs.YtamgbcgfjhpedaaDoor.VE
