/- Maps of integers against the model's (lemmas; no statement is proved here). -/
import Derived.Test.YtamgbcgfjhpedaaDoorVeOpsF
import Derived.MapKept
namespace Go.Proofs.YtamgbcgfjhpedaaDoor.VE
open Go Go.RowKit
section
variable {P : Program} {C : Ctx} {G : Gh} {O : Nat → Obj} {w w' : World}
theorem makeMapL_ok (h : Core C G O w) {d : Nat} {cs : List Chk} {e : Eff} (he : makeMapL d O = some (cs, e)) (t : TypeId) : Does P C G O w (Instr.makeMap t none) e := by
  unfold makeMapL at he
  split at he
  · rename_i hd
    cases he
    obtain ⟨hn, hold⟩ := MapKept.heap_alloc w (.map #[] 0)
    have ex : Ext G O w { G with m := upd G.m d (some (w.heap.size, 0)) } (upd O d (.mp [])) (w.alloc (.map #[] 0)) := by
      refine ⟨fun _ h => h, fun b hb => hold b (h.F1 b hb), fun k hk => ?_⟩
      have hne : k ≠ d := by rintro rfl; exact hk hd
      rw [upd_ne _ _ hne]
      exact ⟨hk, Sim.refl _, fun _ => ⟨upd_ne _ _ hne, rfl, rfl, fun _ _ h => h⟩⟩
    refine ⟨.map (some w.heap.size), w.alloc (.map #[] 0), rfl, { G with m := upd G.m d (some (w.heap.size, 0)) }, ?_, ex, rfl, ?_⟩
    · refine h.step ex (fun k => k = d) (fun k hk => ⟨upd_ne _ _ hk, upd_ne _ _ hk, rfl, rfl, rfl⟩) (fun k b hk hl hmk => ⟨hold b (h.blockB hl hmk).1, id⟩) ?_ ?_ (fun b hb => Or.inl hb) ⟨rfl, rfl, rfl, by show w.heap.size ≤ (w.heap.push (.map #[] 0)).size; rw [Array.size_push]; omega, fun b hb _ => hold b (Nat.lt_of_lt_of_le hb h.size)⟩ ?_
      · rintro k rfl
        show ObjR C { G with m := upd G.m k (some (w.heap.size, 0)) } (upd O k (.mp [])) (w.alloc (.map #[] 0)) k
        unfold ObjR
        rw [upd_self]
        exact ⟨w.heap.size, #[], 0, upd_self _ _ _, hn, trivial, fun hF => Nat.lt_irrefl _ (h.F1 _ hF), Or.inl h.size⟩
      · rintro k d' b b' hne rfl hl hl' hmk hmk'
        change Bl _ (upd O k (.mp []) k) k b at hmk
        change (upd O k (.mp []) d').live = true at hl'
        change Bl _ (upd O k (.mp []) d') d' b' at hmk'
        rw [upd_self] at hmk
        obtain ⟨o, e1⟩ := hmk.plain rfl
        have e1 : upd G.m k (some (w.heap.size, 0)) k = some (b, o) := e1
        rw [upd_self] at e1
        have hne' : d' ≠ k := Ne.symm hne
        rw [upd_ne _ _ hne'] at hl' hmk'
        have e2 : Bl G (O d') d' b' := hmk'.old (upd_ne _ _ hne') rfl
        have := (h.blockB hl' e2).1
        cases e1; omega
      · rintro k hk rfl hn'
        exact absurd hd hn'
    · show OnMap (upd O d (.mp []) d) _
      rw [upd_self]
      exact ⟨w.heap.size, upd_self _ _ _, rfl⟩
  · cases he
theorem Core.map (h : Core C G O w) {d : Nat} {es : List (Int × Int)} (hd : O d = .mp es) : ∃ b arr clock, G.m d = some (b, 0) ∧ w.heap[b]? = some (.map arr clock) ∧ EntR es arr.toList ∧ ¬ G.F b ∧ own C b := by
  have k := h.ob d
  unfold ObjR at k
  rw [hd] at k
  exact k
theorem mapOf_ok {t : TypeId} (h : mapOf P t = true) : ∃ kt et i, P.underlying t = some (.map kt et) ∧ P.underlying kt = some (.int .i64) ∧ P.info? et = some i ∧ i.zero = some (.int .i64 0) := by
  unfold mapOf at h
  split at h
  · rename_i kt et hu
    split at h
    · rename_i hk
      split at h
      · rename_i i hi
        split at h
        · rename_i z hz
          obtain rfl := of_decide_eq_true h
          exact ⟨kt, et, i, hu, hk, hi, hz⟩
        · cases h
      · cases h
    · cases h
  · cases h
theorem ent_find (k v : Int) (f : MapEntry → MapEntry) (hf : ∀ m, (f m).key = .int .i64 k ∧ (f m).val = .int .i64 v) : ∀ (es : List (Int × Int)) (l : List MapEntry) (i : Nat), EntR es l →
    (mget es k = none ∧ Instr.findNow (.int .i64) (.int .i64 k) l i = some none ∧ mput es k v = es ++ [(k, v)]) ∨
    (∃ j old m, mget es k = some old ∧ Instr.findNow (.int .i64) (.int .i64 k) l i = some (some (i + j, .int .i64 old)) ∧ l[j]? = some m ∧ m.key = .int .i64 k ∧ EntR (mput es k v) (l.modify j f))
  | [], l, i, h => by
    obtain rfl := h.nil_inv
    exact Or.inl ⟨rfl, rfl, rfl⟩
  | (a, b) :: es, l, i, h => by
    obtain ⟨m, l', rfl, ⟨h1, h2⟩, h3⟩ := h.cons_inv
    by_cases hk : a = k
    · subst hk
      refine Or.inr ⟨0, b, m, by simp [mget], ?_, rfl, h1, ?_⟩
      · simp [Instr.findNow, Instr.sameNow, h1, h2]
      · simp only [mput, if_true, List.modify_zero_cons]
        exact ⟨hf m, h3⟩
    · have hk' : (k == a) = false := by simp; omega
      rcases ent_find k v f hf es l' (i + 1) h3 with ⟨e1, e2, e3⟩ | ⟨j, old, m', e1, e2, e3, e4, e5⟩
      · refine Or.inl ⟨by simp [mget, hk, e1], ?_, by simp [mput, hk, e3]⟩
        simp [Instr.findNow, Instr.sameNow, h1, hk', e2]
      · refine Or.inr ⟨j + 1, old, m', by simp [mget, hk, e1], ?_, by simpa using e3, e4, ?_⟩
        · simp only [Instr.findNow, Instr.sameNow, h1, if_true, hk', e2]
          rw [show i + 1 + j = i + (j + 1) by omega]
        · simp only [mput, hk, if_false, List.modify_succ_cons]
          exact ⟨⟨h1, h2⟩, e5⟩
theorem lookupL_ok (h : Core C G O w) {t : TypeId} {x ix : Option Lf} {cs : List Chk} {e : Eff} (he : lookupL P t O x ix = some (cs, e)) {a b : Value} (ha : LR G O w x a) (hb : LR G O w ix b) : Does P C G O w (Instr.lookup t a b true) e := by
  unfold lookupL at he
  split at he
  · rename_i d k ht
    split at he
    · rename_i es hd
      cases he
      obtain ⟨kt, et, inf, u1, u2, u3, u4⟩ := mapOf_ok ht
      have q : OnMap (O d) (∃ b, G.m d = some (b, 0) ∧ a = .map (some b)) := (ha _ rfl).2
      rw [hd] at q
      obtain ⟨r, hm, rfl⟩ := q
      obtain rfl := hb.int
      obtain ⟨r', arr, clock, hm', hw, hent, _, _⟩ := h.map hd
      rw [hm] at hm'
      cases hm'
      have hz : (zeroValue et).run P w = .ok (.int .i64 0) w := by simp [zeroValue, typeInfo, u3, u4]
      have hk : MapKept.IsKey (.int .i64) (.int .i64 k) := rfl
      rcases ent_find k 0 (fun m => { m with key := .int .i64 k, val := .int .i64 0 }) (fun _ => ⟨rfl, rfl⟩) es arr.toList 0 hent with ⟨e1, e2, _⟩ | ⟨j, old, m, e1, e2, e3, e4, _⟩
      · refine Does.pure h (v := .tuple #[.int .i64 0, .bool false]) ?_ ⟨_, rfl, ?_⟩
        · simp [Instr.lookup, run_underlying u1, MapKept.run_getObj_map hw, MapKept.run_checkKey u2 hk, MapKept.run_findKey u2 e2, hz, Result.andThen]
        · rw [e1]
          exact ⟨lf_int _ _, ⟨rfl, rfl⟩, trivial⟩
      · refine Does.pure h (v := .tuple #[.int .i64 old, .bool true]) ?_ ⟨_, rfl, ?_⟩
        · simp [Instr.lookup, run_underlying u1, MapKept.run_getObj_map hw, MapKept.run_checkKey u2 hk, MapKept.run_findKey u2 e2, Result.andThen]
        · rw [e1]
          exact ⟨lf_int _ _, ⟨rfl, rfl⟩, trivial⟩
    · cases he
  · cases he
theorem Core.writeM (h : Core C G O w) {d b o : Nat} (hl : (O d).live = true) (hm : G.m d = some (b, o)) (hF : ¬ G.F b) (hold : ∀ k, k ≠ b → w'.heap[k]? = w.heap[k]?) (hk : Keeps C.base C.W0 w w') (x : Obj) (hs : Sim (O d) x) (hlen : x.len = (O d).len)
    (hx : x.live = true) (ho : ObjR C G (upd O d x) w' d) (hxd : x.isDeep = false := by rfl) : Core C G (upd O d x) w' ∧ Ext G O w G (upd O d x) w' := by
  have ex : Ext G O w G (upd O d x) w' := by
    refine ⟨fun _ h => h, fun k hk => hold k (by rintro rfl; exact hF hk), fun k hk => ?_⟩
    by_cases hne : k = d
    · subst hne
      rw [upd_self]
      refine ⟨?_, hs, fun _ => ⟨rfl, rfl, rfl, fun _ _ h => h⟩⟩
      rintro rfl; cases hx
    · rw [upd_ne _ _ hne]
      exact ⟨hk, Sim.refl _, fun _ => ⟨rfl, rfl, rfl, fun _ _ h => h⟩⟩
  refine ⟨h.step ex (fun k => k = d) (fun k hk => ⟨upd_ne _ _ hk, rfl, rfl, rfl, rfl⟩) (fun k b' hk hl' hm' => ⟨hold b' (h.injB k d b' b hk hl' hl hm' (Or.inl ⟨o, hm⟩)), id⟩) (by rintro k rfl; exact ho) ?_ (fun b hb => Or.inl hb) hk ?_, ex⟩
  · rintro k d' b1 b' hne rfl hl1 hl' hmk hmk'
    rw [upd_ne _ _ (Ne.symm hne)] at hl' hmk'
    rw [upd_self] at hmk
    exact h.injB k d' b1 b' hne hl hl' (Or.inl (hmk.plain hxd)) hmk'
  · rintro k hk rfl hn hlv
    refine ⟨hl, rfl, rfl, ?_⟩
    rw [upd_self]; exact hlen
theorem mapUpdateL_ok (h : Core C G O w) {t : TypeId} {x y z : Option Lf} {cs : List Chk} {e : Eff} (he : mapUpdateL P t O x y z = some (cs, e)) {a b c : Value} (ha : LR G O w x a) (hb : LR G O w y b) (hc : LR G O w z c) :
    ∃ w', (Instr.mapUpdate t a b c).run P w = .ok () w' ∧ ∃ G', Core C G' (upds O e.wr) w' ∧ Ext G O w G' (upds O e.wr) w' ∧ e.sv = .u := by
  unfold mapUpdateL at he
  split at he
  · rename_i d k v ht
    split at he
    · rename_i es hd
      cases he
      obtain ⟨kt, et, inf, u1, u2, u3, u4⟩ := mapOf_ok ht
      have q : OnMap (O d) (∃ b, G.m d = some (b, 0) ∧ a = .map (some b)) := (ha _ rfl).2
      rw [hd] at q
      obtain ⟨r, hm, rfl⟩ := q
      obtain rfl := hb.int
      obtain rfl := hc.int
      obtain ⟨r', arr, clock, hm', hw, hent, hF, hown⟩ := h.map hd
      rw [hm] at hm'
      cases hm'
      have hk : MapKept.IsKey (.int .i64) (.int .i64 k) := rfl
      have fin : ∀ (arr' : Array MapEntry) (clock' : Nat), EntR (mput es k v) arr'.toList → (Instr.mapUpdate t (.map (some r)) (.int .i64 k) (.int .i64 v)).run P w = .ok () { w with heap := w.heap.setIfInBounds r (.map arr' clock') } →
          ∃ w', (Instr.mapUpdate t (.map (some r)) (.int .i64 k) (.int .i64 v)).run P w = .ok () w' ∧ ∃ G', Core C G' (upds O [(d, .mp (mput es k v))]) w' ∧ Ext G O w G' (upds O [(d, .mp (mput es k v))]) w' ∧ (SV.u : SV) = .u := by
        intro arr' clock' hE hrun
        obtain ⟨hn, hold⟩ := MapKept.heap_set (o' := .map arr' clock') hw
        have hk := h.writeM (w' := { w with heap := w.heap.setIfInBounds r (.map arr' clock') }) (d := d) (by rw [hd]; rfl) hm hF hold ⟨rfl, rfl, rfl, by simp, fun k' hk' hn' => hold k' (by
          rintro rfl
          rcases hown with ho | ho
          · omega
          · exact hn' ho)⟩ (.mp (mput es k v)) (by rw [hd]; trivial) (by rw [hd]; rfl) rfl (by
            unfold ObjR
            rw [upd_self]
            exact ⟨r, arr', clock', hm, hn, hE, hF, hown⟩)
        exact ⟨_, hrun, G, hk.1, hk.2, rfl⟩
      rcases ent_find k v (fun m => { m with key := .int .i64 k, val := .int .i64 v }) (fun _ => ⟨rfl, rfl⟩) es arr.toList 0 hent with ⟨e1, e2, e3⟩ | ⟨j, old, m, e1, e2, e3, e4, e5⟩
      · refine fin (arr.push { key := .int .i64 k, val := .int .i64 v, born := clock }) (clock + 1) ?_ ?_
        · rw [e3, Array.toList_push]
          exact hent.append ⟨⟨rfl, rfl⟩, trivial⟩
        · simp [Instr.mapUpdate, run_underlying u1, MapKept.run_getObj_map hw, MapKept.run_checkKey u2 hk, MapKept.run_findKey u2 e2, MapKept.run_setObj_map _ hw, Result.andThen]
      · have hj : arr[j]? = some m := by simpa using e3
        refine fin (arr.modify j fun m => { m with key := .int .i64 k, val := .int .i64 v }) clock ?_ ?_
        · rw [Array.toList_modify]
          exact e5
        · have e2' : Instr.findNow (.int .i64) (.int .i64 k) arr.toList 0 = some (some (j, .int .i64 old)) := by simpa using e2
          simp [Instr.mapUpdate, run_underlying u1, MapKept.run_getObj_map hw, MapKept.run_checkKey u2 hk, MapKept.run_findKey u2 e2', hj, e4, MapKept.run_keyThatStays hk, MapKept.run_setObj_map _ hw, Result.andThen]
    · cases he
  · cases he
end
end Go.Proofs.YtamgbcgfjhpedaaDoor.VE
