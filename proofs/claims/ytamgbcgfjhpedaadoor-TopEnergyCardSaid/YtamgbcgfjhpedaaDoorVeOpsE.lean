/- The evaluator's append against the model's (lemmas; no statement is proved here). -/
import Derived.Test.YtamgbcgfjhpedaaDoorVeOpsD
namespace Go.Proofs.YtamgbcgfjhpedaaDoor.VE
open Go Go.RowKit
section
variable {P : Program} {C : Ctx} {G : Gh} {O : Nat → Obj} {w w' : World}
/-- A block that no object holds becomes a new object's. -/
theorem Core.adopt (h : Core C G O w) {d : Nat} (hd : O d = .no) {b o cp : Nat} {arr : Array Value} {e : TypeId} (hw : Put w w' b arr e) (hF : ¬ G.F b) (ho : own C b) (hfree : ∀ k b', (O k).live = true → Bl G (O k) k b' → b' ≠ b)
    (x : Obj) (hob : Ext G O w { G with m := upd G.m d (some (b, o)), cp := upd G.cp d cp } (upd O d x) w' → ObjR C { G with m := upd G.m d (some (b, o)), cp := upd G.cp d cp } (upd O d x) w' d) (hxd : x.isDeep = false := by rfl) :
    Core C { G with m := upd G.m d (some (b, o)), cp := upd G.cp d cp } (upd O d x) w' ∧ Ext G O w { G with m := upd G.m d (some (b, o)), cp := upd G.cp d cp } (upd O d x) w' := by
  have ex : Ext G O w { G with m := upd G.m d (some (b, o)), cp := upd G.cp d cp } (upd O d x) w' := by
    refine ⟨fun _ h => h, fun k hk => hw.old k (by rintro rfl; exact hF hk), fun k hk => ?_⟩
    have hne : k ≠ d := by rintro rfl; exact hk hd
    rw [upd_ne _ _ hne]
    exact ⟨hk, Sim.refl _, fun _ => ⟨upd_ne _ _ hne, upd_ne _ _ hne, rfl, fun _ _ h => h⟩⟩
  refine ⟨h.step ex (fun k => k = d) (fun k hk => ⟨upd_ne _ _ hk, upd_ne _ _ hk, upd_ne _ _ hk, rfl, rfl⟩) (fun k b' hk hl hm => ⟨hw.old b' (hfree k b' hl hm), id⟩) (by rintro k rfl; exact hob ex) ?_ (fun b hb => Or.inl hb) (hw.keeps ho) ?_, ex⟩
  · rintro k d' b1 b' hne rfl hl hl' hmk hmk'
    rw [upd_self] at hmk
    obtain ⟨o1, e1⟩ := hmk.plain hxd
    have e1 : upd G.m k (some (b, o)) k = some (b1, o1) := e1
    rw [upd_self] at e1
    cases e1
    rw [upd_ne _ _ (Ne.symm hne)] at hl' hmk'
    exact Ne.symm (hfree d' b' hl' (hmk'.old (upd_ne _ _ (Ne.symm hne)) rfl))
  · rintro k hk rfl hn
    exact absurd hd hn
theorem drew_core (h : Core C G O w) : Core C G O w.drew ∧ Ext G O w G O w.drew := h.world rfl rfl rfl rfl
/-- An append whose room is there. -/
theorem run_append_room {t ty el : TypeId} {i : TypeInfo} (ht : P.underlying t = some (.slice el)) (hi : P.info? el = some i) {b o sLen sCap n c : Nat} {A : Option Addr} {vs : List Value} {arr : Array Value} {e : TypeId}
    (hroom : sLen + n ≤ sCap) (hl : vs.length = n * i.size) (hA : 0 < n → ∃ a, A = some a ∧ ∀ j v, vs[j]? = some v → w.cell? (a.add j) = some v) (hb : blk w b arr e) (ho : o + sLen * i.size + vs.length ≤ arr.size) (h1 : ∀ v ∈ vs, one v = true) :
    (Builtin.append_ #[t, t] ty #[.slice (some ⟨b, o, none⟩) sLen sCap, .slice A n c]).run P w = .ok (.slice (some ⟨b, o, none⟩) (sLen + n) sCap) (w.setRow b (arr.toList.take (o + sLen * i.size) ++ vs ++ arr.toList.drop (o + sLen * i.size + vs.length)).toArray) := by
  have hst := run_put (P := P) hb ho h1
  have hf : (Builtin.firstCells i.size n (.slice A n c)).run P w = .ok vs.toArray w := by
    cases A with
    | none =>
      have : n = 0 := by
        rcases Nat.eq_zero_or_pos n with h | h
        · exact h
        · obtain ⟨a, ha, _⟩ := hA h; cases ha
      subst this
      rw [Nat.zero_mul] at hl
      rw [List.eq_nil_of_length_eq_zero hl]
      exact run_firstCells_none (P := P) w i.size 0 0 c
    | some a =>
      refine run_firstCells_some (P := P) w i.size n a n c vs hl (fun j v hj => ?_)
      rcases Nat.eq_zero_or_pos n with h | h
      · rw [h, Nat.zero_mul] at hl
        rw [List.eq_nil_of_length_eq_zero hl] at hj
        simp at hj
      · obtain ⟨a', ha, hc⟩ := hA h
        cases ha
        exact hc j v hj
  simp [Builtin.append_, run_underlying ht, sizeOf, typeInfo, hi, Builtin.lenOf, hroom, hf, add_mk, hst]
theorem run_append_zero {t ty el : TypeId} {i : TypeInfo} (ht : P.underlying t = some (.slice el)) (hi : P.info? el = some i) {sLen sCap c : Nat} {S A : Option Addr} (hroom : sLen ≤ sCap) :
    (Builtin.append_ #[t, t] ty #[.slice S sLen sCap, .slice A 0 c]).run P w = .ok (.slice S sLen sCap) w := by
  have hf : (Builtin.firstCells i.size 0 (.slice A 0 c)).run P w = .ok #[] w := by
    cases A with
    | none => exact run_firstCells_none (P := P) w i.size 0 0 c
    | some a => exact run_firstCells_some (P := P) w i.size 0 a 0 c [] (by simp) (fun j v hj => by simp at hj)
  cases S with
  | none => simp [Builtin.append_, run_underlying ht, sizeOf, typeInfo, hi, Builtin.lenOf, hroom, hf]
  | some a => simp [Builtin.append_, run_underlying ht, sizeOf, typeInfo, hi, Builtin.lenOf, hroom, hf, storeCells]
/-- The cells of a list's elements, in line. -/
theorem flat_elems {F : Nat → Prop} {T : Ty} {b o : Nat} : ∀ {ys : List T.T}, ElemsAt F w T ys b o → ∃ vs : List Value, vs.length = ys.length * T.sz ∧ (∀ j u, vs[j]? = some u → w.cell? ⟨b, o + j, none⟩ = some u) ∧ (∀ v ∈ vs, one v = true) ∧ ∀ j y, ys[j]? = some y → ∃ ce, ce.length = T.sz ∧ Rep F w T y ce ∧ ∀ i u, ce[i]? = some u → vs[j * T.sz + i]? = some u := by
  intro ys
  induction ys generalizing o with
  | nil => intro _; exact ⟨[], by simp, (fun j u h => by simp at h), (fun v h => by cases h), (fun j y h => by simp at h)⟩
  | cons y ys ih =>
    intro h
    obtain ⟨ce, c1, c2, c3⟩ := h 0 y rfl
    obtain ⟨vs, v1, v2, v3, v4⟩ := ih (o := o + T.sz) (fun j z hj => by
      obtain ⟨de, d1, d2, d3⟩ := h (j + 1) z (by simpa using hj)
      refine ⟨de, d1, d2, fun i u hi => ?_⟩
      have := d3 i u hi
      rw [Nat.add_mul, Nat.one_mul] at this
      rw [← this]
      congr 2
      omega)
    refine ⟨ce ++ vs, by rw [List.length_append, c1, v1, List.length_cons, Nat.add_mul, Nat.one_mul, Nat.add_comm], fun j u hj => ?_, fun v hv => ?_, fun j z hj => ?_⟩
    · rcases Nat.lt_or_ge j ce.length with hl | hl
      · rw [List.getElem?_append_left hl] at hj
        have := c3 j u hj
        rw [Nat.zero_mul, Nat.zero_add] at this
        exact this
      · rw [List.getElem?_append_right hl] at hj
        have := v2 _ u hj
        rw [← this]
        congr 2
        omega
    · rcases List.mem_append.1 hv with hv | hv
      · exact Rep.one c2 v hv
      · exact v3 v hv
    · cases j with
      | zero =>
        simp only [List.getElem?_cons_zero, Option.some.injEq] at hj
        subst hj
        refine ⟨ce, c1, c2, fun i u hi => ?_⟩
        have hl : i < ce.length := (List.getElem?_eq_some_iff.1 hi).1
        rw [Nat.zero_mul, Nat.zero_add, List.getElem?_append_left hl]
        exact hi
      | succ j =>
        rw [List.getElem?_cons_succ] at hj
        obtain ⟨de, d1, d2, d3⟩ := v4 j z hj
        refine ⟨de, d1, d2, fun i u hi => ?_⟩
        have := d3 i u hi
        rw [Nat.add_mul, Nat.one_mul, List.getElem?_append_right (by omega), ← this]
        congr 1
        omega
/-- What an append starts from, as a header. -/
structure BaseR (C : Ctx) (G : Gh) (O : Nat → Obj) (w : World) (T : Ty) (b : Option Nat) (xs : List T.T) (A : Option Addr) (c : Nat) : Prop where
  le : xs.length ≤ c
  room : c = 0 ∨ ∃ k g o arr e, b = some k ∧ (O k).live = true ∧ G.m k = some (g, o) ∧ (∃ off, A = some ⟨g, o + off, none⟩ ∧ blk w g arr e ∧ o + off + c * T.sz ≤ arr.size ∧ RowAt G.F w T xs arr (o + off)) ∧ ¬ G.F g ∧ own C g
  nil : A = Option.none → c = 0
  dead : ∀ k, b = some k → O k ≠ .no
theorem base_R (h : Core C G O w) {T : Ty} {x : Option Lf} {b : Option Nat} {xs : List T.T} {a : Value} (e : base O T x = some (b, xs)) (ha : LR G O w x a) : ∃ A c, a = .slice A xs.length c ∧ BaseR C G O w T b xs A c := by
  have key : ∀ {d : Nat} {e' : TypeId} {ys : List T.T} {off len : Nat} {v : Value}, O d = .row e' T ys false → HdR G d T.sz ys.length off len v → ∃ A c, v = .slice A ((ys.drop off).take len).length c ∧ BaseR C G O w T (some d) ((ys.drop off).take len) A c := by
    intro d e' ys off len v hd hv
    obtain ⟨hl, A, c, rfl, h2, h3⟩ := h.elems hd hv
    obtain ⟨k1, A', c', k2, k3, k4, k5⟩ := hv
    cases k2
    refine ⟨A, c, by rw [hl], by rw [hl]; exact h2, ?_, ?_, ?_⟩
    · rcases Nat.eq_zero_or_pos c with hc | hc
      · exact Or.inl hc
      · refine Or.inr ?_
        obtain ⟨g, o, hm, rfl⟩ := k5 hc
        rcases (h.row hd).2 with ⟨_, q⟩ | ⟨b', o', arr, t', q1, q2, q3, q4, q5, _, q7⟩
        · rw [hm] at q; cases q
        · rw [hm] at q1
          cases q1
          refine ⟨d, g, o, arr, t', rfl, by rw [hd]; rfl, hm, ⟨off * T.sz, rfl, q2, ?_, ?_⟩, q7 rfl, q5⟩
          · have : off * T.sz + c * T.sz = G.cp d * T.sz := by rw [← Nat.add_mul, k4]
            omega
          · intro j x hj
            have hj' : ys[off + j]? = some x := by
              rw [List.getElem?_take] at hj
              split at hj
              · rw [List.getElem?_drop] at hj; exact hj
              · cases hj
            obtain ⟨ce, e1, e2, e3⟩ := q4 _ x hj'
            refine ⟨ce, e1, e2, fun i u hi => ?_⟩
            have := e3 i u hi
            rw [Nat.add_mul] at this
            rw [← this]
            congr 1
            omega
    · intro hA
      rcases Nat.eq_zero_or_pos c with hc | hc
      · exact hc
      · obtain ⟨g, o, _, hA'⟩ := k5 hc
        rw [hA] at hA'; cases hA'
    · intro k hk
      cases hk
      rw [hd]; simp
  unfold base at e
  split at e
  · cases e
    obtain rfl : a = .slice none 0 0 := (ha _ rfl).2
    exact ⟨none, 0, rfl, ⟨Nat.le_refl _, Or.inl rfl, fun _ => rfl, fun k hk => by cases hk⟩⟩
  · rename_i d
    split at e
    · rename_i e' T' ys hd
      by_cases hT : T' = T
      · subst hT
        simp only [dite_true, Option.some.injEq, Prod.mk.injEq] at e
        obtain ⟨rfl, rfl⟩ := e
        have := key hd (row_hdr hd (ha _ rfl))
        rw [List.drop_zero, List.take_length] at this
        exact this
      · rw [dif_neg hT] at e; cases e
    · cases e
  · rename_i d off len
    split at e
    · rename_i e' T' ys hd
      by_cases hT : T' = T
      · subst hT
        simp only [dite_true, Option.some.injEq, Prod.mk.injEq] at e
        obtain ⟨rfl, rfl⟩ := e
        exact key hd (row_hdrs hd (ha _ rfl))
      · rw [dif_neg hT] at e; cases e
    · cases e
  · cases e
theorem kill_opt (h : Core C G O w) : ∀ (b : Option Nat), (∀ k, b = some k → O k ≠ .no) → Core C G (upds O (b.toList.map fun k => (k, Obj.dead))) w ∧ Ext G O w G (upds O (b.toList.map fun k => (k, Obj.dead))) w
  | none, _ => ⟨h, Ext.refl _ _ _⟩
  | some k, hk => h.kill k (hk k rfl)
theorem emptyRow_ok (h : Core C G O w) {d : Nat} (hd : O d = .no) {t : TypeId} {T : Ty} (A : Option Addr) (rd : List Nat) :
    StepR C G O w ⟨.lf (.o d), rd, [(d, .row t T [] false)]⟩ (.slice A 0 0) w := by
  have ex : Ext G O w { G with m := upd G.m d none, cp := upd G.cp d 0 } (upd O d (.row t T [] false)) w := by
    refine ⟨fun _ h => h, fun _ _ => rfl, fun k hk => ?_⟩
    have hne : k ≠ d := by rintro rfl; exact hk hd
    rw [upd_ne _ _ hne]
    exact ⟨hk, Sim.refl _, fun _ => ⟨upd_ne _ _ hne, upd_ne _ _ hne, rfl, fun _ _ h => h⟩⟩
  refine ⟨_, h.step ex (fun k => k = d) (fun k hk => ⟨upd_ne _ _ hk, upd_ne _ _ hk, upd_ne _ _ hk, rfl, rfl⟩) (fun _ _ _ _ _ => ⟨rfl, id⟩) ?_ ?_ (fun b hb => Or.inl hb) (Keeps.refl _ _ _) ?_, ex, rfl, ?_⟩
  · rintro k rfl
    show ObjR C { G with m := upd G.m k none, cp := upd G.cp k 0 } (upd O k (.row t T [] false)) w k
    unfold ObjR
    rw [upd_self]
    exact ⟨Nat.zero_le _, Or.inl ⟨upd_self _ _ _, upd_self _ _ _⟩⟩
  · rintro k d' b1 b' hne rfl _ _ hmk
    change Bl _ (upd O k (.row t T [] false) k) k b1 at hmk
    rw [upd_self] at hmk
    obtain ⟨o1, e1⟩ := hmk.plain rfl
    have e1 : upd G.m k none k = some (b1, o1) := e1
    rw [upd_self] at e1
    cases e1
  · rintro k hk rfl hn
    exact absurd hd hn
  · show LfB _ (upd O d (.row t T [] false)) w (.o d) _
    rw [lfb_o, upd_self]
    refine ⟨by simp, A, 0, rfl, Nat.le_refl _, ?_, fun hp => absurd hp (by omega)⟩
    show 0 + 0 = upd G.cp d 0 d
    rw [upd_self]
theorem appendL_ok (h : Core C G O w) {t ty : TypeId} {d : Nat} {x y : Option Lf} {cs : List Chk} {e : Eff} (he : appendL P t d O x y = some (cs, e)) (hc : AllP cs) {a v : Value} (ha : LR G O w x a) (hv : LR G O w y v) : Does P C G O w (Builtin.append_ #[t, t] ty #[a, v]) e := by
  unfold appendL at he
  split at he
  · rename_i el hu
    split at he
    · rename_i T z hT hd hz
      split at he
      · rename_i b xs tv ds hb hp
        split at he
        · rename_i ys hys
          by_cases hcd : P.bytesOf el ≠ 0 ∧ T.sz = P.cellsOf el ∧ T.sz = z.length ∧ T.sz ≠ 0 ∧ b ≠ some d ∧ ds.all (fun k => b ≠ some k ∧ k ≠ d) = true
          · rw [if_pos hcd] at he
            cases he
            obtain ⟨hby, hsz, hzl, hsz0, hbd, hds⟩ := hcd
            have hfit : (xs.length + List.length ys) * P.bytesOf el ≤ 140737488355328 := hc.cons.1
            obtain ⟨i, zv, hi, hzv, hrun, hzr⟩ := zeroL_ok (w := w) (G := G) (O := O) hz
            have hbi : P.bytesOf el = i.bytes := by unfold Program.bytesOf; rw [hi]; rfl
            have hci : i.size = T.sz := by rw [hsz]; unfold Program.cellsOf; rw [hi]; rfl
            have hzs : zv.cells.size = T.sz := by rw [hzl, hzr.length]; simp
            rw [hbi] at hfit hby
            have hneed : xs.length + List.length ys ≤ 140737488355328 := by
              have : (xs.length + List.length ys) * 1 ≤ (xs.length + List.length ys) * i.bytes := Nat.mul_le_mul_left _ (by omega)
              omega
            obtain ⟨A, c, rfl, hB⟩ := base_R h hb ha
            have hv' : LfR G O w (y.getD .u) v := by
              cases y with
              | none => cases hp
              | some l => exact hv l rfl
            obtain ⟨A', c', rfl, hc', hel⟩ := pureL_elems h hv' hp hys
            -- the base given up
            obtain ⟨h1, x1⟩ := kill_opt h b hB.dead
            have hd1 : upds O (b.toList.map fun k => (k, Obj.dead)) d = .no := by
              cases b with
              | none => exact hd
              | some k =>
                show upd O k .dead d = .no
                rw [upd_ne _ _ (fun e => hbd (by rw [e]))]
                exact hd
            have glue : ∀ {r : Value} {w' : World} {sv : SV} {rd : List Nat}, StepR C G (upds O (b.toList.map fun k => (k, Obj.dead))) w ⟨sv, rd, [(d, .row el T (xs ++ ys) false)]⟩ r w' → StepR C G O w ⟨sv, rd, b.toList.map (fun k => (k, Obj.dead)) ++ [(d, .row el T (xs ++ ys) false)]⟩ r w' := by
              rintro r w' sv rd ⟨G', k1, k2, k3⟩
              refine ⟨G', ?_, ?_, ?_⟩
              · show Core C G' (upds O (_ ++ _)) w'
                rw [upds_append]; exact k1
              · show Ext G O w G' (upds O (_ ++ _)) w'
                rw [upds_append]; exact x1.trans k2
              · show SVR G' (upds O (_ ++ _)) w' sv r
                rw [upds_append]; exact k3
            -- the new elements' cells
            obtain ⟨vs, v1, v2, v3, v4⟩ : ∃ vs : List Value, vs.length = List.length ys * T.sz ∧ (0 < List.length ys → ∃ q, A' = some q ∧ ∀ j u, vs[j]? = some u → w.cell? (q.add j) = some u) ∧ (∀ v ∈ vs, one v = true) ∧ ∀ j (y : T.T), (ys : List T.T)[j]? = some y → ∃ ce, ce.length = T.sz ∧ Rep G.F w T y ce ∧ ∀ i u, ce[i]? = some u → vs[j * T.sz + i]? = some u := by
              rcases Nat.eq_zero_or_pos (List.length ys) with hn | hn
              · exact ⟨[], by rw [hn]; simp, (fun h => absurd hn (by omega)), (fun v h => by cases h), (fun j y hj => by rw [List.eq_nil_of_length_eq_zero hn] at hj; simp at hj)⟩
              · obtain ⟨g, o, rfl, hE⟩ := hel hn
                obtain ⟨vs, q1, q2, q3, q4⟩ := flat_elems hE
                exact ⟨vs, q1, fun _ => ⟨_, rfl, fun j u hj => by rw [add_mk]; exact q2 j u hj⟩, q3, q4⟩
            by_cases hroom : xs.length + List.length ys ≤ c
            · rcases hB.room with hc0 | ⟨k, g, o, arr, e', rfl, hlv, hm, ⟨off, rfl, hblk, hcap, hrow⟩, hF, ho⟩
              · have hn : List.length ys = 0 := by omega
                have hx0 : xs = [] := List.eq_nil_of_length_eq_zero (by omega)
                have hy0 : ys = ([] : List T.T) := List.eq_nil_of_length_eq_zero hn
                subst hx0
                subst hc0
                subst hy0
                exact ⟨_, w, run_append_zero (P := P) (w := w) hu hi (Nat.le_refl _), glue (emptyRow_ok h1 hd1 A _)⟩
              · have hal : o + off + xs.length * i.size + vs.length ≤ arr.size := by
                  have h5 : (xs.length + List.length ys) * T.sz ≤ c * T.sz := Nat.mul_le_mul_right _ hroom
                  rw [Nat.add_mul] at h5
                  rw [hci, v1]
                  omega
                refine ⟨_, _, run_append_room (P := P) hu hi hroom (by rw [hci]; exact v1) v2 hblk hal v3, glue ?_⟩
                rw [hci] at hal ⊢
                have hput := put_setRow (new := (arr.toList.take (o + off + xs.length * T.sz) ++ vs ++ arr.toList.drop (o + off + xs.length * T.sz + vs.length)).toArray) hblk
                have hk := h1.adopt hd1 (o := o + off) (cp := c) hput hF ho (fun k' b' hl hm' => by
                  have hne : k' ≠ k := by
                    rintro rfl
                    have : (upd O k' Obj.dead k').live = true := hl
                    rw [upd_self] at this
                    cases this
                  have hl' : (upd O k Obj.dead k').live = true := hl
                  rw [upd_ne _ _ hne] at hl'
                  have hm2 : Bl G (upd O k Obj.dead k') k' b' := hm'
                  rw [upd_ne _ _ hne] at hm2
                  exact h.injB k' k b' g hne hl' hlv hm2 (Or.inl ⟨o, hm⟩)) (.row el T (xs ++ ys) false) (fun ex => by
                    unfold ObjR
                    rw [upd_self]
                    refine ⟨by show (xs ++ ys).length ≤ upd G.cp d c d; rw [upd_self, List.length_append]; exact hroom, Or.inr ⟨g, o + off, _, _, upd_self _ _ _, hput.new, ?_, ?_, ho, fun hz => (by cases hz), fun _ => hF⟩⟩
                    · show o + off + upd G.cp d c d * T.sz ≤ _
                      rw [upd_self]
                      simp only [List.size_toArray, List.length_append, List.length_take, List.length_drop, Array.length_toList]
                      omega
                    · intro j z hj
                      have hget := put_get arr.toList vs (o + off + xs.length * T.sz)
                      have hal' : o + off + xs.length * T.sz + vs.length ≤ arr.toList.length := by simpa using hal
                      rcases Nat.lt_or_ge j xs.length with hjl | hjl
                      · rw [List.getElem?_append_left hjl] at hj
                        obtain ⟨ce, c1, c2, c3⟩ := hrow j z hj
                        refine ⟨ce, c1, c2.mono ex.F ex.Fw, fun q u hq => ?_⟩
                        have hql : q < ce.length := (List.getElem?_eq_some_iff.1 hq).1
                        have hm1 : (j + 1) * T.sz ≤ xs.length * T.sz := Nat.mul_le_mul_right _ (by omega)
                        rw [Nat.add_mul, Nat.one_mul] at hm1
                        simp only [List.getElem?_toArray]
                        rw [hget _ hal', if_pos (by omega), ← c3 q u hq, ← Array.getElem?_toList]
                      · rw [List.getElem?_append_right hjl] at hj
                        obtain ⟨ce, c1, c2, c3⟩ := v4 _ z hj
                        refine ⟨ce, c1, c2.mono ex.F ex.Fw, fun q u hq => ?_⟩
                        have hq2 := c3 q u hq
                        have hql : (j - xs.length) * T.sz + q < vs.length := (List.getElem?_eq_some_iff.1 hq2).1
                        have hjj : j * T.sz = xs.length * T.sz + (j - xs.length) * T.sz := by rw [← Nat.add_mul]; congr 1; omega
                        simp only [List.getElem?_toArray]
                        rw [hget _ hal', if_neg (by omega), if_pos (by omega), ← hq2]
                        congr 1
                        omega)
                refine ⟨_, hk.1, hk.2, rfl, ?_⟩
                show LfB _ (upd _ d (.row el T (xs ++ ys) false)) _ (.o d) _
                rw [lfb_o, upd_self]
                refine ⟨by omega, _, _, by rw [List.length_append], by rw [List.length_append]; exact hroom, ?_, fun _ => ⟨g, o + off, upd_self _ _ _, by simp⟩⟩
                show 0 + c = upd G.cp d c d
                rw [upd_self]; omega
            · have hn : 0 < List.length ys := by have := hB.le; omega
              obtain ⟨q, rfl, hq⟩ := v2 hn
              have hfit48 : Builtin.nextslicecap (xs.length + List.length ys) c * i.bytes ≤ 281474976710656 := growslice_fits (by omega) hfit
              -- the old elements' cells
              obtain ⟨os, o1, o2, o3, o4⟩ : ∃ os : List Value, os.length = xs.length * T.sz ∧ (∀ p, A = some p → ∀ j u, os[j]? = some u → w.cell? (p.add j) = some u) ∧ (A = none → os = []) ∧ ∀ j (y : T.T), xs[j]? = some y → ∃ ce, ce.length = T.sz ∧ Rep G.F w T y ce ∧ ∀ i u, ce[i]? = some u → os[j * T.sz + i]? = some u := by
                rcases Nat.eq_zero_or_pos xs.length with hx | hx
                · exact ⟨[], by rw [hx]; simp, (fun p _ j u h => by simp at h), (fun _ => rfl), (fun j y hj => by rw [List.eq_nil_of_length_eq_zero hx] at hj; simp at hj)⟩
                · rcases hB.room with hc0 | ⟨k, g, o, arr, e', rfl, hlv, hm, ⟨off, rfl, hblk, hcap, hrow⟩, hF, ho⟩
                  · have := hB.le; omega
                  · obtain ⟨os, q1, q2, _, q4⟩ := flat_elems (F := G.F) (w := w) (T := T) (b := g) (o := o + off) (ys := xs) (fun j x hj => by
                      obtain ⟨ce, c1, c2, c3⟩ := hrow j x hj
                      exact ⟨ce, c1, c2, fun i u hi => by rw [hblk.cell]; exact c3 i u hi⟩)
                    exact ⟨os, q1, (fun p hp j u hj => by cases hp; rw [add_mk]; exact q2 j u hj), (fun hA => by cases hA), q4⟩
              have hgc := grownCap_ge w (xs.length + List.length ys) c el
              have hrow : ∀ arr : Array Value, arr.toList = os ++ vs ++ (Builtin.zeroCells zv.cells (grownCap w (xs.length + List.length ys) c el - (xs.length + List.length ys))).toList → RowAt G.F w T (xs ++ ys) arr 0 ∧ grownCap w (xs.length + List.length ys) c el * T.sz ≤ arr.size := by
                intro arr harr
                constructor
                · intro j z hj
                  rcases Nat.lt_or_ge j xs.length with hjl | hjl
                  · rw [List.getElem?_append_left hjl] at hj
                    obtain ⟨ce, c1, c2, c3⟩ := o4 j z hj
                    refine ⟨ce, c1, c2, fun q u hq => ?_⟩
                    have hq2 := c3 q u hq
                    have hql : j * T.sz + q < os.length := (List.getElem?_eq_some_iff.1 hq2).1
                    rw [← Array.getElem?_toList, harr, List.append_assoc, Nat.zero_add, List.getElem?_append_left hql]
                    exact hq2
                  · rw [List.getElem?_append_right hjl] at hj
                    obtain ⟨ce, c1, c2, c3⟩ := v4 _ z hj
                    refine ⟨ce, c1, c2, fun q u hq => ?_⟩
                    have hq2 := c3 q u hq
                    have hql : (j - xs.length) * T.sz + q < vs.length := (List.getElem?_eq_some_iff.1 hq2).1
                    have hjj : j * T.sz = xs.length * T.sz + (j - xs.length) * T.sz := by rw [← Nat.add_mul]; congr 1; omega
                    rw [← Array.getElem?_toList, harr, List.append_assoc, Nat.zero_add, List.getElem?_append_right (by omega), List.getElem?_append_left (by omega), ← hq2]
                    congr 1
                    omega
                · have hsize : arr.size = arr.toList.length := by simp
                  rw [hsize, harr]
                  simp only [List.length_append, o1, v1, Array.length_toList, Builtin.zeroCells, Array.size_map, Array.size_range, hzs]
                  rw [← Nat.add_mul, ← Nat.add_mul]
                  refine Nat.mul_le_mul_right _ ?_
                  omega
              cases A with
              | none =>
                have hc0 := hB.nil rfl
                have hx0 : xs = [] := List.eq_nil_of_length_eq_zero (by have := hB.le; omega)
                subst hx0
                subst hc0
                have hos := o3 rfl
                subst hos
                have hr := run_append_nil (P := P) w t ty el i zv hu hi hzv q (List.length ys) c' vs (by rw [hci]; exact v1) hq hn (by omega) (by have := hfit; simp only [List.length_nil, Nat.zero_add] at this; omega)
                have harr := hrow (vs.toArray ++ Builtin.zeroCells zv.cells (grownCap w (List.length ys) 0 el - List.length ys)) (by simp)
                simp only [List.length_nil, Nat.zero_add, List.nil_append] at harr hgc
                have := newRow_ok (T := T) (xs := ys) h1 hd1 (w' := w.drew.alloc (.cells (vs.toArray ++ Builtin.zeroCells zv.cells (grownCap w (List.length ys) 0 el - List.length ys)) el)) ⟨rfl, rfl, rfl, rfl⟩ hgc harr.2 harr.1 (d :: (b.toList ++ ds))
                exact ⟨_, _, hr, glue this⟩
              | some p =>
                have hr := run_append_grow (P := P) w t ty el i zv hu hi hzv p xs.length c os (by rw [hci]; exact o1) (o2 p rfl) q (List.length ys) c' vs (by rw [hci]; exact v1) hq (by omega) (by omega) hfit48
                have harr := hrow (os.toArray ++ vs.toArray ++ Builtin.zeroCells zv.cells (grownCap w (xs.length + List.length ys) c el - (xs.length + List.length ys))) (by simp)
                have := newRow_ok h1 hd1 (w' := w.drew.alloc (.cells (os.toArray ++ vs.toArray ++ Builtin.zeroCells zv.cells (grownCap w (xs.length + List.length ys) c el - (xs.length + List.length ys))) el)) ⟨rfl, rfl, rfl, rfl⟩ (by rw [List.length_append]; exact hgc) harr.2 harr.1 (d :: (b.toList ++ ds))
                rw [List.length_append] at this
                exact ⟨_, _, hr, glue this⟩
          · rw [if_neg hcd] at he
            cases he
        · cases he
      · cases he
    · cases he
  · cases he
end
end Go.Proofs.YtamgbcgfjhpedaaDoor.VE
