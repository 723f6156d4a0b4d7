/- Arrays as values, copy (lemmas; no statement is proved here). -/
import Derived.Test.YtamgbcgfjhpedaaDoorVeOpsS
namespace Go.Proofs.YtamgbcgfjhpedaaDoor.VE
open Go Go.RowKit
section
variable {P : Program} {C : Ctx} {G : Gh} {O : Nat → Obj} {w w' : World}
theorem buildX_ok (h : Core C G O w) {t : TypeId} {ps : List (Nat × List Lf)} {cs : List Chk} {e : Eff} (he : buildX P t ps = some (cs, e)) {qs : Array (Nat × Value)} (hq : All2 (fun p q => p.1 = q.1 ∧ All2 (LfR G O w) p.2 q.2.cells.toList) ps qs.toList) : Does P C G O w (Instr.build t qs) e := by
  unfold buildX at he
  split at he
  · rename_i n el z hu hz
    unfold buildAL at he
    by_cases hs : (P.info? el).isSome = true
    · rw [if_pos hs] at he
      split at he
      · rename_i c hf
        cases he
        obtain ⟨i, zv, hi, hzv, hrun, hzr⟩ := zeroL_ok (w := w) (G := G) (O := O) hz
        obtain ⟨vo, k1, k2⟩ := fill_R hq hzr hf
        refine Does.pure h (v := .agg vo) ?_ ⟨vo, rfl, k2⟩
        obtain ⟨j, hj⟩ := Option.isSome_iff_exists.1 hs
        have hcell : P.cellsOf el = j.size := by unfold Program.cellsOf; rw [hj]; rfl
        rw [hcell] at k1
        simp [Instr.build, hrun, run_underlying hu, sizeOf, typeInfo, hj, k1]
      · cases he
    · rw [if_neg hs] at he; cases he
  · exact buildL_ok h he hq
theorem indexArrV_ok (h : Core C G O w) {t el : TypeId} {n : Nat} {x : SV} {y : Option Lf} {cs : List Chk} {e : Eff} (ht : P.underlying t = some (.array n el)) (he : indexArrV P n el O x y = some (cs, e)) (hc : AllP cs) {a b : Value} (ha : SVR G O w x a) (hb : LR G O w y b) : Does P C G O w (Instr.index t a b) e := by
  unfold indexArrV at he
  split at he
  · rename_i ls k i
    obtain rfl := hb.int
    obtain ⟨vs, rfl, hv⟩ := ha
    split at he
    · rename_i T hT
      by_cases hz : T.sz = P.cellsOf el ∧ T.sz ≠ 0 ∧ ls.length = n * T.sz
      · rw [if_pos hz] at he
        obtain ⟨hz1, hz2, hz3⟩ := hz
        split at he
        · rename_i xs hch
          cases e1 : cutSV P el (leaves T (rd T xs i)) 0 with
          | none => rw [e1] at he; cases he
          | some sv =>
            rw [e1] at he
            cases he
            have h0 : (0 : Int) ≤ i := hc.cons.1
            have h1 : (i : Int) < (n : Int) := hc.cons.2.cons.1
            obtain ⟨hxl, hxr⟩ := chunks_R h rfl (F := G.F) (fun _ h => h) hch hv (fun _ h => by cases h)
            have hil : i.toNat < xs.length := by rw [hxl]; exact lt_nat i n h0 h1
            have hrd : rd T xs i = xs[i.toNat] := by
              unfold rd
              rw [List.getD_eq_getElem?_getD, List.getElem?_eq_getElem hil]
              rfl
            have hrep := hxr i.toNat _ (List.getElem?_eq_getElem hil)
            rw [← hrd] at hrep
            obtain ⟨l, hl, hn, hs⟩ := cutSV_ok e1 (leaves_R (G := G) (O := O) (w := w) hrep)
            have hzc : P.cellsOf el ≠ 0 := by rw [← hz1]; exact hz2
            obtain ⟨inf, hi, hsz⟩ := cells_ne hzc
            have hl' : l = (vs.toList.drop (i.toNat * P.cellsOf el)).take (P.cellsOf el) := by
              rw [hl, List.drop_zero, List.take_take, ← hz1, Nat.min_self]
            rcases hs with ⟨ha, hs⟩ | ⟨ha, v, rfl, hs⟩
            · refine Does.pure h ?_ hs
              simp only [Instr.index, asIntOf, Sem.run_bind, run_underlying ht, Result.andThen_ok, Sem.run_pure, part, (aggO_ok ha).2, if_true, sizeOf, typeInfo, run_program, hi, h0, h1, and_self, hsz]
              rw [hl']
              congr 2
              apply Array.ext'
              simp [List.extract_eq_take_drop]
            · refine Does.pure h ?_ hs
              simp only [Instr.index, asIntOf, Sem.run_bind, run_underlying ht, Result.andThen_ok, Sem.run_pure, part, (aggO_ok ha).2, sizeOf, typeInfo, run_program, hi, h0, h1, and_self, if_true, hsz]
              have : vs[i.toNat * P.cellsOf el]? = some v := by
                have e2 : ((vs.toList.drop (i.toNat * P.cellsOf el)).take (P.cellsOf el))[0]? = some v := by rw [← hl']; rfl
                rw [List.getElem?_take] at e2
                split at e2
                · rw [List.getElem?_drop] at e2
                  simpa using e2
                · cases e2
              simp [this]
        · cases he
      · rw [if_neg hz] at he; cases he
    · cases he
  · cases he
theorem storeArr_ok (h : Core C G O w) {t : TypeId} {x : Option Lf} {y : SV} {cs : List Chk} {e : Eff} (he : storeArr P t O x y = some (cs, e)) (hc : AllP cs) {a v : Value} (ha : LR G O w x a) (hv : SVR G O w y v) :
    ∃ w', (Instr.storeAt t a v).run P w = .ok () w' ∧ ∃ G', Core C G' (upds O e.wr) w' ∧ Ext G O w G' (upds O e.wr) w' ∧ e.sv = .u := by
  unfold storeArr at he
  split at he
  · rename_i d ls n el hls hu
    have hvs := cells_R hv hls
    split at he
    · rename_i e' T xs hd
      by_cases hn : T.sz ≠ 0 ∧ ls.length = P.cellsOf t ∧ ls.length = n * T.sz ∧ (P.info? t).isSome = true
      · rw [if_pos hn] at he
        obtain ⟨hz, hn1, hn2, hn3⟩ := hn
        have hi := Option.isSome_iff_exists.1 hn3
        have hsz : v.cells.size = P.cellsOf t := by rw [← hn1, hvs.length]; simp
        split at he
        · rename_i ys ds hch
          split at he
          · cases he
          · rename_i hnd
            split at he
            · rename_i fz hfz
              cases he
              have hxn : xs.length = n := hc.cons.1
              have hds : d ∉ ds := fun hm => hnd (by simpa using hm)
              obtain ⟨h1, x1⟩ := freeze_R h hfz
              have hd1 : upds O fz d = .row e' T xs false := by rw [freeze_ids hfz d hds]; exact hd
              have k := apv (ha _ rfl)
              rw [hd] at k
              obtain ⟨q1, q2, b, o, hm, rfl⟩ := k
              rcases (h1.row hd1).2 with ⟨_, q⟩ | ⟨b', o', arr, t', k1, hb, k3, k4, k5, _, k7⟩
              · exact absurd (hm.symm.trans q) (by simp)
              · have : b' = b ∧ o' = o := by
                  have : some (b', o') = some (b, o) := k1.symm.trans hm
                  simpa using this
                obtain ⟨rfl, rfl⟩ := this
                have hF := k7 rfl
                have hvl : v.cells.toList.length = ls.length := hvs.length.symm
                have hvl' : v.cells.size = ls.length := by rw [← hvl]; simp
                have hcpn : G.cp d = n := by rw [← q2, hxn]
                have k3' : o' + G.cp d * T.sz ≤ arr.size := k3
                have hfit : o' + v.cells.size ≤ arr.size := by rw [hvl', hn2]; rw [hcpn] at k3'; exact k3'
                obtain ⟨hyl, hyr⟩ := chunks_R h rfl (F := FzF G ds) (fun _ h => Or.inl h) hch hvs (fun k hk b o hm => Or.inr ⟨k, hk, o, hm⟩)
                refine ⟨_, run_storeAt hb hfit (ones hvs) hi hsz, { G with F := FzF G ds }, ?_⟩
                have hput := put_setRow (new := (arr.toList.take o' ++ v.cells.toList ++ arr.toList.drop (o' + v.cells.toList.length)).toArray) hb
                have hfit' : o' + v.cells.toList.length ≤ arr.toList.length := by simpa using hfit
                have hget := put_get arr.toList v.cells.toList o'
                have hk := h1.write (d := d) (by rw [hd1]; rfl) hm hF hput (.row e' T ys false) (by rw [hd1]; exact ⟨rfl, by rw [hyl, hxn]⟩)
                  (by rw [hd1]; show ys.length = xs.length; rw [hyl, hxn]) rfl (fun ex => by
                    unfold ObjR
                    rw [upd_self]
                    refine ⟨by show ys.length ≤ G.cp d; rw [hyl, hcpn]; exact Nat.le_refl _, Or.inr ⟨b', o', _, _, hm, hput.new, ?_, ?_, k5, fun hz => (by cases hz), fun _ => hF⟩⟩
                    · simp only [List.size_toArray, List.length_append, List.length_take, List.length_drop, Array.length_toList]
                      have k3'' : o' + G.cp d * T.sz ≤ arr.size := k3'
                      show o' + G.cp d * T.sz ≤ _
                      omega
                    · intro j z hj
                      have hjl : j < n := by rw [← hyl]; exact (List.getElem?_eq_some_iff.1 hj).1
                      have hr := hyr j z hj
                      refine ⟨_, hr.len, hr.mono (fun _ h => h) ex.Fw, fun i u hu => ?_⟩
                      have hil : i < T.sz := by
                        have := (List.getElem?_eq_some_iff.1 hu).1
                        rw [hr.len] at this
                        exact this
                      rw [List.getElem?_take, if_pos hil, List.getElem?_drop] at hu
                      simp only [List.getElem?_toArray]
                      have hm2 : (j + 1) * T.sz ≤ n * T.sz := Nat.mul_le_mul_right _ (by omega)
                      rw [Nat.add_mul, Nat.one_mul] at hm2
                      rw [hget _ hfit', if_neg (by omega), if_pos (by rw [hvl, hn2]; omega)]
                      rw [show o' + (j * T.sz + i) - o' = j * T.sz + i by omega]
                      exact hu)
                refine ⟨?_, ?_, rfl⟩
                · show Core C _ (upds O (fz ++ [(d, .row e' T ys false)])) _
                  rw [upds_append]; exact hk.1
                · show Ext G O w _ (upds O (fz ++ [(d, .row e' T ys false)])) _
                  rw [upds_append]; exact x1.trans hk.2
            · cases he
        · cases he
      · rw [if_neg hn] at he; cases he
    · cases he
  · cases he
/-! copy -/
theorem run_copy {dT sT ty elem : TypeId} {i : TypeInfo} (hu : P.underlying dT = some (.slice elem)) (hi : P.info? elem = some i) {n dLen dCap sLen sCap : Nat} (hn : n = Nat.min sLen dLen) {A : Option Addr} {B : Option Addr} {vs : List Value} (hvl : vs.length = n * i.size)
    (hsrc : 0 < n → ∃ q, B = some q ∧ ∀ j u, vs[j]? = some u → w.cell? (q.add j) = some u) {g o : Nat} {arr : Array Value} {e : TypeId} (hA : 0 < n → A = some ⟨g, o, none⟩ ∧ blk w g arr e ∧ o + vs.length ≤ arr.size) (h1 : ∀ v ∈ vs, one v = true) :
    (Builtin.copy_ #[dT, sT] ty #[.slice A dLen dCap, .slice B sLen sCap]).run P w = .ok (goInt n) (if n = 0 then w else w.setRow g (arr.toList.take o ++ vs ++ arr.toList.drop (o + vs.length)).toArray) := by
  rcases Nat.eq_zero_or_pos n with h0 | h0
  · have hm : Nat.min sLen dLen = 0 := by rw [← hn, h0]
    have hf : (Builtin.firstCells i.size 0 (.slice B sLen sCap)).run P w = .ok #[] w := by
      cases B with
      | none => rfl
      | some q =>
        have := run_loadCells_list (P := P) w q [] (fun j v hj => by simp at hj)
        simpa [Builtin.firstCells] using this
    rw [if_pos h0, h0]
    cases A with
    | none => simp [Builtin.copy_, run_underlying hu, Builtin.lenOf, sizeOf, typeInfo, hi, hm, hf]
    | some q => simp [Builtin.copy_, run_underlying hu, Builtin.lenOf, sizeOf, typeInfo, hi, hm, hf, storeCells]
  · obtain ⟨q, rfl, hq⟩ := hsrc h0
    obtain ⟨rfl, hb, hfit⟩ := hA h0
    have hl := run_loadCells_list (P := P) w q vs hq
    rw [hvl] at hl
    have hf : (Builtin.firstCells i.size n (.slice (some q) sLen sCap)).run P w = .ok vs.toArray w := hl
    have hst := run_put (P := P) hb hfit h1
    rw [if_neg (by omega)]
    simp [Builtin.copy_, run_underlying hu, Builtin.lenOf, sizeOf, typeInfo, hi, ← hn, hf, hst]
theorem dstOf_ok (h : Core C G O w) {T : Ty} {x : Option Lf} {d off len : Nat} {e : TypeId} {xs : List T.T} (hd : dstOf O T x = some (d, e, xs, off, len)) {v : Value} (hv : LR G O w x v) : O d = .row e T xs false ∧ HdR G d T.sz xs.length off len v := by
  unfold dstOf at hd
  split at hd
  · rename_i d'
    split at hd
    · rename_i e' T' ys ho
      by_cases ht : T' = T
      · rw [dif_pos ht] at hd
        subst ht
        cases hd
        exact ⟨ho, row_hdr ho (hv _ rfl)⟩
      · rw [dif_neg ht] at hd; cases hd
    · cases hd
  · rename_i d' off' len'
    split at hd
    · rename_i e' T' ys ho
      by_cases ht : T' = T
      · rw [dif_pos ht] at hd
        subst ht
        cases hd
        exact ⟨ho, row_hdrs ho (hv _ rfl)⟩
      · rw [dif_neg ht] at hd; cases hd
    · cases hd
  · cases hd
theorem copyL_ok (h : Core C G O w) {t t' ty : TypeId} {x y : Option Lf} {cs : List Chk} {e : Eff} (he : copyL P t O x y = some (cs, e)) {a v : Value} (ha : LR G O w x a) (hv : LR G O w y v) : Does P C G O w (Builtin.copy_ #[t, t'] ty #[a, v]) e := by
  unfold copyL at he
  split at he
  · rename_i el hu
    split at he
    · rename_i T hT
      split at he
      · rename_i d e' xs off len tv ds hd hp
        split at he
        · rename_i ys hys
          by_cases hz : T.sz = P.cellsOf el ∧ T.sz ≠ 0
          · rw [if_pos hz] at he
            cases he
            obtain ⟨hz1, hz2⟩ := hz
            have hzc : P.cellsOf el ≠ 0 := by rw [← hz1]; exact hz2
            obtain ⟨inf, hi, hsz⟩ := cells_ne hzc
            obtain ⟨hod, hh⟩ := dstOf_ok h hd ha
            have hv' : LfR G O w (y.getD .u) v := by
              cases y with
              | none => cases hp
              | some l => exact hv l rfl
            obtain ⟨B, c', rfl, hc', hel⟩ := pureL_elems h hv' hp hys
            obtain ⟨g1, A, c, rfl, g2, g3, g4⟩ := hh
            have hmin : min len (List.length ys) = Nat.min (List.length ys) len := by rw [Nat.min_comm]
            generalize hm : min len (List.length ys) = m at hmin ⊢
            have hml : m ≤ len := by omega
            have hmy : m ≤ List.length ys := by omega
            have hyt : ((ys : List T.T).take m).length = m := by rw [List.length_take]; omega
            obtain ⟨vs, v1, v2, v3, v4⟩ : ∃ vs : List Value, vs.length = m * T.sz ∧ (0 < m → ∃ q, B = some q ∧ ∀ j u, vs[j]? = some u → w.cell? (q.add j) = some u) ∧ (∀ v ∈ vs, one v = true) ∧ ∀ j (z : T.T), ((ys : List T.T).take m)[j]? = some z → ∃ ce, ce.length = T.sz ∧ Rep G.F w T z ce ∧ ∀ i u, ce[i]? = some u → vs[j * T.sz + i]? = some u := by
              rcases Nat.eq_zero_or_pos m with hn | hn
              · exact ⟨[], by rw [hn]; simp, (fun h => absurd hn (by omega)), (fun v h => by cases h), (fun j z hj => by rw [hn] at hj; simp at hj)⟩
              · obtain ⟨g, o, rfl, hE⟩ := hel (by omega)
                have hE' : ElemsAt G.F w T ((ys : List T.T).take m) g o := fun j z hj => by
                  rw [List.getElem?_take] at hj
                  split at hj
                  · exact hE j z hj
                  · cases hj
                obtain ⟨vs, q1, q2, q3, q4⟩ := flat_elems hE'
                exact ⟨vs, by rw [q1, hyt], fun _ => ⟨_, rfl, fun j u hj => by rw [add_mk]; exact q2 j u hj⟩, q3, q4⟩
            rcases Nat.eq_zero_or_pos m with hm0 | hm0
            · have hrun := run_copy (P := P) (w := w) (dT := t) (sT := t') (ty := ty) hu hi (n := m) (dLen := len) (dCap := c) (sLen := List.length ys) (sCap := c') hmin (A := A) (B := B) (vs := vs) (by rw [hsz, ← hz1]; exact v1) v2 (g := 0) (o := 0) (arr := #[]) (e := 0) (fun hp => absurd hm0 (by omega)) v3
              rw [if_pos hm0] at hrun
              have hxs : xs.take off ++ (ys : List T.T).take m ++ xs.drop (off + m) = xs := by rw [hm0]; simp
              rw [hxs]
              refine ⟨_, w, hrun, G, ?_, ?_, rfl, rfl⟩
              · show Core C G (upd O d (.row e' T xs false)) w
                rw [show upd O d (.row e' T xs false) = O from funext fun k => by
                  by_cases hk : k = d
                  · subst hk; rw [upd_self, hod]
                  · rw [upd_ne _ _ hk]]
                exact h
              · show Ext G O w G (upd O d (.row e' T xs false)) w
                rw [show upd O d (.row e' T xs false) = O from funext fun k => by
                  by_cases hk : k = d
                  · subst hk; rw [upd_self, hod]
                  · rw [upd_ne _ _ hk]]
                exact Ext.refl _ _ _
            · obtain ⟨b, o, hgm, rfl⟩ := g4 (by omega)
              rcases (h.row hod).2 with ⟨_, q⟩ | ⟨b', o', arr, t'', k1, hb, k3, k4, k5, _, k7⟩
              · exact absurd (hgm.symm.trans q) (by simp)
              · have : b' = b ∧ o' = o := by
                  have : some (b', o') = some (b, o) := k1.symm.trans hgm
                  simpa using this
                obtain ⟨rfl, rfl⟩ := this
                have hF := k7 rfl
                have hcp : xs.length ≤ G.cp d := (h.row hod).1
                have hmul : (off + m) * T.sz ≤ G.cp d * T.sz := Nat.mul_le_mul_right _ (by omega)
                rw [Nat.add_mul] at hmul
                have hfit : o' + off * T.sz + vs.length ≤ arr.size := by rw [v1]; omega
                have hrun := run_copy (P := P) (w := w) (dT := t) (sT := t') (ty := ty) hu hi (n := m) (dLen := len) (dCap := c) (sLen := List.length ys) (sCap := c') hmin (A := some ⟨b', o' + off * T.sz, none⟩) (B := B) (vs := vs) (by rw [hsz, ← hz1]; exact v1) v2 (fun _ => ⟨rfl, hb, hfit⟩) v3
                rw [if_neg (by omega)] at hrun
                have hput := put_setRow (new := (arr.toList.take (o' + off * T.sz) ++ vs ++ arr.toList.drop (o' + off * T.sz + vs.length)).toArray) hb
                have hfit' : o' + off * T.sz + vs.length ≤ arr.toList.length := by simpa using hfit
                have hget := put_get arr.toList vs (o' + off * T.sz)
                have hlen : (xs.take off ++ (ys : List T.T).take m ++ xs.drop (off + m)).length = xs.length := by
                  rw [List.length_append, List.length_append, hyt, List.length_take, List.length_drop]; omega
                have hk := h.write (d := d) (by rw [hod]; rfl) hgm hF hput (.row e' T (xs.take off ++ (ys : List T.T).take m ++ xs.drop (off + m)) false) (by rw [hod]; exact ⟨rfl, hlen.symm⟩)
                  (by rw [hod]; exact hlen) rfl (fun ex => by
                    unfold ObjR
                    rw [upd_self]
                    refine ⟨by rw [hlen]; exact hcp, Or.inr ⟨b', o', _, _, hgm, hput.new, ?_, ?_, k5, fun hz => (by cases hz), fun _ => hF⟩⟩
                    · simp only [List.size_toArray, List.length_append, List.length_take, List.length_drop, Array.length_toList]
                      omega
                    · intro j z hj
                      have hto : (xs.take off).length = off := by rw [List.length_take]; omega
                      rw [List.append_assoc] at hj
                      rcases Nat.lt_or_ge j off with hj1 | hj1
                      · rw [List.getElem?_append_left (by omega), List.getElem?_take, if_pos hj1] at hj
                        obtain ⟨ce, c1, c2, c3⟩ := k4 j z hj
                        refine ⟨ce, c1, c2.mono (fun _ h => h) ex.Fw, fun i u hu => ?_⟩
                        have hil : i < T.sz := by rw [← c1]; exact (List.getElem?_eq_some_iff.1 hu).1
                        have hm3 : (j + 1) * T.sz ≤ off * T.sz := Nat.mul_le_mul_right _ (by omega)
                        rw [Nat.add_mul, Nat.one_mul] at hm3
                        simp only [List.getElem?_toArray]
                        rw [hget _ hfit', if_pos (by omega), Array.getElem?_toList]
                        exact c3 i u hu
                      · rw [List.getElem?_append_right (by omega), hto] at hj
                        rcases Nat.lt_or_ge (j - off) m with hj2 | hj2
                        · rw [List.getElem?_append_left (by omega)] at hj
                          obtain ⟨ce, c1, c2, c3⟩ := v4 _ z hj
                          refine ⟨ce, c1, c2.mono (fun _ h => h) ex.Fw, fun i u hu => ?_⟩
                          have hil : i < T.sz := by rw [← c1]; exact (List.getElem?_eq_some_iff.1 hu).1
                          have hm3 : (j - off + 1) * T.sz ≤ m * T.sz := Nat.mul_le_mul_right _ (by omega)
                          rw [Nat.add_mul, Nat.one_mul] at hm3
                          have hjm : j * T.sz = off * T.sz + (j - off) * T.sz := by rw [← Nat.add_mul]; congr 1; omega
                          simp only [List.getElem?_toArray]
                          rw [hget _ hfit', if_neg (by omega), if_pos (by rw [v1]; omega), show o' + (j * T.sz + i) - (o' + off * T.sz) = (j - off) * T.sz + i by omega]
                          exact c3 i u hu
                        · rw [List.getElem?_append_right (by omega), hyt, List.getElem?_drop, show off + m + (j - off - m) = j by omega] at hj
                          obtain ⟨ce, c1, c2, c3⟩ := k4 j z hj
                          refine ⟨ce, c1, c2.mono (fun _ h => h) ex.Fw, fun i u hu => ?_⟩
                          have hm3 : (off + m) * T.sz ≤ j * T.sz := Nat.mul_le_mul_right _ (by omega)
                          rw [Nat.add_mul] at hm3
                          simp only [List.getElem?_toArray]
                          rw [hget _ hfit', if_neg (by omega), if_neg (by rw [v1]; omega), Array.getElem?_toList]
                          exact c3 i u hu)
                exact ⟨_, _, hrun, G, hk.1, hk.2, rfl, rfl⟩
          · rw [if_neg hz] at he; cases he
        · cases he
      · cases he
    · cases he
  · cases he
end
end Go.Proofs.YtamgbcgfjhpedaaDoor.VE
