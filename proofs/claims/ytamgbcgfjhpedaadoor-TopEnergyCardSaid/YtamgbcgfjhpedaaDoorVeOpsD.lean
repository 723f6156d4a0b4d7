/- The evaluator's operations against the model's: stores and appends (lemmas; no statement is proved here). -/
import Derived.Test.YtamgbcgfjhpedaaDoorVeOpsC
namespace Go.Proofs.YtamgbcgfjhpedaaDoor.VE
open Go Go.RowKit
section
variable {P : Program} {C : Ctx} {G : Gh} {O : Nat → Obj} {w : World}
theorem one_eq (v : Value) : v.oneCell' = one v := by cases v <;> rfl
theorem put_get (l vs : List Value) (o k : Nat) (h : o + vs.length ≤ l.length) : (l.take o ++ vs ++ l.drop (o + vs.length))[k]? = if k < o then l[k]? else if k < o + vs.length then vs[k - o]? else l[k]? := by
  have hl : (l.take o).length = o := by rw [List.length_take]; omega
  rw [List.append_assoc]
  split
  · rename_i hk
    rw [List.getElem?_append_left (by omega), List.getElem?_take, if_pos hk]
  · rename_i hk
    rw [List.getElem?_append_right (by omega), hl]
    split
    · rename_i hk'
      rw [List.getElem?_append_left (by omega)]
    · rename_i hk'
      rw [List.getElem?_append_right (by omega), List.getElem?_drop]
      congr 1
      omega
theorem put_setRow {b : Nat} {arr new : Array Value} {e : TypeId} (hb : blk w b arr e) : Put w (w.setRow b new) b new e :=
  ⟨setRow_heap w b arr new e (0, 0) hb, fun k hk => setRow_other w b k new hk, setRow_size w b new, rfl, rfl, rfl⟩
theorem run_put {b o : Nat} {arr : Array Value} {e : TypeId} {vs : List Value} (hb : blk w b arr e) (ho : o + vs.length ≤ arr.size) (h1 : ∀ v ∈ vs, one v = true) :
    (storeCells ⟨b, o, none⟩ vs).run P w = .ok () (w.setRow b (arr.toList.take o ++ vs ++ arr.toList.drop (o + vs.length)).toArray) := by
  have := run_storeCells_at (P := P) b o e vs 0 arr w hb (by simpa using ho) (fun v hv => by rw [one_eq]; exact h1 v hv)
  simpa using this
theorem All2.right {α β : Type} {R : α → β → Prop} {Q : β → Prop} (hr : ∀ x y, R x y → Q y) : ∀ {l : List α} {m : List β}, All2 R l m → ∀ y ∈ m, Q y
  | [], [], _, y, hy => by cases hy
  | _ :: _, b :: m, h, y, hy => by
    rcases List.mem_cons.1 hy with rfl | hy
    · exact hr _ _ h.1
    · exact All2.right hr h.2 y hy
  | [], _ :: _, h, _, _ => h.elim
  | _ :: _, [], h, _, _ => h.elim
theorem ones {ls : List Lf} {vs : List Value} (h : All2 (LfR G O w) ls vs) : ∀ v ∈ vs, one v = true := h.right (Q := fun v => one v = true) fun _ _ h => h.1
theorem run_storeAt {t : TypeId} {b o : Nat} {v : Value} {arr : Array Value} {e : TypeId} (hb : blk w b arr e) (ho : o + v.cells.size ≤ arr.size) (h1 : ∀ u ∈ v.cells.toList, one u = true) (hi : ∃ i, P.info? t = some i) (hs : v.cells.size = P.cellsOf t) :
    (Instr.storeAt t (.pointer (some ⟨b, o, none⟩)) v).run P w = .ok () (w.setRow b (arr.toList.take o ++ v.cells.toList ++ arr.toList.drop (o + v.cells.toList.length)).toArray) := by
  obtain ⟨i, hi⟩ := hi
  have hsz : i.size = v.cells.size := by rw [hs]; unfold Program.cellsOf; rw [hi]; rfl
  simp only [Instr.storeAt, Instr.sureAddr, Sem.run_bind, Sem.run_pure, Result.andThen_ok, storeVar, sizeOf, typeInfo, run_program, hi, hsz]
  rw [if_neg (by simp)]
  exact run_put hb (by simpa using ho) h1

/-- An element's cells written. -/
theorem rowAt_put {F0 F : Nat → Prop} {w w' : World} {T : Ty} {xs : List T.T} {arr : Array Value} {o : Nat} (h : RowAt F0 w T xs arr o) (hsub : ∀ b, F0 b → F b) (hF : ∀ b, F b → w'.heap[b]? = w.heap[b]?) {j : Nat} (hj : j < xs.length) {yv : T.T} {c : Nat} {vs : List Value}
    (hnew : ∀ ce, Rep F0 w T xs[j] ce → Rep F w T yv (ce.take c ++ vs ++ ce.drop (c + vs.length))) (hc : c + vs.length ≤ T.sz) (hfit : o + j * T.sz + c + vs.length ≤ arr.toList.length) :
    RowAt F w' T (xs.set j yv) (arr.toList.take (o + j * T.sz + c) ++ vs ++ arr.toList.drop (o + j * T.sz + c + vs.length)).toArray o := by
  have hget := put_get arr.toList vs (o + j * T.sz + c)
  intro k z hk
  rw [List.getElem?_set] at hk
  by_cases hji : j = k
  · subst hji
    rw [if_pos rfl, if_pos hj] at hk
    have hz : yv = z := Option.some.inj hk
    subst hz
    obtain ⟨ce, c1, c2, c3⟩ := h j _ (List.getElem?_eq_getElem hj)
    have hn := hnew ce c2
    refine ⟨_, hn.len, hn.mono (fun _ h => h) hF, fun q u hq => ?_⟩
    rw [put_get ce _ _ _ (by omega)] at hq
    simp only [List.getElem?_toArray]
    rw [hget _ hfit]
    split at hq
    · rename_i hlt'
      have hk := c3 q u hq
      rw [if_pos (by omega)]
      rw [← hk, ← Array.getElem?_toList]
    · split at hq
      · rw [if_neg (by omega), if_pos (by omega), ← hq]
        congr 1
        omega
      · have hk := c3 q u hq
        have hql : q < ce.length := (List.getElem?_eq_some_iff.1 hq).1
        rw [if_neg (by omega), if_neg (by omega)]
        rw [← hk, ← Array.getElem?_toList]
  · rw [if_neg hji] at hk
    obtain ⟨ce, c1, c2, c3⟩ := h k z hk
    refine ⟨ce, c1, (c2.mono hsub (fun _ _ => rfl)).mono (fun _ h => h) hF, fun q u hq => ?_⟩
    have hk := c3 q u hq
    have hql : q < ce.length := (List.getElem?_eq_some_iff.1 hq).1
    simp only [List.getElem?_toArray]
    rw [hget _ hfit]
    rcases Nat.lt_or_ge k j with hji' | hji'
    · have hm1 : (k + 1) * T.sz ≤ j * T.sz := Nat.mul_le_mul_right _ (by omega)
      rw [Nat.add_mul, Nat.one_mul] at hm1
      rw [if_pos (by omega), ← hk, ← Array.getElem?_toList]
    · have hm1 : (j + 1) * T.sz ≤ k * T.sz := Nat.mul_le_mul_right _ (by omega)
      rw [Nat.add_mul, Nat.one_mul] at hm1
      rw [if_neg (by omega), if_neg (by omega), ← hk, ← Array.getElem?_toList]
/-- An inner block is written. -/
theorem Core.writeI (h : Core C G O w) {d i b o : Nat} {e e2 : TypeId} {t : Ty} {xss : List (List t.T)} (hd : O d = .deep e e2 t xss) {y y' : List t.T} (hy : xss[i]? = some y) (hn : 0 < y.length) (hs : G.sub d i = some (b, o)) (hlen : y'.length = y.length) {arr arr' : Array Value} {te : TypeId} (hb : blk w b arr te) {w' : World} (hw : Put w w' b arr' te)
    (hr : RowAt G.F w' t y' arr' o) : Core C G (upd O d (.deep e e2 t (xss.set i y'))) w' ∧ Ext G O w G (upd O d (.deep e e2 t (xss.set i y'))) w' := by
  have hl : (O d).live = true := by rw [hd]; rfl
  have hB : Bl G (O d) d b := by rw [hd]; exact Or.inr ⟨i, y, o, hy, hn, hs⟩
  obtain ⟨_, hown, hF⟩ := h.blockB hl hB
  have hF : ¬ G.F b := hF ⟨e, e2, t, xss, hd⟩
  have hil : i < xss.length := (List.getElem?_eq_some_iff.1 hy).1
  have hset : ∀ (j : Nat) x, (xss.set i y')[j]? = some x → ∃ x0, xss[j]? = some x0 ∧ x.length = x0.length ∧ (j = i ∧ x = y' ∨ j ≠ i ∧ x = x0) := by
    intro j x hj
    rw [List.getElem?_set] at hj
    by_cases hji : i = j
    · subst hji
      rw [if_pos rfl, if_pos hil] at hj
      cases hj
      exact ⟨y, hy, hlen, Or.inl ⟨rfl, rfl⟩⟩
    · rw [if_neg hji] at hj
      exact ⟨x, hj, rfl, Or.inr ⟨Ne.symm hji, rfl⟩⟩
  have ex : Ext G O w G (upd O d (.deep e e2 t (xss.set i y'))) w' := by
    refine ⟨fun _ h => h, fun k hk => hw.old k (by rintro rfl; exact hF hk), fun k hk => ?_⟩
    by_cases hne : k = d
    · subst hne
      rw [upd_self, hd]
      refine ⟨by simp, ⟨rfl, rfl, by simp, fun j n hn' hj => ?_⟩, fun _ => ⟨rfl, rfl, rfl, fun _ _ h => h⟩⟩
      rw [List.getElem?_set]
      by_cases hji : i = j
      · subst hji
        rw [if_pos rfl, if_pos hil]
        rw [hy] at hj
        show some y'.length = some n
        rw [hlen]; exact hj
      · rw [if_neg hji]; exact hj
    · rw [upd_ne _ _ hne]
      exact ⟨hk, Sim.refl _, fun _ => ⟨rfl, rfl, rfl, fun _ _ h => h⟩⟩
  have hBl : ∀ b', Bl G (.deep e e2 t (xss.set i y')) d b' → Bl G (O d) d b' := by
    rintro b' (hb' | ⟨j, x, p, hj, hx, hp⟩)
    · exact Or.inl hb'
    · obtain ⟨x0, h0, h1, _⟩ := hset j x hj
      rw [hd]
      exact Or.inr ⟨j, x0, p, h0, by omega, hp⟩
  refine ⟨h.step ex (fun k => k = d) (fun k hk => ⟨upd_ne _ _ hk, rfl, rfl, rfl, rfl⟩) (fun k b' hk hl' hm' => ⟨hw.old b' (h.injB k d b' b hk hl' hl hm' hB), id⟩) ?_ ?_ (fun b hb => Or.inl hb) (hw.keeps hown) ?_, ex⟩
  · rintro k rfl
    unfold ObjR
    rw [upd_self]
    obtain ⟨g0, g1⟩ := h.deep hd
    refine ⟨by rw [List.length_set]; exact g0, g1.imp id ?_⟩
    rintro ⟨b0, o0, arr0, t0, k1, k2, k3, k4, k5, k6, k7⟩
    have hbb : b0 ≠ b := by
      obtain ⟨A, c, q1, q2, _, q3⟩ := k6 i y hy
      obtain ⟨b1, o1, arr1, e1, r1, r2, r3, r4, r5, r6, r7⟩ := q3 hn
      rw [hs] at r1
      cases r1
      exact Ne.symm r7
    refine ⟨b0, o0, arr0, t0, k1, (hw.old b0 hbb).trans k2, k3, k4, k5, fun j x hj => ?_, fun j j' x x' b1 o1 b2 o2 hne hj hj' hx hx' s1 s2 => ?_⟩
    · obtain ⟨x0, h0, h1, h2⟩ := hset j x hj
      obtain ⟨A, c, q1, q2, q0, q3⟩ := k6 j x0 h0
      refine ⟨A, c, by rw [h1]; exact q1, by omega, fun hz => q0 (by omega), fun hx => ?_⟩
      obtain ⟨b1, o1, arr1, e1, r1, r2, r3, r4, r5, r6, r7⟩ := q3 (by omega)
      rcases h2 with ⟨rfl, rfl⟩ | ⟨hji, rfl⟩
      · rw [hs] at r1
        cases r1
        exact ⟨b, o, arr', te, hs, r2, hw.new, hr, r5, r6, r7⟩
      · have hne : b1 ≠ b := k7 j i x y b1 o1 b o hji h0 hy hx hn r1 hs
        exact ⟨b1, o1, arr1, e1, r1, r2, (hw.old b1 hne).trans r3, r4.mono (fun _ h => h) ex.Fw, r5, r6, r7⟩
    · obtain ⟨x0, h0, h1, _⟩ := hset j x hj
      obtain ⟨x0', h0', h1', _⟩ := hset j' x' hj'
      exact k7 j j' x0 x0' b1 o1 b2 o2 hne h0 h0' (by omega) (by omega) s1 s2
  · rintro k d' b1 b' hne rfl hl1 hl' hmk hmk'
    rw [upd_ne _ _ (Ne.symm hne)] at hl' hmk'
    rw [upd_self] at hmk
    exact h.injB k d' b1 b' hne hl hl' (hBl b1 hmk) hmk'
  · rintro k hk rfl hn' hlv
    refine ⟨hl, rfl, rfl, ?_⟩
    rw [upd_self, hd]
    show (xss.set i y').length = xss.length
    rw [List.length_set]
/-- A store's effect, whatever it is on. -/
theorem storeL_ok (h : Core C G O w) {t : TypeId} {x : Option Lf} {y : SV} {cs : List Chk} {e : Eff} (he : storeL P t O x y = some (cs, e)) {a v : Value} (ha : LR G O w x a) (hv : SVR G O w y v) :
    ∃ w', (Instr.storeAt t a v).run P w = .ok () w' ∧ ∃ G', Core C G' (upds O e.wr) w' ∧ Ext G O w G' (upds O e.wr) w' ∧ e.sv = .u := by
  unfold storeL at he
  split at he
  · cases he
  · rename_i ls hls
    have hvs := cells_R hv hls
    by_cases hn : ls.length = P.cellsOf t ∧ (P.info? t).isSome = true
    · rw [if_pos hn] at he
      have hi := Option.isSome_iff_exists.1 hn.2
      have hsz : v.cells.size = P.cellsOf t := by rw [← hn.1, hvs.length]; simp
      split at he
      · rename_i d c
        split at he
        · rename_i e' bs hd
          by_cases hc : c + ls.length ≤ bs.length
          · rw [if_pos hc] at he
            cases he
            have k : OnBox (O d) (∃ b o, G.m d = some (b, o) ∧ a = .pointer (some ⟨b, o + c, none⟩)) := (ha _ rfl).2
            rw [hd] at k
            obtain ⟨b, o, hm, rfl⟩ := k
            obtain ⟨b', arr, hm', hb, hall, hF, ho⟩ := h.box hd
            rw [hm] at hm'
            cases hm'
            have hal : arr.toList.length = bs.length := hall.length.symm
            have hal' : arr.size = bs.length := by rw [← hal]; simp
            have hvl : v.cells.toList.length = ls.length := hvs.length.symm
            have hvl' : v.cells.size = ls.length := by rw [← hvl]; simp
            refine ⟨_, run_storeAt hb (by omega) (ones hvs) hi hsz, G, ?_⟩
            have hk := h.write (d := d) (by rw [hd]; rfl) hm hF (put_setRow (new := (arr.toList.take (0 + c) ++ v.cells.toList ++ arr.toList.drop (0 + c + v.cells.toList.length)).toArray) hb) (.box e' (splice bs c ls)) (by rw [hd]; trivial)
              (by rw [hd]; unfold splice Obj.len; simp only [List.length_append, List.length_take, List.length_drop]; omega) rfl (fun ex => by
                unfold ObjR
                rw [upd_self]
                refine ⟨b, _, hm, (put_setRow hb).new, ?_, hF, ho⟩
                have := splice_R (hall.mono fun _ _ => LfR.mono ex) (hvs.mono fun _ _ => LfR.mono ex) c
                simpa using this)
            exact ⟨hk.1, hk.2, rfl⟩
          · rw [if_neg hc] at he
            cases he
        · cases he
      · rename_i d i c
        split at he
        · rename_i e' T xs hd
          by_cases hc : c + ls.length ≤ T.sz
          · rw [if_pos hc] at he
            split at he
            · rename_i yv ds hp
              split at he
              · cases he
              · rename_i hnd
                split at he
                · rename_i fz hfz
                  cases he
                  have hds : d ∉ ds := by
                    intro hm
                    exact hnd (by simpa using hm)
                  obtain ⟨h1, x1⟩ := freeze_R h hfz
                  have hd1 : upds O fz d = .row e' T xs false := by rw [freeze_ids hfz d hds]; exact hd
                  have k := (ha _ rfl).2
                  rw [lfb_oe, hd] at k
                  obtain ⟨h0, hlt, b, o, hm, rfl⟩ := k
                  have hl : i.toNat < xs.length := by omega
                  rcases (h1.row hd1).2 with ⟨_, q⟩ | ⟨b', o', arr, t', k1, hb, k3, k4, k5, _, k7⟩
                  · exact absurd (hm.symm.trans q) (by simp)
                  · have : b' = b ∧ o' = o := by
                      have : some (b', o') = some (b, o) := k1.symm.trans hm
                      simpa using this
                    obtain ⟨rfl, rfl⟩ := this
                    have hF := k7 rfl
                    have hvl : v.cells.toList.length = ls.length := hvs.length.symm
                    have hvl' : v.cells.size = ls.length := by rw [← hvl]; simp
                    have hcp : xs.length ≤ G.cp d := (h1.row hd1).1
                    have hmul : (i.toNat + 1) * T.sz ≤ G.cp d * T.sz := Nat.mul_le_mul_right _ (by omega)
                    rw [Nat.add_mul, Nat.one_mul] at hmul
                    have k3' : o' + G.cp d * T.sz ≤ arr.size := k3
                    have hfit : o' + i.toNat * T.sz + c + v.cells.size ≤ arr.size := by omega
                    refine ⟨_, run_storeAt hb hfit (ones hvs) hi hsz, { G with F := FzF G ds }, ?_⟩
                    have hfit' : o' + i.toNat * T.sz + c + v.cells.toList.length ≤ arr.toList.length := by simpa using hfit
                    have hget := put_get arr.toList v.cells.toList (o' + i.toNat * T.sz + c)
                    have hput := put_setRow (new := (arr.toList.take (o' + i.toNat * T.sz + c) ++ v.cells.toList ++ arr.toList.drop (o' + i.toNat * T.sz + c + v.cells.toList.length)).toArray) hb
                    have hk := h1.write (d := d) (by rw [hd1]; rfl) hm hF hput (.row e' T (xs.set i.toNat yv) false) (by rw [hd1]; exact ⟨rfl, by simp⟩)
                      (by rw [hd1]; simp [Obj.len]) rfl (fun ex => by
                        unfold ObjR
                        rw [upd_self]
                        refine ⟨by rw [List.length_set]; exact hcp, Or.inr ⟨b', o', _, _, hm, hput.new, ?_, ?_, k5, fun hz => (by cases hz), fun _ => hF⟩⟩
                        · simp only [List.size_toArray, List.length_append, List.length_take, List.length_drop, Array.length_toList]
                          omega
                        · intro j z hj
                          rw [List.getElem?_set] at hj
                          by_cases hji : i.toNat = j
                          · subst hji
                            rw [if_pos rfl, if_pos hl] at hj
                            have hz : yv = z := Option.some.inj hj
                            subst hz
                            obtain ⟨ce, c1, c2, c3⟩ := k4 i.toNat _ (List.getElem?_eq_getElem hl)
                            have hrd : rd T xs i = xs[i.toNat] := by
                              unfold rd
                              rw [List.getD_eq_getElem?_getD, List.getElem?_eq_getElem hl]
                              rfl
                            rw [hrd] at hp
                            have hce : Rep G.F w T xs[i.toNat] ce := by
                              rcases (h.row hd).2 with ⟨_, q⟩ | ⟨b2, o2, arr2, t2, q1, q2, q3, q4, _⟩
                              · exact absurd (hm.symm.trans q) (by simp)
                              · obtain ⟨ce2, d1, d2, d3⟩ := q4 i.toNat _ (List.getElem?_eq_getElem hl)
                                have e3 : b2 = b' ∧ o2 = o' := by
                                  have : some (b2, o2) = some (b', o') := q1.symm.trans hm
                                  simpa using this
                                obtain ⟨rfl, rfl⟩ := e3
                                have e4 : arr2 = arr := by
                                  have : some (Go.Obj.cells arr2 t2 (0, 0)) = some (Go.Obj.cells arr t' (0, 0)) := q2.symm.trans hb
                                  simp at this
                                  exact this.1
                                subst e4
                                have : ce2 = ce := by
                                  apply List.ext_getElem?
                                  intro q
                                  by_cases hq : q < T.sz
                                  · have a1 := d3 q _ (List.getElem?_eq_getElem (by omega))
                                    have a2 := c3 q _ (List.getElem?_eq_getElem (by omega))
                                    rw [a1] at a2
                                    rw [List.getElem?_eq_getElem (by omega), List.getElem?_eq_getElem (by omega)]
                                    exact a2
                                  · rw [List.getElem?_eq_none (by omega), List.getElem?_eq_none (by omega)]
                                rw [← this]; exact d2
                            have hnew := packs_R h hp (splice_R (leaves_R hce) hvs c) (F := FzF G ds) (fun _ hb => Or.inl hb) (fun k hk b o hm => Or.inr ⟨k, hk, o, hm⟩)
                            refine ⟨_, hnew.len, hnew.mono ex.F ex.Fw, fun q u hq => ?_⟩
                            rw [put_get ce _ _ _ (by omega)] at hq
                            simp only [List.getElem?_toArray]
                            rw [hget _ hfit']
                            split at hq
                            · rename_i hlt'
                              have hk := c3 q u hq
                              rw [if_pos (by omega)]
                              rw [← hk, ← Array.getElem?_toList]
                            · split at hq
                              · rw [if_neg (by omega), if_pos (by omega), ← hq]
                                congr 1
                                omega
                              · have hk := c3 q u hq
                                have hql : q < ce.length := (List.getElem?_eq_some_iff.1 hq).1
                                rw [if_neg (by omega), if_neg (by omega)]
                                rw [← hk, ← Array.getElem?_toList]
                          · rw [if_neg hji] at hj
                            obtain ⟨ce, c1, c2, c3⟩ := k4 j z hj
                            refine ⟨ce, c1, c2.mono ex.F ex.Fw, fun q u hq => ?_⟩
                            have hk := c3 q u hq
                            have hql : q < ce.length := (List.getElem?_eq_some_iff.1 hq).1
                            simp only [List.getElem?_toArray]
                            rw [hget _ hfit']
                            rcases Nat.lt_or_ge j i.toNat with hji' | hji'
                            · have hm1 : (j + 1) * T.sz ≤ i.toNat * T.sz := Nat.mul_le_mul_right _ (by omega)
                              rw [Nat.add_mul, Nat.one_mul] at hm1
                              rw [if_pos (by omega), ← hk, ← Array.getElem?_toList]
                            · have hm1 : (i.toNat + 1) * T.sz ≤ j * T.sz := Nat.mul_le_mul_right _ (by omega)
                              rw [Nat.add_mul, Nat.one_mul] at hm1
                              rw [if_neg (by omega), if_neg (by omega), ← hk, ← Array.getElem?_toList])
                    refine ⟨?_, ?_, rfl⟩
                    · show Core C _ (upds O (fz ++ [(d, .row e' T (xs.set i.toNat yv) false)])) _
                      rw [upds_append]; exact hk.1
                    · show Ext G O w _ (upds O (fz ++ [(d, .row e' T (xs.set i.toNat yv) false)])) _
                      rw [upds_append]; exact x1.trans hk.2
                · cases he
            · cases he
          · rw [if_neg hc] at he
            cases he
        · cases he
      · rename_i d i j c
        split at he
        · rename_i e' e2 T xss hd
          by_cases hc : c + ls.length ≤ T.sz ∧ T.sz ≠ 0
          · rw [if_pos hc] at he
            split at he
            · rename_i yv ds hp
              split at he
              · cases he
              · rename_i hnd
                split at he
                · rename_i fz hfz
                  cases he
                  have hds : d ∉ ds := by
                    intro hm
                    exact hnd (by simpa using hm)
                  obtain ⟨h1, x1⟩ := freeze_R h hfz
                  have hd1 : upds O fz d = .deep e' e2 T xss := by rw [freeze_ids hfz d hds]; exact hd
                  have k : OnDeep (O d) (fun t L => 0 ≤ i ∧ 0 ≤ j ∧ ∃ n : Nat, L i.toNat = some n ∧ j < (n : Int) ∧ ∃ b o, G.sub d i.toNat = some (b, o) ∧ a = .pointer (some ⟨b, o + j.toNat * t.sz + c, none⟩)) := (ha _ rfl).2
                  rw [hd] at k
                  obtain ⟨g0, g1, n', g3, g4, b, o, g5, rfl⟩ := k
                  have g3 : (xss[i.toNat]?).map List.length = some n' := g3
                  obtain ⟨y0, hx, hyl⟩ : ∃ y0, xss[i.toNat]? = some y0 ∧ y0.length = n' := by
                    cases hx : xss[i.toNat]? with
                    | none => rw [hx] at g3; cases g3
                    | some y0 => rw [hx] at g3; exact ⟨y0, rfl, by simpa using g3⟩
                  have hl : j.toNat < y0.length := by omega
                  have hrd : rd (.list e2 T) xss i = y0 := by
                    unfold rd
                    rw [List.getD_eq_getElem?_getD, hx]
                    rfl
                  have hrd2 : rd T y0 j = y0[j.toNat] := by
                    unfold rd
                    rw [List.getD_eq_getElem?_getD, List.getElem?_eq_getElem hl]
                    rfl
                  rw [hrd, hrd2] at hp
                  rw [hrd]
                  rcases (h.deep hd).2 with ⟨q, _⟩ | ⟨b0, o0, arr0, t0, k1, k2, k3, k4, k5, k6, k7⟩
                  · have := (h.deep hd).1
                    have := (List.getElem?_eq_some_iff.1 hx).1
                    omega
                  · obtain ⟨A, cc, q1, q2, _, q3⟩ := k6 i.toNat y0 hx
                    obtain ⟨b2, o2, arr2, t2, r1, r2, r3, r4, r5, r6, r7⟩ := q3 (by omega)
                    have hbo : b2 = b ∧ o2 = o := by
                      have : some (b2, o2) = some (b, o) := r1.symm.trans g5
                      simpa using this
                    obtain ⟨rfl, rfl⟩ := hbo
                    have hvl : v.cells.toList.length = ls.length := hvs.length.symm
                    have hvl' : v.cells.size = ls.length := by rw [← hvl]; simp
                    have hfit : o2 + j.toNat * T.sz + c + v.cells.size ≤ arr2.size := by
                      obtain ⟨ce, c1, c2, c3⟩ := r4 j.toNat _ (List.getElem?_eq_getElem hl)
                      have hlt : T.sz - 1 < ce.length := by rw [c1]; exact Nat.sub_lt (Nat.pos_of_ne_zero hc.2) Nat.one_pos
                      have := (Array.getElem?_eq_some_iff.1 (c3 (T.sz - 1) _ (List.getElem?_eq_getElem hlt))).1
                      have q : ∀ (o js s c n z : Nat), o + (js + (s - 1)) < z → c + n ≤ s → s ≠ 0 → o + js + c + n ≤ z := by intro o js s c n z; omega
                      rw [hvl']
                      exact q _ _ _ _ _ _ this hc.1 hc.2
                    refine ⟨_, run_storeAt r3 hfit (ones hvs) hi hsz, { G with F := FzF G ds }, ?_⟩
                    have hput := put_setRow (new := (arr2.toList.take (o2 + j.toNat * T.sz + c) ++ v.cells.toList ++ arr2.toList.drop (o2 + j.toNat * T.sz + c + v.cells.toList.length)).toArray) r3
                    have hnF : ¬ (FzF G ds) b2 := by
                      have hB : Bl { G with F := FzF G ds } (upds O fz d) d b2 := by rw [hd1]; exact Or.inr ⟨i.toNat, y0, o2, hx, by omega, g5⟩
                      exact (h1.blockB (by rw [hd1]; rfl) hB).2.2 ⟨_, _, _, _, hd1⟩
                    have hk := h1.writeI hd1 hx (by omega) g5 (y' := y0.set j.toNat yv) (by simp) r3 hput
                      (rowAt_put r4 (fun _ hb => Or.inl hb) (fun k hk => hput.old k (by rintro rfl; exact hnF hk)) hl (fun ce hce => packs_R h hp (splice_R (leaves_R hce) hvs c) (F := FzF G ds) (fun _ hb => Or.inl hb) (fun k hk b o hm => Or.inr ⟨k, hk, o, hm⟩)) (by omega) (by simpa using hfit))
                    refine ⟨?_, ?_, rfl⟩
                    · show Core C _ (upds O (fz ++ [(d, .deep e' e2 T (xss.set i.toNat (y0.set j.toNat yv)))])) _
                      rw [upds_append]; exact hk.1
                    · show Ext G O w _ (upds O (fz ++ [(d, .deep e' e2 T (xss.set i.toNat (y0.set j.toNat yv)))])) _
                      rw [upds_append]; exact x1.trans hk.2
                · cases he
            · cases he
          · rw [if_neg hc] at he
            cases he
        · cases he
      · cases he
    · rw [if_neg hn] at he
      cases he
end
end Go.Proofs.YtamgbcgfjhpedaaDoor.VE
