/- The evaluator's operations against the model's: stores and appends (lemmas; no statement is proved here). -/
import Derived.Test.YtcmbckancficcaaVeOpsC
namespace Go.Proofs.Ytcmbckancficcaa.VE
open Go Go.RowKit
section
variable {P : Program} {C : Ctx} {G : Gh} {O : Nat → Obj} {w : World}
theorem one_eq (v : Value) : v.oneCell' = one v := by cases v <;> rfl
theorem put_get (l vs : List Value) (o k : Nat) (h : o + vs.length ≤ l.length) : (l.take o ++ vs ++ l.drop (o + vs.length))[k]? = if k < o then l[k]? else if k < o + vs.length then vs[k - o]? else l[k]? := by
  have hl : (l.take o).length = o := by rw [List.length_take]; omega
  rw [List.append_assoc]
  split
  · rename_i hk
    rw [List.getElem?_append_left (by omega), List.getElem?_take, if_pos hk]
  · rename_i hk
    rw [List.getElem?_append_right (by omega), hl]
    split
    · rename_i hk'
      rw [List.getElem?_append_left (by omega)]
    · rename_i hk'
      rw [List.getElem?_append_right (by omega), List.getElem?_drop]
      congr 1
      omega
theorem put_setRow {b : Nat} {arr new : Array Value} {e : TypeId} (hb : blk w b arr e) : Put w (w.setRow b new) b new e :=
  ⟨setRow_heap w b arr new e (0, 0) hb, fun k hk => setRow_other w b k new hk, setRow_size w b new, rfl, rfl, rfl⟩
theorem run_put {b o : Nat} {arr : Array Value} {e : TypeId} {vs : List Value} (hb : blk w b arr e) (ho : o + vs.length ≤ arr.size) (h1 : ∀ v ∈ vs, one v = true) :
    (storeCells ⟨b, o, none⟩ vs).run P w = .ok () (w.setRow b (arr.toList.take o ++ vs ++ arr.toList.drop (o + vs.length)).toArray) := by
  have := run_storeCells_at (P := P) b o e vs 0 arr w hb (by simpa using ho) (fun v hv => by rw [one_eq]; exact h1 v hv)
  simpa using this
theorem All2.right {α β : Type} {R : α → β → Prop} {Q : β → Prop} (hr : ∀ x y, R x y → Q y) : ∀ {l : List α} {m : List β}, All2 R l m → ∀ y ∈ m, Q y
  | [], [], _, y, hy => by cases hy
  | _ :: _, b :: m, h, y, hy => by
    rcases List.mem_cons.1 hy with rfl | hy
    · exact hr _ _ h.1
    · exact All2.right hr h.2 y hy
  | [], _ :: _, h, _, _ => h.elim
  | _ :: _, [], h, _, _ => h.elim
theorem ones {ls : List Lf} {vs : List Value} (h : All2 (LfR G O w) ls vs) : ∀ v ∈ vs, one v = true := h.right (Q := fun v => one v = true) fun _ _ h => h.1
theorem run_storeAt {t : TypeId} {b o : Nat} {v : Value} {arr : Array Value} {e : TypeId} (hb : blk w b arr e) (ho : o + v.cells.size ≤ arr.size) (h1 : ∀ u ∈ v.cells.toList, one u = true) (hi : ∃ i, P.info? t = some i) (hs : v.cells.size = P.cellsOf t) :
    (Instr.storeAt t (.pointer (some ⟨b, o, none⟩)) v).run P w = .ok () (w.setRow b (arr.toList.take o ++ v.cells.toList ++ arr.toList.drop (o + v.cells.toList.length)).toArray) := by
  obtain ⟨i, hi⟩ := hi
  have hsz : i.size = v.cells.size := by rw [hs]; unfold Program.cellsOf; rw [hi]; rfl
  simp only [Instr.storeAt, Instr.sureAddr, Sem.run_bind, Sem.run_pure, Result.andThen_ok, storeVar, sizeOf, typeInfo, run_program, hi, hsz]
  rw [if_neg (by simp)]
  exact run_put hb (by simpa using ho) h1

/-- A store's effect, whatever it is on. -/
theorem storeL_ok (h : Core C G O w) {t : TypeId} {x : Option Lf} {y : SV} {cs : List Chk} {e : Eff} (he : storeL P t O x y = some (cs, e)) {a v : Value} (ha : LR G O w x a) (hv : SVR G O w y v) :
    ∃ w', (Instr.storeAt t a v).run P w = .ok () w' ∧ ∃ G', Core C G' (upds O e.wr) w' ∧ Ext G O w G' (upds O e.wr) w' ∧ e.sv = .u := by
  unfold storeL at he
  split at he
  · cases he
  · rename_i ls hls
    have hvs := cells_R hv hls
    by_cases hn : ls.length = P.cellsOf t ∧ (P.info? t).isSome = true
    · rw [if_pos hn] at he
      have hi := Option.isSome_iff_exists.1 hn.2
      have hsz : v.cells.size = P.cellsOf t := by rw [← hn.1, hvs.length]; simp
      split at he
      · rename_i d c
        split at he
        · rename_i e' bs hd
          by_cases hc : c + ls.length ≤ bs.length
          · rw [if_pos hc] at he
            cases he
            have k : OnBox (O d) (∃ b o, G.m d = some (b, o) ∧ a = .pointer (some ⟨b, o + c, none⟩)) := (ha _ rfl).2
            rw [hd] at k
            obtain ⟨b, o, hm, rfl⟩ := k
            obtain ⟨b', arr, hm', hb, hall, hF, ho⟩ := h.box hd
            rw [hm] at hm'
            cases hm'
            have hal : arr.toList.length = bs.length := hall.length.symm
            have hal' : arr.size = bs.length := by rw [← hal]; simp
            have hvl : v.cells.toList.length = ls.length := hvs.length.symm
            have hvl' : v.cells.size = ls.length := by rw [← hvl]; simp
            refine ⟨_, run_storeAt hb (by omega) (ones hvs) hi hsz, G, ?_⟩
            have hk := h.write (d := d) (by rw [hd]; rfl) hm hF (put_setRow (new := (arr.toList.take (0 + c) ++ v.cells.toList ++ arr.toList.drop (0 + c + v.cells.toList.length)).toArray) hb) (.box e' (splice bs c ls)) (by rw [hd]; trivial)
              (by rw [hd]; unfold splice Obj.len; simp only [List.length_append, List.length_take, List.length_drop]; omega) rfl (fun ex => by
                unfold ObjR
                rw [upd_self]
                refine ⟨b, _, hm, (put_setRow hb).new, ?_, hF, ho⟩
                have := splice_R (hall.mono fun _ _ => LfR.mono ex) (hvs.mono fun _ _ => LfR.mono ex) c
                simpa using this)
            exact ⟨hk.1, hk.2, rfl⟩
          · rw [if_neg hc] at he
            cases he
        · cases he
      · rename_i d i c
        split at he
        · rename_i e' T xs hd
          by_cases hc : c + ls.length ≤ T.sz
          · rw [if_pos hc] at he
            split at he
            · rename_i yv ds hp
              split at he
              · cases he
              · rename_i hnd
                split at he
                · rename_i fz hfz
                  cases he
                  have hds : d ∉ ds := by
                    intro hm
                    exact hnd (by simpa using hm)
                  obtain ⟨h1, x1⟩ := freeze_R h hfz
                  have hd1 : upds O fz d = .row e' T xs false := by rw [freeze_ids hfz d hds]; exact hd
                  have k := (ha _ rfl).2
                  rw [lfb_oe, hd] at k
                  obtain ⟨h0, hlt, b, o, hm, rfl⟩ := k
                  have hl : i.toNat < xs.length := by omega
                  rcases (h1.row hd1).2 with ⟨_, q⟩ | ⟨b', o', arr, t', k1, hb, k3, k4, k5, _, k7⟩
                  · exact absurd (hm.symm.trans q) (by simp)
                  · have : b' = b ∧ o' = o := by
                      have : some (b', o') = some (b, o) := k1.symm.trans hm
                      simpa using this
                    obtain ⟨rfl, rfl⟩ := this
                    have hF := k7 rfl
                    have hvl : v.cells.toList.length = ls.length := hvs.length.symm
                    have hvl' : v.cells.size = ls.length := by rw [← hvl]; simp
                    have hcp : xs.length ≤ G.cp d := (h1.row hd1).1
                    have hmul : (i.toNat + 1) * T.sz ≤ G.cp d * T.sz := Nat.mul_le_mul_right _ (by omega)
                    rw [Nat.add_mul, Nat.one_mul] at hmul
                    have k3' : o' + G.cp d * T.sz ≤ arr.size := k3
                    have hfit : o' + i.toNat * T.sz + c + v.cells.size ≤ arr.size := by omega
                    refine ⟨_, run_storeAt hb hfit (ones hvs) hi hsz, { G with F := FzF G ds }, ?_⟩
                    have hfit' : o' + i.toNat * T.sz + c + v.cells.toList.length ≤ arr.toList.length := by simpa using hfit
                    have hget := put_get arr.toList v.cells.toList (o' + i.toNat * T.sz + c)
                    have hput := put_setRow (new := (arr.toList.take (o' + i.toNat * T.sz + c) ++ v.cells.toList ++ arr.toList.drop (o' + i.toNat * T.sz + c + v.cells.toList.length)).toArray) hb
                    have hk := h1.write (d := d) (by rw [hd1]; rfl) hm hF hput (.row e' T (xs.set i.toNat yv) false) (by rw [hd1]; exact ⟨rfl, by simp⟩)
                      (by rw [hd1]; simp [Obj.len]) rfl (fun ex => by
                        unfold ObjR
                        rw [upd_self]
                        refine ⟨by rw [List.length_set]; exact hcp, Or.inr ⟨b', o', _, _, hm, hput.new, ?_, ?_, k5, fun hz => (by cases hz), fun _ => hF⟩⟩
                        · simp only [List.size_toArray, List.length_append, List.length_take, List.length_drop, Array.length_toList]
                          omega
                        · intro j z hj
                          rw [List.getElem?_set] at hj
                          by_cases hji : i.toNat = j
                          · subst hji
                            rw [if_pos rfl, if_pos hl] at hj
                            have hz : yv = z := Option.some.inj hj
                            subst hz
                            obtain ⟨ce, c1, c2, c3⟩ := k4 i.toNat _ (List.getElem?_eq_getElem hl)
                            have hrd : rd T xs i = xs[i.toNat] := by
                              unfold rd
                              rw [List.getD_eq_getElem?_getD, List.getElem?_eq_getElem hl]
                              rfl
                            rw [hrd] at hp
                            have hce : Rep G.F w T xs[i.toNat] ce := by
                              rcases (h.row hd).2 with ⟨_, q⟩ | ⟨b2, o2, arr2, t2, q1, q2, q3, q4, _⟩
                              · exact absurd (hm.symm.trans q) (by simp)
                              · obtain ⟨ce2, d1, d2, d3⟩ := q4 i.toNat _ (List.getElem?_eq_getElem hl)
                                have e3 : b2 = b' ∧ o2 = o' := by
                                  have : some (b2, o2) = some (b', o') := q1.symm.trans hm
                                  simpa using this
                                obtain ⟨rfl, rfl⟩ := e3
                                have e4 : arr2 = arr := by
                                  have : some (Go.Obj.cells arr2 t2 (0, 0)) = some (Go.Obj.cells arr t' (0, 0)) := q2.symm.trans hb
                                  simp at this
                                  exact this.1
                                subst e4
                                have : ce2 = ce := by
                                  apply List.ext_getElem?
                                  intro q
                                  by_cases hq : q < T.sz
                                  · have a1 := d3 q _ (List.getElem?_eq_getElem (by omega))
                                    have a2 := c3 q _ (List.getElem?_eq_getElem (by omega))
                                    rw [a1] at a2
                                    rw [List.getElem?_eq_getElem (by omega), List.getElem?_eq_getElem (by omega)]
                                    exact a2
                                  · rw [List.getElem?_eq_none (by omega), List.getElem?_eq_none (by omega)]
                                rw [← this]; exact d2
                            have hnew := packs_R h hp (splice_R (leaves_R hce) hvs c) (F := FzF G ds) (fun _ hb => Or.inl hb) (fun k hk b o hm => Or.inr ⟨k, hk, o, hm⟩)
                            refine ⟨_, hnew.len, hnew.mono ex.F ex.Fw, fun q u hq => ?_⟩
                            rw [put_get ce _ _ _ (by omega)] at hq
                            simp only [List.getElem?_toArray]
                            rw [hget _ hfit']
                            split at hq
                            · rename_i hlt'
                              have hk := c3 q u hq
                              rw [if_pos (by omega)]
                              rw [← hk, ← Array.getElem?_toList]
                            · split at hq
                              · rw [if_neg (by omega), if_pos (by omega), ← hq]
                                congr 1
                                omega
                              · have hk := c3 q u hq
                                have hql : q < ce.length := (List.getElem?_eq_some_iff.1 hq).1
                                rw [if_neg (by omega), if_neg (by omega)]
                                rw [← hk, ← Array.getElem?_toList]
                          · rw [if_neg hji] at hj
                            obtain ⟨ce, c1, c2, c3⟩ := k4 j z hj
                            refine ⟨ce, c1, c2.mono ex.F ex.Fw, fun q u hq => ?_⟩
                            have hk := c3 q u hq
                            have hql : q < ce.length := (List.getElem?_eq_some_iff.1 hq).1
                            simp only [List.getElem?_toArray]
                            rw [hget _ hfit']
                            rcases Nat.lt_or_ge j i.toNat with hji' | hji'
                            · have hm1 : (j + 1) * T.sz ≤ i.toNat * T.sz := Nat.mul_le_mul_right _ (by omega)
                              rw [Nat.add_mul, Nat.one_mul] at hm1
                              rw [if_pos (by omega), ← hk, ← Array.getElem?_toList]
                            · have hm1 : (i.toNat + 1) * T.sz ≤ j * T.sz := Nat.mul_le_mul_right _ (by omega)
                              rw [Nat.add_mul, Nat.one_mul] at hm1
                              rw [if_neg (by omega), if_neg (by omega), ← hk, ← Array.getElem?_toList])
                    refine ⟨?_, ?_, rfl⟩
                    · show Core C _ (upds O (fz ++ [(d, .row e' T (xs.set i.toNat yv) false)])) _
                      rw [upds_append]; exact hk.1
                    · show Ext G O w _ (upds O (fz ++ [(d, .row e' T (xs.set i.toNat yv) false)])) _
                      rw [upds_append]; exact x1.trans hk.2
                · cases he
            · cases he
          · rw [if_neg hc] at he
            cases he
        · cases he
      · cases he
    · rw [if_neg hn] at he
      cases he
end
end Go.Proofs.Ytcmbckancficcaa.VE
