/- A row stored into a row of rows: it is taken over (lemmas; no statement is proved here). -/
import Derived.Test.YtamgbcgfjhpedaaDoorVeOpsG
namespace Go.Proofs.YtamgbcgfjhpedaaDoor.VE
open Go Go.RowKit
section
variable {P : Program} {C : Ctx} {G : Gh} {O : Nat → Obj} {w : World}
theorem takeL_ok (h : Core C G O w) {t : TypeId} {x : Option Lf} {y : SV} {cs : List Chk} {e : Eff} (he : takeL P t O x y = some (cs, e)) (hc : AllP cs) {a v : Value} (ha : LR G O w x a) (hv : SVR G O w y v) :
    ∃ w', (Instr.storeAt t a v).run P w = .ok () w' ∧ ∃ G', Core C G' (upds O e.wr) w' ∧ Ext G O w G' (upds O e.wr) w' ∧ e.sv = .u := by
  unfold takeL at he
  split at he
  · rename_i d i d2
    split at he
    · rename_i e' e2 T xss te T2 ys hd hd2
      by_cases hT : T2 = T
      · rw [dif_pos hT] at he
        subst hT
        by_cases hq : d ≠ d2 ∧ P.cellsOf t = 1 ∧ (P.info? t).isSome = true
        · rw [if_pos hq] at he
          cases he
          obtain ⟨hne, hcell, hinf⟩ := hq
          have hz : (rd (.list e2 T2) xss i).length = 0 := hc.cons.1
          have k : OnRow (O d) (fun t n => 0 ≤ i ∧ i < (n : Int) ∧ ∃ b o, G.m d = some (b, o) ∧ a = .pointer (some ⟨b, o + i.toNat * t.sz + 0, none⟩)) := (ha _ rfl).2
          rw [hd] at k
          obtain ⟨h0, h1, b, o, hm, rfl⟩ := k
          have hil : i.toNat < xss.length := by omega
          have hrd : rd (.list e2 T2) xss i = xss[i.toNat] := by
            unfold rd
            rw [List.getD_eq_getElem?_getD, List.getElem?_eq_getElem hil]
            rfl
          rw [hrd] at hz
          have hv2 : LfR G O w (.o d2) v := hv
          obtain ⟨_, A, c, rfl, hlc, hcp, hA⟩ := row_hdr hd2 hv2
          have hl : (O d).live = true := by rw [hd]; rfl
          have hl2 : (O d2).live = true := by rw [hd2]; rfl
          rcases (h.deep hd).2 with ⟨_, q⟩ | ⟨b', o', arr, t', k1, k2, k3, k4, k5, k6, k7⟩
          · rw [hm] at q; cases q
          · rw [hm] at k1
            cases k1
            have hrow := h.row hd2
            have hst := run_storeAt (P := P) (w := w) (t := t) (b := b) (o := o + i.toNat * 1 + 0) (v := .slice A ys.length c) k2 (by
              show o + i.toNat * 1 + 0 + 1 ≤ arr.size
              have := (h.deep hd).1
              omega) (fun u hu => by
              have : u = .slice A ys.length c := by simpa [Value.cells] using hu
              rw [this]; rfl) (Option.isSome_iff_exists.1 hinf) (by rw [hcell]; rfl)
            have hput := put_setRow (new := (arr.toList.take (o + i.toNat * 1 + 0) ++ (Value.slice A ys.length c).cells.toList ++ arr.toList.drop (o + i.toNat * 1 + 0 + (Value.slice A ys.length c).cells.toList.length)).toArray) k2
            have hg2 : ∀ q, G.m d2 = some q → 0 < ys.length → A = some ⟨q.1, q.2, none⟩ := fun q hq' hn => by
              obtain ⟨b1, o1, r1, r2⟩ := hA (by omega)
              rw [hq'] at r1
              cases r1
              rw [r2]; simp
            have hgetn : ∀ j : Nat, j ≠ i.toNat → j < xss.length → ∀ u, arr[o + j]? = some u → ((arr.toList.take (o + i.toNat * 1 + 0) ++ [Value.slice A ys.length c] ++ arr.toList.drop (o + i.toNat * 1 + 0 + 1)).toArray)[o + j]? = some u := fun j hj hjl u hu => by
              have := put_get arr.toList [Value.slice A ys.length c] (o + i.toNat * 1 + 0) (o + j) (by
                have := (h.deep hd).1
                simp
                omega)
              simp only [List.length_singleton] at this
              simp only [List.getElem?_toArray]
              rw [this]
              rcases Nat.lt_or_ge j i.toNat with h9 | h9
              · rw [if_pos (by omega), Array.getElem?_toList]; exact hu
              · rw [if_neg (by omega), if_neg (by omega), Array.getElem?_toList]; exact hu
            have hgeti : ((arr.toList.take (o + i.toNat * 1 + 0) ++ [Value.slice A ys.length c] ++ arr.toList.drop (o + i.toNat * 1 + 0 + 1)).toArray)[o + i.toNat]? = some (Value.slice A ys.length c) := by
              have := put_get arr.toList [Value.slice A ys.length c] (o + i.toNat * 1 + 0) (o + i.toNat) (by
                have := (h.deep hd).1
                simp
                omega)
              simp only [List.length_singleton] at this
              simp only [List.getElem?_toArray]
              rw [this, if_neg (by omega), if_pos (by omega)]
              simp
            obtain ⟨A0, c0, q1, q2, q0, q3⟩ := k6 i.toNat _ (List.getElem?_eq_getElem hil)
            have hs0 : G.sub d i.toNat = none := q0 hz
            obtain ⟨S, hS⟩ : ∃ S : Nat → Option (Nat × Nat), S = fun j => if j = i.toNat then (if 0 < ys.length then G.m d2 else none) else G.sub d j := ⟨_, rfl⟩
            have ex : Ext G O w { G with sub := upd G.sub d S } (upd (upd O d2 .dead) d (.deep e' e2 T2 (xss.set i.toNat ys))) (w.setRow b (arr.toList.take (o + i.toNat * 1 + 0) ++ (Value.slice A ys.length c).cells.toList ++ arr.toList.drop (o + i.toNat * 1 + 0 + (Value.slice A ys.length c).cells.toList.length)).toArray) := by
              refine ⟨fun _ h => h, fun k hk => hput.old k (by rintro rfl; exact k5 hk), fun k hk => ?_⟩
              by_cases hkd : k = d
              · subst hkd
                rw [upd_self, hd]
                refine ⟨by simp, ⟨rfl, rfl, by simp, fun j n hn hj => ?_⟩, fun _ => ⟨rfl, rfl, rfl, fun j z hz' => ?_⟩⟩
                · by_cases hji : i.toNat = j
                  · subst hji
                    rw [List.getElem?_eq_getElem hil] at hj
                    have : (xss[i.toNat]).length = n := by simpa using hj
                    omega
                  · rw [List.getElem?_set_ne hji]; exact hj
                · show upd G.sub k S k j = some z
                  rw [upd_self, hS]
                  by_cases hji : j = i.toNat
                  · subst hji; rw [hs0] at hz'; cases hz'
                  · show (if j = i.toNat then _ else G.sub k j) = some z
                    rw [if_neg hji]; exact hz'
              · rw [upd_ne _ _ hkd]
                by_cases hk2 : k = d2
                · subst hk2
                  rw [upd_self, hd2]
                  exact ⟨by simp, trivial, fun h => absurd rfl h⟩
                · rw [upd_ne _ _ hk2]
                  refine ⟨hk, Sim.refl _, fun _ => ⟨rfl, rfl, rfl, fun j z hz' => ?_⟩⟩
                  show upd G.sub d S k j = some z
                  rw [upd_ne _ _ hkd]; exact hz'
            refine ⟨_, hst, { G with sub := upd G.sub d S }, ?_, ex, rfl⟩
            show Core C { G with sub := upd G.sub d S } (upd (upd O d2 .dead) d (.deep e' e2 T2 (xss.set i.toNat ys))) _
            refine h.step ex (fun k => k = d ∨ k = d2) (fun k hk => ?_) (fun k b1 hk hl' hB => ⟨hput.old b1 (h.injB k d b1 b (fun e => hk (Or.inl e)) hl' hl hB (Or.inl ⟨o, hm⟩)), id⟩) ?_ ?_ (fun b hb => Or.inl hb) (hput.keeps k4) ?_
            · obtain ⟨n1, n2⟩ := not_or.1 hk
              exact ⟨by rw [upd_ne _ _ n1, upd_ne _ _ n2], rfl, rfl, rfl, upd_ne _ _ n1⟩
            · rintro k (rfl | rfl)
              · unfold ObjR
                rw [upd_self]
                have hset : ∀ (j : Nat) x, (xss.set i.toNat ys)[j]? = some x → j = i.toNat ∧ x = ys ∨ j ≠ i.toNat ∧ xss[j]? = some x := by
                  intro j x hj
                  by_cases hji : i.toNat = j
                  · subst hji
                    rw [List.getElem?_set_self hil] at hj
                    cases hj; exact Or.inl ⟨rfl, rfl⟩
                  · rw [List.getElem?_set_ne hji] at hj
                    exact Or.inr ⟨Ne.symm hji, hj⟩
                have hSi : 0 < ys.length → S i.toNat = G.m d2 := fun hn => by rw [hS]; simp [hn]
                have hSo : ∀ j, j ≠ i.toNat → S j = G.sub k j := fun j hj => by rw [hS]; simp [hj]
                have hS2 : ({ G with sub := upd G.sub k S } : Gh).sub k = S := upd_self _ _ _
                refine ⟨by rw [List.length_set]; exact (h.deep hd).1, Or.inr ⟨b, o, _, _, hm, hput.new, ?_, k4, k5, fun j x hj => ?_, fun j j' x x' b1 o1 b2 o2 hjj hj hj' hx hx' s1 s2 => ?_⟩⟩
                · have := (h.deep hd).1
                  simp [Value.cells]
                  omega
                · rcases hset j x hj with ⟨rfl, rfl⟩ | ⟨hji, hj0⟩
                  · refine ⟨A, c, hgeti, hlc, fun hz => ?_, fun hn => ?_⟩
                    · rw [hS2, hS]; simp [hz]
                    · rcases hrow.2 with ⟨r1, r2⟩ | ⟨b2, o2, arr2, t2, r1, r2, r3, r4, r5, _, r7⟩
                      · have := hrow.1; omega
                      · have hb2 : b2 ≠ b := h.inj d2 k b2 o2 b o (Ne.symm hne) hl2 hl r1 hm
                        refine ⟨b2, o2, arr2, t2, by rw [hS2, hSi hn]; exact r1, hg2 (b2, o2) r1 hn, (hput.old b2 hb2).trans r2, r4.mono (fun _ h => h) ex.Fw, r5, r7 rfl, hb2⟩
                  · obtain ⟨A1, c1, u1, u2, u0, u3⟩ := k6 j x hj0
                    have hjl : j < xss.length := (List.getElem?_eq_some_iff.1 hj0).1
                    refine ⟨A1, c1, hgetn j hji hjl _ u1, u2, fun hz => by rw [hS2, hSo j hji]; exact u0 hz, fun hn => ?_⟩
                    obtain ⟨b2, o2, arr2, t2, r1, r2, r3, r4, r5, r6, r7⟩ := u3 hn
                    exact ⟨b2, o2, arr2, t2, by rw [hS2, hSo j hji]; exact r1, r2, (hput.old b2 r7).trans r3, r4.mono (fun _ h => h) ex.Fw, r5, r6, r7⟩
                · rw [hS2] at s1 s2
                  have hB2 : ∀ q p, (q : Nat × Nat) = p → G.m d2 = some q → ∀ (m : Nat) z, xss[m]? = some z → 0 < z.length → ∀ p2, G.sub k m = some p2 → q.1 ≠ p2.1 := fun q p _ hq m z hz hzn p2 hp2 => by
                    refine h.injB d2 k q.1 p2.1 (Ne.symm hne) hl2 hl (Or.inl ⟨q.2, hq⟩) ?_
                    rw [hd]
                    exact Or.inr ⟨m, z, p2.2, hz, hzn, hp2⟩
                  rcases hset j x hj with ⟨rfl, rfl⟩ | ⟨hji, hj0⟩
                  · rcases hset j' x' hj' with ⟨rfl, _⟩ | ⟨hji', hj0'⟩
                    · exact absurd rfl hjj
                    · rw [hSi hx] at s1
                      rw [hSo j' hji'] at s2
                      exact hB2 _ _ rfl s1 j' x' hj0' hx' _ s2
                  · rw [hSo j hji] at s1
                    rcases hset j' x' hj' with ⟨rfl, rfl⟩ | ⟨hji', hj0'⟩
                    · rw [hSi hx'] at s2
                      exact Ne.symm (hB2 _ _ rfl s2 j x hj0 hx _ s1)
                    · rw [hSo j' hji'] at s2
                      exact k7 j j' x x' b1 o1 b2 o2 hjj hj0 hj0' hx hx' s1 s2
              · unfold ObjR
                rw [upd_ne _ _ (Ne.symm hne), upd_self]
                trivial
            · rintro k d' b1 b' hne' (rfl | rfl) hl1 hl' hB hB'
              · have hd2' : d' ≠ d2 := by
                  rintro rfl
                  rw [upd_ne _ _ (Ne.symm hne), upd_self] at hl'
                  cases hl'
                rw [upd_ne _ _ (Ne.symm hne'), upd_ne _ _ hd2'] at hl' hB'
                have hBd' : Bl G (O d') d' b' := hB'.old rfl (upd_ne _ _ (Ne.symm hne'))
                rw [upd_self] at hB
                have key : Bl G (O k) k b1 ∨ ∃ p, G.m d2 = some (b1, p) := by
                  rcases hB with ⟨p, hp⟩ | ⟨j, x, p, hj, hx, hs⟩
                  · exact Or.inl (Or.inl ⟨p, hp⟩)
                  · have hs : upd G.sub k S k j = some (b1, p) := hs
                    rw [upd_self, hS] at hs
                    by_cases hji : j = i.toNat
                    · subst hji
                      rw [List.getElem?_set_self hil] at hj
                      cases hj
                      exact Or.inr ⟨p, by simpa [hx] using hs⟩
                    · rw [List.getElem?_set_ne (Ne.symm hji)] at hj
                      rw [hd]
                      exact Or.inl (Or.inr ⟨j, x, p, hj, hx, by simpa [hji] using hs⟩)
                rcases key with h8 | ⟨p, h8⟩
                · exact h.injB k d' b1 b' hne' hl hl' h8 hBd'
                · exact h.injB d2 d' b1 b' (Ne.symm hd2') hl2 hl' (Or.inl ⟨p, h8⟩) hBd'
              · rw [upd_ne _ _ (Ne.symm hne), upd_self] at hl1
                cases hl1
            · rintro k hk (rfl | rfl) hn hlv
              · refine ⟨hl, rfl, rfl, ?_⟩
                rw [upd_self, hd]
                show (xss.set i.toNat ys).length = xss.length
                rw [List.length_set]
              · rw [upd_ne _ _ (Ne.symm hne), upd_self] at hlv
                cases hlv
        · rw [if_neg hq] at he; cases he
      · rw [dif_neg hT] at he; cases he
    · cases he
  · cases he
end
end Go.Proofs.YtamgbcgfjhpedaaDoor.VE
