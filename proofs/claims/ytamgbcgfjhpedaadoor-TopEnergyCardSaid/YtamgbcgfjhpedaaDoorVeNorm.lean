/- A header of a row's beginning as a row of its own, behind a step (lemmas; no statement is proved here). -/
import Derived.Test.YtamgbcgfjhpedaaDoorVeMem
namespace Go.Proofs.YtamgbcgfjhpedaaDoor.VE
open Go Go.RowKit
section
variable {C : Ctx} {G : Gh} {O : Nat → Obj} {w : World}
theorem trunc_ok (h : Core C G O w) {d d2 len : Nat} {e : TypeId} {t : Ty} {xs : List t.T} (hd : O d = .row e t xs false) (h2 : O d2 = .no) {v : Value} (hv : LfR G O w (.os d 0 len) v) :
    ∃ G', Core C G' (upds O [(d, .dead), (d2, .row e t (xs.take len) false)]) w ∧ Ext G O w G' (upds O [(d, .dead), (d2, .row e t (xs.take len) false)]) w ∧ LfR G' (upds O [(d, .dead), (d2, .row e t (xs.take len) false)]) w (.o d2) v := by
  have hne : d2 ≠ d := by rintro rfl; rw [hd] at h2; cases h2
  obtain ⟨k1, kx⟩ := h.kill d (by rw [hd]; simp)
  have h21 : upd O d .dead d2 = .no := by rw [upd_ne _ _ hne]; exact h2
  show ∃ G', Core C G' (upd (upd O d .dead) d2 (.row e t (xs.take len) false)) w ∧ Ext G O w G' (upd (upd O d .dead) d2 (.row e t (xs.take len) false)) w ∧ LfR G' (upd (upd O d .dead) d2 (.row e t (xs.take len) false)) w (.o d2) v
  have ex : Ext G (upd O d .dead) w { G with m := upd G.m d2 (G.m d), cp := upd G.cp d2 (G.cp d) } (upd (upd O d .dead) d2 (.row e t (xs.take len) false)) w := by
    refine ⟨fun _ h => h, fun _ _ => rfl, fun k hk => ?_⟩
    have hkn : k ≠ d2 := by rintro rfl; exact hk h21
    rw [upd_ne _ _ hkn]
    exact ⟨hk, Sim.refl _, fun _ => ⟨upd_ne _ _ hkn, upd_ne _ _ hkn, rfl, fun _ _ h => h⟩⟩
  have hob := h.ob d
  unfold ObjR at hob
  rw [hd] at hob
  obtain ⟨o1, o2⟩ := hob
  have hvb : OnRow (O d) (fun t n => HdR G d t.sz n 0 len v) := hv.2
  rw [hd] at hvb
  have hvb : HdR G d t.sz xs.length 0 len v := hvb
  obtain ⟨v1, A, c, rfl, v3, v4, v5⟩ := hvb
  have hlen : (xs.take len).length = len := by rw [List.length_take]; omega
  refine ⟨{ G with m := upd G.m d2 (G.m d), cp := upd G.cp d2 (G.cp d) }, ?_, kx.trans ex, ?_⟩
  · refine k1.step ex (fun k => k = d2) (fun k hk => ⟨upd_ne _ _ hk, upd_ne _ _ hk, upd_ne _ _ hk, rfl, rfl⟩) (fun _ _ _ _ _ => ⟨rfl, id⟩) ?_ ?_ (fun b hb => Or.inl hb) (Keeps.refl _ _ _) ?_
    · rintro k rfl
      unfold ObjR
      rw [upd_self]
      show (xs.take len).length ≤ upd G.cp k (G.cp d) k ∧ ((upd G.cp k (G.cp d) k = 0 ∧ upd G.m k (G.m d) k = none) ∨ _)
      rw [upd_self, upd_self]
      refine ⟨by omega, o2.imp id ?_⟩
      rintro ⟨b, o, arr, e', q1, q2, q3, q4, q5, q6, q7⟩
      refine ⟨b, o, arr, e', by show upd G.m k (G.m d) k = _; rw [upd_self]; exact q1, q2, by show _ + upd G.cp k (G.cp d) k * _ ≤ _; rw [upd_self]; exact q3, ?_, q5, q6, q7⟩
      intro j x hj
      rw [List.getElem?_take] at hj
      split at hj
      · obtain ⟨ce, c1, c2, c3⟩ := q4 j x hj
        exact ⟨ce, c1, c2, c3⟩
      · cases hj
    · rintro k d' b1 b' hk rfl hl hl' hm hm'
      rw [upd_self] at hm
      obtain ⟨p1, e1⟩ := hm.plain rfl
      have e1 : upd G.m k (G.m d) k = some (b1, p1) := e1
      rw [upd_self] at e1
      rw [upd_ne _ _ (Ne.symm hk)] at hl' hm'
      have e2 : Bl G (upd O d .dead d') d' b' := hm'.old (upd_ne _ _ (Ne.symm hk)) rfl
      have hdd : d' ≠ d := by
        rintro rfl
        rw [upd_self] at hl'; cases hl'
      rw [upd_ne _ _ hdd] at hl' e2
      exact h.injB d d' b1 b' (Ne.symm hdd) (by rw [hd]; rfl) hl' (Or.inl ⟨p1, e1⟩) e2
    · rintro k _ rfl hn _
      exact absurd h21 hn
  · refine ⟨hv.1, ?_⟩
    show OnRow (upd (upd O d .dead) d2 (.row e t (xs.take len) false) d2) (fun t n => HdR _ d2 t.sz n 0 n _)
    rw [upd_self]
    show HdR _ d2 t.sz (xs.take len).length 0 (xs.take len).length _
    rw [hlen]
    refine ⟨by omega, A, c, rfl, v3, ?_, ?_⟩
    · show 0 + c = upd G.cp d2 (G.cp d) d2
      rw [upd_self]; exact v4
    · show 0 < c → ∃ b o, upd G.m d2 (G.m d) d2 = some (b, o) ∧ _
      rw [upd_self]; exact v5
/-- A row of rows that owns them, as a row of rows that stay. -/
theorem undeep_ok (h : Core C G O w) {d : Nat} {e e2 : TypeId} {t : Ty} {xss : List (List t.T)} (hd : O d = .deep e e2 t xss) : ∃ G', Core C G' (upd O d (.row e (.list e2 t) xss false)) w ∧ Ext G O w G' (upd O d (.row e (.list e2 t) xss false)) w ∧ G'.m = G.m ∧ G'.cp = G.cp := by
  have hl : (O d).live = true := by rw [hd]; rfl
  let I : Nat → Prop := fun b => ∃ j : Nat, ∃ x p, xss[j]? = some x ∧ 0 < x.length ∧ G.sub d j = some (b, p)
  have hI : ∀ b, I b → Bl G (O d) d b := fun b hb => by rw [hd]; exact Or.inr hb
  have ex : Ext G O w { G with F := fun b => G.F b ∨ I b } (upd O d (.row e (.list e2 t) xss false)) w := by
    refine ⟨fun _ h => Or.inl h, fun _ _ => rfl, fun k hk => ?_⟩
    by_cases hne : k = d
    · subst hne
      rw [upd_self, hd]
      exact ⟨by simp, ⟨rfl, rfl⟩, fun _ => ⟨rfl, rfl, rfl, fun _ _ h => h⟩⟩
    · rw [upd_ne _ _ hne]
      exact ⟨hk, Sim.refl _, fun _ => ⟨rfl, rfl, rfl, fun _ _ h => h⟩⟩
  refine ⟨{ G with F := fun b => G.F b ∨ I b }, ?_, ex, rfl, rfl⟩
  refine h.step ex (fun k => k = d) (fun k hk => ⟨upd_ne _ _ hk, rfl, rfl, rfl, rfl⟩) (fun k b hk hl' hm' => ⟨rfl, fun hF => ?_⟩) ?_ ?_ ?_ (Keeps.refl _ _ _) ?_
  · rcases hF with hF | hF
    · exact hF
    · exact absurd rfl (h.injB k d b b hk hl' hl hm' (hI b hF))
  · rintro k rfl
    unfold ObjR
    rw [upd_self]
    obtain ⟨h0, h1⟩ := h.deep hd
    refine ⟨h0, h1.imp id ?_⟩
    rintro ⟨b, o, arr, t', k1, k2, k3, k4, k5, k6, k7⟩
    refine ⟨b, o, arr, t', k1, k2, by show o + G.cp k * 1 ≤ arr.size; omega, fun j x hj => ?_, k4, (fun hz => by cases hz), fun _ hF => ?_⟩
    · obtain ⟨A, c, q1, q2, _, q3⟩ := k6 j x hj
      refine ⟨[.slice A (List.length x) c], rfl, ⟨A, c, rfl, q2, fun hn => ?_⟩, fun i u hu => ?_⟩
      · obtain ⟨b', o', arr', e', r1, r2, r3, r4, r5, r6, r7⟩ := q3 hn
        refine ⟨b', o', r2, Or.inr ⟨j, x, o', hj, hn, r1⟩, fun i y hy => ?_⟩
        obtain ⟨ce, s1, s2, s3⟩ := r4 i y hy
        refine ⟨ce, s1, s2.mono (fun _ h => Or.inl h) (fun _ _ => rfl), fun i' u hu => ?_⟩
        rw [r3.cell]
        exact s3 i' u hu
      · cases i with
        | zero =>
          cases hu
          show arr[o + (j * 1 + 0)]? = _
          rw [show o + (j * 1 + 0) = o + j by omega]
          exact q1
        | succ i => cases hu
    · rcases hF with hF | ⟨j, x, p, hj, hn, hs⟩
      · exact k5 hF
      · obtain ⟨A, c, q1, q2, _, q3⟩ := k6 j x hj
        obtain ⟨b', o', arr', e', r1, r2, r3, r4, r5, r6, r7⟩ := q3 hn
        rw [hs] at r1
        cases r1
        exact r7 rfl
  · rintro k d' b1 b' hne rfl hl1 hl' hmk hmk'
    rw [upd_ne _ _ (Ne.symm hne)] at hl' hmk'
    rw [upd_self] at hmk
    exact h.injB k d' b1 b' hne hl hl' (Or.inl (hmk.plain rfl)) hmk'
  · rintro b (hb | hb)
    · exact Or.inl hb
    · exact Or.inr ⟨(h.blockB hl (hI b hb)).1, (h.blockB hl (hI b hb)).2.1⟩
  · rintro k hk rfl hn hlv
    refine ⟨hl, rfl, rfl, ?_⟩
    rw [upd_self, hd]; rfl
theorem adopt_ok {gn : List Nat} (h : Core C G O w) {s : CSh} {x y : Cm} {l : List (Nat × Obj)} (e : adopt gn O s x = some (y, l)) {v : Value} (hv : CmR G O w x v) : ∃ G', Core C G' (upds O l) w ∧ Ext G O w G' (upds O l) w ∧ CmR G' (upds O l) w y v := by
  unfold adopt at e
  split at e
  · rename_i d0 d
    cases hg : gn.contains d with
    | false => rw [hg] at e; cases e
    | true =>
      rw [hg] at e
      simp only [cond_true] at e
      split at e
      · rename_i e' t xs hd h2
        cases e
        have hv' : LfR G O w (.o d) v := hv
        have hb : OnRow (O d) (fun t n => HdR G d t.sz n 0 n v) := hv'.2
        rw [hd] at hb
        have hb : HdR G d t.sz xs.length 0 xs.length v := hb
        have k := trunc_ok h hd h2 (len := xs.length) (v := v) ⟨hv'.1, by show OnRow (O d) (fun t n => HdR G d t.sz n 0 xs.length v); rw [hd]; exact hb⟩
        rw [List.take_length] at k
        exact k
      · cases e
  · rename_i d0 d
    split at e
    · rename_i e' e2 t xss hd
      cases e
      obtain ⟨G', k1, k2, k3, k4⟩ := undeep_ok h hd
      refine ⟨G', k1, k2, ?_⟩
      have hv' : LfR G O w (.o d) v := hv
      exact LfR.mono k2 hv'
    · cases e
  · rename_i d0 d len
    split at e
    · rename_i e' t xs hd h2
      cases e
      exact trunc_ok h hd h2 hv
    · cases e
  · cases e
theorem norm_ok (gn : List Nat) : ∀ (ss : List CSh) (cms : List Cm) {G : Gh} {O : Nat → Obj} {vs : List Value}, Core C G O w → All2 (CmR G O w) cms vs → ∃ G', Core C G' (norm gn ss cms O).2 w ∧ Ext G O w G' (norm gn ss cms O).2 w ∧ All2 (CmR G' (norm gn ss cms O).2 w) (norm gn ss cms O).1 vs
  | [], cms, G, O, vs, h, hv => ⟨G, h, Ext.refl _ _ _, hv⟩
  | _ :: _, [], G, O, vs, h, hv => ⟨G, h, Ext.refl _ _ _, hv⟩
  | s :: ss, x :: xs, G, O, [], h, hv => hv.elim
  | s :: ss, x :: xs, G, O, v :: vs, h, hv => by
    unfold norm
    split
    · rename_i y l e
      obtain ⟨G1, a1, a2, a3⟩ := adopt_ok h e hv.1
      obtain ⟨G2, b1, b2, b3⟩ := norm_ok gn ss xs (G := G1) (vs := vs) a1 (hv.2.mono fun _ _ => CmR.mono a2)
      exact ⟨G2, b1, a2.trans b2, CmR.mono b2 a3, b3⟩
    · obtain ⟨G2, b1, b2, b3⟩ := norm_ok gn ss xs (G := G) (vs := vs) h hv.2
      exact ⟨G2, b1, b2, CmR.mono b2 hv.1, b3⟩
theorem All2.setL {α β : Type} {R : α → β → Prop} {x : α} {y : β} : ∀ {l : List α} {m : List β} {i : Nat}, All2 R l m → m[i]? = some y → R x y → All2 R (l.set i x) m
  | [], [], i, h, _, _ => by simpa using h
  | a :: l, b :: m, 0, h, hy, hr => by
    simp only [List.getElem?_cons_zero, Option.some.injEq] at hy
    subst hy
    exact ⟨hr, h.2⟩
  | a :: l, b :: m, i + 1, h, hy, hr => ⟨h.1, All2.setL h.2 (by simpa using hy) hr⟩
  | [], _ :: _, _, h, _, _ => h.elim
  | _ :: _, [], _, h, _, _ => h.elim
theorem normB1_ok (gn : List Nat) (d i : Nat) (h : Core C G O w) : ∃ G', Core C G' (normB1 gn d i O) w ∧ Ext G O w G' (normB1 gn d i O) w := by
  have triv : ∃ G', Core C G' O w ∧ Ext G O w G' O w := ⟨G, h, Ext.refl _ _ _⟩
  unfold normB1
  split
  · rename_i e cs hd
    split
    · rename_i d2 hi
      cases hg : gn.contains d2 with
      | false => exact triv
      | true =>
        simp only [cond_true]
        split
        · rename_i e2 t xs hd2 h3
          have hb := h.ob d
          unfold ObjR at hb
          rw [hd] at hb
          obtain ⟨b, arr, b1, b2, b3, b4, b5⟩ := hb
          have hil : i < cs.length := (List.getElem?_eq_some_iff.1 hi).1
          have hial : i < arr.toList.length := by rw [← b3.length]; exact hil
          obtain ⟨v, hv⟩ : ∃ v, arr.toList[i]? = some v := ⟨_, List.getElem?_eq_getElem hial⟩
          have hvl : LfR G O w (.o d2) v := b3.get i hi hv
          have hk : OnRow (O d2) (fun t n => HdR G d2 t.sz n 0 n v) := hvl.2
          rw [hd2] at hk
          have hk : HdR G d2 t.sz xs.length 0 xs.length v := hk
          obtain ⟨G1, k1, k2, k3⟩ := trunc_ok h hd2 h3 (len := xs.length) (v := v) ⟨hvl.1, by show OnRow (O d2) (fun t n => HdR G d2 t.sz n 0 xs.length v); rw [hd2]; exact hk⟩
          rw [List.take_length] at k1 k2 k3
          generalize hO1 : upds O [(d2, .dead), (900000 + d2, .row e2 t xs false)] = O1 at k1 k2 k3
          have n1 : d ≠ d2 := by rintro rfl; rw [hd] at hd2; cases hd2
          have n2 : d ≠ 900000 + d2 := by rintro e0; rw [← e0, hd] at h3; cases h3
          have hd1 : O1 d = .box e cs := by
            rw [← hO1]
            show upd (upd O d2 .dead) (900000 + d2) _ d = _
            rw [upd_ne _ _ n2, upd_ne _ _ n1]; exact hd
          have goal2 : upds O [(d2, .dead), (900000 + d2, .row e2 t xs false), (d, .box e (cs.set i (.o (900000 + d2))))] = upd O1 d (.box e (cs.set i (.o (900000 + d2)))) := by
            rw [← hO1]; rfl
          rw [goal2]
          have hl1 : (O1 d).live = true := by rw [hd1]; rfl
          have ex : Ext G1 O1 w G1 (upd O1 d (.box e (cs.set i (.o (900000 + d2))))) w := by
            refine ⟨fun _ h => h, fun _ _ => rfl, fun k hk => ?_⟩
            by_cases hne : k = d
            · subst hne
              rw [upd_self, hd1]
              exact ⟨by simp, trivial, fun _ => ⟨rfl, rfl, rfl, fun _ _ h => h⟩⟩
            · rw [upd_ne _ _ hne]
              exact ⟨hk, Sim.refl _, fun _ => ⟨rfl, rfl, rfl, fun _ _ h => h⟩⟩
          refine ⟨G1, k1.step ex (fun k => k = d) (fun k hk => ⟨upd_ne _ _ hk, rfl, rfl, rfl, rfl⟩) (fun _ _ _ _ _ => ⟨rfl, id⟩) ?_ ?_ (fun b hb => Or.inl hb) (Keeps.refl _ _ _) ?_, k2.trans ex⟩
          · rintro k rfl
            have hb1 := k1.ob k
            unfold ObjR at hb1 ⊢
            rw [upd_self]
            rw [hd1] at hb1
            obtain ⟨b', arr', c1, c2, c3, c4, c5⟩ := hb1
            have hmm : G1.m k = G.m k := ((k2.sim k (by rw [hd]; simp)).2.2 (by rw [hd1]; simp)).1
            have hbb : b' = b := by
              rw [hmm, b1] at c1
              cases c1; rfl
            subst hbb
            have harr : arr' = arr := by
              have e1 : w.heap[b']? = some (.cells arr' e (0, 0)) := c2
              have e2 : w.heap[b']? = some (.cells arr e (0, 0)) := b2
              rw [e1] at e2
              cases e2; rfl
            subst harr
            refine ⟨b', arr', c1, c2, ?_, c4, c5⟩
            have c3' := c3.mono fun _ _ => LfR.mono ex
            have k3' := LfR.mono ex k3
            refine All2.setL c3' hv k3'
          · rintro k d' b1' b2' hne rfl hl hl' hm hm'
            rw [upd_self] at hm
            rw [upd_ne _ _ (Ne.symm hne)] at hl' hm'
            refine k1.injB k d' b1' b2' hne hl1 hl' ?_ hm'
            rw [hd1]
            exact Or.inl (hm.plain rfl)
          · rintro k hk rfl hn hlv
            refine ⟨hl1, rfl, rfl, ?_⟩
            rw [upd_self, hd1]
            show (cs.set i _).length = cs.length
            rw [List.length_set]
        · exact triv
    · exact triv
  · exact triv
theorem normBi_ok (gn : List Nat) (d : Nat) : ∀ (ss : List LSh) (i : Nat) {G : Gh} {O : Nat → Obj}, Core C G O w → ∃ G', Core C G' (normBi gn d ss i O) w ∧ Ext G O w G' (normBi gn d ss i O) w
  | [], i, G, O, h => ⟨G, h, Ext.refl _ _ _⟩
  | s :: ss, i, G, O, h => by
    cases s with
    | row d' =>
      obtain ⟨G1, a1, a2⟩ := normB1_ok gn d i h
      obtain ⟨G2, b1, b2⟩ := normBi_ok gn d ss (i + 1) a1
      exact ⟨G2, b1, a2.trans b2⟩
    | _ => exact normBi_ok gn d ss (i + 1) h
theorem normB_ok (gn : List Nat) : ∀ (l : List (Nat × OSh)) {G : Gh} {O : Nat → Obj}, Core C G O w → ∃ G', Core C G' (normB gn l O) w ∧ Ext G O w G' (normB gn l O) w
  | [], G, O, h => ⟨G, h, Ext.refl _ _ _⟩
  | (d, s) :: l, G, O, h => by
    cases s with
    | box e ss =>
      obtain ⟨G1, a1, a2⟩ := normBi_ok gn d ss 0 h
      obtain ⟨G2, b1, b2⟩ := normB_ok gn l a1
      exact ⟨G2, b1, a2.trans b2⟩
    | _ => exact normB_ok gn l h
/-- A cut's look: slots and boxes. -/
theorem normA_ok (gn : List Nat) (ss : List CSh) (os : List (Nat × OSh)) (cms : List Cm) {vs : List Value} (h : Core C G O w) (hv : All2 (CmR G O w) cms vs) : ∃ G', Core C G' (normB gn os (norm gn ss cms O).2) w ∧ All2 (CmR G' (normB gn os (norm gn ss cms O).2) w) (norm gn ss cms O).1 vs := by
  obtain ⟨G1, a1, _, a3⟩ := norm_ok gn ss cms h hv
  obtain ⟨G2, b1, b2⟩ := normB_ok gn os a1
  exact ⟨G2, b1, a3.mono fun _ _ => CmR.mono b2⟩
end
end Go.Proofs.YtamgbcgfjhpedaaDoor.VE
