import Derived.Test.YtodagcbcdkfniaaVpC4
namespace Go.Proofs.Ytodagcbcdkfniaa.VE
open Go Go.RowKit
set_option linter.unusedVariables false
attribute [local irreducible] wrap64
/-! ### package commit: period (no statement is proved here) -/
theorem colCost_rng : ∀ {l : List Un} {on : List Bool} {xs : List Int}, UnitsOk l → ColOk l on xs → -(1200000000000 * (l.length : Int)) ≤ colCost l xs ∧ colCost l xs ≤ 1200000000000 * (l.length : Int)
  | [], [], [], _, _ => by simp [colCost]
  | u :: l, b :: on, x :: xs, hU, h => by
    have ih := colCost_rng hU.tail h.2
    have hu := hU u (by simp)
    have h1 := h.1
    have hr := mx_rng hu (x := x) (by
      split at h1
      · exact Or.inr h1
      · exact Or.inl h1)
    have c2 := hu.oo.cost_rng hr.1
    show -(1200000000000 * (((u :: l).length : Nat) : Int)) ≤ vAt u.2.1.2 (mx x 0) + colCost l xs ∧ vAt u.2.1.2 (mx x 0) + colCost l xs ≤ 1200000000000 * (((u :: l).length : Nat) : Int)
    rw [List.length_cons]
    omega
  | [], [], _ :: _, _, h => h.elim
  | [], _ :: _, _, _, h => h.elim
  | _ :: _, [], _, _, h => h.elim
  | _ :: _, _ :: _, [], _, h => h.elim
theorem SamesL.refl : ∀ {l : List Un} {a : List Us}, StatesOk l a → SamesL l a a
  | [], [], _ => trivial
  | _ :: _, _ :: _, h => ⟨SameS.refl, SamesL.refl h.2⟩
  | [], _ :: _, h => h.elim
  | _ :: _, [], h => h.elim
abbrev Sv (l : List Un) (d on : Int) : Nat → Option SvR := fun k => commit_serve.f k l (bitsL on l.length) d
/-- A joint state that follows one of these. -/
def MadeJ (l : List Un) (d : Int) (now : List Jt) (c : Jt) : Prop := 0 ≤ c.2.2.1 ∧ ∃ j f sc r, now[c.2.2.1.toNat]? = some j ∧ Ev (Sv l d c.2.2.2) r ∧ ServeP l (bitsL c.2.2.2 l.length) d r ∧ r.2.2 = true ∧ nextL l j.1 (bases l (bitsL c.2.2.2 l.length)) = some (f, sc) ∧ c.1 = cutL l f ∧ c.2.1 = j.2.1 + sc + r.2.1
def JOk (l : List Un) (B : Int) (j : Jt) : Prop := StatesOk l j.1 ∧ Small j.1 ∧ -B ≤ j.2.1 ∧ j.2.1 ≤ B
def CovJ (l : List Un) (next : List Jt) (f : List Us) (v : Int) : Prop := ∃ y ∈ next, SamesL l y.1 f ∧ y.2.1 ≤ v
def DoneJ (l : List Un) (d : Int) (now next : List Jt) (on : Int) (x : Int) : Prop := ∀ r, Ev (Sv l d on) r → r.2.2 = true → ∀ (m : Nat) j, (m : Int) < x → now[m]? = some j → ∀ f sc, nextL l j.1 (bases l (bitsL on l.length)) = some (f, sc) → CovJ l next f (j.2.1 + sc + r.2.1)
structure PInv (l : List Un) (d : Int) (now : List Jt) (B : Int) (next : List Jt) (mp : List (Int × Int)) : Prop where
  ok : ∀ c ∈ next, MadeJ l d now c ∧ JOk l (B + 4000000000000) c
  mpOk : ∀ k v, mget mp k = some v → 0 ≤ v ∧ v < (next.length : Int) ∧ ∃ c, next[v.toNat]? = some c ∧ keyF 0 c.1 = k
def Better (l : List Un) (a b : List Jt) : Prop := ∀ f v, CovJ l a f v → CovJ l b f v
theorem DoneJ.up {l : List Un} {d : Int} {now a b : List Jt} {on x : Int} (h : DoneJ l d now a on x) (hb : Better l a b) : DoneJ l d now b on x := fun r hr hz m j hm hj f sc hf => hb _ _ (h r hr hz m j hm hj f sc hf)
section
variable {l : List Un} {d : Int} {now : List Jt} {B : Int}
theorem add_new {next : List Jt} {mp : List (Int × Int)} (h : PInv l d now B next mp) {c : Jt} (hc : MadeJ l d now c ∧ JOk l (B + 4000000000000) c) : PInv l d now B (next ++ [c]) (mput mp (keyF 0 c.1) (next.length : Int)) ∧ Better l next (next ++ [c]) ∧ CovJ l (next ++ [c]) c.1 c.2.1 := by
  refine ⟨⟨fun x hx => ?_, fun k v hk => ?_⟩, fun f v hf => ?_, ⟨c, by simp, SamesL.refl hc.2.1, Int.le_refl _⟩⟩
  · rcases List.mem_append.1 hx with hx | hx
    · exact h.ok x hx
    · rw [List.mem_singleton.1 hx]; exact hc
  · rw [mget_mput] at hk
    rw [List.length_append, List.length_singleton]
    split at hk
    · rename_i e
      obtain rfl := Option.some.inj hk
      refine ⟨by omega, by omega, c, ?_, e⟩
      rw [show ((next.length : Int)).toNat = next.length by omega, List.getElem?_append_right (Nat.le_refl _), Nat.sub_self]
      rfl
    · obtain ⟨a1, a2, x, a3, a4⟩ := h.mpOk k v hk
      exact ⟨a1, by omega, x, by rw [List.getElem?_append_left (by omega)]; exact a3, a4⟩
  · obtain ⟨y, hy, h1, h2⟩ := hf
    exact ⟨y, List.mem_append_left _ hy, h1, h2⟩
theorem set_new {next : List Jt} {mp : List (Int × Int)} (h : PInv l d now B next mp) {c y : Jt} (hc : MadeJ l d now c ∧ JOk l (B + 4000000000000) c) {v : Int} (hv : mget mp (keyF 0 c.1) = some v) (hy : rY12 next v = y) (hlt : c.2.1 < y.2.1) : PInv l d now B (next.set v.toNat c) mp ∧ Better l next (next.set v.toNat c) ∧ CovJ l (next.set v.toNat c) c.1 c.2.1 := by
  obtain ⟨a1, a2, x, a3, a4⟩ := h.mpOk _ v hv
  have ex : x = y := by
    have := rY12_some a1 a2
    rw [a3] at this
    rw [← hy]
    exact Option.some.inj this
  subst ex
  have hxm := List.mem_of_getElem? a3
  have hx := h.ok x hxm
  have same := (key_inj l x.1 c.1 0 0 hx.2.1 hc.2.1 hx.2.2.1 hc.2.2.1 a4).2
  have hin : c ∈ next.set v.toNat c := List.mem_iff_getElem?.2 ⟨v.toNat, by rw [List.getElem?_set_self (by omega)]⟩
  refine ⟨⟨fun z hz => ?_, fun k w hk => ?_⟩, fun f w hf => ?_, ⟨c, hin, SamesL.trans same.symm same, Int.le_refl _⟩⟩
  · rcases List.mem_or_eq_of_mem_set hz with hz | rfl
    · exact h.ok z hz
    · exact hc
  · obtain ⟨b1, b2, z, b3, b4⟩ := h.mpOk k w hk
    rw [List.length_set]
    refine ⟨b1, b2, ?_⟩
    by_cases e : w = v
    · subst e
      refine ⟨c, by rw [List.getElem?_set_self (by omega)], ?_⟩
      rw [a3] at b3
      obtain rfl := Option.some.inj b3
      rw [← b4, a4]
    · exact ⟨z, by rw [List.getElem?_set_ne (by omega)]; exact b3, b4⟩
  · obtain ⟨z, hz, h1, h2⟩ := hf
    rcases mem_set_ne (i := v.toNat) (c := c) hz with hz | hz
    · exact ⟨z, hz, h1, h2⟩
    · rw [a3] at hz
      obtain rfl := Option.some.inj hz
      exact ⟨c, hin, same.symm.trans h1, by omega⟩
theorem keep_old {next : List Jt} {mp : List (Int × Int)} (h : PInv l d now B next mp) {c y : Jt} (hc : MadeJ l d now c ∧ JOk l (B + 4000000000000) c) {v : Int} (hv : mget mp (keyF 0 c.1) = some v) (hy : rY12 next v = y) (hle : y.2.1 ≤ c.2.1) : CovJ l next c.1 c.2.1 := by
  obtain ⟨a1, a2, x, a3, a4⟩ := h.mpOk _ v hv
  have ex : x = y := by
    have := rY12_some a1 a2
    rw [a3] at this
    rw [← hy]
    exact Option.some.inj this
  subst ex
  have hxm := List.mem_of_getElem? a3
  have hx := h.ok x hxm
  exact ⟨x, hxm, (key_inj l x.1 c.1 0 0 hx.2.1 hc.2.1 hx.2.2.1 hc.2.2.1 a4).2, hle⟩
theorem per_inner (hU : UnitsOk l) (hl : l.length ≤ 3) (hB : 0 ≤ B ∧ B ≤ 40000000000000) (hnow : ∀ j ∈ now, JOk l B j) (hnl : now.length ≤ 100000000) (on : Int) (hon : 0 ≤ on ∧ on ≤ 8) (top : Int) {r : SvR} (hr : Ev (Sv l d on) r) (hrp : ServeP l (bitsL on l.length) d r) (hrt : r.2.2 = true) (R : List Jt → Prop)
    (cont : ∀ next mp, PInv l d now B next mp → (∀ o, 0 ≤ o → o < on + 1 → DoneJ l d now next o now.length) → (next.length : Int) ≤ (now.length : Int) * (on + 1) → EvP (fun k => commit_period.l4 k l now d top (on + 1) next mp) R) :
    ∀ (n : Nat) (x : Int) (next : List Jt) (mp : List (Int × Int)), 0 ≤ x → (now.length : Int) - x = n → PInv l d now B next mp → (∀ o, 0 ≤ o → o < on → DoneJ l d now next o now.length) → DoneJ l d now next on x → (next.length : Int) ≤ (now.length : Int) * on + x → EvP (fun k => commit_period.l9 k l now d on r.2.1 top on now (now.length : Int) x next mp) R := by
  have hcol := hrp.fit hrt
  have hrng : -4000000000000 + 3000000 ≤ r.2.1 ∧ r.2.1 ≤ 4000000000000 - 3000000 := by
    have := colCost_rng hU hcol.1
    rw [← hcol.2.2] at this
    omega
  have hmul : (now.length : Int) * on ≤ 100000000 * 8 := by
    have := mul_abs (a := (now.length : Int)) (b := on) (A := 100000000) (B := 8) (by omega) (by omega) (by omega) (by omega)
    omega
  intro n
  induction n with
  | zero =>
    intro x next mp h0 h1 hI hD hDx hlen
    refine EvP.step (fun k => commit_period.l9_eq k _ _ _ _ _ _ _ _ _ _ _ _) (EvP.neg (by omega) ?_)
    rw [w64 (x := on + 1) (by omega) (by omega)]
    refine cont next mp hI (fun o o0 o1 => ?_) (by rw [Int.mul_add]; omega)
    by_cases e : o = on
    · subst e
      obtain rfl : x = (now.length : Int) := by omega
      exact hDx
    · exact hD o o0 (by omega)
  | succ n ih =>
    intro x next mp h0 h1 hI hD hDx hlen
    have hlt : x < (now.length : Int) := by omega
    have hj := hnow _ (rY12_mem h0 hlt)
    have hjs := rY12_some h0 hlt
    refine EvP.step (fun k => commit_period.l9_eq k _ _ _ _ _ _ _ _ _ _ _ _) (EvP.pos hlt (EvP.pos h0 (EvP.pos hlt ?_)))
    rw [w64 (x := x + 1) (by omega) (by omega)]
    generalize rY12 now x = j at *
    obtain ⟨mr, hm1, hm2⟩ := moved_ev l hU hl on j hj.1 (by have := hj.2.2; omega)
    refine EvP.bindE hm1 ?_
    have done : ∀ next', Better l next next' → (∀ f sc, nextL l j.1 (bases l (bitsL on l.length)) = some (f, sc) → CovJ l next' f (j.2.1 + sc + r.2.1)) → DoneJ l d now next' on (x + 1) := by
      intro next' hb hnew r' hr' hz m j' hm hj' f sc hf
      obtain rfl : r' = r := Ev.det hr' hr
      by_cases e : (m : Int) = x
      · have : j' = j := by
          rw [show x.toNat = m by omega, hj'] at hjs
          exact Option.some.inj hjs
        subst this
        exact hnew f sc hf
      · exact hb _ _ (hDx r' hr' hz m j' (by omega) hj' f sc hf)
    have go : ∀ next' mp', PInv l d now B next' mp' → Better l next next' → (∀ f sc, nextL l j.1 (bases l (bitsL on l.length)) = some (f, sc) → CovJ l next' f (j.2.1 + sc + r.2.1)) → next'.length ≤ next.length + 1 → EvP (fun k => commit_period.l9 k l now d on r.2.1 top on now (now.length : Int) (x + 1) next' mp') R := by
      intro next' mp' hI' hb hnew hl'
      exact ih (x + 1) next' mp' (by omega) (by omega) hI' (fun o o0 o1 => (hD o o0 o1).up hb) (done next' hb hnew) (by omega)
    cases hq : nextL l j.1 (bases l (bitsL on l.length)) with
    | none =>
      rw [hq] at hm2
      have hm2 : mr.2 = false := hm2
      refine EvP.neg (by rw [hm2]; simp) (go next mp hI (fun _ _ h => h) (fun f sc hf => by rw [hq] at hf; cases hf) (by omega))
    | some q =>
      obtain ⟨f0, sc0⟩ := q
      rw [hq] at hm2
      have hm2 : mr = (([] ++ cutL l f0, j.2.1 + sc0, 0, on), true) := hm2
      rw [List.nil_append] at hm2
      subst hm2
      obtain ⟨s1, s2, s3⟩ := nextL_ok l j.1 _ f0 sc0 hU hj.1 hq
      obtain ⟨k1, k2, k3⟩ := cutL_ok l f0 hU s1
      have hw : wrap64 (j.2.1 + sc0 + r.2.1) = j.2.1 + sc0 + r.2.1 := w64 (by have := hj.2.2; omega) (by have := hj.2.2; omega)
      have hkl := k1.len
      have hkey := key_ev (cutL l f0) k2 (by omega)
      have hc : MadeJ l d now (cutL l f0, j.2.1 + sc0 + r.2.1, x, on) ∧ JOk l (B + 4000000000000) (cutL l f0, j.2.1 + sc0 + r.2.1, x, on) := by
        refine ⟨⟨h0, j, f0, sc0, r, hjs, hr, hrp, hrt, hq, rfl, rfl⟩, k1, k2, ?_, ?_⟩
        · show -(B + 4000000000000) ≤ j.2.1 + sc0 + r.2.1
          have := hj.2.2; omega
        · show j.2.1 + sc0 + r.2.1 ≤ B + 4000000000000
          have := hj.2.2; omega
      have cov : ∀ next', CovJ l next' (cutL l f0) (j.2.1 + sc0 + r.2.1) → ∀ f sc, nextL l j.1 (bases l (bitsL on l.length)) = some (f, sc) → CovJ l next' f (j.2.1 + sc + r.2.1) := by
        intro next' hcv f sc hf
        rw [hq] at hf
        cases hf
        obtain ⟨y, hy, y1, y2⟩ := hcv
        exact ⟨y, hy, y1.trans k3, y2⟩
      refine EvP.pos rfl (EvP.bindE hkey ?_)
      show EvP (fun k => if ((mget mp (keyF 0 (cutL l f0))).isSome) = true then _ else _) R
      cases hg : mget mp (keyF 0 (cutL l f0)) with
      | some v =>
        obtain ⟨a1, a2, y, a3, a4⟩ := hI.mpOk _ v hg
        refine EvP.pos rfl (EvP.pos a1 (EvP.pos a2 ?_))
        show EvP (fun k => if wrap64 (j.2.1 + sc0 + r.2.1) < (rY12 next v).2.1 then _ else _) R
        rw [hw]
        refine EvP.ite (fun hlt' => EvP.pos a1 (EvP.pos a2 ?_)) (fun hlt' => ?_)
        · obtain ⟨n1, n2, n3⟩ := set_new hI hc hg rfl hlt'
          show EvP (fun k => commit_period.l9 k l now d on r.2.1 top on now (now.length : Int) (x + 1) (next.set v.toNat (cutL l f0, j.2.1 + sc0 + r.2.1, x, on)) mp) R
          exact go _ mp n1 n2 (cov _ n3) (by rw [List.length_set]; omega)
        · exact go next mp hI (fun _ _ h => h) (cov _ (keep_old hI hc hg rfl (by show _ ≤ j.2.1 + sc0 + r.2.1; omega))) (by omega)
      | none =>
        refine EvP.neg (by simp) (EvP.bindE hkey (EvP.pos (by rw [List.length_singleton]; omega) ?_))
        obtain ⟨n1, n2, n3⟩ := add_new hI hc
        show EvP (fun k => commit_period.l9 k l now d on r.2.1 top on now (now.length : Int) (x + 1) (next ++ [(cutL l f0, wrap64 (j.2.1 + sc0 + r.2.1), x, on)]) (mput mp (keyF 0 (cutL l f0)) (next.length : Int))) R
        rw [hw]
        exact go _ _ n1 n2 (cov _ n3) (by rw [List.length_append, List.length_singleton]; omega)
structure PerP (l : List Un) (d : Int) (now : List Jt) (B : Int) (next : List Jt) : Prop where
  ok : ∀ c ∈ next, MadeJ l d now c ∧ JOk l (B + 4000000000000) c
  cov : ∀ o, 0 ≤ o → o < powT l.length → DoneJ l d now next o now.length
  len : (next.length : Int) ≤ (now.length : Int) * 8
theorem per_outer (hU : UnitsOk l) (hl : l.length ≤ 3) (hd : 0 ≤ d ∧ d ≤ 1000000) (hB : 0 ≤ B ∧ B ≤ 40000000000000) (hnow : ∀ j ∈ now, JOk l B j) (hnl : now.length ≤ 100000000) : ∀ (n : Nat) (on : Int) (next : List Jt) (mp : List (Int × Int)), 0 ≤ on → powT l.length - on = n → PInv l d now B next mp → (∀ o, 0 ≤ o → o < on → DoneJ l d now next o now.length) → (next.length : Int) ≤ (now.length : Int) * on → EvP (fun k => commit_period.l4 k l now d (powT l.length) on next mp) (PerP l d now B) := by
  have hp := powT_rng l.length hl
  intro n
  induction n with
  | zero =>
    intro on next mp h0 h1 hI hD hlen
    refine EvP.step (fun k => commit_period.l4_eq k _ _ _ _ _ _ _) (EvP.neg (by omega) (EvP.ret ⟨hI.ok, fun o o0 o1 => hD o o0 (by omega), ?_⟩))
    have := Int.mul_le_mul_of_nonneg_left (show on ≤ 8 by omega) (show (0 : Int) ≤ (now.length : Int) by omega)
    omega
  | succ n ih =>
    intro on next mp h0 h1 hI hD hlen
    refine EvP.step (fun k => commit_period.l4_eq k _ _ _ _ _ _ _) (EvP.pos (by omega) (EvP.bindE (bools_ev on l.length hl) ?_))
    obtain ⟨r, hr1, hr2⟩ := serve_ev l hU hl (bitsL on l.length) (bitsL_len on l.length) d hd
    refine EvP.bindE hr1 (EvP.ite (fun hz => ?_) (fun hz => ?_))
    · refine per_inner hU hl hB hnow hnl on ⟨h0, by omega⟩ _ hr1 hr2 hz _ (fun next' mp' i1 i2 i3 => ih (on + 1) next' mp' (by omega) (by omega) i1 i2 i3) now.length 0 next mp (by omega) (by omega) hI hD (fun _ _ _ m j hm => by omega) (by omega)
    · rw [w64 (x := on + 1) (by omega) (by omega)]
      refine ih (on + 1) next mp (by omega) (by omega) hI (fun o o0 o1 => ?_) (by rw [Int.mul_add]; omega)
      by_cases e : o = on
      · subst e
        intro r' hr' hz'
        obtain rfl := Ev.det hr' hr1
        exact absurd hz' hz
      · exact hD o o0 (by omega)
theorem period_ev (hU : UnitsOk l) (hl : l.length ≤ 3) (hd : 0 ≤ d ∧ d ≤ 1000000) (hB : 0 ≤ B ∧ B ≤ 40000000000000) (hnow : ∀ j ∈ now, JOk l B j) (hnl : now.length ≤ 100000000) : EvP (fun k => commit_period.f k l now d) (PerP l d now B) := by
  unfold commit_period.f
  rw [shl_ev l.length hl]
  have hp := powT_rng l.length hl
  exact EvP.pos (by omega) (per_outer hU hl hd hB hnow hnl (powT l.length).toNat 0 [] [] (by omega) (by omega) ⟨(fun c h => by cases h), fun k v h => by cases h⟩ (fun o o0 o1 => by omega) (by simp))
end
end Go.Proofs.Ytodagcbcdkfniaa.VE
