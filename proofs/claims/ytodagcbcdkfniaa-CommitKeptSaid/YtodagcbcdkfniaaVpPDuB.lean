import Derived.Test.YtodagcbcdkfniaaVpPDuS3
namespace Go.Proofs.Ytodagcbcdkfniaa.VE
open Go Go.RowKit
set_option linter.unusedVariables false
attribute [local irreducible] wrap64
/-! ### package dual: CheckAll, Bound (no statement is proved here) -/
def DmOk (dm : List Int) : Prop := ∀ x ∈ dm, 0 ≤ x ∧ x ≤ 1000000
theorem dm_loop (dm : List Int) (hl : dm.length ≤ 1000) : ∀ (n : Nat) (i : Int), 0 ≤ i → (dm.length : Int) - i = n → EvP (fun k => dual_CheckAll.l17 k dm (dm.length : Int) i) (fun e => e = 0 ↔ DmOk (dm.drop i.toNat)) := by
  intro n
  induction n with
  | zero =>
    intro i h0 h1
    rw [drop_end (by omega)]
    exact EvP.step (fun k => dual_CheckAll.l17_eq k _ _ _) (EvP.neg (by omega) (EvP.ret ⟨fun _ x hx => (by cases hx), fun _ => rfl⟩))
  | succ n ih =>
    intro i h0 h1
    have hlt : i < (dm.length : Int) := by omega
    rw [rI64_drop h0 hlt]
    refine EvP.step (fun k => dual_CheckAll.l17_eq k _ _ _) (EvP.pos hlt (EvP.pos h0 (EvP.pos hlt ?_)))
    refine EvP.ite (fun c => EvP.ret ⟨fun h => absurd h (by decide), fun h => by have := h (rI64 dm i) (by simp); omega⟩) (fun c1 => ?_)
    refine EvP.ite (fun c => EvP.ret ⟨fun h => absurd h (by decide), fun h => by have := h (rI64 dm i) (by simp); omega⟩) (fun c2 => ?_)
    rw [w64 (x := i + 1) (by omega) (by omega)]
    refine (ih (i + 1) (by omega) (by omega)).mono (fun e he => he.trans ⟨fun h x hx => ?_, fun h x hx => h x (by simp [hx])⟩)
    rcases List.mem_cons.1 hx with rfl | hx
    · omega
    · exact h x hx
theorem dm_ev (dm : List Int) (hl : dm.length ≤ 1000) : EvP (fun k => dual_CheckAll.l17 k dm (dm.length : Int) 0) (fun e => e = 0 ↔ DmOk dm) := by
  have := dm_loop dm hl dm.length 0 (by omega) (by omega)
  rwa [show (0 : Int).toNat = 0 from rfl, List.drop_zero] at this
theorem twice_loop (l : List Un) (L : Int) (i : Int) (m : List Un) (hm : m.length ≤ 1000) (u : Un) : ∀ (n : Nat) (j : Int), 0 ≤ j → (m.length : Int) - j = n → ∃ tw : Bool, ∀ (dm : List Int) (r : Int), (tw = false → Ev (fun k => dual_CheckAll.l4 k l dm l L (wrap64 (i + 1))) r) → Ev (fun k => dual_CheckAll.l10 k l dm l L i m (m.length : Int) j u.1.1 u.1.2.1 u.1.2.2.1 u.1.2.2.2.1 u.1.2.2.2.2.1 u.1.2.2.2.2.2.1 u.1.2.2.2.2.2.2.1 u.1.2.2.2.2.2.2.2 u.2.1.1 u.2.1.2 u.2.2.1 u.2.2.2.1 u.2.2.2.2) (if tw = true then 7 else r) := by
  intro n
  induction n with
  | zero =>
    intro j h0 h1
    refine ⟨false, fun dm r h => ?_⟩
    rw [if_neg (by simp)]
    exact Ev.step (fun k => dual_CheckAll.l10_eq k _ _ _ _ _ _ _ _ _ _ _ _ _ _ _ _ _ _ _ _ _) (Ev.neg (by omega) (h rfl))
  | succ n ih =>
    intro j h0 h1
    have hlt : j < (m.length : Int) := by omega
    by_cases c : (rY10 m j).1.1 = u.1.1
    · refine ⟨true, fun dm r _ => ?_⟩
      rw [if_pos rfl]
      exact Ev.step (fun k => dual_CheckAll.l10_eq k _ _ _ _ _ _ _ _ _ _ _ _ _ _ _ _ _ _ _ _ _) (Ev.pos hlt (Ev.pos h0 (Ev.pos hlt (Ev.pos c (Ev.now _)))))
    · obtain ⟨tw, h⟩ := ih (j + 1) (by omega) (by omega)
      refine ⟨tw, fun dm r hr => Ev.step (fun k => dual_CheckAll.l10_eq k _ _ _ _ _ _ _ _ _ _ _ _ _ _ _ _ _ _ _ _ _) (Ev.pos hlt (Ev.pos h0 (Ev.pos hlt (Ev.neg c ?_))))⟩
      rw [w64 (x := j + 1) (by omega) (by omega)]
      exact h dm r hr
def SzL (l : List Un) : Prop := ∀ u ∈ l, SzU u
theorem units_loop (l : List Un) (hs : SzL l) (hl : l.length ≤ 3) : ∀ (n : Nat) (i : Int), 0 ≤ i → (l.length : Int) - i = n → ∃ e0 : Int, (e0 = 0 → ∀ u ∈ l.drop i.toNat, UnitOk u) ∧ ∀ dm e, Ev (fun k => dual_CheckAll.l17 k dm (dm.length : Int) 0) e → Ev (fun k => dual_CheckAll.l4 k l dm l (l.length : Int) i) (if e0 = 0 then e else e0) := by
  intro n
  induction n with
  | zero =>
    intro i h0 h1
    refine ⟨0, fun _ u hu => (by rw [drop_end (by omega)] at hu; cases hu), fun dm e he => ?_⟩
    exact Ev.step (fun k => dual_CheckAll.l4_eq k _ _ _ _ _) (Ev.neg (by omega) he)
  | succ n ih =>
    intro i h0 h1
    have hlt : i < (l.length : Int) := by omega
    obtain ⟨e1, g1, g2⟩ := dcheck_ev (hs _ (rY10_mem h0 hlt))
    obtain ⟨e2, k1, k2⟩ := ih (i + 1) (by omega) (by omega)
    obtain ⟨tw, t1⟩ := twice_loop l (l.length : Int) i (l.take i.toNat) (by rw [List.length_take]; omega) (rY10 l i) (l.take i.toNat).length 0 (by omega) (by omega)
    rw [w64 (x := i + 1) (by omega) (by omega)] at t1
    rw [rY10_drop h0 hlt]
    by_cases c : e1 = 0
    · subst c
      refine ⟨if tw = true then 7 else e2, fun hz u hu => ?_, fun dm e he => ?_⟩
      · cases tw with
        | true => rw [if_pos rfl] at hz; exact absurd hz (by decide)
        | false =>
          rcases List.mem_cons.1 hu with rfl | hu
          · exact g2 rfl
          · exact k1 (by simpa using hz) u hu
      · have := t1 dm _ (fun _ => k2 dm e he)
        refine Ev.step (fun k => dual_CheckAll.l4_eq k _ _ _ _ _) (Ev.pos hlt (Ev.pos h0 (Ev.pos hlt (Ev.bind g1 (Ev.pos rfl (Ev.pos (by omega) (Ev.pos h0 ?_)))))))
        cases tw with
        | true => simpa using this
        | false => simpa using this
    · refine ⟨e1, fun hz => absurd hz c, fun dm e he => ?_⟩
      rw [if_neg c]
      exact Ev.step (fun k => dual_CheckAll.l4_eq k _ _ _ _ _) (Ev.pos hlt (Ev.pos h0 (Ev.pos hlt (Ev.bind g1 (Ev.neg c (Ev.now _))))))
structure AllU (l : List Un) (dm : List Int) : Prop where
  len : l.length ≤ 3
  dlen : dm.length ≤ 8
  ok : ∀ u ∈ l, UnitOk u
  dms : DmOk dm
  any : ∀ dm' : List Int, dm'.length ≤ 8 → DmOk dm' → Ev (fun k => dual_CheckAll.f k l dm') 0
theorem all_ev (l : List Un) (hs : SzL l) (dm : List Int) : EvP (fun k => dual_CheckAll.f k l dm) (fun e => e = 0 → AllU l dm) := by
  unfold dual_CheckAll.f
  refine EvP.ite (fun c => EvP.ret (fun h => absurd h (by decide))) (fun c1 => ?_)
  refine EvP.ite (fun c => EvP.ret (fun h => absurd h (by decide))) (fun c2 => ?_)
  obtain ⟨e0, k1, k2⟩ := units_loop l hs (by omega) l.length 0 (by omega) (by omega)
  rw [show (0 : Int).toNat = 0 from rfl, List.drop_zero] at k1
  obtain ⟨e, he, hi⟩ := dm_ev dm (by omega)
  refine ⟨_, k2 dm e he, fun hz => ?_⟩
  have z0 : e0 = 0 := by
    apply Classical.byContradiction
    intro hc
    rw [if_neg hc] at hz
    exact hc hz
  rw [if_pos z0] at hz
  refine ⟨by omega, by omega, k1 z0, hi.1 hz, fun dm' hl' hd' => ?_⟩
  obtain ⟨e', he', hi'⟩ := dm_ev dm' (by omega)
  obtain rfl := hi'.2 hd'
  have := k2 dm' 0 he'
  rw [if_pos z0] at this
  exact Ev.neg (by omega) (Ev.neg (by omega) this)
/-! Bound -/
def dotL : List Int → List Int → Int
  | a :: as, b :: bs => a * b + dotL as bs
  | _, _ => 0
structure AllB (l : List Un) (dm p : List Int) : Prop extends AllU l dm where
  plen : p.length = dm.length
  inP : InP p
/-- What the generators earn at most. -/
def Earns (l : List Un) (p : List Int) (vs : List Int) : Prop := vs.length = l.length ∧ ∀ (j : Nat) u v, l[j]? = some u → vs[j]? = some v → ∀ ps s c, ps.length = p.length → runF u.1 u.2.2 ps = some (s, c) → valS u ps p - c ≤ v
structure BoundP (l : List Un) (dm p : List Int) (r : Int × Int) : Prop where
  bad : r.2 ≠ 0 → r.1 = 0
  all : r.2 = 0 → AllB l dm p
  val : r.2 = 0 → ∃ vs, Earns l p vs ∧ r.1 = dotL p dm - vs.sum
theorem bound_l15 (l : List Un) (dm p : List Int) (h : AllB l dm p) : ∀ (n : Nat) (i a : Int), 0 ≤ i → (l.length : Int) - i = n → -100000000000000 - 16000000000000 * i ≤ a → a ≤ 100000000000000 + 16000000000000 * i → EvP (fun k => dual_Bound.l15 k p a l (l.length : Int) i) (fun r => r.2 = 0 ∧ ∃ vs, Earns (l.drop i.toNat) p vs ∧ r.1 = a - vs.sum) := by
  have hl := h.len
  intro n
  induction n with
  | zero =>
    intro i a h0 h1 a0 a1
    rw [drop_end (by omega)]
    exact EvP.step (fun k => dual_Bound.l15_eq k _ _ _ _ _) (EvP.neg (by omega) (EvP.ret ⟨rfl, [], ⟨rfl, fun j u v hu => by simp at hu⟩, by simp⟩))
  | succ n ih =>
    intro i a h0 h1 a0 a1
    have hlt : i < (l.length : Int) := by omega
    have hu := h.ok _ (rY10_mem h0 hlt)
    rw [rY10_drop h0 hlt]
    refine EvP.step (fun k => dual_Bound.l15_eq k _ _ _ _ _) (EvP.pos hlt (EvP.pos h0 (EvP.pos hlt (EvP.bind (single_ev hu (by have := h.plen; have := h.dlen; omega) h.inP) (fun r hr => EvP.pos hr.err ?_)))))
    have hr2 := hr.rng
    rw [w64 (x := i + 1) (by omega) (by omega), w64 (x := a - r.2.1) (by omega) (by omega)]
    refine (ih (i + 1) _ (by omega) (by omega) (by omega) (by omega)).mono (fun q hq => ⟨hq.1, ?_⟩)
    obtain ⟨vs, v1, v2⟩ := hq.2
    refine ⟨r.2.1 :: vs, ⟨by simp [v1.1], fun j u v hu hv => ?_⟩, by rw [v2, List.sum_cons]; omega⟩
    cases j with
    | zero =>
      simp only [List.getElem?_cons_zero, Option.some.injEq] at hu hv
      subst hu hv
      exact hr.best
    | succ j =>
      simp only [List.getElem?_cons_succ] at hu hv
      exact v1.2 j u v hu hv
theorem bound_l8 (l : List Un) (dm p : List Int) (h : AllU l dm) (hp : p.length = dm.length) : ∀ (n : Nat) (i a : Int), 0 ≤ i → (dm.length : Int) - i = n → (∀ x ∈ p.take i.toNat, -2000000 ≤ x ∧ x ≤ 2000000) → -(2000000000000 * i) ≤ a → a ≤ 2000000000000 * i → EvP (fun k => dual_Bound.l8 k l p a dm (dm.length : Int) i) (fun r => (r.2 ≠ 0 → r.1 = 0) ∧ (r.2 = 0 → InP p ∧ ∃ vs, Earns l p vs ∧ r.1 = a + dotL (p.drop i.toNat) (dm.drop i.toNat) - vs.sum)) := by
  have hd := h.dlen
  intro n
  induction n with
  | zero =>
    intro i a h0 h1 ht a0 a1
    rw [List.take_of_length_le (by omega)] at ht
    rw [drop_end (xs := p) (by omega)]
    refine EvP.step (fun k => dual_Bound.l8_eq k _ _ _ _ _ _) (EvP.neg (by omega) ?_)
    refine (bound_l15 l dm p ⟨h, hp, ht⟩ l.length 0 a (by omega) (by omega) (by omega) (by omega)).mono (fun r hr => ⟨fun hn => absurd hr.1 hn, fun _ => ⟨ht, ?_⟩⟩)
    obtain ⟨vs, v1, v2⟩ := hr.2
    rw [show (0 : Int).toNat = 0 from rfl, List.drop_zero] at v1
    exact ⟨vs, v1, by rw [v2]; show _ = a + 0 - _; omega⟩
  | succ n ih =>
    intro i a h0 h1 ht a0 a1
    have hlt : i < (dm.length : Int) := by omega
    have hlp : i < (p.length : Int) := by omega
    have hdm := h.dms _ (rI64_mem h0 hlt)
    refine EvP.step (fun k => dual_Bound.l8_eq k _ _ _ _ _ _) (EvP.pos hlt (EvP.pos h0 (EvP.pos hlt (EvP.pos h0 (EvP.pos hlp ?_)))))
    refine EvP.ite (fun c => EvP.ret ⟨fun _ => rfl, fun h => absurd h (by decide)⟩) (fun c1 => EvP.pos h0 (EvP.pos hlp ?_))
    refine EvP.ite (fun c => EvP.ret ⟨fun _ => rfl, fun h => absurd h (by decide)⟩) (fun c2 => EvP.pos h0 (EvP.pos hlp ?_))
    have m := mul_abs (a := rI64 p i) (b := rI64 dm i) (A := 2000000) (B := 1000000) (by omega) (by omega) (by omega) (by omega)
    rw [w64 (x := i + 1) (by omega) (by omega), w64 (x := rI64 p i * rI64 dm i) (by omega) (by omega), w64 (x := a + _) (by omega) (by omega)]
    rw [rI64_drop h0 hlp, rI64_drop h0 hlt]
    refine (ih (i + 1) _ (by omega) (by omega) (fun x hx => ?_) (by omega) (by omega)).mono (fun r hr => ⟨hr.1, fun hz => ?_⟩)
    · have hil : i.toNat < p.length := by omega
      rw [show (i + 1).toNat = i.toNat + 1 by omega, List.take_succ_eq_append_getElem hil] at hx
      rcases List.mem_append.1 hx with hx | hx
      · exact ht x hx
      · rw [List.mem_singleton] at hx
        have := rI64_some h0 hlp
        rw [List.getElem?_eq_getElem hil] at this
        rw [hx, Option.some.inj this]; omega
    · obtain ⟨q, vs, v1, v2⟩ := hr.2 hz
      refine ⟨q, vs, v1, ?_⟩
      rw [v2]
      show _ = a + (rI64 p i * rI64 dm i + dotL _ _) - _
      omega
theorem bound_ev (l : List Un) (hs : SzL l) (dm p : List Int) : EvP (fun k => dual_Bound.f k l dm p) (BoundP l dm p) := by
  unfold dual_Bound.f
  refine EvP.bind (all_ev l hs dm) (fun e he => EvP.ite (fun hz => ?_) (fun hz => EvP.ret ⟨fun _ => rfl, fun h => absurd h hz, fun h => absurd h hz⟩))
  refine EvP.ite (fun c => ?_) (fun c => EvP.ret ⟨fun _ => rfl, fun h => absurd h (by decide), fun h => absurd h (by decide)⟩)
  have hA := he hz
  refine (bound_l8 l dm p hA (by omega) dm.length 0 0 (by omega) (by omega) (by simp) (by omega) (by omega)).mono (fun r hr => ⟨hr.1, fun hz => ⟨hA, by omega, (hr.2 hz).1⟩, fun hz => ?_⟩)
  obtain ⟨_, vs, v1, v2⟩ := hr.2 hz
  rw [show (0 : Int).toNat = 0 from rfl, List.drop_zero, List.drop_zero] at v2
  exact ⟨vs, v1, by rw [v2]; omega⟩
end Go.Proofs.Ytodagcbcdkfniaa.VE
