import Derived.Test.YtodagcbcdkfniaaVpPDuS
namespace Go.Proofs.Ytodagcbcdkfniaa.VE
open Go Go.RowKit
set_option linter.unusedVariables false
attribute [local irreducible] wrap64
/-! ### package dual: put, Single (no statement is proved here) -/
structure PutP (l : List Cl) (c : Cl) (r : List Cl) : Prop where
  len0 : 0 < r.length
  len1 : r.length ≤ l.length + 1
  mem : ∀ x ∈ r, x ∈ l ∨ x = c
  cov : ∀ x, x ∈ l ∨ x = c → ∃ y ∈ r, y.1.1 = x.1.1 ∧ y.1.2.1 = x.1.2.1 ∧ x.2.1 ≤ y.2.1
theorem mem_set_ne {α : Type} {l : List α} {i : Nat} {x c : α} (hx : x ∈ l) : x ∈ l.set i c ∨ l[i]? = some x := by
  obtain ⟨j, hj, rfl⟩ := List.mem_iff_getElem.1 hx
  by_cases h : i = j
  · subst h; exact Or.inr (List.getElem?_eq_getElem hj)
  · refine Or.inl (List.mem_iff_getElem.2 ⟨j, by rw [List.length_set]; exact hj, ?_⟩)
    rw [List.getElem_set_ne h]
theorem put_loop (l : List Cl) (hl : l.length ≤ 100000) (c : Cl) : ∀ (n : Nat) (x : Int), 0 ≤ x → (l.length : Int) - x = n → EvP (fun k => dual_put.l2 k (l.length : Int) x l c.1.1 c.1.2.1 c.1.2.2 c.2.1 c.2.2) (PutP l c) := by
  intro n
  induction n with
  | zero =>
    intro x h0 h1
    refine EvP.step (fun k => dual_put.l2_eq k _ _ _ _ _ _ _ _) (EvP.neg (by omega) (EvP.pos (by show (l.length + 1) * 40 ≤ _; omega) (EvP.ret ⟨by simp, by simp, fun y hy => ?_, fun y hy => ?_⟩)))
    · rcases List.mem_append.1 hy with hy | hy
      · exact Or.inl hy
      · exact Or.inr (List.mem_singleton.1 hy)
    · rcases hy with hy | rfl
      · exact ⟨y, List.mem_append_left _ hy, rfl, rfl, Int.le_refl _⟩
      · exact ⟨y, List.mem_append_right _ (List.mem_singleton.2 rfl), rfl, rfl, Int.le_refl _⟩
  | succ n ih =>
    intro x h0 h1
    have hlt : x < (l.length : Int) := by omega
    have hm := rY11_mem h0 hlt
    have hg := rY11_some h0 hlt
    have rest : EvP (fun k => dual_put.l2 k (l.length : Int) (wrap64 (x + 1)) l c.1.1 c.1.2.1 c.1.2.2 c.2.1 c.2.2) (PutP l c) := by
      rw [w64 (x := x + 1) (by omega) (by omega)]
      exact ih (x + 1) (by omega) (by omega)
    refine EvP.step (fun k => dual_put.l2_eq k _ _ _ _ _ _ _ _) (EvP.pos hlt (EvP.pos h0 (EvP.pos hlt ?_)))
    refine EvP.ite (fun c1 => EvP.ite (fun c2 => EvP.ite (fun c3 => EvP.pos h0 (EvP.pos hlt (EvP.ret ?_))) (fun c3 => EvP.ret ?_)) (fun _ => rest)) (fun _ => rest)
    · refine ⟨by rw [List.length_set]; omega, by rw [List.length_set]; omega, fun y hy => ?_, fun y hy => ?_⟩
      · exact (List.mem_or_eq_of_mem_set hy).imp id id
      · have hc : c ∈ l.set x.toNat c := List.mem_iff_getElem.2 ⟨x.toNat, by rw [List.length_set]; omega, by simp⟩
        rcases hy with hy | rfl
        · rcases mem_set_ne (i := x.toNat) (c := c) hy with h | h
          · exact ⟨y, h, rfl, rfl, Int.le_refl _⟩
          · rw [hg] at h
            have e := Option.some.inj h
            rw [e] at c1 c2 c3
            exact ⟨c, hc, c1.symm, c2.symm, by omega⟩
        · exact ⟨y, hc, rfl, rfl, Int.le_refl _⟩
    · refine ⟨by omega, by omega, fun y hy => Or.inl hy, fun y hy => ?_⟩
      rcases hy with hy | rfl
      · exact ⟨y, hy, rfl, rfl, Int.le_refl _⟩
      · exact ⟨_, hm, c1, c2, by omega⟩
theorem put_ev (l : List Cl) (hl : l.length ≤ 100000) (c : Cl) : EvP (fun k => dual_put.f k c l) (PutP l c) := put_loop l hl c l.length 0 (by omega) (by omega)
/-- There is a cell as good as that. -/
def Cov (r : Rl) (l : List Cl) (s : Us) (v : Int) : Prop := ∃ y ∈ l, SameS r y.1 s ∧ v ≤ y.2.1
theorem same_key {r : Rl} {a b : Us} (h1 : a.1 = b.1) (h2 : a.2.1 = b.2.1) : SameS r a b := ⟨h1, by rw [h1, h2]⟩
theorem Cov.put {r : Rl} {l l' : List Cl} {c : Cl} (hp : PutP l c l') {s : Us} {v : Int} (h : Cov r l s v) : Cov r l' s v := by
  obtain ⟨y, hy, h1, h2⟩ := h
  obtain ⟨z, hz, k1, k2, k3⟩ := hp.cov y (Or.inl hy)
  exact ⟨z, hz, (same_key k1 k2).trans h1, by omega⟩
theorem Cov.new {r : Rl} {l l' : List Cl} {c : Cl} (hp : PutP l c l') {s : Us} (h : SameS r c.1 s) : Cov r l' s c.2.1 := by
  obtain ⟨z, hz, k1, k2, k3⟩ := hp.cov c (Or.inr rfl)
  exact ⟨z, hz, (same_key k1 k2).trans h, k3⟩
section
variable {u : Un}
def CellOk (u : Un) (t : Int) (m : Int) (c : Cl) : Prop := StateOk u.1 c.1 ∧ (-(2000000000000 * t) ≤ c.2.1 ∧ c.2.1 ≤ 2000000000000 * t) ∧ 0 ≤ c.2.2 ∧ c.2.2 < m
theorem CellOk.put {t m : Int} {l l' : List Cl} {c : Cl} (hp : PutP l c l') (hl : ∀ x ∈ l, CellOk u t m x) (hc : CellOk u t m c) : ∀ x ∈ l', CellOk u t m x := fun x hx => by
  rcases hp.mem x hx with h | rfl
  · exact hl x h
  · exact hc
/-- The states that follow one. -/
structure Cover (u : Un) (n e : Int) (l : List Cl) (c : Cl) : Prop where
  off : (nextU u.1 c.1 (-1)).2.2 = 0 → Cov u.1 l (nextU u.1 c.1 (-1)).1 c.2.1
  on : (nextU u.1 c.1 n).2.2 = 0 → Cov u.1 l (nextU u.1 c.1 n).1 (c.2.1 + e - (nextU u.1 c.1 n).2.1)
theorem Cover.put {n e : Int} {l l' : List Cl} {c x : Cl} (hp : PutP l x l') (h : Cover u n e l c) : Cover u n e l' c := ⟨fun k => (h.off k).put hp, fun k => (h.on k).put hp⟩
structure NextI (u : Un) (n e t : Int) (prev : List Cl) (x : Int) (next : List Cl) : Prop where
  len : (next.length : Int) ≤ 2 * x
  ne : 0 < x → 0 < next.length
  ok : ∀ c ∈ next, CellOk u (t + 1) prev.length c
  cov : ∀ (j : Nat) c, (j : Int) < x → prev[j]? = some c → Cover u n e next c
abbrev Sg14 (u : Un) (k : Nat) (p1 p : List Int) (L t : Int) (rows : List (List Cl)) := dual_Single.l14 k p1 p L t u.1.1 u.1.2.1 u.1.2.2.1 u.1.2.2.2.1 u.1.2.2.2.2.1 u.1.2.2.2.2.2.1 u.1.2.2.2.2.2.2.1 u.1.2.2.2.2.2.2.2 u.2.1.1 u.2.1.2 u.2.2.1 u.2.2.2.1 u.2.2.2.2 rows
abbrev Sg19 (u : Un) (k : Nat) (p1 : List Int) (n e : Int) (p : List Int) (L t : Int) (prev : List Cl) (M x : Int) (rows : List (List Cl)) (next : List Cl) := dual_Single.l19 k p1 n e p L t prev M x u.1.1 u.1.2.1 u.1.2.2.1 u.1.2.2.2.1 u.1.2.2.2.2.1 u.1.2.2.2.2.2.1 u.1.2.2.2.2.2.2.1 u.1.2.2.2.2.2.2.2 u.2.1.1 u.2.1.2 u.2.2.1 u.2.2.2.1 u.2.2.2.2 rows next
theorem cell_loop (h : UnitOk u) (p1 p : List Int) (n e t : Int) (hn : u.1.2.1 ≤ n ∧ n ≤ u.1.2.2.1) (he : -1400000000000 ≤ e ∧ e ≤ 1400000000000) (ht : 0 ≤ t ∧ t ≤ 8) (L : Int) (prev : List Cl) (hpl : prev.length ≤ 1000) (hprev : ∀ c ∈ prev, StateOk u.1 c.1 ∧ (-(2000000000000 * t) ≤ c.2.1 ∧ c.2.1 ≤ 2000000000000 * t)) (rows : List (List Cl)) (hrows : rows.length ≤ 1000) (Q : List Int × Int × Int → Prop)
    (cont : ∀ next, NextI u n e t prev prev.length next → EvP (fun k => Sg14 u k p1 p L (wrap64 (t + 1)) (rows ++ [next])) Q) : ∀ (d : Nat) (x : Int) (next : List Cl), 0 ≤ x → (prev.length : Int) - x = d → NextI u n e t prev x next → EvP (fun k => Sg19 u k p1 n e p L t prev (prev.length : Int) x rows next) Q := by
  intro d
  induction d with
  | zero =>
    intro x next h0 h1 hI
    obtain rfl : x = (prev.length : Int) := by omega
    refine EvP.step (fun k => dual_Single.l19_eq k _ _ _ _ _ _ _ _ _ _ _ _ _ _ _ _ _ _ _ _ _ _ _ _) (EvP.neg (by omega) (EvP.pos (by show (rows.length + 1) * 24 ≤ _; omega) ?_))
    exact cont next hI
  | succ d ih =>
    intro x next h0 h1 hI
    have hlt : x < (prev.length : Int) := by omega
    have hm := rY11_mem h0 hlt
    have hg := rY11_some h0 hlt
    obtain ⟨c, hc⟩ : ∃ c, c = rY11 prev x := ⟨_, rfl⟩
    rw [← hc] at hm hg
    obtain ⟨hst, hcv⟩ := hprev c hm
    have w1 : wrap64 (x + 1) = x + 1 := w64 (by omega) (by omega)
    -- the second half
    have second : ∀ next', (next'.length : Int) ≤ 2 * x + 1 → (∀ y ∈ next', CellOk u (t + 1) prev.length y) → (∀ (j : Nat) y, (j : Int) < x → prev[j]? = some y → Cover u n e next' y) → ((nextU u.1 c.1 (-1)).2.2 = 0 → 0 < next'.length ∧ Cov u.1 next' (nextU u.1 c.1 (-1)).1 c.2.1) →
        EvP (fun k => dual_Single.l24 k p1 n e x p L t prev (prev.length : Int) x u.1.1 u.1.2.1 u.1.2.2.1 u.1.2.2.2.1 u.1.2.2.2.2.1 u.1.2.2.2.2.2.1 u.1.2.2.2.2.2.2.1 u.1.2.2.2.2.2.2.2 u.2.1.1 u.2.1.2 u.2.2.1 u.2.2.2.1 u.2.2.2.2 rows next' c.1.1 c.1.2.1 c.1.2.2 c.2.1 c.2.2) Q := by
      intro next' hl hok hcov hoff
      refine EvP.step (fun k => dual_Single.l24_eq k _ _ _ _ _ _ _ _ _ _ _ _ _ _ _ _ _ _ _ _ _ _ _ _ _ _ _ _ _ _) (EvP.bindE (next_ev h hst n) ?_)
      rw [w1]
      refine EvP.ite (fun hz => ?_) (fun hz => ?_)
      · have hz : (nextU u.1 c.1 n).2.2 = 0 := hz
        obtain ⟨k1, k2, _, k3, k4⟩ := next_ok h.rule hst hz
        have w2 : wrap64 (c.2.1 + e) = c.2.1 + e := w64 (by omega) (by omega)
        have w3 : wrap64 (c.2.1 + e - (nextU u.1 c.1 n).2.1) = c.2.1 + e - (nextU u.1 c.1 n).2.1 := w64 (by omega) (by omega)
        refine EvP.bindE (cut_ev (u := u) (nextU u.1 c.1 n).1) ?_
        rw [w2, w3]
        refine EvP.bind (put_ev next' (by omega) (cutU u.1 (nextU u.1 c.1 n).1, c.2.1 + e - (nextU u.1 c.1 n).2.1, x)) (fun r hr => ?_)
        refine ih (x + 1) r (by omega) (by omega) ⟨?_, fun _ => hr.len0, CellOk.put hr hok ⟨cut_ok h.rule k1, ?_, h0, hlt⟩, fun j y hj hy => ?_⟩
        · have := hr.len1; omega
        · show -(2000000000000 * (t + 1)) ≤ c.2.1 + e - (nextU u.1 c.1 n).2.1 ∧ c.2.1 + e - (nextU u.1 c.1 n).2.1 ≤ 2000000000000 * (t + 1)
          omega
        · by_cases hjx : (j : Int) < x
          · exact (hcov j y hjx hy).put hr
          · have : j = x.toNat := by omega
            subst this
            rw [hg] at hy
            obtain rfl := Option.some.inj hy
            exact ⟨fun hz' => (hoff hz').2.put hr, fun _ => Cov.new hr (cut_same _ _)⟩
      · have hz : ¬ (nextU u.1 c.1 n).2.2 = 0 := hz
        have hco : c.1.1 = false := by
          obtain ⟨⟨o, tt, q⟩, v, b⟩ := c
          cases o with
          | false => rfl
          | true =>
            rw [next_stay h hst hn.1 hn.2] at hz
            exact absurd rfl hz
        have hoz : (nextU u.1 c.1 (-1)).2.2 = 0 := by
          obtain ⟨⟨o, tt, q⟩, v, b⟩ := c
          simp only at hco
          subst hco
          rw [next_off]
        refine ih (x + 1) next' (by omega) (by omega) ⟨by omega, fun _ => (hoff hoz).1, hok, fun j y hj hy => ?_⟩
        by_cases hjx : (j : Int) < x
        · exact hcov j y hjx hy
        · have : j = x.toNat := by omega
          subst this
          rw [hg] at hy
          obtain rfl := Option.some.inj hy
          exact ⟨fun hz' => (hoff hz').2, fun hz' => absurd hz' hz⟩
    refine EvP.step (fun k => dual_Single.l19_eq k _ _ _ _ _ _ _ _ _ _ _ _ _ _ _ _ _ _ _ _ _ _ _ _) (EvP.pos hlt (EvP.pos h0 (EvP.pos hlt ?_)))
    rw [← hc]
    refine EvP.bindE (next_ev h hst (-1)) ?_
    have hlen := hI.len
    refine EvP.ite (fun hz => ?_) (fun hz => ?_)
    · have hz : (nextU u.1 c.1 (-1)).2.2 = 0 := hz
      obtain ⟨k1, k2, _, k3, k4⟩ := next_ok h.rule hst hz
      refine EvP.bindE (cut_ev (u := u) (nextU u.1 c.1 (-1)).1) ?_
      refine EvP.bind (put_ev next (by omega) (cutU u.1 (nextU u.1 c.1 (-1)).1, c.2.1, x)) (fun r hr => ?_)
      refine second r (by have := hr.len1; omega) (CellOk.put hr hI.ok ⟨cut_ok h.rule k1, ?_, h0, hlt⟩) (fun j y hj hy => (hI.cov j y hj hy).put hr) (fun _ => ⟨hr.len0, Cov.new hr (cut_same _ _)⟩)
      show -(2000000000000 * (t + 1)) ≤ c.2.1 ∧ c.2.1 ≤ 2000000000000 * (t + 1)
      omega
    · exact second next (by omega) hI.ok hI.cov (fun hz' => absurd hz' hz)
end
end Go.Proofs.Ytodagcbcdkfniaa.VE
