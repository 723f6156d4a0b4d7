import Derived.Test.YtodagcbcdkfniaaVpPOff
namespace Go.Proofs.Ytodagcbcdkfniaa.VE
open Go Go.RowKit
set_option linter.unusedVariables false
attribute [local irreducible] wrap64
/-! package unit: named (no statement is proved here) -/
theorem unit_named_loop (s : ByteArray) (hs : s.size ≤ 140737488351232) : ∀ (d : Nat) (i : Int), 0 ≤ i → (s.size : Int) - i ≤ d → EvP (fun k => unit_named.l4 k s (s.size : Int) i) (fun _ => True) := by
  intro d
  induction d with
  | zero =>
    intro i h0 h1
    exact EvP.step (fun k => unit_named.l4_eq k _ _ _) (EvP.neg (by omega) (EvP.ret trivial))
  | succ d ih =>
    intro i h0 h1
    refine EvP.step (fun k => unit_named.l4_eq k _ _ _) (EvP.ite (fun h => ?_) (fun h => EvP.ret trivial))
    rw [w64 (x := i + 1) (by omega) (by omega)]
    have h3 := ih (i + 1) (by omega) (by omega)
    repeat' first
      | exact h3
      | exact EvP.ret trivial
      | (exact EvP.no (by omega))
      | refine EvP.ite (fun h => ?_) (fun h => ?_)
theorem unit_named_some (s : ByteArray) (hs : s.size ≤ 140737488351232) : EvP (fun k => unit_named.f k s) (fun _ => True) := by
  have h3 := unit_named_loop s hs (s.size) 0 (by omega) (by omega)
  have hz : s ≠ ByteArray.empty → 0 < s.size := fun h => by
    rcases Nat.eq_zero_or_pos s.size with h0 | h0
    · exact absurd (ByteArray.size_eq_zero_iff.1 h0) h
    · exact h0
  unfold unit_named.f
  repeat' first
    | exact h3
    | exact EvP.ret trivial
    | (exact EvP.no (by omega))
    | (exact EvP.no (by have := hz (by assumption); omega))
    | refine EvP.ite (fun h => ?_) (fun h => ?_)
/-! ### package unit: Check, CheckState, Next (no statement is proved here) -/
abbrev Rl := ByteArray × Int × Int × Int × Int × Int × Int × Int
abbrev Us := Bool × Int × Int
structure RuleOk (r : Rl) : Prop where
  le0 : 0 ≤ r.2.1
  le1 : r.2.1 ≤ r.2.2.1
  mo : r.2.2.1 ≤ 100000
  up0 : 1 ≤ r.2.2.2.1
  up1 : r.2.2.2.1 ≤ 100000
  dn0 : 1 ≤ r.2.2.2.2.1
  dn1 : r.2.2.2.2.1 ≤ 100000
  on0 : 1 ≤ r.2.2.2.2.2.1
  on1 : r.2.2.2.2.2.1 ≤ 24
  off0 : 1 ≤ r.2.2.2.2.2.2.1
  off1 : r.2.2.2.2.2.2.1 ≤ 24
  st0 : 0 ≤ r.2.2.2.2.2.2.2
  st1 : r.2.2.2.2.2.2.2 ≤ 1000000
structure StateOk (r : Rl) (s : Us) : Prop where
  t0 : 1 ≤ s.2.1
  t1 : s.2.1 ≤ 200000
  on : s.1 = true → r.2.1 ≤ s.2.2 ∧ s.2.2 ≤ r.2.2.1
  off : s.1 = false → s.2.2 = 0
theorem ucheck_ev (r : Rl) (hs : r.1.size ≤ 140737488351232) : EvP (fun k => unit_Check.f k r) (fun e => (e = 0 → Ev (fun k => unit_named.f k r.1) true ∧ RuleOk r) ∧ (Ev (fun k => unit_named.f k r.1) true → RuleOk r → e = 0)) := by
  unfold unit_Check.f
  obtain ⟨b, hb, _⟩ := unit_named_some r.1 hs
  refine EvP.bindE hb ?_
  cases b with
  | false => exact EvP.neg (by simp) (EvP.ret ⟨fun h => absurd h (by decide), fun h _ => absurd (Ev.det hb h) (by simp)⟩)
  | true =>
    refine EvP.pos rfl ?_
    iterate 13 (refine EvP.ite (fun h => EvP.ret ⟨fun h => absurd h (by decide), fun _ k => by have := k.le0; have := k.le1; have := k.mo; have := k.up0; have := k.up1; have := k.dn0; have := k.dn1; have := k.on0; have := k.on1; have := k.off0; have := k.off1; have := k.st0; have := k.st1; omega⟩) (fun _ => ?_))
    exact EvP.ret ⟨fun _ => ⟨hb, ⟨by omega, by omega, by omega, by omega, by omega, by omega, by omega, by omega, by omega, by omega, by omega, by omega, by omega⟩⟩, fun _ _ => rfl⟩
theorem ustate_ev (r : Rl) (hs : r.1.size ≤ 140737488351232) (s : Us) : EvP (fun k => unit_CheckState.f k r s) (fun e => (e = 0 → Ev (fun k => unit_named.f k r.1) true ∧ RuleOk r ∧ StateOk r s) ∧ (Ev (fun k => unit_named.f k r.1) true → RuleOk r → StateOk r s → e = 0)) := by
  unfold unit_CheckState.f
  refine EvP.bind (ucheck_ev r hs) (fun e he => EvP.ite (fun hz => ?_) (fun hz => EvP.ret ⟨fun h => absurd h hz, fun a b _ => he.2 a b⟩))
  obtain ⟨h1, h2⟩ := he.1 hz
  obtain ⟨o, t, q⟩ := s
  refine EvP.ite (fun c => EvP.ret ⟨fun h => absurd h (by decide), fun _ _ k => by have := k.t0; omega⟩) (fun c1 => ?_)
  refine EvP.ite (fun c => EvP.ret ⟨fun h => absurd h (by decide), fun _ _ k => by have := k.t1; omega⟩) (fun c2 => ?_)
  have c1 : ¬ t < 1 := c1
  have c2 : ¬ 200000 < t := c2
  cases o with
  | true =>
    refine EvP.pos rfl ?_
    refine EvP.ite (fun c => EvP.ret ⟨fun h => absurd h (by decide), fun _ _ k => by have := k.on rfl; omega⟩) (fun c3 => ?_)
    refine EvP.ite (fun c => EvP.ret ⟨fun h => absurd h (by decide), fun _ _ k => by have := k.on rfl; omega⟩) (fun c4 => ?_)
    refine EvP.pos rfl (EvP.ret ⟨fun _ => ⟨h1, h2, by show 1 ≤ t; omega, by show t ≤ 200000; omega, fun _ => by constructor <;> omega, fun h => by cases h⟩, fun _ _ _ => rfl⟩)
  | false =>
    refine EvP.neg (by simp) (EvP.neg (by simp) ?_)
    refine EvP.ite (fun c => EvP.ret ⟨fun _ => ⟨h1, h2, by show 1 ≤ t; omega, by show t ≤ 200000; omega, (fun h => by cases h), fun _ => c⟩, fun _ _ _ => rfl⟩) (fun c => EvP.ret ⟨fun h => absurd h (by decide), fun _ _ k => absurd (k.off rfl) c⟩)
theorem ustate_yes {r : Rl} (hs : r.1.size ≤ 140737488351232) (hn : Ev (fun k => unit_named.f k r.1) true) (hr : RuleOk r) {s : Us} (h : StateOk r s) : Ev (fun k => unit_CheckState.f k r s) 0 := by
  obtain ⟨e, he, h1⟩ := ustate_ev r hs s
  rw [h1.2 hn hr h] at he
  exact he
/-- The next state, what a start costs, the error. -/
def nextU (r : Rl) (s : Us) (p : Int) : Us × Int × Int :=
  if p ≠ -1 ∧ (p < r.2.1 ∨ r.2.2.1 < p) then ((false, 0, 0), 0, 4)
  else if (s.1 = true ∧ p = -1 ∧ s.2.1 < r.2.2.2.2.2.1) ∨ (s.1 = false ∧ p ≠ -1 ∧ s.2.1 < r.2.2.2.2.2.2.1) then ((false, 0, 0), 0, 12)
  else if s.1 = true ∧ p ≠ -1 ∧ (s.2.2 + r.2.2.2.1 < p ∨ p < s.2.2 - r.2.2.2.2.1) then ((false, 0, 0), 0, 17)
  else if (s.1 = true ↔ p ≠ -1) then ((s.1, mn (s.2.1 + 1) 200000, mx p 0), 0, 0)
  else if p = -1 then ((false, 1, 0), 0, 0)
  else ((true, 1, p), r.2.2.2.2.2.2.2, 0)
theorem next_in {r : Rl} {s : Us} (h : Ev (fun k => unit_CheckState.f k r s) 0) (hr : RuleOk r) (hs : StateOk r s) (p : Int) : Ev (fun k => unit_Next.f k r s p) (nextU r s p) := by
  unfold unit_Next.f
  refine Ev.bind h (Ev.pos rfl ?_)
  obtain ⟨o, t, q⟩ := s
  have hq : 0 ≤ q ∧ q ≤ 100000 := by
    have := hr.le0; have := hr.mo
    cases o with
    | true => have := hs.on rfl; simp only at this; omega
    | false => have := hs.off rfl; simp only at this; omega
  have h0 := hs.t0; have h1 := hs.t1; have h2 := hr.up0; have h3 := hr.up1; have h4 := hr.dn0; have h5 := hr.dn1
  simp only at h0 h1
  have w1 : wrap64 (t + 1) = t + 1 := w64 (by omega) (by omega)
  have w2 : wrap64 (q + r.2.2.2.1) = q + r.2.2.2.1 := w64 (by omega) (by omega)
  have w3 : wrap64 (q - r.2.2.2.2.1) = q - r.2.2.2.2.1 := w64 (by omega) (by omega)
  refine Ev.congr (f := fun _ => some (nextU r (o, t, q) p)) (fun _ => ?_) (Ev.now _)
  unfold nextU
  simp only [w1, w2, w3]
  by_cases hp : p = -1
  · subst hp
    cases o
    · simp
    · by_cases c : t < r.2.2.2.2.2.1 <;> simp [c]
  · have hp' : decide (p = -1) = false := by simp [hp]
    by_cases c1 : p < r.2.1
    · cases o <;> simp [hp, c1]
    · by_cases c2 : r.2.2.1 < p
      · cases o <;> simp [hp, c1, c2]
      · cases o
        · by_cases c3 : t < r.2.2.2.2.2.2.1 <;> simp [hp, c1, c2, c3]
        · by_cases c4 : q + r.2.2.2.1 < p <;> by_cases c5 : p < q - r.2.2.2.2.1 <;> simp [hp, c1, c2, c4, c5]
theorem next_ok {r : Rl} (hr : RuleOk r) {s : Us} (hs : StateOk r s) {p : Int} (h : (nextU r s p).2.2 = 0) : StateOk r (nextU r s p).1 ∧ ((nextU r s p).1.1 = true ↔ p ≠ -1) ∧ (p = -1 ∨ r.2.1 ≤ p ∧ p ≤ r.2.2.1) ∧ 0 ≤ (nextU r s p).2.1 ∧ (nextU r s p).2.1 ≤ 1000000 := by
  have h0 := hs.t0; have h1 := hs.t1; have h2 := hr.le0; have h3 := hr.st0; have h4 := hr.st1
  obtain ⟨o, t, q⟩ := s
  unfold nextU at h ⊢
  simp only at h0 h1 h ⊢
  split at h
  · cases h
  · rename_i c1
    rw [if_neg c1]
    split at h
    · cases h
    · rename_i c2
      rw [if_neg c2]
      split at h
      · cases h
      · rename_i c3
        rw [if_neg c3]
        split
        · rename_i c4
          have hm := mn_le (t + 1) 200000
          have hx := mx_ge p 0
          refine ⟨⟨by show 1 ≤ mn (t + 1) 200000; omega, by show mn (t + 1) 200000 ≤ 200000; omega, fun ho => ?_, fun ho => ?_⟩, c4, by omega, (by show (0 : Int) ≤ 0; omega), (by show (0 : Int) ≤ 1000000; omega)⟩
          · have := c4.1 ho
            show _ ≤ mx p 0 ∧ mx p 0 ≤ _
            omega
          · have : p = -1 := Classical.byContradiction fun hc => by
              have := c4.2 hc
              simp only at ho
              rw [ho] at this; cases this
            show mx p 0 = 0
            unfold mx; rw [if_pos (by omega)]
        · rename_i c4
          split
          · rename_i c5
            exact ⟨⟨by show (1 : Int) ≤ 1; omega, by show (1 : Int) ≤ 200000; omega, (fun ho => by cases ho), fun _ => rfl⟩, by simp [c5], Or.inl c5, by simp, by simp⟩
          · rename_i c5
            refine ⟨⟨by show (1 : Int) ≤ 1; omega, by show (1 : Int) ≤ 200000; omega, fun _ => ?_, (fun ho => by cases ho)⟩, by simp [c5], by omega, h3, h4⟩
            show _ ≤ p ∧ p ≤ _
            omega
end Go.Proofs.Ytodagcbcdkfniaa.VE
