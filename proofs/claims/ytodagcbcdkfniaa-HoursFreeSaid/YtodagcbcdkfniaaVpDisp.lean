import Derived.Test.YtodagcbcdkfniaaVpOff
namespace Go.Proofs.Ytodagcbcdkfniaa.VE
open Go Go.RowKit
set_option linter.unusedVariables false
attribute [local irreducible] wrap64
/-! ### package dispatch: the walks (no statement is proved here) -/
abbrev Ofr := ByteArray × List Pc
theorem most_ev' {o : Ofr} (h : OkO o.2) : Ev (fun k => offer_Most.f k o) (total o.2) := by
  obtain ⟨s, ps⟩ := o
  exact most_ev h
theorem cost_ev' {o : Ofr} (hc : Ev (fun k => offer_Check.f k o) 0) (h : OkO o.2) (x : Int) : Ev (fun k => offer_Cost.f k o x) (if 0 ≤ x ∧ x ≤ total o.2 then (vAt o.2 x, 0) else (0, 4)) := by
  obtain ⟨s, ps⟩ := o
  exact cost_ev hc h x
theorem ocheck_ev' {o : Ofr} (hs : o.1.size ≤ 140737488351232) : EvP (fun k => offer_Check.f k o) (fun e => e = 0 → OkO o.2) := by
  obtain ⟨s, ps⟩ := o
  exact ocheck_ev s hs ps
def NamedO (l : List Ofr) : Prop := ∀ o ∈ l, o.1.size ≤ 140737488351232
/-- Valid offers. -/
def OffOk (l : List Ofr) : Prop := ∀ o ∈ l, Ev (fun k => offer_Check.f k o) 0 ∧ OkO o.2
def steps (l : List Ofr) : List Pc := l.flatMap (·.2)
theorem steps_cons (o : Ofr) (l : List Ofr) : steps (o :: l) = o.2 ++ steps l := rfl
theorem steps_nil : steps [] = [] := rfl
theorem OffOk.tail {o : Ofr} {l : List Ofr} (h : OffOk (o :: l)) : OffOk l := fun x hx => h x (by simp [hx])
theorem OffOk.nn {l : List Ofr} (h : OffOk l) : Nn (steps l) := fun p hp => by
  obtain ⟨o, ho, hp⟩ := List.mem_flatMap.1 hp
  exact (h o ho).2.nn p hp
theorem OffOk.pr {l : List Ofr} (h : OffOk l) : ∀ p ∈ steps l, (1 ≤ p.1 ∧ p.1 ≤ 100000) ∧ (-1000000 ≤ p.2 ∧ p.2 ≤ 1000000) := fun p hp => by
  obtain ⟨o, ho, hp⟩ := List.mem_flatMap.1 hp
  exact ⟨(h o ho).2.pw p hp, (h o ho).2.pr p hp⟩
theorem OffOk.top : ∀ {l : List Ofr}, OffOk l → total (steps l) ≤ 100000 * l.length
  | [], _ => by simp [steps, total]
  | o :: l, h => by
    have := OffOk.top h.tail
    have := (h o (by simp)).2.top
    rw [steps_cons, total_append, List.length_cons]; omega
theorem all_inner (l : List Ofr) (hl : l.length ≤ 1000) (L : Int) (i : Int) (h0 : 0 ≤ i) (hi : i < 1000) (m : List Ofr) (hm : m.length ≤ 1000) (s : ByteArray) (ps : List Pc) (Q : Int → Prop) (h7 : Q 7) (hk : EvP (fun k => offer_CheckAll.l4 k l l L (i + 1)) Q) : ∀ (n : Nat) (j : Int), 0 ≤ j → (m.length : Int) - j = n → EvP (fun k => offer_CheckAll.l10 k l l L i m (m.length : Int) j s ps) Q := by
  intro n
  induction n with
  | zero =>
    intro j h1 h2
    refine EvP.step (fun k => offer_CheckAll.l10_eq k _ _ _ _ _ _ _ _ _) (EvP.neg (by omega) ?_)
    rw [w64 (x := i + 1) (by omega) (by omega)]
    exact hk
  | succ n ih =>
    intro j h1 h2
    refine EvP.step (fun k => offer_CheckAll.l10_eq k _ _ _ _ _ _ _ _ _) (EvP.pos (by omega) (EvP.pos h1 (EvP.pos (by omega) (EvP.ite (fun _ => EvP.ret h7) (fun _ => ?_)))))
    rw [w64 (x := j + 1) (by omega) (by omega)]
    exact ih (j + 1) (by omega) (by omega)
theorem all_loop (l : List Ofr) (hn : NamedO l) (hl : l.length ≤ 10) : ∀ (n : Nat) (i : Int), 0 ≤ i → (l.length : Int) - i = n → EvP (fun k => offer_CheckAll.l4 k l l (l.length : Int) i) (fun e => (e = 0 → OffOk (l.drop i.toNat)) ∧ ((∀ o ∈ l.drop i.toNat, Ev (fun k => offer_Check.f k o) 0) → e = 0 ∨ e = 7)) := by
  intro n
  induction n with
  | zero =>
    intro i h0 h1
    rw [drop_end (by omega)]
    exact EvP.step (fun k => offer_CheckAll.l4_eq k _ _ _ _) (EvP.neg (by omega) (EvP.ret ⟨fun _ o ho => (by cases ho), fun _ => Or.inl rfl⟩))
  | succ n ih =>
    intro i h0 h1
    have hlt : i < (l.length : Int) := by omega
    have ih' := ih (i + 1) (by omega) (by omega)
    rw [rY1_drop h0 hlt]
    obtain ⟨e, he, hO⟩ := ocheck_ev' (hn _ (rY1_mem h0 hlt))
    refine EvP.step (fun k => offer_CheckAll.l4_eq k _ _ _ _) (EvP.pos hlt (EvP.pos h0 (EvP.pos hlt (EvP.bindE he ?_))))
    refine EvP.ite (fun hz => ?_) (fun hz => EvP.ret ⟨fun h => absurd h hz, fun h => absurd (Ev.det he (h _ (List.mem_cons_self ..))) hz⟩)
    subst hz
    refine EvP.pos (by omega) (EvP.pos h0 ?_)
    refine all_inner l (by omega) _ i h0 (by omega) _ (by rw [List.length_take]; omega) _ _ _ ⟨fun h => absurd h (by decide), fun _ => Or.inr rfl⟩ ?_ (l.take i.toNat).length 0 (by omega) (by omega)
    refine ih'.mono (fun e' h => ⟨fun hz o ho => ?_, fun ha => h.2 (fun o ho => ha o (List.mem_cons_of_mem _ ho))⟩)
    rcases List.mem_cons.1 ho with rfl | ho
    · exact ⟨he, hO rfl⟩
    · exact h.1 hz o ho
theorem all_ev (l : List Ofr) (hn : NamedO l) : EvP (fun k => offer_CheckAll.f k l) (fun e => (e = 0 → OffOk l ∧ l.length ≤ 10) ∧ ((∀ o ∈ l, Ev (fun k => offer_Check.f k o) 0) → l.length ≤ 10 → e = 0 ∨ e = 7)) := by
  unfold offer_CheckAll.f
  refine EvP.ite (fun h => EvP.ret ⟨fun h => absurd h (by decide), fun _ h' => by omega⟩) (fun h => ?_)
  have := all_loop l hn (by omega) l.length 0 (by omega) (by omega)
  rw [show (0 : Int).toNat = 0 from rfl, List.drop_zero] at this
  exact this.mono (fun e he => ⟨fun hz => ⟨he.1 hz, by omega⟩, fun ha _ => he.2 ha⟩)
theorem dsum_loop (l : List Ofr) (hl : l.length ≤ 10) : ∀ (n : Nat) (i a : Int), 0 ≤ i → (l.length : Int) - i = n → OffOk (l.drop i.toNat) → 0 ≤ a → a ≤ 100000 * i → Ev (fun k => dispatch_sum.l3 k a l (l.length : Int) i) (a + total (steps (l.drop i.toNat))) := by
  intro n
  induction n with
  | zero =>
    intro i a h0 h1 hO ha hb
    rw [drop_end (by omega), steps_nil, total_nil, Int.add_zero]
    exact Ev.step (fun k => dispatch_sum.l3_eq k _ _ _ _) (Ev.neg (by omega) (Ev.now _))
  | succ n ih =>
    intro i a h0 h1 hO ha hb
    have hlt : i < (l.length : Int) := by omega
    rw [rY1_drop h0 hlt] at hO ⊢
    have ho := (hO _ (List.mem_cons_self ..)).2
    have ht := ho.top
    have ht0 := total_nonneg _ ho.nn
    rw [steps_cons, total_append, ← Int.add_assoc]
    refine Ev.step (fun k => dispatch_sum.l3_eq k _ _ _ _) (Ev.pos hlt (Ev.pos h0 (Ev.pos hlt (Ev.bind (most_ev' ho) ?_))))
    rw [w64 (x := i + 1) (by omega) (by omega), w64 (x := a + total (rY1 l i).2) (by omega) (by omega)]
    exact ih (i + 1) _ (by omega) (by omega) hO.tail (by omega) (by omega)
theorem dsum_ev {l : List Ofr} (h : OffOk l) (hl : l.length ≤ 10) : Ev (fun k => dispatch_sum.f k l) (total (steps l)) := by
  have := dsum_loop l hl l.length 0 0 (by omega) (by omega) h (by omega) (by omega)
  rw [show (0 : Int).toNat = 0 from rfl, List.drop_zero, Int.zero_add] at this
  exact this
/-- dispatch.check. -/
theorem dcheck_ev (l : List Ofr) (hn : NamedO l) (d : Int) : EvP (fun k => dispatch_check.f k l d) (fun e => (e = 0 → OffOk l ∧ l.length ≤ 10 ∧ 0 ≤ d ∧ d ≤ 1000000 ∧ d ≤ total (steps l)) ∧ ((∀ o ∈ l, Ev (fun k => offer_Check.f k o) 0) → l.length ≤ 10 → e = 7 ∨ (e = 0 ↔ 0 ≤ d ∧ d ≤ 1000000 ∧ d ≤ total (steps l)))) := by
  unfold dispatch_check.f
  refine EvP.bind (all_ev l hn) (fun e he => EvP.ite (fun hz => ?_) (fun hz => EvP.ret ⟨fun h => absurd h hz, fun ha hl => ?_⟩))
  · obtain ⟨hO, hl⟩ := he.1 hz
    refine EvP.ite (fun h => EvP.ret ⟨fun h => absurd h (by decide), fun _ _ => Or.inr ⟨fun h => absurd h (by decide), fun h => by omega⟩⟩) (fun c1 => ?_)
    refine EvP.ite (fun h => EvP.ret ⟨fun h => absurd h (by decide), fun _ _ => Or.inr ⟨fun h => absurd h (by decide), fun h => by omega⟩⟩) (fun c2 => ?_)
    refine EvP.bindE (dsum_ev hO hl) ?_
    refine EvP.ite (fun h => EvP.ret ⟨fun h => absurd h (by decide), fun _ _ => Or.inr ⟨fun h => absurd h (by decide), fun h => by omega⟩⟩) (fun c3 => ?_)
    exact EvP.ret ⟨fun _ => ⟨hO, hl, by omega, by omega, by omega⟩, fun _ _ => Or.inr ⟨fun _ => by omega, fun _ => rfl⟩⟩
  · rcases he.2 ha hl with h | h
    · exact absurd h hz
    · exact Or.inl h
theorem dcheck_yes {l : List Ofr} (hc : Ev (fun k => offer_CheckAll.f k l) 0) (hO : OffOk l) (hl : l.length ≤ 10) {d : Int} (hd : 0 ≤ d ∧ d ≤ 1000000 ∧ d ≤ total (steps l)) : Ev (fun k => dispatch_check.f k l d) 0 := by
  unfold dispatch_check.f
  exact Ev.bind hc (Ev.pos rfl (Ev.neg (by omega) (Ev.neg (by omega) (Ev.bind (dsum_ev hO hl) (Ev.neg (by omega) (Ev.now _))))))
/-! offered, marginal -/
def gB (b : Bool) (p t : Int) : Int := if b = true then leF p t else ltF p t
theorem gB_n (b : Bool) (p t : Int) : 0 ≤ gB b p t ∧ gB b p t ≤ 1 := by
  have := leF_n p t
  have := ltF_n p t
  unfold gB; split <;> omega
theorem off_inner (p : Int) (b : Bool) (l : List Ofr) (L : Int) (i : Int) (h0 : 0 ≤ i) (hi : i < 1000) (s : List Pc) (hs : s.length ≤ 1000) (hp : ∀ q ∈ s, 0 ≤ q.1 ∧ q.1 ≤ 100000) (R : Int) : ∀ (n : Nat) (j a : Int), 0 ≤ j → (s.length : Int) - j = n → 0 ≤ a → a ≤ 1000000000 + 100000 * j → Ev (fun k => dispatch_offered.l3 k p b (a + lin (gB b p) (s.drop j.toNat)) l L (i + 1)) R → Ev (fun k => dispatch_offered.l6 k p b a l L i s (s.length : Int) j) R := by
  intro n
  induction n with
  | zero =>
    intro j a h1 h2 ha hb hk
    rw [drop_end (by omega), show lin (gB b p) [] = 0 from rfl, Int.add_zero] at hk
    refine Ev.step (fun k => dispatch_offered.l6_eq k _ _ _ _ _ _ _ _ _) (Ev.neg (by omega) ?_)
    rw [w64 (x := i + 1) (by omega) (by omega)]
    exact hk
  | succ n ih =>
    intro j a h1 h2 ha hb hk
    have hlt : j < (s.length : Int) := by omega
    obtain ⟨p0, p1⟩ := hp _ (rY0_mem h1 hlt)
    rw [rY0_drop h1 hlt, lin_cons, ← Int.add_assoc] at hk
    refine Ev.step (fun k => dispatch_offered.l6_eq k _ _ _ _ _ _ _ _ _) (Ev.pos hlt (Ev.pos h1 (Ev.pos hlt ?_)))
    rw [w64 (x := j + 1) (by omega) (by omega), w64 (x := a + (rY0 s j).1) (by omega) (by omega)]
    refine Ev.ite (fun hc => ?_) (fun hc => Ev.ite (fun hb' => Ev.ite (fun he => ?_) (fun he => ?_)) (fun hb' => ?_))
    · have e : gB b p (rY0 s j).2 = 1 := by
        unfold gB leF ltF
        repeat' split
        all_goals omega
      rw [e, Int.mul_one] at hk
      exact ih (j + 1) _ (by omega) (by omega) (by omega) (by omega) hk
    · have e : gB b p (rY0 s j).2 = 1 := by unfold gB leF; rw [if_pos hb', if_pos (by omega)]
      rw [e, Int.mul_one] at hk
      exact ih (j + 1) _ (by omega) (by omega) (by omega) (by omega) hk
    · have e : gB b p (rY0 s j).2 = 0 := by unfold gB leF; rw [if_pos hb', if_neg (by omega)]
      rw [e, Int.mul_zero, Int.add_zero] at hk
      exact ih (j + 1) _ (by omega) (by omega) (by omega) (by omega) hk
    · have e : gB b p (rY0 s j).2 = 0 := by unfold gB ltF; rw [if_neg hb', if_neg (by omega)]
      rw [e, Int.mul_zero, Int.add_zero] at hk
      exact ih (j + 1) _ (by omega) (by omega) (by omega) (by omega) hk
theorem off_loop (p : Int) (b : Bool) (l : List Ofr) (hl : l.length ≤ 10) : ∀ (n : Nat) (i a : Int), 0 ≤ i → (l.length : Int) - i = n → OffOk (l.drop i.toNat) → 0 ≤ a → a ≤ 100000 * i → Ev (fun k => dispatch_offered.l3 k p b a l (l.length : Int) i) (a + lin (gB b p) (steps (l.drop i.toNat))) := by
  intro n
  induction n with
  | zero =>
    intro i a h0 h1 hO ha hb
    rw [drop_end (by omega), steps_nil, show lin (gB b p) [] = 0 from rfl, Int.add_zero]
    exact Ev.step (fun k => dispatch_offered.l3_eq k _ _ _ _ _ _) (Ev.neg (by omega) (Ev.now _))
  | succ n ih =>
    intro i a h0 h1 hO ha hb
    have hlt : i < (l.length : Int) := by omega
    rw [rY1_drop h0 hlt] at hO ⊢
    have ho := (hO _ (List.mem_cons_self ..)).2
    have ht := ho.top
    have hlen := ho.len
    have q0 := lin_nonneg (fun t => (gB_n b p t).1) _ ho.nn
    have q1 := lin_total (fun t => (gB_n b p t).2) _ ho.nn
    rw [steps_cons, lin_append, ← Int.add_assoc]
    refine Ev.step (fun k => dispatch_offered.l3_eq k _ _ _ _ _ _) (Ev.pos hlt (Ev.pos h0 (Ev.pos hlt ?_)))
    refine off_inner p b l _ i h0 (by omega) (rY1 l i).2 (by omega) (fun q hq => by have := ho.pw q hq; omega) _ (rY1 l i).2.length 0 a (by omega) (by omega) ha (by omega) ?_
    rw [show (0 : Int).toNat = 0 from rfl, List.drop_zero]
    exact ih (i + 1) _ (by omega) (by omega) hO.tail (by omega) (by omega)
theorem offered_ev {l : List Ofr} (h : OffOk l) (hl : l.length ≤ 10) (p : Int) (b : Bool) : Ev (fun k => dispatch_offered.f k l p b) (lin (gB b p) (steps l)) := by
  have := off_loop p b l hl l.length 0 0 (by omega) (by omega) h (by omega) (by omega)
  rw [show (0 : Int).toNat = 0 from rfl, List.drop_zero, Int.zero_add] at this
  exact this
/-- What is known of the price so far. -/
def MInv (l : List Ofr) (D pc : Int) (rest : List Pc) : Prop := D ≤ lin (leF pc) (steps l) ∧ pc ≤ 2000000 ∧ -2000000 ≤ pc ∧ ∀ q ∈ steps l, q ∈ rest ∨ (q.2 < pc → lin (leF q.2) (steps l) < D)
theorem marg_inner (l : List Ofr) (h : OffOk l) (hl : l.length ≤ 10) (D : Int) (i : Int) (h0 : 0 ≤ i) (hi : i < 1000) (s : List Pc) (hs : s.length ≤ 1000) (hp : ∀ q ∈ s, -1000000 ≤ q.2 ∧ q.2 ≤ 1000000) (more : List Pc) (Q : Int → Prop) (hk : ∀ pc, MInv l D pc more → EvP (fun k => dispatch_marginal.l3 k l D pc l (l.length : Int) (i + 1)) Q) : ∀ (n : Nat) (j pc : Int), 0 ≤ j → (s.length : Int) - j = n → MInv l D pc (s.drop j.toNat ++ more) → EvP (fun k => dispatch_marginal.l6 k l D pc l (l.length : Int) i s (s.length : Int) j) Q := by
  intro n
  induction n with
  | zero =>
    intro j pc h1 h2 hM
    rw [drop_end (by omega), List.nil_append] at hM
    refine EvP.step (fun k => dispatch_marginal.l6_eq k _ _ _ _ _ _ _ _ _) (EvP.neg (by omega) ?_)
    rw [w64 (x := i + 1) (by omega) (by omega)]
    exact hk pc hM
  | succ n ih =>
    intro j pc h1 h2 hM
    have hlt : j < (s.length : Int) := by omega
    have hq := hp _ (rY0_mem h1 hlt)
    rw [rY0_drop h1 hlt, List.cons_append] at hM
    obtain ⟨m1, m2, m3, m4⟩ := hM
    refine EvP.step (fun k => dispatch_marginal.l6_eq k _ _ _ _ _ _ _ _ _) (EvP.pos hlt (EvP.pos h1 (EvP.pos hlt ?_)))
    rw [w64 (x := j + 1) (by omega) (by omega)]
    generalize rY0 s j = q at *
    refine EvP.ite (fun hc => EvP.bindE (offered_ev h hl q.2 true) ?_) (fun hc => ?_)
    · have e : lin (gB true q.2) (steps l) = lin (leF q.2) (steps l) := rfl
      rw [e]
      refine EvP.ite (fun hd => ih (j + 1) q.2 (by omega) (by omega) ⟨hd, by omega, by omega, fun x hx => ?_⟩) (fun hd => ih (j + 1) pc (by omega) (by omega) ⟨m1, m2, m3, fun x hx => ?_⟩)
      · rcases m4 x hx with h | h
        · rcases List.mem_cons.1 h with rfl | h
          · exact Or.inr (fun h => by omega)
          · exact Or.inl h
        · exact Or.inr (fun h' => h (by omega))
      · rcases m4 x hx with h | h
        · rcases List.mem_cons.1 h with rfl | h
          · exact Or.inr (fun _ => by omega)
          · exact Or.inl h
        · exact Or.inr h
    · refine ih (j + 1) pc (by omega) (by omega) ⟨m1, m2, m3, fun x hx => ?_⟩
      rcases m4 x hx with h | h
      · rcases List.mem_cons.1 h with rfl | h
        · exact Or.inr (fun h' => absurd h' hc)
        · exact Or.inl h
      · exact Or.inr h
theorem marg_loop (l : List Ofr) (h : OffOk l) (hl : l.length ≤ 10) (D : Int) : ∀ (n : Nat) (i pc : Int), 0 ≤ i → (l.length : Int) - i = n → MInv l D pc (steps (l.drop i.toNat)) → EvP (fun k => dispatch_marginal.l3 k l D pc l (l.length : Int) i) (fun p => MInv l D p []) := by
  intro n
  induction n with
  | zero =>
    intro i pc h0 h1 hM
    rw [drop_end (by omega)] at hM
    exact EvP.step (fun k => dispatch_marginal.l3_eq k _ _ _ _ _ _) (EvP.neg (by omega) (EvP.ret hM))
  | succ n ih =>
    intro i pc h0 h1 hM
    have hlt : i < (l.length : Int) := by omega
    have ho := (h _ (rY1_mem h0 hlt)).2
    have hlen := ho.len
    rw [rY1_drop h0 hlt, steps_cons] at hM
    refine EvP.step (fun k => dispatch_marginal.l3_eq k _ _ _ _ _ _) (EvP.pos hlt (EvP.pos h0 (EvP.pos hlt ?_)))
    exact marg_inner l h hl D i h0 (by omega) (rY1 l i).2 (by omega) ho.pr _ _ (fun pc hM => ih (i + 1) pc (by omega) (by omega) hM) (rY1 l i).2.length 0 pc (by omega) (by omega) hM
theorem max_below {p : Int} : ∀ ps : List Pc, (∀ q ∈ ps, ¬ q.2 < p) ∨ ∃ m ∈ ps, m.2 < p ∧ ∀ q ∈ ps, q.2 < p → q.2 ≤ m.2
  | [] => Or.inl (fun q h => by cases h)
  | x :: ps => by
    rcases max_below (p := p) ps with h | ⟨m, hm, h1, h2⟩
    · by_cases hx : x.2 < p
      · refine Or.inr ⟨x, by simp, hx, fun q hq hqp => ?_⟩
        rcases List.mem_cons.1 hq with rfl | hq
        · exact Int.le_refl _
        · exact absurd hqp (h q hq)
      · refine Or.inl (fun q hq => ?_)
        rcases List.mem_cons.1 hq with rfl | hq
        · exact hx
        · exact h q hq
    · by_cases hx : x.2 < p ∧ m.2 ≤ x.2
      · refine Or.inr ⟨x, by simp, hx.1, fun q hq hqp => ?_⟩
        rcases List.mem_cons.1 hq with rfl | hq
        · exact Int.le_refl _
        · have := h2 q hq hqp; omega
      · refine Or.inr ⟨m, by simp [hm], h1, fun q hq hqp => ?_⟩
        rcases List.mem_cons.1 hq with rfl | hq
        · omega
        · exact h2 q hq hqp
theorem lin_congr {g g' : Int → Int} : ∀ ps : List Pc, (∀ q ∈ ps, g q.2 = g' q.2) → lin g ps = lin g' ps
  | [], _ => rfl
  | q :: ps, h => by rw [lin_cons, lin_cons, h q (by simp), lin_congr ps (fun x hx => h x (by simp [hx]))]
/-- The marginal price: up to it there is enough, below it not more than that. -/
theorem marginal_ev {l : List Ofr} (h : OffOk l) (hl : l.length ≤ 10) {D : Int} (hD : 0 ≤ D) (ht : D ≤ total (steps l)) : EvP (fun k => dispatch_marginal.f k l D) (fun p => (-2000000 ≤ p ∧ p ≤ 2000000) ∧ lin (ltF p) (steps l) ≤ D ∧ D ≤ lin (leF p) (steps l)) := by
  have hM : MInv l D 2000000 (steps l) := by
    refine ⟨?_, by omega, by omega, fun q hq => Or.inl hq⟩
    have : lin (leF 2000000) (steps l) = lin (fun _ => 1) (steps l) := lin_congr _ (fun q hq => by
      have := (h.pr q hq).2
      unfold leF; rw [if_pos (by omega)])
    rw [this, lin_one]; exact ht
  have := marg_loop l h hl D l.length 0 2000000 (by omega) (by omega) hM
  unfold dispatch_marginal.f
  refine this.mono (fun p hp => ⟨⟨hp.2.2.1, hp.2.1⟩, ?_, hp.1⟩)
  rcases max_below (p := p) (steps l) with hm | ⟨m, hm, h1, h2⟩
  · have : lin (ltF p) (steps l) = lin (fun _ => 0) (steps l) := lin_congr _ (fun q hq => by unfold ltF; rw [if_neg (hm q hq)])
    have z : ∀ ps : List Pc, lin (fun _ => 0) ps = 0 := by
      intro ps
      induction ps with
      | nil => rfl
      | cons q ps ih => rw [lin_cons, ih]; simp
    rw [this, z]; exact hD
  · have e : lin (ltF p) (steps l) = lin (leF m.2) (steps l) := lin_congr _ (fun q hq => by
      unfold ltF leF
      by_cases hq' : q.2 < p
      · rw [if_pos hq', if_pos (h2 q hq hq')]
      · rw [if_neg hq', if_neg (by omega)])
    rcases hp.2.2.2 m hm with h' | h'
    · cases h'
    · have := h' h1; omega
/-! Supply, costs, Best -/
theorem sup_loop (l : List Pc) (hl : l.length ≤ 12) (hp : ∀ q ∈ l, 0 ≤ q.1 ∧ q.1 ≤ 100000) (p : Int) : ∀ (n : Nat) (i a b : Int), 0 ≤ i → (l.length : Int) - i = n → 0 ≤ a → a ≤ 100000 * i → 0 ≤ b → b ≤ 100000 * i → Ev (fun k => offer_Supply.l8 k p a b l (l.length : Int) i) (a + lin (ltF p) (l.drop i.toNat), b + lin (leF p) (l.drop i.toNat), 0) := by
  intro n
  induction n with
  | zero =>
    intro i a b h0 h1 ha0 ha1 hb0 hb1
    rw [drop_end (by omega), show lin (ltF p) [] = 0 from rfl, show lin (leF p) [] = 0 from rfl, Int.add_zero, Int.add_zero]
    exact Ev.step (fun k => offer_Supply.l8_eq k _ _ _ _ _ _) (Ev.neg (by omega) (Ev.now _))
  | succ n ih =>
    intro i a b h0 h1 ha0 ha1 hb0 hb1
    have hlt : i < (l.length : Int) := by omega
    obtain ⟨p0, p1⟩ := hp _ (rY0_mem h0 hlt)
    rw [rY0_drop h0 hlt, lin_cons, lin_cons, ← Int.add_assoc, ← Int.add_assoc]
    refine Ev.step (fun k => offer_Supply.l8_eq k _ _ _ _ _ _) (Ev.pos hlt (Ev.pos h0 (Ev.pos hlt ?_)))
    generalize rY0 l i = q at *
    have second : ∀ a', a' = a + q.1 * ltF p q.2 → Ev (fun k => offer_Supply.l12 k p a' b l (l.length : Int) i q.1 q.2) (a + q.1 * ltF p q.2 + lin (ltF p) (l.drop (i + 1).toNat), b + q.1 * leF p q.2 + lin (leF p) (l.drop (i + 1).toNat), 0) := by
      rintro a' rfl
      have ha' : 0 ≤ a + q.1 * ltF p q.2 ∧ a + q.1 * ltF p q.2 ≤ 100000 * (i + 1) := by
        unfold ltF; split <;> simp <;> omega
      refine Ev.step (fun k => offer_Supply.l12_eq k _ _ _ _ _ _ _ _) ?_
      rw [w64 (x := i + 1) (by omega) (by omega), w64 (x := b + q.1) (by omega) (by omega)]
      refine Ev.ite (fun hc => ?_) (fun hc => ?_)
      · have e : leF p q.2 = 1 := by unfold leF; rw [if_pos hc]
        rw [e, Int.mul_one]
        exact ih (i + 1) _ _ (by omega) (by omega) (by omega) (by omega) (by omega) (by omega)
      · have e : leF p q.2 = 0 := by unfold leF; rw [if_neg hc]
        rw [e, Int.mul_zero, Int.add_zero]
        exact ih (i + 1) _ _ (by omega) (by omega) (by omega) (by omega) (by omega) (by omega)
    rw [w64 (x := a + q.1) (by omega) (by omega)]
    refine Ev.ite (fun hc => ?_) (fun hc => ?_)
    · exact second _ (by unfold ltF; rw [if_pos hc, Int.mul_one])
    · exact second _ (by unfold ltF; rw [if_neg hc, Int.mul_zero, Int.add_zero])
theorem supply_ev {s : ByteArray} {ps : List Pc} (hc : Ev (fun k => offer_Check.f k (s, ps)) 0) (h : OkO ps) {p : Int} (hp : -2000000 ≤ p ∧ p ≤ 2000000) : Ev (fun k => offer_Supply.f k (s, ps) p) (lin (ltF p) ps, lin (leF p) ps, 0) := by
  unfold offer_Supply.f
  refine Ev.bind hc (Ev.pos rfl (Ev.neg (by omega) (Ev.neg (by omega) ?_)))
  have := sup_loop ps h.len (fun q hq => by have := h.pw q hq; omega) p ps.length 0 0 0 (by omega) (by omega) (by omega) (by omega) (by omega) (by omega)
  rw [show (0 : Int).toNat = 0 from rfl, List.drop_zero, Int.zero_add, Int.zero_add] at this
  exact this
theorem supply_ev' {o : Ofr} (hc : Ev (fun k => offer_Check.f k o) 0) (h : OkO o.2) {p : Int} (hp : -2000000 ≤ p ∧ p ≤ 2000000) : Ev (fun k => offer_Supply.f k o p) (lin (ltF p) o.2, lin (leF p) o.2, 0) := by
  obtain ⟨s, ps⟩ := o
  exact supply_ev hc h hp
/-- What all powers cost, as dispatch.costs adds it up. -/
def costSum : List Ofr → List Int → Int
  | o :: l, x :: xs => (if 0 ≤ x ∧ x ≤ total o.2 then vAt o.2 x else 0) + costSum l xs
  | _, _ => 0
theorem vAt_rng (A B : Int) : ∀ (ps : List Pc) (d : Int), (∀ p ∈ ps, (0 ≤ p.1 ∧ p.1 ≤ A) ∧ (-B ≤ p.2 ∧ p.2 ≤ B)) → 0 ≤ d → -(A * B * ps.length) ≤ vAt ps d ∧ vAt ps d ≤ A * B * ps.length
  | [], _, _, _ => by simp [vAt]
  | p :: ps, d, h, h0 => by
    obtain ⟨⟨a, b⟩, c, e⟩ := h p (by simp)
    have hm := mn_le p.1 d
    have := vAt_rng A B ps (d - mn p.1 d) (fun q hq => h q (by simp [hq])) (by omega)
    have m := mul_abs (a := mn p.1 d) (b := p.2) (A := A) (B := B) (by omega) (by omega) c e
    rw [vAt_cons, List.length_cons, show A * B * ((ps.length + 1 : Nat) : Int) = A * B * (ps.length : Int) + A * B by rw [show ((ps.length + 1 : Nat) : Int) = (ps.length : Int) + 1 by omega, Int.mul_add]; omega]
    omega
theorem OkO.cost_rng {ps : List Pc} (h : OkO ps) {d : Int} (h0 : 0 ≤ d) : -1200000000000 ≤ vAt ps d ∧ vAt ps d ≤ 1200000000000 := by
  have := vAt_rng 100000 1000000 ps d (fun p hp => ⟨by have := h.pw p hp; omega, h.pr p hp⟩) h0
  have := h.len
  omega
theorem costs_loop (l : List Ofr) (hl : l.length ≤ 10) (xs : List Int) (hx : xs.length = l.length) : ∀ (n : Nat) (i v : Int), 0 ≤ i → (l.length : Int) - i = n → OffOk (l.drop i.toNat) → -(1200000000000 * i) ≤ v → v ≤ 1200000000000 * i → Ev (fun k => dispatch_costs.l3 k xs v l (l.length : Int) i) (xs, v + costSum (l.drop i.toNat) (xs.drop i.toNat), 0) := by
  intro n
  induction n with
  | zero =>
    intro i v h0 h1 hO hv1 hv2
    rw [drop_end (xs := l) (by omega), show v + costSum [] (xs.drop i.toNat) = v by simp [costSum]]
    exact Ev.step (fun k => dispatch_costs.l3_eq k _ _ _ _ _) (Ev.neg (by omega) (Ev.now _))
  | succ n ih =>
    intro i v h0 h1 hO hv1 hv2
    have hlt : i < (l.length : Int) := by omega
    have hlx : i < (xs.length : Int) := by omega
    rw [rY1_drop h0 hlt, rI64_drop h0 hlx]
    rw [rY1_drop h0 hlt] at hO
    obtain ⟨hc, ho⟩ := hO _ (List.mem_cons_self ..)
    refine Ev.step (fun k => dispatch_costs.l3_eq k _ _ _ _ _) (Ev.pos hlt (Ev.pos h0 (Ev.pos hlt (Ev.pos h0 (Ev.pos hlx (Ev.bind (cost_ev' hc ho _) ?_))))))
    rw [w64 (x := i + 1) (by omega) (by omega)]
    show Ev (fun k => dispatch_costs.l3 k xs (wrap64 (v + (if 0 ≤ rI64 xs i ∧ rI64 xs i ≤ total (rY1 l i).2 then (vAt (rY1 l i).2 (rI64 xs i), 0) else ((0 : Int), (4 : Int))).1)) l (l.length : Int) (i + 1)) (xs, v + ((if 0 ≤ rI64 xs i ∧ rI64 xs i ≤ total (rY1 l i).2 then vAt (rY1 l i).2 (rI64 xs i) else 0) + costSum (l.drop (i + 1).toNat) (xs.drop (i + 1).toNat)), 0)
    rw [← Int.add_assoc]
    by_cases hh : 0 ≤ rI64 xs i ∧ rI64 xs i ≤ total (rY1 l i).2
    · have hr := ho.cost_rng hh.1
      rw [if_pos hh, if_pos hh]
      show Ev (fun k => dispatch_costs.l3 k xs (wrap64 (v + vAt (rY1 l i).2 (rI64 xs i))) l (l.length : Int) (i + 1)) _
      rw [w64 (x := v + _) (by omega) (by omega)]
      exact ih (i + 1) _ (by omega) (by omega) hO.tail (by omega) (by omega)
    · rw [if_neg hh, if_neg hh]
      show Ev (fun k => dispatch_costs.l3 k xs (wrap64 (v + 0)) l (l.length : Int) (i + 1)) _
      rw [w64 (x := v + 0) (by omega) (by omega)]
      exact ih (i + 1) _ (by omega) (by omega) hO.tail (by omega) (by omega)
theorem costs_ev {l : List Ofr} (h : OffOk l) (hl : l.length ≤ 10) (xs : List Int) (hx : xs.length = l.length) : Ev (fun k => dispatch_costs.f k l xs) (xs, costSum l xs, 0) := by
  have := costs_loop l hl xs hx l.length 0 0 (by omega) (by omega) h (by omega) (by omega)
  rw [show (0 : Int).toNat = 0 from rfl, List.drop_zero, List.drop_zero, Int.zero_add] at this
  exact this
/-- The powers at a price, with so much of what it does not decide. -/
def pows (p : Int) : List Ofr → Int → List Int
  | [], _ => []
  | o :: l, free => (lin (ltF p) o.2 + mn free (lin (eqF' p) o.2)) :: pows p l (free - mn free (lin (eqF' p) o.2))
theorem pows_len (p : Int) : ∀ (l : List Ofr) (f : Int), (pows p l f).length = l.length
  | [], _ => rfl
  | o :: l, f => by
    show (_ :: pows p l _).length = _
    rw [List.length_cons, List.length_cons, pows_len p l]
theorem pows_cost (p : Int) : ∀ (l : List Ofr) (f : Int), OffOk l → 0 ≤ f → costSum l (pows p l f) = lin (idF p) (steps l) + mn f (lin (eqF' p) (steps l)) * p
  | [], f, _, h0 => by
    rw [steps_nil]
    show (0 : Int) = 0 + mn f 0 * p
    rw [mn_of_ge h0]; simp
  | o :: l, f, h, h0 => by
    have ho := (h o (by simp)).2
    have m0 := lin_nonneg (fun t => (eqF_n p t).1) _ ho.nn
    have m1 := lin_nonneg (fun t => (eqF_n p t).1) _ h.tail.nn
    have hl := lin_nonneg (fun t => (ltF_n p t).1) _ ho.nn
    have hle := lin_le p o.2
    have ht := lin_total (fun t => (leF_n p t).2) _ ho.nn
    have hm := mn_le f (lin (eqF' p) o.2)
    show (if 0 ≤ lin (ltF p) o.2 + mn f (lin (eqF' p) o.2) ∧ lin (ltF p) o.2 + mn f (lin (eqF' p) o.2) ≤ total o.2 then vAt o.2 (lin (ltF p) o.2 + mn f (lin (eqF' p) o.2)) else 0) + costSum l (pows p l (f - mn f (lin (eqF' p) o.2))) = _
    rw [if_pos (by omega), vAt_at p o.2 _ ho.nn ho.srt (by omega) (by omega), pows_cost p l _ h.tail (by omega), steps_cons, lin_append, lin_append]
    have e : mn f (lin (eqF' p) o.2 + lin (eqF' p) (steps l)) = mn f (lin (eqF' p) o.2) + mn (f - mn f (lin (eqF' p) o.2)) (lin (eqF' p) (steps l)) := by unfold mn; split <;> split <;> split <;> omega
    rw [e, Int.add_mul]; omega
theorem best_loop' (l : List Ofr) (h : OffOk l) (hl : l.length ≤ 10) {p : Int} (hp : -2000000 ≤ p ∧ p ≤ 2000000) (R : List Int) : ∀ (n : Nat) (i f : Int) (done : List Int), 0 ≤ i → (l.length : Int) - i = n → (done.length : Int) = i → 0 ≤ f → f ≤ 1000000000 → done ++ pows p (l.drop i.toNat) f = R → Ev (fun k => dispatch_Best.l10 k l p f l (l.length : Int) i (done ++ List.replicate n 0)) (R, costSum l R, 0) := by
  intro n
  induction n with
  | zero =>
    intro i f done h0 h1 hd hf hf' hR
    rw [drop_end (by omega)] at hR
    have hR : done ++ [] = R := hR
    rw [List.append_nil] at hR
    subst hR
    refine Ev.step (fun k => dispatch_Best.l10_eq k _ _ _ _ _ _ _) (Ev.neg (by omega) ?_)
    rw [show List.replicate 0 (0 : Int) = [] from rfl, List.append_nil]
    exact Ev.bind (costs_ev h hl done (by omega)) (Ev.now _)
  | succ n ih =>
    intro i f done h0 h1 hd hf hf' hR
    have hlt : i < (l.length : Int) := by omega
    obtain ⟨hc, ho⟩ := h _ (rY1_mem h0 hlt)
    have hle := lin_le p (rY1 l i).2
    have ht := lin_total (fun t => (leF_n p t).2) _ ho.nn
    have htop := ho.top
    have m0 := lin_nonneg (fun t => (eqF_n p t).1) _ ho.nn
    have l0 := lin_nonneg (fun t => (ltF_n p t).1) _ ho.nn
    have hm := mn_le f (lin (eqF' p) (rY1 l i).2)
    rw [rY1_drop h0 hlt] at hR
    have hR : done ++ (lin (ltF p) (rY1 l i).2 + mn f (lin (eqF' p) (rY1 l i).2)) :: pows p (l.drop (i + 1).toNat) (f - mn f (lin (eqF' p) (rY1 l i).2)) = R := hR
    refine Ev.step (fun k => dispatch_Best.l10_eq k _ _ _ _ _ _ _) (Ev.pos hlt (Ev.pos h0 (Ev.pos hlt (Ev.bind (supply_ev' hc ho hp) (Ev.pos h0 (Ev.pos (by rw [List.length_append, List.length_replicate]; omega) ?_))))))
    show Ev (fun k => dispatch_Best.l10 k l p (wrap64 (f - mn f (wrap64 (lin (leF p) (rY1 l i).2 - lin (ltF p) (rY1 l i).2)))) l (l.length : Int) (wrap64 (i + 1)) ((done ++ List.replicate (n + 1) 0).set i.toNat (wrap64 (lin (ltF p) (rY1 l i).2 + mn f (wrap64 (lin (leF p) (rY1 l i).2 - lin (ltF p) (rY1 l i).2)))))) _
    rw [w64 (x := i + 1) (by omega) (by omega), w64 (x := lin (leF p) (rY1 l i).2 - lin (ltF p) (rY1 l i).2) (by omega) (by omega), show lin (leF p) (rY1 l i).2 - lin (ltF p) (rY1 l i).2 = lin (eqF' p) (rY1 l i).2 by omega, w64 (x := f - _) (by omega) (by omega), w64 (x := lin (ltF p) (rY1 l i).2 + _) (by omega) (by omega)]
    have e : (done ++ List.replicate (n + 1) (0 : Int)).set i.toNat (lin (ltF p) (rY1 l i).2 + mn f (lin (eqF' p) (rY1 l i).2)) = (done ++ [lin (ltF p) (rY1 l i).2 + mn f (lin (eqF' p) (rY1 l i).2)]) ++ List.replicate n 0 := by
      rw [List.replicate_succ, show i.toNat = done.length by omega]
      simp
    rw [e]
    exact ih (i + 1) _ _ (by omega) (by omega) (by rw [List.length_append, List.length_singleton]; omega) (by omega) (by omega) (by rw [List.append_assoc]; exact hR)
/-- What Best answers. -/
inductive BestP (l : List Ofr) (d : Int) : List Int × Int × Int → Prop where
  | bad (e : Int) (h : e ≠ 0) (hc : Ev (fun k => dispatch_check.f k l d) e) (h' : (∀ o ∈ l, Ev (fun k => offer_Check.f k o) 0) → l.length ≤ 10 → e = 7 ∨ ¬ (0 ≤ d ∧ d ≤ 1000000 ∧ d ≤ total (steps l))) : BestP l d ([], 0, e)
  | ok (p : Int) (xs : List Int) (h : OffOk l) (hl : l.length ≤ 10) (h0 : 0 ≤ d ∧ d ≤ 1000000 ∧ d ≤ total (steps l)) (h1 : lin (ltF p) (steps l) ≤ d) (h2 : d ≤ lin (leF p) (steps l)) (hx : xs = pows p l (d - lin (ltF p) (steps l))) : BestP l d (xs, lin (idF p) (steps l) + (d - lin (ltF p) (steps l)) * p, 0)
theorem best_ev' (l : List Ofr) (hn : NamedO l) (d : Int) : EvP (fun k => dispatch_Best.f k l d) (BestP l d) := by
  unfold dispatch_Best.f
  obtain ⟨e, hce, he⟩ := dcheck_ev l hn d
  refine EvP.bindE hce (EvP.ite (fun hz => ?_) (fun hz => EvP.ret (.bad e hz hce (fun ha hl => ?_))))
  · obtain ⟨hO, hl, d0, d1, d2⟩ := he.1 hz
    refine EvP.pos (by omega) (EvP.pos (by omega) (EvP.pos (by omega) (EvP.ite (fun hd => ?_) (fun hd => ?_))))
    · -- no demand: nothing is cheaper than the least price
      have hp0 : ∀ q ∈ steps l, ¬ q.2 < -2000000 := fun q hq => by have := (hO.pr q hq).2; omega
      have e1 : lin (ltF (-2000000)) (steps l) = 0 := by
        have : lin (ltF (-2000000)) (steps l) = lin (fun _ => 0) (steps l) := lin_congr _ (fun q hq => by unfold ltF; rw [if_neg (hp0 q hq)])
        have z : ∀ ps : List Pc, lin (fun _ => 0) ps = 0 := by
          intro ps
          induction ps with
          | nil => rfl
          | cons q ps ih => rw [lin_cons, ih]; simp
        rw [this, z]
      have e2 : lin (idF (-2000000)) (steps l) = 0 := by
        have : lin (idF (-2000000)) (steps l) = lin (fun _ => 0) (steps l) := lin_congr _ (fun q hq => by unfold idF; rw [if_neg (hp0 q hq)])
        have z : ∀ ps : List Pc, lin (fun _ => 0) ps = 0 := by
          intro ps
          induction ps with
          | nil => rfl
          | cons q ps ih => rw [lin_cons, ih]; simp
        rw [this, z]
      have e3 : ∀ l : List Ofr, OffOk l → pows (-2000000) l 0 = List.replicate l.length 0 := by
        intro l
        induction l with
        | nil => intro _; rfl
        | cons o l ih =>
          intro h
          have ho := (h o (by simp)).2
          have m0 := lin_nonneg (fun t => (eqF_n (-2000000) t).1) _ ho.nn
          have z : lin (ltF (-2000000)) o.2 = 0 := by
            have : lin (ltF (-2000000)) o.2 = lin (fun _ => 0) o.2 := lin_congr _ (fun q hq => by have := ho.pr q hq; unfold ltF; rw [if_neg (by omega)])
            have z : ∀ ps : List Pc, lin (fun _ => 0) ps = 0 := by
              intro ps
              induction ps with
              | nil => rfl
              | cons q ps ih => rw [lin_cons, ih]; simp
            rw [this, z]
          show (lin (ltF (-2000000)) o.2 + mn 0 (lin (eqF' (-2000000)) o.2)) :: pows (-2000000) l (0 - mn 0 (lin (eqF' (-2000000)) o.2)) = _
          rw [z, mn_of_le m0, List.length_cons, List.replicate_succ]
          show (0 : Int) :: pows (-2000000) l 0 = _
          rw [ih h.tail]
      subst hd
      have := BestP.ok (l := l) (d := 0) (-2000000) _ hO hl ⟨d0, d1, d2⟩ (by omega) (lin_nonneg (fun t => (leF_n _ t).1) _ hO.nn) rfl
      rw [e1, e2, show (0 : Int) - 0 = 0 from rfl, e3 l hO] at this
      refine EvP.ret ?_
      rw [show (l.length : Int).toNat = l.length by omega]
      simpa using this
    · refine EvP.bind (marginal_ev hO hl d0 d2) (fun p hp => EvP.bindE (offered_ev hO hl p false) ?_)
      obtain ⟨hp0, h1, h2⟩ := hp
      have e : lin (gB false p) (steps l) = lin (ltF p) (steps l) := rfl
      have l0 := lin_nonneg (fun t => (ltF_n p t).1) _ hO.nn
      have hle := lin_le p (steps l)
      rw [e, w64 (x := d - _) (by omega) (by omega), show (l.length : Int).toNat = l.length by omega]
      have := best_loop' l hO hl hp0 (pows p l (d - lin (ltF p) (steps l))) l.length 0 (d - lin (ltF p) (steps l)) [] (by omega) (by omega) rfl (by omega) (by omega) rfl
      rw [List.nil_append, pows_cost p l _ hO (by omega), mn_of_le (by omega)] at this
      exact EvP.of this (.ok p _ hO hl ⟨d0, d1, d2⟩ h1 h2 rfl)
  · rcases he.2 ha hl with h | h
    · exact Or.inl h
    · exact Or.inr (fun hd => hz (h.2 hd))
end Go.Proofs.Ytodagcbcdkfniaa.VE
