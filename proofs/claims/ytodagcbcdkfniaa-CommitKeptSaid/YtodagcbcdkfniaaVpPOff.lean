import Derived.Test.YtodagcbcdkfniaaVpCvxM
import Derived.Test.YtodagcbcdkfniaaGPD
namespace Go.Proofs.Ytodagcbcdkfniaa.VE
open Go Go.RowKit
set_option linter.unusedVariables false
attribute [local irreducible] wrap64
/-! package offer: named (no statement is proved here) -/
theorem offer_named_loop (s : ByteArray) (hs : s.size ≤ 140737488351232) : ∀ (d : Nat) (i : Int), 0 ≤ i → (s.size : Int) - i ≤ d → EvP (fun k => offer_named.l4 k s (s.size : Int) i) (fun _ => True) := by
  intro d
  induction d with
  | zero =>
    intro i h0 h1
    exact EvP.step (fun k => offer_named.l4_eq k _ _ _) (EvP.neg (by omega) (EvP.ret trivial))
  | succ d ih =>
    intro i h0 h1
    refine EvP.step (fun k => offer_named.l4_eq k _ _ _) (EvP.ite (fun h => ?_) (fun h => EvP.ret trivial))
    rw [w64 (x := i + 1) (by omega) (by omega)]
    have h3 := ih (i + 1) (by omega) (by omega)
    repeat' first
      | exact h3
      | exact EvP.ret trivial
      | (exact EvP.no (by omega))
      | refine EvP.ite (fun h => ?_) (fun h => ?_)
theorem offer_named_some (s : ByteArray) (hs : s.size ≤ 140737488351232) : EvP (fun k => offer_named.f k s) (fun _ => True) := by
  have h3 := offer_named_loop s hs (s.size) 0 (by omega) (by omega)
  have hz : s ≠ ByteArray.empty → 0 < s.size := fun h => by
    rcases Nat.eq_zero_or_pos s.size with h0 | h0
    · exact absurd (ByteArray.size_eq_zero_iff.1 h0) h
    · exact h0
  unfold offer_named.f
  repeat' first
    | exact h3
    | exact EvP.ret trivial
    | (exact EvP.no (by omega))
    | (exact EvP.no (by have := hz (by assumption); omega))
    | refine EvP.ite (fun h => ?_) (fun h => ?_)
/-! ### package offer: Check, Most, Cost, Supply (no statement is proved here) -/
theorem mn_comm (a b : Int) : mn a b = mn b a := by unfold mn; split <;> split <;> omega
/-- The steps of a valid offer. -/
structure OkO (ps : List Pc) : Prop where
  len : ps.length ≤ 12
  pw : ∀ p ∈ ps, 1 ≤ p.1 ∧ p.1 ≤ 100000
  pr : ∀ p ∈ ps, -1000000 ≤ p.2 ∧ p.2 ≤ 1000000
  srt : ps.Pairwise fun p q => p.2 ≤ q.2
  top : total ps ≤ 100000
theorem OkO.nn {ps : List Pc} (h : OkO ps) : Nn ps := fun p hp => by have := h.pw p hp; omega
structure OkT (prev : Option Int) (a : Int) (ps : List Pc) : Prop where
  pw : ∀ p ∈ ps, 1 ≤ p.1 ∧ p.1 ≤ 100000
  pr : ∀ p ∈ ps, -1000000 ≤ p.2 ∧ p.2 ≤ 1000000
  srt : ps.Pairwise fun p q => p.2 ≤ q.2
  top : a + total ps ≤ 100000
  prv : ∀ s, prev = some s → ∀ p ∈ ps, s ≤ p.2
def prevP (l : List Pc) (i : Int) : Option Int := if 0 < i then some (rY0 l (i - 1)).2 else none
theorem ocheck_loop (l : List Pc) (hl : l.length ≤ 12) (s : ByteArray) : ∀ (n : Nat) (i a : Int), 0 ≤ i → (l.length : Int) - i = n → 0 ≤ a → a ≤ 100000 → EvP (fun k => offer_Check.l7 k a l (l.length : Int) i s l) (fun e => e = 0 → OkT (prevP l i) a (l.drop i.toNat)) := by
  intro n
  induction n with
  | zero =>
    intro i a h0 h1 ha hv
    rw [drop_end (by omega)]
    exact EvP.step (fun k => offer_Check.l7_eq k _ _ _ _ _ _) (EvP.neg (by omega) (EvP.ret (fun _ => ⟨(fun p h => by cases h), (fun p h => by cases h), List.Pairwise.nil, (by rw [total_nil]; omega), fun s _ p h => by cases h⟩)))
  | succ n ih =>
    intro i a h0 h1 ha hv
    have hlt : i < (l.length : Int) := by omega
    rw [rY0_drop h0 hlt]
    have hnx : prevP l (i + 1) = some (rY0 l i).2 := by
      unfold prevP
      rw [if_pos (by omega), show i + 1 - 1 = i by omega]
    have ih' := fun a => ih (i + 1) a (by omega) (by omega)
    rw [hnx] at ih'
    generalize hp : rY0 l i = p at ih' ⊢
    refine EvP.step (fun k => offer_Check.l7_eq k _ _ _ _ _ _) (EvP.pos hlt (EvP.pos h0 (EvP.pos hlt ?_)))
    rw [hp]
    refine EvP.ite (fun h => EvP.ret (fun hz => absurd hz (by decide))) (fun c1 => ?_)
    refine EvP.ite (fun h => EvP.ret (fun hz => absurd hz (by decide))) (fun c2 => ?_)
    refine EvP.ite (fun h => EvP.ret (fun hz => absurd hz (by decide))) (fun c3 => ?_)
    refine EvP.ite (fun h => EvP.ret (fun hz => absurd hz (by decide))) (fun c4 => ?_)
    rw [w64 (x := i + 1) (by omega) (by omega), w64 (x := a + p.1) (by omega) (by omega)]
    have rest : (∀ s, prevP l i = some s → s ≤ p.2) → EvP (fun k => if 100000 < a + p.1 then some 2 else offer_Check.l7 k (a + p.1) l (l.length : Int) (i + 1) s l) (fun e => e = 0 → OkT (prevP l i) a (p :: l.drop (i + 1).toNat)) := by
      intro hpr
      refine EvP.ite (fun h => EvP.ret (fun hz => absurd hz (by decide))) (fun d1 => ?_)
      refine (ih' (a + p.1) (by omega) (by omega)).mono (fun e he hz => ?_)
      have k := he hz
      have kp := k.prv p.2 rfl
      refine ⟨fun q hq => ?_, fun q hq => ?_, List.pairwise_cons.2 ⟨kp, k.srt⟩, by have := k.top; rw [total_cons]; omega, fun s hs q hq => ?_⟩
      · rcases List.mem_cons.1 hq with rfl | hq
        · omega
        · exact k.pw q hq
      · rcases List.mem_cons.1 hq with rfl | hq
        · omega
        · exact k.pr q hq
      · have := hpr s hs
        rcases List.mem_cons.1 hq with rfl | hq
        · exact this
        · have := kp q hq; omega
    refine EvP.ite (fun hi => ?_) (fun hi => ?_)
    · rw [w64 (x := i - 1) (by omega) (by omega)]
      have hpi : prevP l i = some (rY0 l (i - 1)).2 := by unfold prevP; rw [if_pos hi]
      refine EvP.pos (by omega) (EvP.pos (by omega) (EvP.ite (fun h => EvP.ret (fun hz => absurd hz (by decide))) (fun h => ?_)))
      exact rest (fun s hs => by rw [hpi] at hs; cases hs; omega)
    · exact rest (fun s hs => by unfold prevP at hs; rw [if_neg hi] at hs; cases hs)
theorem ocheck_ev (s : ByteArray) (hs : s.size ≤ 140737488351232) (ps : List Pc) : EvP (fun k => offer_Check.f k (s, ps)) (fun e => e = 0 → OkO ps) := by
  unfold offer_Check.f
  refine EvP.bind (offer_named_some s hs) (fun b _ => EvP.ite (fun _ => ?_) (fun _ => EvP.ret (fun h => absurd h (by decide))))
  refine EvP.ite (fun h => EvP.ret (fun h => absurd h (by decide))) (fun c1 => ?_)
  have c1 : ¬ (12 : Int) < (ps.length : Int) := c1
  refine (ocheck_loop ps (by omega) s ps.length 0 0 (by omega) (by omega) (by omega) (by omega)).mono (fun e he hz => ?_)
  have k := he hz
  exact ⟨by omega, k.pw, k.pr, k.srt, by have := k.top; rw [show (0 : Int).toNat = 0 from rfl, List.drop_zero] at this; omega⟩
theorem most_loop (l : List Pc) : ∀ (n : Nat) (i a : Int), 0 ≤ i → (l.length : Int) - i = n → (l.length : Int) ≤ 1000000 → Nn (l.drop i.toNat) → 0 ≤ a → a + total (l.drop i.toNat) ≤ 1000000000 → Ev (fun k => offer_Most.l3 k a l (l.length : Int) i) (a + total (l.drop i.toNat)) := by
  intro n
  induction n with
  | zero =>
    intro i a h0 h1 hl hn ha hv
    rw [drop_end (by omega), total_nil, Int.add_zero]
    exact Ev.step (fun k => offer_Most.l3_eq k _ _ _ _) (Ev.neg (by omega) (Ev.now _))
  | succ n ih =>
    intro i a h0 h1 hl hn ha hv
    have hlt : i < (l.length : Int) := by omega
    rw [rY0_drop h0 hlt] at hn hv ⊢
    have hn' : Nn (l.drop (i + 1).toNat) := fun q hq => hn q (List.mem_cons_of_mem _ hq)
    have ht := total_nonneg _ hn'
    have hp := hn _ (List.mem_cons_self ..)
    rw [total_cons] at hv ⊢
    refine Ev.step (fun k => offer_Most.l3_eq k _ _ _ _) (Ev.pos hlt (Ev.pos h0 (Ev.pos hlt ?_)))
    rw [w64 (x := i + 1) (by omega) (by omega), w64 (x := a + (rY0 l i).1) (by omega) (by omega), ← Int.add_assoc]
    exact ih (i + 1) _ (by omega) (by omega) hl hn' (by omega) (by omega)
theorem most_ev {s : ByteArray} {ps : List Pc} (h : OkO ps) : Ev (fun k => offer_Most.f k (s, ps)) (total ps) := by
  have hl := h.len
  have ht := h.top
  have := most_loop ps ps.length 0 0 (by omega) (by omega) (by omega) h.nn (by omega) (by
    show 0 + total ps ≤ _
    omega)
  rw [show (0 : Int).toNat = 0 from rfl, List.drop_zero, Int.zero_add] at this
  exact this
theorem cost_loop (l : List Pc) (hl : l.length ≤ 12) (hp : ∀ p ∈ l, (0 ≤ p.1 ∧ p.1 ≤ 100000) ∧ (-1000000 ≤ p.2 ∧ p.2 ≤ 1000000)) : ∀ (n : Nat) (i x v : Int), 0 ≤ i → (l.length : Int) - i = n → 0 ≤ x → x ≤ 1000000000 → -(100000000000 * i) ≤ v → v ≤ 100000000000 * i → Ev (fun k => offer_Cost.l8 k x v l (l.length : Int) i) (v + vAt (l.drop i.toNat) x, 0) := by
  intro n
  induction n with
  | zero =>
    intro i x v h0 h1 hx0 hx1 hv1 hv2
    rw [drop_end (by omega), show v + vAt [] x = v by simp [vAt]]
    exact Ev.step (fun k => offer_Cost.l8_eq k _ _ _ _ _) (Ev.neg (by omega) (Ev.now _))
  | succ n ih =>
    intro i x v h0 h1 hx0 hx1 hv1 hv2
    have hlt : i < (l.length : Int) := by omega
    obtain ⟨⟨p0, p1⟩, p2, p3⟩ := hp _ (rY0_mem h0 hlt)
    rw [rY0_drop h0 hlt, vAt_cons, mn_comm _ x]
    have hm := mn_le x (rY0 l i).1
    have m := mul_abs (a := mn x (rY0 l i).1) (b := (rY0 l i).2) (A := 100000) (B := 1000000) (by omega) (by omega) (by omega) (by omega)
    refine Ev.step (fun k => offer_Cost.l8_eq k _ _ _ _ _) (Ev.pos hlt (Ev.pos h0 (Ev.pos hlt ?_)))
    rw [w64 (x := i + 1) (by omega) (by omega), w64 (x := x - mn x (rY0 l i).1) (by omega) (by omega), w64 (x := mn x (rY0 l i).1 * (rY0 l i).2) (by omega) (by omega), w64 (x := v + _) (by omega) (by omega), ← Int.add_assoc]
    exact ih (i + 1) _ _ (by omega) (by omega) (by omega) (by omega) (by omega) (by omega)
/-- Cost of an offer whose Check is known. -/
theorem cost_ev {s : ByteArray} {ps : List Pc} (hc : Ev (fun k => offer_Check.f k (s, ps)) 0) (h : OkO ps) (x : Int) : Ev (fun k => offer_Cost.f k (s, ps) x) (if 0 ≤ x ∧ x ≤ total ps then (vAt ps x, 0) else (0, 4)) := by
  have ht := h.top
  unfold offer_Cost.f
  refine Ev.bind hc (Ev.pos rfl ?_)
  by_cases c1 : x < 0
  · rw [if_neg (by omega)]
    exact Ev.pos c1 (Ev.now _)
  refine Ev.neg c1 (Ev.bind (most_ev h) ?_)
  by_cases c2 : total ps < x
  · rw [if_neg (by omega)]
    exact Ev.pos c2 (Ev.now _)
  refine Ev.neg c2 ?_
  rw [if_pos (by omega)]
  have := cost_loop ps h.len (fun p hp => ⟨by have := h.pw p hp; omega, h.pr p hp⟩) ps.length 0 x 0 (by omega) (by omega) (by omega) (by omega) (by omega) (by omega)
  rw [show (0 : Int).toNat = 0 from rfl, List.drop_zero, Int.zero_add] at this
  exact this
theorem cost_bad {s : ByteArray} {ps : List Pc} {e : Int} (hc : Ev (fun k => offer_Check.f k (s, ps)) e) (he : e ≠ 0) (x : Int) : Ev (fun k => offer_Cost.f k (s, ps) x) (0, e) := by
  unfold offer_Cost.f
  exact Ev.bind hc (Ev.neg he (Ev.now _))
/-! values at sorted pieces -/
theorem vAt_pref (r x y : List Pc) (hr : Nn r) (h : ∀ d, 0 ≤ d → vAt x d = vAt y d) : ∀ d, 0 ≤ d → vAt (r ++ x) d = vAt (r ++ y) d := by
  induction r with
  | nil => exact h
  | cons p r ih =>
    intro d hd
    have hm := mn_le p.1 d
    rw [List.cons_append, List.cons_append, vAt_cons, vAt_cons, ih (fun q hq => hr q (by simp [hq])) _ (by omega)]
theorem push_nn {acc : List Pc} {p : Pc} (h : Nn acc) (hp : 0 ≤ p.1) : Nn (push acc p) := by
  rcases snoc_cases acc with rfl | ⟨r, q, rfl⟩
  · rw [push_nil]
    split
    · exact h
    · intro x hx; rw [List.mem_singleton] at hx; subst hx; exact hp
  · rw [push_snoc]
    have hq := h q (by simp)
    split
    · exact h
    · split
      · intro x hx
        rcases List.mem_append.1 hx with hx | hx
        · exact h x (by simp [hx])
        · rw [List.mem_singleton] at hx; subst hx; show 0 ≤ q.1 + p.1; omega
      · intro x hx
        rcases List.mem_append.1 hx with hx | hx
        · exact h x hx
        · rw [List.mem_singleton] at hx; subst hx; exact hp
theorem vAt_push (acc : List Pc) (p : Pc) (ps : List Pc) (ha : Nn acc) (hp : 0 ≤ p.1) (d : Int) (hd : 0 ≤ d) : vAt (push acc p ++ ps) d = vAt (acc ++ p :: ps) d := by
  have zero : p.1 = 0 → ∀ d, 0 ≤ d → vAt ps d = vAt (p :: ps) d := fun hz d hd => by
    rw [vAt_cons, hz, mn_of_le hd, Int.zero_mul, Int.zero_add, Int.sub_zero]
  rcases snoc_cases acc with rfl | ⟨r, q, rfl⟩
  · rw [push_nil]
    split
    · rename_i hz; exact zero hz d hd
    · rfl
  · rw [push_snoc]
    have hq := ha q (by simp)
    have hr : Nn r := fun x hx => ha x (by simp [hx])
    split
    · rename_i hz
      rw [List.append_assoc, List.append_assoc]
      refine vAt_pref r _ _ hr (fun d hd => ?_) d hd
      show vAt (q :: ps) d = vAt (q :: p :: ps) d
      have hm := mn_le q.1 d
      rw [vAt_cons, vAt_cons, zero hz _ (by omega)]
    · split
      · rename_i he
        rw [List.append_assoc, List.append_assoc]
        refine vAt_pref r _ _ hr (fun d hd => ?_) d hd
        show vAt ((q.1 + p.1, q.2) :: ps) d = vAt (q :: p :: ps) d
        rw [vAt_cons, vAt_cons, vAt_cons, ← he]
        show mn (q.1 + p.1) d * q.2 + vAt ps (d - mn (q.1 + p.1) d) = _
        have e1 : mn (q.1 + p.1) d = mn q.1 d + mn p.1 (d - mn q.1 d) := by unfold mn; split <;> split <;> split <;> omega
        rw [e1, Int.add_mul, show d - (mn q.1 d + mn p.1 (d - mn q.1 d)) = d - mn q.1 d - mn p.1 (d - mn q.1 d) by omega]
        omega
      · rw [List.append_assoc, List.singleton_append]
theorem vAt_pushes : ∀ (ps acc : List Pc), Nn acc → Nn ps → ∀ d, 0 ≤ d → vAt (pushes acc ps) d = vAt (acc ++ ps) d
  | [], acc, _, _, d, _ => by rw [List.append_nil]; rfl
  | p :: ps, acc, ha, hn, d, hd => by
    have hp := hn p (by simp)
    have := vAt_pushes ps (push acc p) (push_nn ha hp) (fun q hq => hn q (by simp [hq])) d hd
    rw [vAt_push acc p ps ha hp d hd] at this
    exact this
theorem nrm_sorted {ps : List Pc} (hn : Nn ps) (hs : ps.Pairwise fun p q => p.2 ≤ q.2) : nrm ps = pushes [] ps := SP.unique _ _ (nrm_SP hn) (pushes_SP ps [] SP.nil hn hs (fun q hq => by cases hq)) (fun s => by
  rw [meas_nrm]
  unfold meas
  rw [lin_pushes]
  show _ = 0 + _
  omega)
theorem vAt_nrm {ps : List Pc} (hn : Nn ps) (hs : ps.Pairwise fun p q => p.2 ≤ q.2) (d : Int) (hd : 0 ≤ d) : vAt (nrm ps) d = vAt ps d := by
  rw [nrm_sorted hn hs, vAt_pushes ps [] (fun q hq => by cases hq) hn d hd]; rfl
/-! sums up to a price -/
def ltF (p t : Int) : Int := if t < p then 1 else 0
def eqF' (p t : Int) : Int := if t = p then 1 else 0
def leF (p t : Int) : Int := if t ≤ p then 1 else 0
def idF (p t : Int) : Int := if t < p then t else 0
theorem lin_le (p : Int) : ∀ ps : List Pc, lin (leF p) ps = lin (ltF p) ps + lin (eqF' p) ps
  | [] => rfl
  | q :: ps => by
    rw [lin_cons, lin_cons, lin_cons, lin_le p ps]
    unfold leF ltF eqF'
    split <;> split <;> split <;> first | omega | (simp; omega)
theorem lin_nonneg {g : Int → Int} (hg : ∀ t, 0 ≤ g t) : ∀ ps : List Pc, Nn ps → 0 ≤ lin g ps
  | [], _ => Int.le_refl _
  | q :: ps, h => by
    have := lin_nonneg hg ps (fun x hx => h x (by simp [hx]))
    have := Int.mul_nonneg (h q (by simp)) (hg q.2)
    rw [lin_cons]; omega
theorem lin_total {g : Int → Int} (hg : ∀ t, g t ≤ 1) : ∀ ps : List Pc, Nn ps → lin g ps ≤ total ps
  | [], _ => Int.le_refl _
  | q :: ps, h => by
    have := lin_total hg ps (fun x hx => h x (by simp [hx]))
    have h1 := Int.mul_nonneg (a := q.1) (b := 1 - g q.2) (h q (by simp)) (by have := hg q.2; omega)
    rw [Int.mul_sub, Int.mul_one] at h1
    rw [lin_cons, total_cons]; omega
theorem leF_n (p t : Int) : 0 ≤ leF p t ∧ leF p t ≤ 1 := by unfold leF; split <;> omega
theorem ltF_n (p t : Int) : 0 ≤ ltF p t ∧ ltF p t ≤ 1 := by unfold ltF; split <;> omega
theorem eqF_n (p t : Int) : 0 ≤ eqF' p t ∧ eqF' p t ≤ 1 := by unfold eqF'; split <;> omega
theorem vAt_ge (p : Int) : ∀ (ps : List Pc) (n : Int), Nn ps → (ps.Pairwise fun x y => x.2 ≤ y.2) → (∀ q ∈ ps, p ≤ q.2) → 0 ≤ n → n ≤ lin (eqF' p) ps → vAt ps n = n * p
  | [], n, _, _, _, h0, h1 => by
    have : n = 0 := by have : lin (eqF' p) [] = 0 := rfl; omega
    subst this
    simp [vAt]
  | q :: ps, n, hn, hs, hp, h0, h1 => by
    have hn' : Nn ps := fun x hx => hn x (by simp [hx])
    have hq := hn q (by simp)
    have hs' := List.pairwise_cons.1 hs
    have hpq := hp q (by simp)
    rw [lin_cons] at h1
    rw [vAt_cons]
    have hm := mn_le q.1 n
    by_cases he : q.2 = p
    · have e1 : eqF' p q.2 = 1 := by unfold eqF'; rw [if_pos he]
      rw [e1, Int.mul_one] at h1
      have := vAt_ge p ps (n - mn q.1 n) hn' hs'.2 (fun x hx => hp x (by simp [hx])) (by omega) (by
        rcases hm.2.2 with e | e
        · omega
        · have := lin_nonneg (fun t => (eqF_n p t).1) ps hn'; omega)
      rw [this, he, ← Int.add_mul]
      congr 1; omega
    · have e0 : lin (eqF' p) ps = 0 := lin_above _ (s := p) (fun t ht => by unfold eqF'; rw [if_neg (by omega)]) ps (fun x hx => by have := hs'.1 x hx; omega)
      have e1 : eqF' p q.2 = 0 := by unfold eqF'; rw [if_neg he]
      rw [e1, e0, Int.mul_zero] at h1
      have : n = 0 := by omega
      subst this
      rw [mn_of_ge hq, Int.sub_zero, vAt_zero ps hn', Int.zero_mul]; simp
/-- The value at all that is cheaper than p and n at p. -/
theorem vAt_at (p : Int) : ∀ (ps : List Pc) (n : Int), Nn ps → (ps.Pairwise fun x y => x.2 ≤ y.2) → 0 ≤ n → n ≤ lin (eqF' p) ps → vAt ps (lin (ltF p) ps + n) = lin (idF p) ps + n * p
  | [], n, hn, hs, h0, h1 => by
    have : n = 0 := by have : lin (eqF' p) [] = 0 := rfl; omega
    subst this
    simp [vAt, lin]
  | q :: ps, n, hn, hs, h0, h1 => by
    have hn' : Nn ps := fun x hx => hn x (by simp [hx])
    have hq := hn q (by simp)
    have hs' := List.pairwise_cons.1 hs
    by_cases hlt : q.2 < p
    · have e1 : eqF' p q.2 = 0 := by unfold eqF'; rw [if_neg (by omega)]
      have e2 : ltF p q.2 = 1 := by unfold ltF; rw [if_pos hlt]
      have e3 : idF p q.2 = q.2 := by unfold idF; rw [if_pos hlt]
      rw [lin_cons, e1, Int.mul_zero, Int.zero_add] at h1
      have hl := lin_nonneg (fun t => (ltF_n p t).1) ps hn'
      have := vAt_at p ps n hn' hs'.2 h0 h1
      rw [lin_cons, lin_cons, e2, e3, Int.mul_one, vAt_cons, mn_of_le (by omega), show q.1 + lin (ltF p) ps + n - q.1 = lin (ltF p) ps + n by omega, this]
      omega
    · have hall : ∀ x ∈ q :: ps, p ≤ x.2 := fun x hx => by
        rcases List.mem_cons.1 hx with rfl | hx
        · omega
        · have := hs'.1 x hx; omega
      have e2 : lin (ltF p) (q :: ps) = 0 := by
        have : ∀ l : List Pc, (∀ x ∈ l, p ≤ x.2) → lin (ltF p) l = 0 := by
          intro l
          induction l with
          | nil => intro _; rfl
          | cons x l ih =>
            intro h
            have hx := h x (by simp)
            have ex : ltF p x.2 = 0 := by unfold ltF; rw [if_neg (by omega)]
            rw [lin_cons, ex, ih (fun y hy => h y (by simp [hy]))]; simp
        exact this _ hall
      have e3 : lin (idF p) (q :: ps) = 0 := by
        have : ∀ l : List Pc, (∀ x ∈ l, p ≤ x.2) → lin (idF p) l = 0 := by
          intro l
          induction l with
          | nil => intro _; rfl
          | cons x l ih =>
            intro h
            have hx := h x (by simp)
            have ex : idF p x.2 = 0 := by unfold idF; rw [if_neg (by omega)]
            rw [lin_cons, ex, ih (fun y hy => h y (by simp [hy]))]; simp
        exact this _ hall
      rw [e2, e3, Int.zero_add, Int.zero_add]
      exact vAt_ge p _ n hn hs hall h0 h1
/-! sums and slopes (no statement is proved here) -/
theorem lin_pos' (s : Int) : ∀ ps : List Pc, lin (fun t => pos (s - t)) ps = s * lin (ltF s) ps - lin (idF s) ps
  | [] => by simp [lin]
  | q :: ps => by
    rw [lin_cons, lin_cons, lin_cons, lin_pos' s ps, Int.mul_add]
    unfold pos ltF idF
    by_cases h : q.2 < s
    · rw [if_pos (by omega), if_pos h, if_pos h, Int.mul_one, Int.mul_sub, Int.mul_comm s q.1]; omega
    · rw [if_neg (by omega), if_neg h, if_neg h]; simp
theorem lt_zero' {s : Int} : ∀ ps : List Pc, (∀ q ∈ ps, s ≤ q.2) → lin (ltF s) ps = 0
  | [], _ => rfl
  | q :: ps, h => by
    have hq := h q (by simp)
    have e : ltF s q.2 = 0 := by unfold ltF; rw [if_neg (by omega)]
    rw [lin_cons, e, lt_zero' ps (fun x hx => h x (by simp [hx]))]; simp
theorem le_zero' {s : Int} : ∀ ps : List Pc, (∀ q ∈ ps, s < q.2) → lin (leF s) ps = 0
  | [], _ => rfl
  | q :: ps, h => by
    have hq := h q (by simp)
    have e : leF s q.2 = 0 := by unfold leF; rw [if_neg (by omega)]
    rw [lin_cons, e, le_zero' ps (fun x hx => h x (by simp [hx]))]; simp
theorem exists_slope' : ∀ (ps : List Pc) (d : Int), Nn ps → (ps.Pairwise fun x y => x.2 ≤ y.2) → 0 ≤ d → d ≤ total ps → ∃ s, lin (ltF s) ps ≤ d ∧ d ≤ lin (leF s) ps
  | [], d, _, _, h0, h1 => by
    rw [total_nil] at h1
    exact ⟨0, h0, h1⟩
  | q :: ps, d, hn, hs, h0, h1 => by
    have hq := hn q (by simp)
    have hn' : Nn ps := fun x hx => hn x (by simp [hx])
    have hs' := List.pairwise_cons.1 hs
    rw [total_cons] at h1
    rcases Int.le_total d q.1 with hd | hd
    · refine ⟨q.2, ?_, ?_⟩
      · rw [lt_zero' _ (fun x hx => by
          rcases List.mem_cons.1 hx with rfl | hx
          · exact Int.le_refl _
          · exact hs'.1 x hx)]
        exact h0
      · have e : leF q.2 q.2 = 1 := by unfold leF; rw [if_pos (Int.le_refl _)]
        have := lin_nonneg (fun t => (leF_n q.2 t).1) ps hn'
        rw [lin_cons, e]; omega
    · by_cases he : d = q.1
      · refine ⟨q.2, ?_, ?_⟩
        · rw [lt_zero' _ (fun x hx => by
            rcases List.mem_cons.1 hx with rfl | hx
            · exact Int.le_refl _
            · exact hs'.1 x hx)]
          exact h0
        · have e : leF q.2 q.2 = 1 := by unfold leF; rw [if_pos (Int.le_refl _)]
          have := lin_nonneg (fun t => (leF_n q.2 t).1) ps hn'
          rw [lin_cons, e]; omega
      · obtain ⟨s, s1, s2⟩ := exists_slope' ps (d - q.1) hn' hs'.2 (by omega) (by omega)
        have hqs : q.2 ≤ s := by
          apply Classical.byContradiction
          intro hc
          rw [le_zero' ps (fun x hx => by have := hs'.1 x hx; omega)] at s2
          omega
        have e1 : leF s q.2 = 1 := by unfold leF; rw [if_pos hqs]
        have h2 := ltF_n s q.2
        have := Int.mul_nonneg (a := q.1) (b := 1 - ltF s q.2) hq (by omega)
        rw [Int.mul_sub, Int.mul_one] at this
        refine ⟨s, ?_, ?_⟩
        · rw [lin_cons]; omega
        · rw [lin_cons, e1]; omega
/-! ### package offer: Supply, and values (no statement is proved here) -/
abbrev Ofr := ByteArray × List Pc
theorem most_ev' {o : Ofr} (h : OkO o.2) : Ev (fun k => offer_Most.f k o) (total o.2) := by
  obtain ⟨s, ps⟩ := o
  exact most_ev h
theorem cost_ev' {o : Ofr} (hc : Ev (fun k => offer_Check.f k o) 0) (h : OkO o.2) (x : Int) : Ev (fun k => offer_Cost.f k o x) (if 0 ≤ x ∧ x ≤ total o.2 then (vAt o.2 x, 0) else (0, 4)) := by
  obtain ⟨s, ps⟩ := o
  exact cost_ev hc h x
theorem ocheck_ev' {o : Ofr} (hs : o.1.size ≤ 140737488351232) : EvP (fun k => offer_Check.f k o) (fun e => e = 0 → OkO o.2) := by
  obtain ⟨s, ps⟩ := o
  exact ocheck_ev s hs ps
def NamedO (l : List Ofr) : Prop := ∀ o ∈ l, o.1.size ≤ 140737488351232
/-- Valid offers. -/
def OffOk (l : List Ofr) : Prop := ∀ o ∈ l, Ev (fun k => offer_Check.f k o) 0 ∧ OkO o.2
def steps (l : List Ofr) : List Pc := l.flatMap (·.2)
theorem steps_cons (o : Ofr) (l : List Ofr) : steps (o :: l) = o.2 ++ steps l := rfl
theorem steps_nil : steps [] = [] := rfl
theorem OffOk.tail {o : Ofr} {l : List Ofr} (h : OffOk (o :: l)) : OffOk l := fun x hx => h x (by simp [hx])
theorem OffOk.nn {l : List Ofr} (h : OffOk l) : Nn (steps l) := fun p hp => by
  obtain ⟨o, ho, hp⟩ := List.mem_flatMap.1 hp
  exact (h o ho).2.nn p hp
theorem OffOk.pr {l : List Ofr} (h : OffOk l) : ∀ p ∈ steps l, (1 ≤ p.1 ∧ p.1 ≤ 100000) ∧ (-1000000 ≤ p.2 ∧ p.2 ≤ 1000000) := fun p hp => by
  obtain ⟨o, ho, hp⟩ := List.mem_flatMap.1 hp
  exact ⟨(h o ho).2.pw p hp, (h o ho).2.pr p hp⟩
theorem sup_loop (l : List Pc) (hl : l.length ≤ 12) (hp : ∀ q ∈ l, 0 ≤ q.1 ∧ q.1 ≤ 100000) (p : Int) : ∀ (n : Nat) (i a b : Int), 0 ≤ i → (l.length : Int) - i = n → 0 ≤ a → a ≤ 100000 * i → 0 ≤ b → b ≤ 100000 * i → Ev (fun k => offer_Supply.l8 k p a b l (l.length : Int) i) (a + lin (ltF p) (l.drop i.toNat), b + lin (leF p) (l.drop i.toNat), 0) := by
  intro n
  induction n with
  | zero =>
    intro i a b h0 h1 ha0 ha1 hb0 hb1
    rw [drop_end (by omega), show lin (ltF p) [] = 0 from rfl, show lin (leF p) [] = 0 from rfl, Int.add_zero, Int.add_zero]
    exact Ev.step (fun k => offer_Supply.l8_eq k _ _ _ _ _ _) (Ev.neg (by omega) (Ev.now _))
  | succ n ih =>
    intro i a b h0 h1 ha0 ha1 hb0 hb1
    have hlt : i < (l.length : Int) := by omega
    obtain ⟨p0, p1⟩ := hp _ (rY0_mem h0 hlt)
    rw [rY0_drop h0 hlt, lin_cons, lin_cons, ← Int.add_assoc, ← Int.add_assoc]
    refine Ev.step (fun k => offer_Supply.l8_eq k _ _ _ _ _ _) (Ev.pos hlt (Ev.pos h0 (Ev.pos hlt ?_)))
    generalize rY0 l i = q at *
    have second : ∀ a', a' = a + q.1 * ltF p q.2 → Ev (fun k => offer_Supply.l12 k p a' b l (l.length : Int) i q.1 q.2) (a + q.1 * ltF p q.2 + lin (ltF p) (l.drop (i + 1).toNat), b + q.1 * leF p q.2 + lin (leF p) (l.drop (i + 1).toNat), 0) := by
      rintro a' rfl
      have ha' : 0 ≤ a + q.1 * ltF p q.2 ∧ a + q.1 * ltF p q.2 ≤ 100000 * (i + 1) := by
        unfold ltF; split <;> simp <;> omega
      refine Ev.step (fun k => offer_Supply.l12_eq k _ _ _ _ _ _ _ _) ?_
      rw [w64 (x := i + 1) (by omega) (by omega), w64 (x := b + q.1) (by omega) (by omega)]
      refine Ev.ite (fun hc => ?_) (fun hc => ?_)
      · have e : leF p q.2 = 1 := by unfold leF; rw [if_pos hc]
        rw [e, Int.mul_one]
        exact ih (i + 1) _ _ (by omega) (by omega) (by omega) (by omega) (by omega) (by omega)
      · have e : leF p q.2 = 0 := by unfold leF; rw [if_neg hc]
        rw [e, Int.mul_zero, Int.add_zero]
        exact ih (i + 1) _ _ (by omega) (by omega) (by omega) (by omega) (by omega) (by omega)
    rw [w64 (x := a + q.1) (by omega) (by omega)]
    refine Ev.ite (fun hc => ?_) (fun hc => ?_)
    · exact second _ (by unfold ltF; rw [if_pos hc, Int.mul_one])
    · exact second _ (by unfold ltF; rw [if_neg hc, Int.mul_zero, Int.add_zero])
theorem supply_ev {s : ByteArray} {ps : List Pc} (hc : Ev (fun k => offer_Check.f k (s, ps)) 0) (h : OkO ps) {p : Int} (hp : -2000000 ≤ p ∧ p ≤ 2000000) : Ev (fun k => offer_Supply.f k (s, ps) p) (lin (ltF p) ps, lin (leF p) ps, 0) := by
  unfold offer_Supply.f
  refine Ev.bind hc (Ev.pos rfl (Ev.neg (by omega) (Ev.neg (by omega) ?_)))
  have := sup_loop ps h.len (fun q hq => by have := h.pw q hq; omega) p ps.length 0 0 0 (by omega) (by omega) (by omega) (by omega) (by omega) (by omega)
  rw [show (0 : Int).toNat = 0 from rfl, List.drop_zero, Int.zero_add, Int.zero_add] at this
  exact this
theorem supply_ev' {o : Ofr} (hc : Ev (fun k => offer_Check.f k o) 0) (h : OkO o.2) {p : Int} (hp : -2000000 ≤ p ∧ p ≤ 2000000) : Ev (fun k => offer_Supply.f k o p) (lin (ltF p) o.2, lin (leF p) o.2, 0) := by
  obtain ⟨s, ps⟩ := o
  exact supply_ev hc h hp
theorem vAt_rng (A B : Int) : ∀ (ps : List Pc) (d : Int), (∀ p ∈ ps, (0 ≤ p.1 ∧ p.1 ≤ A) ∧ (-B ≤ p.2 ∧ p.2 ≤ B)) → 0 ≤ d → -(A * B * ps.length) ≤ vAt ps d ∧ vAt ps d ≤ A * B * ps.length
  | [], _, _, _ => by simp [vAt]
  | p :: ps, d, h, h0 => by
    obtain ⟨⟨a, b⟩, c, e⟩ := h p (by simp)
    have hm := mn_le p.1 d
    have := vAt_rng A B ps (d - mn p.1 d) (fun q hq => h q (by simp [hq])) (by omega)
    have m := mul_abs (a := mn p.1 d) (b := p.2) (A := A) (B := B) (by omega) (by omega) c e
    rw [vAt_cons, List.length_cons, show A * B * ((ps.length + 1 : Nat) : Int) = A * B * (ps.length : Int) + A * B by rw [show ((ps.length + 1 : Nat) : Int) = (ps.length : Int) + 1 by omega, Int.mul_add]; omega]
    omega
theorem OkO.cost_rng {ps : List Pc} (h : OkO ps) {d : Int} (h0 : 0 ≤ d) : -1200000000000 ≤ vAt ps d ∧ vAt ps d ≤ 1200000000000 := by
  have := vAt_rng 100000 1000000 ps d (fun p hp => ⟨by have := h.pw p hp; omega, h.pr p hp⟩) h0
  have := h.len
  omega
end Go.Proofs.Ytodagcbcdkfniaa.VE
