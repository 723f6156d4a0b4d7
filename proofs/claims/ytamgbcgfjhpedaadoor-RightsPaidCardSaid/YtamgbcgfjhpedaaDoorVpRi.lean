import Derived.Test.YtamgbcgfjhpedaaDoorVpNt2
import Derived.Test.YtamgbcgfjhpedaaDoorVpRAG
namespace Go.Proofs.YtamgbcgfjhpedaaDoor.VE
open Go Go.RowKit
set_option linter.unusedVariables false
attribute [local irreducible] wrap64
/-! ### within, fine (no statement is proved here) -/
theorem within_ev (a lo hi : Int) (ha : -9223372036854775808 ≤ a ∧ a ≤ 9223372036854775807) (h : lo ≤ hi) (h1 : -4611686018427387904 ≤ lo) (h2 : hi ≤ 4611686018427387904) (h3 : hi - lo ≤ 1000000000000000000) : EvP (fun k => gridhallkeep3_within.f k a lo hi) (fun r => lo ≤ r ∧ r ≤ hi) := by
  unfold gridhallkeep3_within.f
  rw [w64 (x := hi - lo) (by omega) (by omega), w64 (x := hi - lo + 1) (by omega) (by omega)]
  refine EvP.pos (by omega) (EvP.pos (by omega) (EvP.ret ?_))
  generalize hs : hi - lo + 1 = s
  have t1 : -s < Int.tmod a s ∧ Int.tmod a s < s := by
    have a1 := Int.tmod_lt_of_pos a (b := s) (by omega)
    have a2 := Int.lt_tmod_of_pos a (b := s) (by omega)
    omega
  rw [w64 (x := Int.tmod a s + s) (by omega) (by omega)]
  have t2 : 0 ≤ Int.tmod (Int.tmod a s + s) s ∧ Int.tmod (Int.tmod a s + s) s < s := ⟨Int.tmod_nonneg _ (by omega), Int.tmod_lt_of_pos _ (by omega)⟩
  rw [w64 (x := lo + _) (by omega) (by omega)]
  omega
theorem fine_loop (l : List Int) (hl : l.length ≤ 1000) : ∀ (n : Nat) (i : Int), 0 ≤ i → (l.length : Int) - i = n → Ev (fun k => slices_IndexFunc_api_Errno.l2 k l (l.length : Int) i) (if (l.drop i.toNat).all (fun e => decide (e = 0)) = true then -1 else i + ((l.drop i.toNat).takeWhile (fun e => decide (e = 0))).length) := by
  intro n
  induction n with
  | zero =>
    intro i h0 h1
    rw [drop_end (by omega)]
    exact Ev.step (fun k => slices_IndexFunc_api_Errno.l2_eq k _ _ _) (Ev.neg (by omega) (Ev.now _))
  | succ n ih =>
    intro i h0 h1
    have hlt : i < (l.length : Int) := by omega
    rw [rI64_drop (xs := l) h0 hlt]
    refine Ev.step (fun k => slices_IndexFunc_api_Errno.l2_eq k _ _ _) (Ev.pos hlt (Ev.pos h0 (Ev.pos hlt ?_)))
    refine Ev.bind (a := !decide (rI64 l i = 0)) (Ev.now _) ?_
    have ih' := ih (i + 1) (by omega) (by omega)
    rw [w64 (x := i + 1) (by omega) (by omega)]
    by_cases hz : rI64 l i = 0
    · refine Ev.neg (by simp [hz]) ?_
      simp only [List.all_cons, List.takeWhile_cons, hz, decide_true, Bool.true_and, if_true, List.length_cons]
      have e : i + (((l.drop (i + 1).toNat).takeWhile (fun e => decide (e = 0))).length + 1 : Nat) = i + 1 + (((l.drop (i + 1).toNat).takeWhile (fun e => decide (e = 0))).length : Int) := by omega
      rw [e]
      exact ih'
    · refine Ev.pos (by simp [hz]) ?_
      simp only [List.all_cons, List.takeWhile_cons, hz, decide_false, Bool.false_and, Bool.false_eq_true, if_false, List.length_nil]
      simpa using Ev.now i
theorem fine_ev (l : List Int) (hl : l.length ≤ 1000) : Ev (fun k => gridhallkeep3_fine.f k l) (l.all (fun e => decide (e = 0))) := by
  have h := fine_loop l hl l.length 0 (by omega) (by omega)
  unfold gridhallkeep3_fine.f slices_ContainsFunc_api_Errno.f slices_IndexFunc_api_Errno.f
  refine Ev.bind (Ev.bind h (Ev.now _)) ?_
  rw [show (0 : Int).toNat = 0 from rfl, List.drop_zero]
  cases hb : l.all (fun e => decide (e = 0)) with
  | true => simpa using Ev.now true
  | false =>
    simp only [Bool.false_eq_true, if_false]
    rw [decide_eq_true (p := (0 : Int) ≤ 0 + ((l.takeWhile (fun e => decide (e = 0))).length : Int)) (by omega)]
    exact Ev.now _
/-! ### package rights: Check, Payout (no statement is proved here) -/
theorem rat2_0 (a b : ByteArray) : rStr [a, b] 0 = a := rfl
theorem rat2_1 (a b : ByteArray) : rStr [a, b] 1 = b := rfl
def RiP (n : NetT) (x : LdT) : Prop := x.1 ∈ n.1 ∧ x.2.1 ∈ n.1 ∧ 1 ≤ x.2.2 ∧ x.2.2 ≤ 100000
theorem rcheck_run (n : NetT) (h : NetOk n) (hc : Ev (fun k => netmodel_Check.f k n) 0) (l : List LdT) (hl : l.length ≤ 1000) : ∀ (m j : Nat), j + m = l.length → EvP (fun k => rights_Check.l7 k l (l.length : Int) (j : Int) n.1 n.2.1 n.2.2.1 n.2.2.2.1 n.2.2.2.2.1 n.2.2.2.2.2) (fun r => r = 0 → ∀ x ∈ l.drop j, RiP n x)
  | 0, j, hj => by
    rw [List.drop_eq_nil_of_le (by omega)]
    exact EvP.step (fun k => rights_Check.l7_eq k _ _ _ _ _ _ _ _ _) (EvP.neg (by omega) (EvP.ret (fun _ x hx => by cases hx)))
  | m + 1, j, hj => by
    have hdr := rY15_drop (xs := l) (i := (j : Int)) (by omega) (by omega)
    rw [show ((j : Int)).toNat = j from rfl, show ((j : Int) + 1).toNat = j + 1 from rfl] at hdr
    have ih := rcheck_run n h hc l hl m (j + 1) (by omega)
    rw [hdr]
    refine EvP.step (fun k => rights_Check.l7_eq k _ _ _ _ _ _ _ _ _) (EvP.pos (by omega) (EvP.pos (by omega) (EvP.pos (by omega) ?_)))
    have no : ∀ {Q : Prop} {z : Int}, z ≠ 0 → z = 0 → Q := fun h e => absurd e h
    refine EvP.step (fun k => rights_Check.l10_eq k _ _ _ _ _ _ _ _ _ _ _ _ _ _) (EvP.pos (by omega) (EvP.pos (by omega) (EvP.pos (by omega) ?_)))
    rw [rat2_0]
    refine EvP.bindE (node_ev h hc _) ?_
    by_cases m1 : (rY15 l (j : Int)).1 ∈ n.1
    · rw [if_pos m1]
      refine EvP.pos rfl ?_
      rw [w64 (x := 0 + 1) (by omega) (by omega)]
      refine EvP.step (fun k => rights_Check.l10_eq k _ _ _ _ _ _ _ _ _ _ _ _ _ _) (EvP.pos (by omega) (EvP.pos (by omega) (EvP.pos (by omega) ?_)))
      rw [show (0 : Int) + 1 = 1 from rfl, rat2_1]
      refine EvP.bindE (node_ev h hc _) ?_
      by_cases m2 : (rY15 l (j : Int)).2.1 ∈ n.1
      · rw [if_pos m2]
        refine EvP.pos rfl ?_
        rw [w64 (x := 1 + 1) (by omega) (by omega)]
        refine EvP.step (fun k => rights_Check.l10_eq k _ _ _ _ _ _ _ _ _ _ _ _ _ _) (EvP.neg (by omega) (EvP.ite (fun _ => EvP.ret (no (by decide))) (fun c1 => EvP.ite (fun _ => EvP.ret (no (by decide))) (fun c2 => ?_))))
        have c1 : ¬ (rY15 l (j : Int)).2.2 < 1 := c1
        have c2 : ¬ 100000 < (rY15 l (j : Int)).2.2 := c2
        rw [w64 (x := (j : Int) + 1) (by omega) (by omega)]
        refine ih.mono (fun r hr e x hx => ?_)
        rcases List.mem_cons.1 hx with rfl | hx
        · exact ⟨m1, m2, by omega, by omega⟩
        · exact hr e x hx
      · rw [if_neg m2]
        exact EvP.neg (by decide) (EvP.ret (no (by decide)))
    · rw [if_neg m1]
      exact EvP.neg (by decide) (EvP.ret (no (by decide)))
theorem rcheck_ex (n : NetT) (hz : NetSz n) (l : List LdT) : EvP (fun k => rights_Check.f k n l) (fun r => r = 0 → NetOk n ∧ Ev (fun k => netmodel_Check.f k n) 0 ∧ l.length ≤ 12 ∧ ∀ x ∈ l, RiP n x) := by
  obtain ⟨r, hr, hp⟩ := netCheck_ex n hz
  refine EvP.bindE hr (EvP.ite (fun e => ?_) (fun e => EvP.ret (fun e' => absurd e' e)))
  have e : r = 0 := e
  subst e
  refine EvP.ite (fun _ => EvP.ret (fun e => absurd e (by decide))) (fun hl => ?_)
  have hl : ¬ 12 < (l.length : Int) := hl
  exact (rcheck_run n (hp rfl) hr l (by omega) l.length 0 (Nat.zero_add _)).mono (fun r h e => ⟨hp rfl, hr, by omega, by rw [List.drop_zero] at h; exact h e⟩)
def busS (n : NetT) (t : List Int × List Int) (s : ByteArray) : Int := rI64 t.1 (idxS n.1 s)
theorem busS_rng {n : NetT} {t : List Int × List Int} (ht : TopoP n t) {s : ByteArray} (hs : s ∈ n.1) : 0 ≤ busS n t s ∧ busS n t s < t.2.length := by
  have hi := idxS_mem hs
  have := ht.bus (idxS n.1 s).toNat (by omega)
  rw [show (((idxS n.1 s).toNat : Nat) : Int) = idxS n.1 s by omega] at this
  exact this
theorem rbus_ev {n : NetT} (h : NetOk n) (hc : Ev (fun k => netmodel_Check.f k n) 0) {t : List Int × List Int} (ht : TopoP n t) {s : ByteArray} (hs : s ∈ n.1) : Ev (fun k => rights_bus.f k n t s) (busS n t s) := by
  have hi := idxS_mem hs
  have hl := ht.lb
  have N := node_ev h hc s
  rw [if_pos hs] at N
  exact Ev.bind N (Ev.pos hi.1 (Ev.pos (by show idxS n.1 s < (t.1.length : Int); omega) (Ev.now _)))
def dueQ (n : NetT) (t : List Int × List Int) (f : Nat → Rat) (x : LdT) : Rat := (f (busS n t x.2.1).toNat - f (busS n t x.1).toNat) * ((x.2.2 : Int) : Rat)
theorem pay_run (n : NetT) (h : NetOk n) (hc : Ev (fun k => netmodel_Check.f k n) 0) (t : List Int × List Int) (ht : TopoP n t) (ps : List ByteArray) (hp : ps.length = t.2.length) (f : Nat → Rat) (hf : ∀ i : Nat, i < ps.length → OutOk (rStr ps (i : Int)) (f i)) (l : List LdT) (hl : l.length ≤ 12) (hx : ∀ x ∈ l, RiP n x) : ∀ (m j : Nat) (out : List ByteArray), j + m = l.length → out.length = j → (∀ i : Nat, i < j → OutOk (rStr out (i : Int)) (dueQ n t f (rY15 l (i : Int)))) →
    EvP (fun k => rights_Payout.l14 k ps l (l.length : Int) (j : Int) n.1 n.2.1 n.2.2.1 n.2.2.2.1 n.2.2.2.2.1 n.2.2.2.2.2 t.1 t.2 out) (fun r => (r.2 ≠ 0 → r.1 = []) ∧ (r.2 = 0 → r.1.length = l.length ∧ ∀ i : Nat, i < l.length → OutOk (rStr r.1 (i : Int)) (dueQ n t f (rY15 l (i : Int)))))
  | 0, j, out, hj, ho, hd => EvP.step (fun k => rights_Payout.l14_eq k _ _ _ _ _ _ _ _ _ _ _ _ _) (EvP.neg (by omega) (EvP.ret ⟨fun e => absurd rfl e, fun _ => ⟨by show out.length = _; omega, fun i hi => hd i (by omega)⟩⟩))
  | m + 1, j, out, hj, ho, hd => by
    have hm := hx _ (rY15_mem (xs := l) (i := (j : Int)) (by omega) (by omega))
    have b1 := busS_rng ht hm.2.1
    have b2 := busS_rng ht hm.1
    have o1 := hf (busS n t (rY15 l (j : Int)).2.1).toNat (by omega)
    have o2 := hf (busS n t (rY15 l (j : Int)).1).toNat (by omega)
    rw [show (((busS n t (rY15 l (j : Int)).2.1).toNat : Nat) : Int) = busS n t (rY15 l (j : Int)).2.1 by omega] at o1
    rw [show (((busS n t (rY15 l (j : Int)).1).toNat : Nat) : Int) = busS n t (rY15 l (j : Int)).1 by omega] at o2
    refine EvP.step (fun k => rights_Payout.l14_eq k _ _ _ _ _ _ _ _ _ _ _ _ _) (EvP.pos (by omega) (EvP.pos (by omega) (EvP.pos (by omega) ?_)))
    refine EvP.bindE (rbus_ev h hc ht hm.2.1) (EvP.pos b1.1 (EvP.pos (by omega) (EvP.bind (in_ev o1) (fun x5 h5 => EvP.bindE (rbus_ev h hc ht hm.1) (EvP.pos b2.1 (EvP.pos (by omega) (EvP.bind (in_ev o2) (fun x7 h7 => EvP.bind (subQ_ev h5 h7 (by omega)) (fun x8 h8 => EvP.bind (int_ev (a := (rY15 l (j : Int)).2.2) (by have := hm.2.2; omega) (by have := hm.2.2; omega)) (fun x9 h9 => EvP.bind (mulQ_ev h8 h9 (by omega)) (fun x10 h10 => EvP.bindE (fits_ev h10 (by omega)) ?_)))))))))))
    have eq : (f (busS n t (rY15 l (j : Int)).2.1).toNat - f (busS n t (rY15 l (j : Int)).1).toNat) * (((rY15 l (j : Int)).2.2 : Int) : Rat) = dueQ n t f (rY15 l (j : Int)) := rfl
    rw [eq] at h10 ⊢
    by_cases hF : Fit (dueQ n t f (rY15 l (j : Int)))
    · rw [if_pos hF]
      refine EvP.pos rfl (EvP.bindE (out_ev h10 (by omega)) (EvP.pos (by rw [List.length_singleton]; omega) ?_))
      rw [w64 (x := (j : Int) + 1) (by omega) (by omega)]
      refine pay_run n h hc t ht ps hp f hf l hl hx m (j + 1) _ (by omega) (by rw [List.length_append, List.length_singleton, ho]) (fun i hi => ?_)
      by_cases hij : i < j
      · have hg := rStr_some (xs := out) (i := (i : Int)) (by omega) (by omega)
        rw [rStr_get (out ++ [_]) i (rStr out (i : Int)) (by rw [List.getElem?_append_left (by omega)]; exact hg)]
        exact hd i hij
      · have : i = j := by omega
        subst this
        rw [rStr_get (out ++ [_]) i _ (by rw [List.getElem?_append_right (by omega), ho, Nat.sub_self]; rfl)]
        exact ⟨rfl, hF⟩
    · rw [if_neg hF]
      exact EvP.neg (by decide) (EvP.ret ⟨fun _ => rfl, fun e => absurd e (by decide)⟩)
theorem payout_ex (n : NetT) (hz : NetSz n) (l : List LdT) (ps : List ByteArray) (hs : ∀ x ∈ ps, x.size ≤ 140737488355328) : EvP (fun k => rights_Payout.f k n l ps) (fun r => (r.2 ≠ 0 → r.1 = []) ∧ (r.2 = 0 → ∃ (t : List Int × List Int) (f : Nat → Rat), NetOk n ∧ TopoP n t ∧ ps.length = t.2.length ∧ (∀ i : Nat, i < ps.length → OutOk (rStr ps (i : Int)) (f i)) ∧ (∀ x ∈ l, RiP n x) ∧ r.1.length = l.length ∧ ∀ i : Nat, i < l.length → OutOk (rStr r.1 (i : Int)) (dueQ n t f (rY15 l (i : Int))))) := by
  refine EvP.bind (rcheck_ex n hz l) (fun r hr => EvP.ite (fun e => ?_) (fun e => EvP.ret ⟨fun _ => rfl, fun e' => absurd e' e⟩))
  obtain ⟨hok, hc, hl, hx⟩ := hr e
  refine EvP.bind (topoOf_ex hok hc) (fun t htt => EvP.pos htt.1 (EvP.ite (fun e2 => ?_) (fun _ => EvP.ret ⟨fun _ => rfl, fun e' => absurd e' (by decide)⟩)))
  have ht := htt.2
  have e2 : (ps.length : Int) = (t.1.2.length : Int) := e2
  have hl0 := hok.l0
  have hli := ht.li
  refine EvP.bind (checkAll_ex (by omega) hs) (fun r3 h3 => EvP.ite (fun e3 => ?_) (fun e3 => EvP.ret ⟨fun _ => rfl, fun e' => absurd e' e3⟩))
  obtain ⟨f, hf⟩ := choose_q (h3 e3)
  exact (pay_run n hok hc t.1 ht ps (by omega) f hf l hl hx l.length 0 [] (Nat.zero_add _) rfl (fun i hi => by omega)).mono (fun r hr => ⟨hr.1, fun e => ⟨t.1, f, hok, ht, by omega, hf, hx, hr.2 e⟩⟩)
end Go.Proofs.YtamgbcgfjhpedaaDoor.VE
