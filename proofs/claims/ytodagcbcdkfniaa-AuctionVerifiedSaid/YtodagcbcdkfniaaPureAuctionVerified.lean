/- The pure statement of the law AuctionVerified; what its row says is proved behind it. -/
import Derived.Test.YtodagcbcdkfniaaVpAucC
namespace Go.Proofs.Ytodagcbcdkfniaa.VE
open Go Go.RowKit
set_option linter.unusedVariables false
attribute [local irreducible] wrap64
/-- The row's pure statement. -/
def AuctionVerified.Pure : Prop := ∀ (a0 : List (ByteArray × Bool × Int × Int)) (a1 : Int) (a2 : Int), OkV BY (.list 49 (.pair .str (.pair .bool (.pair (.int .i64) (.int .i64))))) a0 → OkV BY (.int .i64) a1 → OkV BY (.int .i64) a2 → ∃ k, gridhallkeep3_AuctionVerified.f k a0 a1 a2 = some true
theorem both_same' {α : Type} (x : Option α) : both x x = x := by
  unfold both
  split <;> first | rfl | exact absurd rfl (by assumption)
theorem clone_int_ev (l : List Int) (h : l.length * 8 ≤ 140737488355328) : Ev (fun k => slices_Clone_int.f k l) l := by
  unfold slices_Clone_int.f
  rw [List.nil_append, List.length_nil, Nat.zero_add, if_pos h]
  by_cases hl : l.length = 0
  · have : l = [] := List.eq_nil_of_length_eq_zero hl
    rw [if_pos hl, this, both_same']
    exact Ev.now _
  · rw [if_neg hl]
    exact Ev.now _
/-- The last part of Verify. -/
def VOk (l : List Ord) (fs : List Int) (P Q b s : Int) : Prop := b = s ∧ b = Q ∧ (boundsL l fs (-2000000) 2000000).1 ≤ (boundsL l fs (-2000000) 2000000).2 ∧ (0 < Q → (boundsL l fs (-2000000) 2000000).1 ≤ P ∧ P ≤ (boundsL l fs (-2000000) 2000000).2)
theorem verify_loop (l : List Ord) (hl : OkL l) (fs : List Int) (hf : Fits l fs) (P Q : Int) : ∀ (n : Nat) (i b s : Int), 0 ≤ i → (l.length : Int) - i = n → 0 ≤ b → b ≤ 100000 * i → 0 ≤ s → s ≤ 100000 * i → EvP (fun k => auction_Verify.l6 k l b s l (l.length : Int) i P Q fs) (fun e => e = 0 ↔ VOk l fs P Q (b + sideSum true (l.drop i.toNat) (fs.drop i.toNat)) (s + sideSum false (l.drop i.toNat) (fs.drop i.toNat))) := by
  have hll := hl.len
  have hff := hf.len
  intro n
  induction n with
  | zero =>
    intro i b s h0 h1 hb0 hb1 hs0 hs1
    rw [drop_end (xs := l) (by omega)]
    have e1 : ∀ c, sideSum c [] (fs.drop i.toNat) = 0 := fun c => by simp [sideSum]
    rw [e1, e1, Int.add_zero, Int.add_zero]
    unfold VOk
    refine EvP.step (fun k => auction_Verify.l6_eq k _ _ _ _ _ _ _ _ _) (EvP.neg (by omega) ?_)
    refine EvP.ite (fun hbs => ?_) (fun hbs => EvP.ret (by omega))
    refine EvP.ite (fun hbq => ?_) (fun hbq => EvP.ret (by omega))
    refine EvP.bindE (bounds_ev l fs hff hll P Q) ?_
    generalize boundsL l fs (-2000000) 2000000 = r
    refine EvP.ite (fun h => EvP.ret (by omega)) (fun h => ?_)
    refine EvP.ite (fun hq => ?_) (fun hq => EvP.ret (by omega))
    refine EvP.ite (fun h => EvP.ret (by omega)) (fun h => ?_)
    refine EvP.ite (fun h => EvP.ret (by omega)) (fun h => EvP.ret (by omega))
  | succ n ih =>
    intro i b s h0 h1 hb0 hb1 hs0 hs1
    have hlt : i < (l.length : Int) := by omega
    have hlf : i < (fs.length : Int) := by omega
    have ha : At l fs i.toNat (rd Y2 l i) (fl fs i) := by
      unfold fl rd
      rw [List.getD_eq_getElem?_getD, List.getD_eq_getElem?_getD, List.getElem?_eq_getElem (by omega), List.getElem?_eq_getElem (by omega)]
      exact ⟨List.getElem?_eq_getElem (by omega), List.getElem?_eq_getElem (by omega)⟩
    have r1 := hf.rng _ _ _ ha
    have r2 := hl.pw _ (rd_mem (t := Y2) h0 hlt)
    simp only [fl] at r1
    rw [drop_rd (t := Y2) h0 hlt, drop_rd (t := .int .i64) (xs := fs) h0 hlf]
    refine EvP.step (fun k => auction_Verify.l6_eq k _ _ _ _ _ _ _ _ _) (EvP.pos hlt (EvP.pos h0 (EvP.pos hlt ?_)))
    rw [w64 (x := i + 1) (by omega) (by omega), w64 (x := b + rd (.int .i64) fs i) (by omega) (by omega), w64 (x := s + rd (.int .i64) fs i) (by omega) (by omega)]
    unfold sideSum
    refine EvP.ite (fun hb => EvP.pos h0 (EvP.pos hlf ?_)) (fun hb => EvP.pos h0 (EvP.pos hlf ?_))
    · rw [if_pos hb, if_neg (by rw [hb]; simp), Int.zero_add, ← Int.add_assoc]
      exact ih (i + 1) _ _ (by omega) (by omega) (by omega) (by omega) (by omega) (by omega)
    · have hb' : (rd Y2 l i).2.1 = false := by simpa using hb
      rw [if_neg hb, if_pos hb', Int.zero_add, ← Int.add_assoc]
      exact ih (i + 1) _ _ (by omega) (by omega) (by omega) (by omega) (by omega) (by omega)
theorem verify_ev (l : List Ord) (hl : OkL l) (hc : Ev (fun k => auction_Check.f k l) 0) (fs : List Int) (P Q : Int) : EvP (fun k => auction_Verify.f k l (P, Q, fs)) (fun e => e = 0 ↔ Fits l fs ∧ VOk l fs P Q (sideSum true l fs) (sideSum false l fs)) := by
  unfold auction_Verify.f
  refine EvP.bind (valid_ev l hl hc P Q fs) (fun e he => EvP.ite (fun hz => ?_) (fun hz => EvP.ret ⟨fun h => absurd h hz, fun h => absurd (he.2 h.1) hz⟩))
  have hf := he.1 hz
  refine (verify_loop l hl fs hf P Q l.length 0 0 0 (by omega) (by omega) (by omega) (by omega) (by omega) (by omega)).mono (fun r hr => ?_)
  have e0 : (0 : Int).toNat = 0 := rfl
  rw [e0, List.drop_zero, List.drop_zero, Int.zero_add, Int.zero_add] at hr
  exact hr.trans ⟨fun h => ⟨hf, h⟩, fun h => h.2⟩
theorem sideSum_set (b : Bool) : ∀ (l : List Ord) (fs : List Int) (j : Nat) (o : Ord) (f v : Int), At l fs j o f → sideSum b l (fs.set j v) = sideSum b l fs + (if o.2.1 = b then v - f else 0)
  | [], _, _, _, _, _, h => by have := h.1; simp at this
  | _ :: _, [], _, _, _, _, h => by have := h.2; simp at this
  | x :: l, y :: fs, j, o, f, v, h => by
    rcases h.cases with ⟨rfl, rfl, rfl⟩ | ⟨i, rfl, hi⟩
    · simp only [List.set_cons_zero, sideSum]
      split <;> omega
    · simp only [List.set_cons_succ, sideSum]
      rw [sideSum_set b l fs i o f v hi]; omega
theorem Pure.AuctionVerified : AuctionVerified.Pure := by
  intro l at' by' h0 h1 h2
  have hn : Named l := fun o ho => (h0.2 o ho).1
  apply EvP.rounds
  unfold gridhallkeep3_AuctionVerified.f
  refine EvP.bindE sold_ev (EvP.pos rfl (EvP.bindE (a := 14) (Ev.far 100 (fun k => by kernel_rfl)) (EvP.pos rfl (EvP.bind (clear_ev l hn) (fun r hr => ?_)))))
  cases hr with
  | bad e he hc => exact EvP.neg he (EvP.ret rfl)
  | ok fs Q hl hc hC hQ0 =>
    have hll := hl.len
    have hff := hC.len
    refine EvP.pos rfl (EvP.bind (verify_ev l hl hc fs (priceOf l fs Q) Q) (fun e he => ?_))
    have hz : e = 0 := he.2 ⟨hC.toFits, by rw [hC.buy, hC.sell], hC.buy, hC.lh hl.pr (boundsL_bnds l fs _ _ hff), fun hQ => by
      obtain ⟨_, _, e3⟩ := priceOf_eq hl hC hQ
      exact e3⟩
    refine EvP.pos hz (EvP.ite (fun _ => EvP.ret rfl) (fun hne => ?_))
    refine EvP.bindE (clone_int_ev fs (by omega)) ?_
    rw [w64 (x := (l.length : Int) - 1) (by omega) (by omega)]
    refine EvP.bind (within_ev at' 0 ((l.length : Int) - 1) h1 (by omega) (by omega) (by omega) (by omega)) (fun i hi => ?_)
    refine EvP.pos hi.1 (EvP.pos (by omega) (EvP.bind (within_ev by' 1 5 h2 (by omega) (by omega) (by omega) (by omega)) (fun d hd => EvP.pos hi.1 (EvP.pos (by omega) ?_))))
    have hli : i < (l.length : Int) := by omega
    have ha : At l fs i.toNat (rd Y2 l i) (fl fs i) := by
      unfold fl rd
      rw [List.getD_eq_getElem?_getD, List.getD_eq_getElem?_getD, List.getElem?_eq_getElem (by omega), List.getElem?_eq_getElem (by omega)]
      exact ⟨List.getElem?_eq_getElem (by omega), List.getElem?_eq_getElem (by omega)⟩
    have r1 := hC.rng _ _ _ ha
    have r2 := hl.pw _ (rd_mem (t := Y2) hi.1 hli)
    simp only [fl] at r1
    rw [w64 (x := rd (.int .i64) fs i + d) (by omega) (by omega)]
    refine EvP.bind (verify_ev l hl hc (fs.set i.toNat (rd (.int .i64) fs i + d)) (priceOf l fs Q) Q) (fun e' he' => EvP.ret ?_)
    have hne : e' ≠ 0 := fun hz => by
      obtain ⟨_, v1, v2, _⟩ := he'.1 hz
      rw [sideSum_set true _ _ _ _ _ _ ha, sideSum_set false _ _ _ _ _ _ ha, hC.buy, hC.sell] at v1
      simp only [fl] at v1
      cases hb : (rd Y2 l i).2.1 <;> rw [hb] at v1 <;> simp at v1 <;> omega
    simp [hne]
end Go.Proofs.Ytodagcbcdkfniaa.VE
