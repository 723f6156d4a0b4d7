/- The pure statement of the law AuctionBest; what its row says is proved behind it. -/
import Derived.Test.YtodagcbcdkfniaaVpAucC
namespace Go.Proofs.Ytodagcbcdkfniaa.VE
open Go Go.RowKit
set_option linter.unusedVariables false
attribute [local irreducible] wrap64
/-- The row's pure statement. -/
def AuctionBest.Pure : Prop := ∀ (a0 : List (ByteArray × Bool × Int × Int)) (a1 : List Int) (a2 : Int), OkV BY (.list 49 (.pair .str (.pair .bool (.pair (.int .i64) (.int .i64))))) a0 → OkV BY (.list 3 (.int .i64)) a1 → OkV BY (.int .i64) a2 → ∃ k, gridhallkeep3_AuctionBest.f k a0 a1 a2 = some true
theorem Fits.snoc {l : List Ord} {fs : List Int} {o : Ord} {f : Int} (h : Fits l fs) (hf : 0 ≤ f ∧ f ≤ o.2.2.1) : Fits (l ++ [o]) (fs ++ [f]) := by
  have hl := h.len
  refine ⟨by simp [hl], fun j p g ⟨a, b⟩ => ?_⟩
  rcases Nat.lt_or_ge j l.length with hj | hj
  · rw [List.getElem?_append_left hj] at a
    rw [List.getElem?_append_left (by omega)] at b
    exact h.rng j p g ⟨a, b⟩
  · rw [List.getElem?_append_right hj] at a
    rw [List.getElem?_append_right (by omega)] at b
    rcases Nat.eq_zero_or_pos (j - l.length) with z | z
    · rw [z] at a
      rw [hl, z] at b
      simp at a b
      subst a b
      exact hf
    · rw [List.getElem?_eq_none (by simp; omega)] at a; cases a
theorem take_snoc (l : List Ord) (i : Int) (h0 : 0 ≤ i) (h1 : i < (l.length : Int)) : l.take (i + 1).toNat = l.take i.toNat ++ [rd Y2 l i] := by
  have e : (i + 1).toNat = i.toNat + 1 := by omega
  have hl : i.toNat < l.length := by omega
  rw [e, List.take_add_one, List.getElem?_eq_getElem hl]
  unfold rd
  rw [List.getD_eq_getElem?_getD, List.getElem?_eq_getElem hl]
  rfl
theorem best_loop (l : List Ord) (hl : OkL l) (hc : Ev (fun k => auction_Check.f k l) 0) (ys : List Int) (hys : ∀ y ∈ ys, -9223372036854775808 ≤ y ∧ y ≤ 9223372036854775807) (hy : ys.length = l.length) (P : Int) (hP : -2000000 ≤ P ∧ P ≤ 2000000) (N : Int) (H : ∀ gs, Fits l gs → sideSum true l gs = sideSum false l gs → sur P l gs ≤ N) : ∀ (n : Nat) (i : Int) (gs : List Int), 0 ≤ i → (l.length : Int) - i = n → Fits (l.take i.toNat) gs → EvP (fun k => gridhallkeep3_AuctionBest.l18 k l ys N (sideSum true (l.take i.toNat) gs) (sideSum false (l.take i.toNat) gs) l (l.length : Int) i P 0 gs) (fun r => r = true) := by
  have hll := hl.len
  intro n
  induction n with
  | zero =>
    intro i gs h0 h1 hf
    rw [List.take_of_length_le (by omega)] at hf ⊢
    refine EvP.step (fun k => gridhallkeep3_AuctionBest.l18_eq k _ _ _ _ _ _ _ _ _ _ _) (EvP.neg (by omega) ?_)
    refine EvP.bindE (surplus_ev l hl hc gs hf P 0 hP) (EvP.pos rfl (EvP.ite (fun he => EvP.ret ?_) (fun _ => EvP.ret rfl)))
    exact decide_eq_true (H gs hf he)
  | succ n ih =>
    intro i gs h0 h1 hf
    have hlt : i < (l.length : Int) := by omega
    have hly : i < (ys.length : Int) := by omega
    have r2 := hl.pw _ (rd_mem (t := Y2) h0 hlt)
    have hm := hys _ (rd_mem (t := .int .i64) h0 hly)
    have hg := hf.len
    rw [List.length_take] at hg
    have htl := sideSum_nonneg true _ _ hf
    have hfl := sideSum_nonneg false _ _ hf
    have htu := sideSum_le true _ _ hf (fun o ho => (hl.pw o (List.mem_of_mem_take ho)).2)
    have hfu := sideSum_le false _ _ hf (fun o ho => (hl.pw o (List.mem_of_mem_take ho)).2)
    have hle : (l.take i.toNat).length ≤ 32 := by rw [List.length_take]; omega
    refine EvP.step (fun k => gridhallkeep3_AuctionBest.l18_eq k _ _ _ _ _ _ _ _ _ _ _) (EvP.pos hlt (EvP.pos h0 (EvP.pos hlt (EvP.pos h0 (EvP.pos hly ?_)))))
    refine EvP.bind (within_ev (rd (.int .i64) ys i) 0 (rd Y2 l i).2.2.1 hm (by omega) (by omega) (by omega) (by omega)) (fun r hr => EvP.pos (by rw [List.length_singleton]; omega) ?_)
    rw [w64 (x := i + 1) (by omega) (by omega), w64 (x := sideSum true (l.take i.toNat) gs + r) (by omega) (by omega), w64 (x := sideSum false (l.take i.toNat) gs + r) (by omega) (by omega)]
    have ih' := ih (i + 1) (gs ++ [r]) (by omega) (by omega) (by rw [take_snoc l i h0 hlt]; exact hf.snoc hr)
    rw [take_snoc l i h0 hlt, sideSum_snoc _ _ _ _ _ hf.len, sideSum_snoc _ _ _ _ _ hf.len] at ih'
    refine EvP.ite (fun hb => ?_) (fun hb => ?_)
    · rw [if_pos hb, if_neg (by rw [hb]; simp), Int.add_zero] at ih'
      exact ih'
    · have hb' : (rd Y2 l i).2.1 = false := by simpa using hb
      rw [if_neg hb, if_pos hb', Int.add_zero] at ih'
      exact ih'
/-- No fills with equal sums have a greater surplus. -/
theorem surplus_best {l : List Ord} (hl : OkL l) {fs gs : List Int} {Q : Int} (h : Cleared l fs Q) (hg : Fits l gs) (he : sideSum true l gs = sideSum false l gs) (P : Int) : sur P l gs ≤ sur P l fs ∧ 0 ≤ sur P l fs := by
  have b := boundsL_bnds l fs (-2000000) 2000000 h.len
  have lh := h.lh hl.pr b
  generalize boundsL l fs (-2000000) 2000000 = r at b lh
  have s1 := sur_shift P r.1 l fs h.len
  have s2 := sur_shift P r.1 l gs hg.len
  rw [h.buy, h.sell, Int.sub_self, Int.mul_zero] at s1
  rw [he, Int.sub_self, Int.mul_zero] at s2
  have := sur_best r.1 l fs gs h.toFits hg (fun j o f hj hu => b.l1 j o f hj hu) (fun j o f hj hu => by have := b.h1 j o f hj hu; omega)
  omega
theorem Pure.AuctionBest : AuctionBest.Pure := by
  intro l ys other h0 h1 h2
  have hn : Named l := fun o ho => (h0.2 o ho).1
  apply EvP.rounds
  unfold gridhallkeep3_AuctionBest.f
  refine EvP.bindE (a := (30, 0)) (Ev.far 100 (fun k => by kernel_rfl)) (EvP.pos rfl (EvP.pos rfl (EvP.bindE sold_ev (EvP.pos rfl ?_))))
  refine EvP.bind (clear_ev l hn) (fun r hr => ?_)
  cases hr with
  | bad e he hc => exact EvP.neg he (EvP.ret rfl)
  | ok fs Q hl hc hC hQ0 =>
    have hP := priceOf_rng hl hC
    have hB := fun P => surplus_best hl hC hC.toFits (hC.buy.trans hC.sell.symm) P
    refine EvP.pos rfl (EvP.bindE (surplus_ev l hl hc fs hC.toFits (priceOf l fs Q) Q hP) ?_)
    refine EvP.bind (within_ev other (-1000000) 1000000 h2 (by omega) (by omega) (by omega) (by omega)) (fun R hR => ?_)
    refine EvP.bindE (surplus_ev l hl hc fs hC.toFits R Q (by omega)) (EvP.bindE (fine_ev [0, 0] (by decide)) (EvP.pos rfl ?_))
    have e := sur_shift (priceOf l fs Q) R l fs hC.len
    rw [hC.buy, hC.sell, Int.sub_self, Int.mul_zero, Int.add_zero] at e
    refine EvP.pos e (EvP.neg (by have := (hB (priceOf l fs Q)).2; show ¬ sur _ _ _ < 0; omega) (EvP.ite (fun hlen => ?_) (fun _ => EvP.ret rfl)))
    have hlen : (ys.length : Int) = (l.length : Int) := hlen
    have := best_loop l hl hc ys h1.2 (by omega) (priceOf l fs Q) hP (sur (priceOf l fs Q) l fs) (fun gs hg he => (surplus_best hl hC hg he _).1) l.length 0 [] (by omega) (by omega) ⟨rfl, fun j o f h => by have := h.1; simp at this⟩
    exact this
end Go.Proofs.Ytodagcbcdkfniaa.VE
