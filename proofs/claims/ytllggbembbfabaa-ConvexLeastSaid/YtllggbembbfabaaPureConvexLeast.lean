/- The law ConvexLeast over numbers and lists: no value is less than that of Least, and the arguments before have greater ones. -/
import Derived.Test.YtllggbembbfabaaLConvex
import Derived.Test.YtllggbembbfabaaStateConvexLeast
import Derived.Test.YtllggbembbfabaaPx9
import Derived.Test.YtllggbembbfabaaPx10
import Derived.Test.YtllggbembbfabaaPx14
import Derived.Test.YtllggbembbfabaaPx15
namespace Go.Proofs.Ytllggbembbfabaa.P
set_option linter.unusedVariables false
open Go.RowKit Go.Proofs.YtllggbembbfabaaW.PrintWords Go.Proofs.YtllggbembbfabaaW.PrintMore Go.Proofs.Ytllggbembbfabaa.Opn Go.Proofs.Ytllggbembbfabaa.Evp

def leastC : Int → Int → List CPiece → Int × Int
  | at_, v, [] => (at_, v)
  | at_, v, s :: r => if s.f1 ≥ 0 then (at_, v) else leastC (at_ + s.f0) (v + s.f0 * s.f1) r
theorem convexpl_Least_loop (l : List CPiece) (hl : l.length ≤ 64) : ∀ (d : Nat) (i at_ v : Int), 0 ≤ i → i ≤ (l.length : Int) → (l.length : Int) - i = d → -1000000 ≤ at_ → BndC v → okC at_ v (prevC l i) (l.drop i.toNat) →
    Ev (fun k => convexpl_Least.l0 k at_ v l (l.length : Int) i) ((leastC at_ v (l.drop i.toNat)).1, (leastC at_ v (l.drop i.toNat)).2, 0) := by
  intro d
  induction d with
  | zero =>
    intro i at_ v h0 h1 hd ha hv ho
    refine Ev.step (fun k => by rw [convexpl_Least.l0]) ?_
    rw [drop_end (by omega)]
    exact Ev.neg (by omega) (Ev.now _)
  | succ d ih =>
    intro i at_ v h0 h1 hd ha hv ho
    refine Ev.step (fun k => by rw [convexpl_Least.l0]) ?_
    refine Ev.pos (by omega) (Ev.pos h0 (Ev.pos (by omega) ?_))
    rw [dropC h0 (by omega)] at ho ⊢
    obtain ⟨x, hx⟩ : ∃ x, x = rd_T78 l i := ⟨_, rfl⟩
    rw [← hx] at ho ⊢
    obtain ⟨o1, o2, o3, o4, o5, o6, o7, o8⟩ := ho
    simp only [leastC]
    refine Ev.ite (fun c => ?_) (fun c => ?_)
    · rw [if_pos c]; exact Ev.now _
    · rw [if_neg c]
      have hm := slope_mul (n := x.f0) (p := x.f1) o1 o2 o3 o4
      unfold BndC at hv o7
      rw [w64 (x := at_ + x.f0) (by omega) (by omega), w64 (x := x.f0 * x.f1) (by omega) (by omega), w64 (x := v + x.f0 * x.f1) (by omega) (by omega), w64 (x := i + 1) (by omega) (by omega)]
      refine ih (i + 1) _ _ (by omega) (by omega) (by omega) (by omega) o7 ?_
      have hp : prevC l (i + 1) = some x.f1 := by
        unfold prevC
        rw [if_pos (by omega), show i + 1 - 1 = i by omega, ← hx]
      rw [hp]
      exact o8

/-- From the least point on no value is less, and before it each is greater. -/
theorem leastC_best : ∀ {l : List CPiece} {at_ v : Int} {p : Option Int}, okC at_ v p l → ∀ x, at_ ≤ x → x ≤ at_ + sumC l →
    at_ ≤ (leastC at_ v l).1 ∧ (leastC at_ v l).1 ≤ at_ + sumC l ∧ valC v at_ l (leastC at_ v l).1 = (leastC at_ v l).2 ∧ (leastC at_ v l).2 ≤ v ∧ (leastC at_ v l).2 ≤ valC v at_ l x ∧ (x < (leastC at_ v l).1 → (leastC at_ v l).2 < valC v at_ l x)
  | [], at_, v, p, _, x, h0, h1 => by
    simp only [sumC] at h1
    simp only [leastC, valC, sumC]
    exact ⟨by omega, by omega, trivial, by omega, by omega, fun h => by omega⟩
  | s :: r, at_, v, p, h, x, h0, h1 => by
    obtain ⟨o1, o2, o3, o4, o5, o6, o7, o8⟩ := h
    simp only [sumC] at h1 ⊢
    simp only [leastC]
    have hs := sumC_nonneg o8
    by_cases c : s.f1 ≥ 0
    · rw [if_pos c]
      simp only
      have hv : v ≤ valC v at_ (s :: r) x := valC_up (fun t ht => by
        rcases List.mem_cons.1 ht with rfl | ht
        · exact ⟨by omega, c⟩
        · have := okC_above o8 t ht
          exact ⟨by omega, by omega⟩) h0
      have hz : valC v at_ (s :: r) at_ = v := valC_start (fun t ht => by
        rcases List.mem_cons.1 ht with rfl | ht
        · omega
        · have := okC_above o8 t ht; omega)
      refine ⟨by omega, by omega, hz, by omega, hv, fun hx => by omega⟩
    · rw [if_neg c]
      -- the point lies behind this piece
      have ih0 := leastC_best o8 (at_ + s.f0) (by omega) (by omega)
      obtain ⟨i1, i2, i3, i4, _, _⟩ := ih0
      have e : ∀ y, at_ + s.f0 ≤ y → valC v at_ (s :: r) y = valC (v + s.f0 * s.f1) (at_ + s.f0) r y := by
        intro y hy
        simp only [valC]
        have : mn s.f0 (y - at_) = s.f0 := by unfold mn; rw [if_neg (by omega)]
        rw [this]
      have hneg : s.f0 * s.f1 < 0 := Int.mul_neg_of_pos_of_neg (by omega) (by omega)
      refine ⟨by omega, by omega, by rw [e _ i1]; exact i3, by omega, ?_, ?_⟩
      · by_cases hx : at_ + s.f0 ≤ x
        · rw [e x hx]
          exact (leastC_best o8 x hx (by omega)).2.2.2.2.1
        · have hv : valC v at_ (s :: r) x = v + (x - at_) * s.f1 := valC_first (fun t ht => by have := okC_above o8 t ht; omega) h0 (by omega)
          rw [hv]
          have hq : 0 ≤ (s.f0 - (x - at_)) * (-s.f1) := Int.mul_nonneg (by omega) (by omega)
          rw [Int.sub_mul, Int.mul_neg, Int.mul_neg] at hq
          omega
      · intro hx0
        by_cases hx : at_ + s.f0 ≤ x
        · rw [e x hx]
          exact (leastC_best o8 x hx (by omega)).2.2.2.2.2 hx0
        · have hv : valC v at_ (s :: r) x = v + (x - at_) * s.f1 := valC_first (fun t ht => by have := okC_above o8 t ht; omega) h0 (by omega)
          rw [hv]
          have hq : 0 < (s.f0 - (x - at_)) * (-s.f1) := Int.mul_pos (by omega) (by omega)
          rw [Int.sub_mul, Int.mul_neg, Int.mul_neg] at hq
          omega

theorem convexLeast_pure : ConvexLeast.Pure := by
  intro f x ho hx
  refine Ev.rounds ?_
  unfold gridhallkeep3_ConvexLeast.f gridhallkeep3_rises.f
  have t1 : Ev (fun k => convexpl_Least.f k 0 0 [⟨10, 5⟩, ⟨10, 8⟩]) (0, 0, 0) := Ev.of (fun k => convexpl_Least.mono _ _ _ k) (k := 30) (by decide +kernel)
  have t2 : Ev (fun k => gridhallkeep3_slopes.f k) true := Ev.of (fun k => gridhallkeep3_slopes.mono k) (k := 30) (by decide +kernel)
  refine Ev.binds (Ev.bind t1 (Ev.pos rfl (Ev.pos rfl (Ev.pos rfl (Ev.bind t2 ?_)))))
  refine Ev.step (fun k => by rw [gridhallkeep3_ConvexLeast.j0]) (Ev.neg (by decide) ?_)
  obtain ⟨e, he⟩ := CheckedC.some f.f0 f.f1 f.f2
  by_cases e0 : e = 0
  · subst e0
    have hv := he.valid
    have hl : Ev (fun k => convexpl_Least.f k f.f0 f.f1 f.f2) ((leastC f.f0 f.f1 f.f2).1, (leastC f.f0 f.f1 f.f2).2, 0) := by
      unfold convexpl_Least.f
      refine Ev.bind he.ev (Ev.pos rfl ?_)
      have := convexpl_Least_loop f.f2 hv.1 f.f2.length 0 f.f0 f.f1 (by omega) (by omega) (by omega) hv.2.1 (by have := hv.2.2.2; unfold BndC; omega) (by simpa [prevC] using hv.ok)
      simpa using this
    refine Ev.bind hl (Ev.pos rfl ?_)
    obtain ⟨n, en, hen, hn⟩ := at_any he x
    have b0 := leastC_best hv.ok f.f0 (by omega) (by have := sumC_nonneg hv.ok; omega)
    have hm := at_in he (x := (leastC f.f0 f.f1 f.f2).1) b0.1 b0.2.1
    refine Ev.bind hen (Ev.bind hm (Ev.pos rfl (Ev.pos b0.2.2.1 ?_)))
    refine Ev.ite (fun c => ?_) (fun _ => Ev.now _)
    obtain ⟨_, h1, h2, rfl⟩ : en = 0 ∧ f.f0 ≤ x ∧ x ≤ f.f0 + sumC f.f2 ∧ n = valC f.f1 f.f0 f.f2 x := by
      rcases hn with h | h
      · exact h
      · exact absurd c h.1
    have b := leastC_best hv.ok x h1 h2
    refine Ev.pos b.2.2.2.2.1 (Ev.ite (fun _ => Ev.now _) (fun c2 => ?_))
    rw [decide_eq_true (show x ≥ (leastC f.f0 f.f1 f.f2).1 from by
      have := b.2.2.2.2.2
      simp only at c2
      omega)]
    exact Ev.now _
  · have hl : Ev (fun k => convexpl_Least.f k f.f0 f.f1 f.f2) (0, 0, e) := by
      unfold convexpl_Least.f
      exact Ev.bind he.ev (Ev.neg e0 (Ev.now _))
    exact Ev.bind hl (Ev.neg e0 (Ev.pos rfl (Ev.now _)))
end Go.Proofs.Ytllggbembbfabaa.P
namespace Go.Proofs.Ytllggbembbfabaa.Pure
open Go.Proofs.Ytllggbembbfabaa.P
theorem ConvexLeast : ConvexLeast.Pure := convexLeast_pure
end Go.Proofs.Ytllggbembbfabaa.Pure
