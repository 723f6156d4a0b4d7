/- The pure statement of the law ConvexFenchel; what its row says is proved behind it. -/
import Derived.Test.YtcmbckancficcaaVpCvx3
namespace Go.Proofs.Ytcmbckancficcaa.VE
open Go Go.RowKit
set_option linter.unusedVariables false
attribute [local irreducible] wrap64
/-- The row's pure statement. -/
def ConvexFenchel.Pure : Prop := ∀ (a0 : Int × Int × List (Int × Int)) (a1 : Int × Int × List (Int × Int)) (a2 : Int) (a3 : Int), OkV BY (.pair (.int .i64) (.pair (.int .i64) (.list 60 (.pair (.int .i64) (.int .i64))))) a0 → OkV BY (.pair (.int .i64) (.pair (.int .i64) (.list 60 (.pair (.int .i64) (.int .i64))))) a1 → OkV BY (.int .i64) a2 → OkV BY (.int .i64) a3 → ∃ k, gridhallkeep3_ConvexFenchel.f k a0 a1 a2 a3 = some true
theorem Pure.ConvexFenchel : ConvexFenchel.Pure := by
  intro f g s x h0 h1 h2 h3
  apply EvP.rounds
  unfold gridhallkeep3_ConvexFenchel.f
  refine EvP.bindE (a := (0, 0, [(10, 5), (10, 8)])) (Ev.now _) (EvP.bindE (a := (10, 0)) (Ev.far 60 (fun k => by kernel_rfl)) (EvP.pos rfl (EvP.pos rfl (EvP.bindE slopes_ev (EvP.pos rfl ?_)))))
  refine EvP.bind (convolve_ev f g) (fun c hc => EvP.bind (conj_ev f s) (fun a ha => EvP.bind (conj_ev g s) (fun b hb => EvP.bind (conj_ev c.1 s) (fun d hd => EvP.bind (at_ev f x) (fun v hv => ?_)))))
  have last : EvP (fun k => (gridhallkeep3_fine.f k [c.2, a.2, b.2, d.2]).bind fun r10 => if r10 = true then some (decide (d.1 = (wrap64 (a.1 + b.1)))) else some true) (fun r => r = true) := by
    refine EvP.bindE (fine_ev [c.2, a.2, b.2, d.2] (by simp)) (EvP.ite (fun hf => ?_) (fun hf => EvP.ret rfl))
    simp only [List.all_cons, List.all_nil, Bool.and_true, Bool.and_eq_true, decide_eq_true_eq] at hf
    obtain ⟨hf1, hf2, hf3, hf4⟩ := hf
    rcases hc with ⟨hc, _⟩ | ⟨hF, hG, hC, rfl⟩
    · exact absurd hf1 hc
    rcases ha with ⟨ha, _⟩ | ⟨_, hs, rfl⟩
    · exact absurd hf2 ha
    rcases hb with ⟨hb, _⟩ | ⟨_, _, rfl⟩
    · exact absurd hf3 hb
    rcases hd with ⟨hd, _⟩ | ⟨_, _, rfl⟩
    · exact absurd hf4 hd
    refine EvP.ret (decide_eq_true ?_)
    have e : conj (conv f g) s = conj f s + conj g s := by
      unfold conj conv
      simp only
      rw [lin_nrm, lin_append, Int.mul_add]; omega
    have rng : ∀ (f : Cv), Valid f → -100000000000000000 ≤ conj f s ∧ conj f s ≤ 100000000000000000 := by
      intro f hF
      have q1 := hF.2.1
      have q2 := hF.2.2.1
      have m := mul_abs (a := s) (b := f.1) (A := 10000000) (B := 1000000) (by omega) (by omega) (by omega) (by omega)
      have : ∀ ps : List Pc, (∀ p ∈ ps, (0 ≤ p.1 ∧ p.1 ≤ 2000000) ∧ (-10000000 ≤ p.2 ∧ p.2 ≤ 10000000)) → 0 ≤ lin (fun t => pos (s - t)) ps ∧ lin (fun t => pos (s - t)) ps ≤ 40000000000000 * ps.length := by
        intro ps
        induction ps with
        | nil => intro _; exact ⟨Int.le_refl _, by simp [lin]⟩
        | cons p ps ih =>
          intro hp
          obtain ⟨i1, i2⟩ := ih (fun q hq => hp q (by simp [hq]))
          obtain ⟨⟨p0, p1⟩, p2, p3⟩ := hp p (by simp)
          have hpos : 0 ≤ pos (s - p.2) ∧ pos (s - p.2) ≤ 20000000 := by unfold pos; split <;> omega
          have m1 := Int.mul_nonneg p0 hpos.1
          have m2 := mul_abs (a := p.1) (b := pos (s - p.2)) (A := 2000000) (B := 20000000) (by omega) (by omega) (by omega) (by omega)
          rw [lin_cons, List.length_cons]
          omega
      have := this f.2.2 (fun p hp => ⟨⟨hF.ok.sp.nn p hp, hF.ok.long p hp⟩, hF.ok.slope p hp⟩)
      have := hF.1
      unfold conj
      omega
    have r1 := rng f hF
    have r2 := rng g hG
    show conj (conv f g) s = wrap64 (conj f s + conj g s)
    rw [w64 (by omega) (by omega), e]
  refine EvP.bindE (fine_ev [a.2, v.2] (by simp)) (EvP.ite (fun hf => ?_) (fun hf => last))
  simp only [List.all_cons, List.all_nil, Bool.and_true, Bool.and_eq_true, decide_eq_true_eq] at hf
  rcases ha with ⟨ha, _⟩ | ⟨_, hs, rfl⟩
  · exact absurd hf.1 ha
  obtain ⟨hF, x0, x1⟩ := hv.iff.1 hf.2
  have hh := hF.hi_ge
  have hF1 := hF.2.1
  have m := mul_abs (a := s) (b := x) (A := 10000000) (B := 1000000) (by omega) (by omega) (by omega) (by omega)
  have hVr := hF.V_rng x0 x1
  have hc := conj_ge hF x0 x1 s
  rw [hv.val hf.2, w64 (x := s * x) (by omega) (by omega), w64 (x := s * x - V f x) (by omega) (by omega)]
  refine EvP.neg ?_ last
  show ¬ conj f s < _
  omega
end Go.Proofs.Ytcmbckancficcaa.VE
