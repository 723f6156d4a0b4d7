/- The pure statement of the law RampKept; what its row says is proved behind it. -/
import Derived.Test.YtcmbckancficcaaVpRamp2
namespace Go.Proofs.Ytcmbckancficcaa.VE
open Go Go.RowKit
set_option linter.unusedVariables false
attribute [local irreducible] wrap64
/-- The row's pure statement. -/
def RampKept.Pure : Prop := ∀ (a0 : List (Int × Int)) (a1 : Int) (a2 : Int) (a3 : Int) (a4 : List Int) (a5 : List Int), OkV BY (.list 68 (.pair (.int .i64) (.int .i64))) a0 → OkV BY (.int .i64) a1 → OkV BY (.int .i64) a2 → OkV BY (.int .i64) a3 → OkV BY (.list 3 (.int .i64)) a4 → OkV BY (.list 3 (.int .i64)) a5 → ∃ k, gridhallkeep3_RampKept.f k a0 a1 a2 a3 a4 a5 = some true
theorem sum_loop (ts ps : List Int) (hl : ps.length = ts.length) (h24 : ps.length ≤ 24) (ht : ∀ t ∈ ts, 0 ≤ t ∧ t ≤ 100000) (hp : ∀ p ∈ ps, 0 ≤ p ∧ p ≤ 100000) : ∀ (n : Nat) (i v : Int), 0 ≤ i → (ps.length : Int) - i = n → 0 ≤ v → v ≤ 100000 * i → Ev (fun k => gridhallkeep3_RampKept_1.l3 k v ps (ps.length : Int) i ts) (v + dist (ts.drop i.toNat) (ps.drop i.toNat), ts) := by
  intro n
  induction n with
  | zero =>
    intro i v h0 h1 hv0 hv1
    rw [drop_end (xs := ts) (by omega)]
    show Ev _ (v + 0, ts)
    rw [Int.add_zero]
    exact Ev.step (fun k => gridhallkeep3_RampKept_1.l3_eq k _ _ _ _ _) (Ev.neg (by omega) (Ev.now _))
  | succ n ih =>
    intro i v h0 h1 hv0 hv1
    have hlt : i < (ps.length : Int) := by omega
    have hlts : i < (ts.length : Int) := by omega
    have a := ht _ (rI64_mem h0 hlts)
    have b := hp _ (rI64_mem h0 hlt)
    rw [rI64_drop h0 hlts, rI64_drop h0 hlt]
    have m := mx_ge (rI64 ps i - rI64 ts i) (rI64 ts i - rI64 ps i)
    refine Ev.step (fun k => gridhallkeep3_RampKept_1.l3_eq k _ _ _ _ _) (Ev.pos hlt (Ev.pos h0 (Ev.pos hlt (Ev.pos h0 (Ev.pos hlts (Ev.pos h0 (Ev.pos hlts ?_)))))))
    rw [w64 (x := i + 1) (by omega) (by omega), w64 (x := rI64 ps i - rI64 ts i) (by omega) (by omega), w64 (x := rI64 ts i - rI64 ps i) (by omega) (by omega), w64 (x := v + _) (by omega) (by omega)]
    show Ev _ (v + (mx (rI64 ps i - rI64 ts i) (rI64 ts i - rI64 ps i) + dist (ts.drop (i + 1).toNat) (ps.drop (i + 1).toNat)), ts)
    rw [← Int.add_assoc]
    exact ih (i + 1) _ (by omega) (by omega) (by omega) (by omega)
theorem Sch.rng {u d y : Int} {l : List Pc} {ps : List Int} (h : Sch u d y l ps) (hl : ∀ x ∈ l, 0 ≤ x.1 ∧ x.1 ≤ x.2 ∧ x.2 ≤ 100000) : ∀ p ∈ ps, 0 ≤ p ∧ p ≤ 100000 := by
  induction h with
  | nil => intro p hp; cases hp
  | cons y x p l ps h1 h2 _ ih =>
    intro q hq
    rcases List.mem_cons.1 hq with rfl | hq
    · have := hl x (by simp); omega
    · exact ih (fun z hz => hl z (by simp [hz])) q hq
theorem sum_ev {l : List Pc} {b u d : Int} (h : ROk l b u d) {ts ps : List Int} (htl : ts.length = l.length) (ht : ∀ t ∈ ts, 0 ≤ t ∧ t ≤ 100000) (hs : Sch u d b l ps) : Ev (fun k => gridhallkeep3_RampKept_1.f k ps ts) (dist ts ps, ts) := by
  have hl := hs.len
  have hlen := h.len
  have := sum_loop ts ps (by omega) (by omega) ht (hs.rng h.lim) ps.length 0 0 (by omega) (by omega) (by omega) (by omega)
  rw [show (0 : Int).toNat = 0 from rfl, List.drop_zero, List.drop_zero, Int.zero_add] at this
  exact this
theorem Pure.RampKept : RampKept.Pure := by
  intro l b u d ts other h0 h1 h2 h3 h4 h5
  apply EvP.rounds
  unfold gridhallkeep3_RampKept.f
  refine EvP.bindE feas0_ev (EvP.pos rfl (EvP.pos rfl (EvP.bindE near_ev (EvP.pos rfl (EvP.bind (nearest_ev l b u d ts) (fun r hr => ?_))))))
  rcases hr with ⟨hR, htl, ht, hr⟩ | ⟨_, r1, r2, r3⟩
  case inr => exact EvP.neg r3 (EvP.pos (by rw [r1]; rfl) (EvP.ret (decide_eq_true r2)))
  cases hr with
  | none e he hn => exact EvP.neg he (EvP.pos rfl (EvP.ret rfl))
  | ok xs sum hs hd hm =>
    refine EvP.pos rfl (EvP.bind (feas_ev l b u d xs) (fun f hf => EvP.bind (feas_ev l b u d other) (fun g hg => ?_)))
    rcases hf with ⟨_, f2, f3⟩ | ⟨_, _, f3⟩
    case inr => exact absurd hs.len (f3 hR)
    refine EvP.pos f2 (EvP.pos (f3.2 hs) (EvP.bindE (sum_ev hR htl ht hs) (EvP.pos hd (EvP.ite (fun g2 => EvP.ite (fun g1 => ?_) (fun _ => EvP.ret rfl)) (fun _ => EvP.ret rfl)))))
    rcases hg with ⟨_, _, g3⟩ | ⟨_, g3, _⟩
    case inr => exact absurd g2 g3
    have hs' := g3.1 g1
    exact EvP.bindE (sum_ev hR htl ht hs') (EvP.ret (decide_eq_true (hm other hs')))
end Go.Proofs.Ytcmbckancficcaa.VE
