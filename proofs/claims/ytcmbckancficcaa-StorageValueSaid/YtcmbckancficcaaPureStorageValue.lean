/- The pure statement of the law StorageValue; what its row says is proved behind it. -/
import Derived.Test.YtcmbckancficcaaVpStor2
namespace Go.Proofs.Ytcmbckancficcaa.VE
open Go Go.RowKit
set_option linter.unusedVariables false
attribute [local irreducible] wrap64
/-- The row's pure statement. -/
def StorageValue.Pure : Prop := ∀ (a0 : Int × Int × Int × Int × Int) (a1 : List Int) (a2 : List Int), OkV BY (.pair (.int .i64) (.pair (.int .i64) (.pair (.int .i64) (.pair (.int .i64) (.int .i64))))) a0 → OkV BY (.list 3 (.int .i64)) a1 → OkV BY (.list 3 (.int .i64)) a2 → ∃ k, gridhallkeep3_StorageValue.f k a0 a1 a2 = some true
theorem sv_loop (f : Cv) (h : Valid f) (run : List Int) (hr : run.length ≤ 1000) (h0r : 0 < run.length) (x c : Int) (hx : rI64 run ((run.length : Int) - 1) = x) (x0 : f.1 ≤ x) (x1 : x ≤ hi f) (hc : V f x ≤ c) : ∀ (n : Nat) (i a v : Int), 0 ≤ i → (f.2.2.length : Int) - i = n → f.1 ≤ a → a ≤ x → -(1000000000000000 + 20000000000000 * i) ≤ v → v ≤ 1000000000000000 + 20000000000000 * i → v + vAt (f.2.2.drop i.toNat) (x - a) = V f x → x ≤ a + total (f.2.2.drop i.toNat) → EvP (fun k => gridhallkeep3_StorageValue.l13 k run c a v f.2.2 (f.2.2.length : Int) i) (fun r => r = true) := by
  have hl := h.1
  have hf := h.2.1
  have hh := h.hi_ge
  intro n
  induction n with
  | zero =>
    intro i a v h0 h1 a0 a1 v0 v1 hv ht
    rw [drop_end (by omega)] at hv ht
    rw [total_nil] at ht
    have hv : v + 0 = V f x := hv
    refine EvP.step (fun k => gridhallkeep3_StorageValue.l13_eq k _ _ _ _ _ _ _) (EvP.neg (by omega) ?_)
    rw [w64 (x := (run.length : Int) - 1) (by omega) (by omega), hx]
    refine EvP.pos (by omega) (EvP.pos (by omega) (EvP.pos (by omega) (EvP.ret (decide_eq_true (by omega)))))
  | succ n ih =>
    intro i a v h0 h1 a0 a1 v0 v1 hv ht
    have hlt : i < (f.2.2.length : Int) := by omega
    have p0 := h.ok.sp.p _ (rY0_mem h0 hlt)
    have p1 := h.ok.long _ (rY0_mem h0 hlt)
    have p2 := h.ok.slope _ (rY0_mem h0 hlt)
    rw [rY0_drop h0 hlt, vAt_cons] at hv
    rw [rY0_drop h0 hlt, total_cons] at ht
    refine EvP.step (fun k => gridhallkeep3_StorageValue.l13_eq k _ _ _ _ _ _ _) (EvP.pos hlt (EvP.pos h0 (EvP.pos hlt ?_)))
    have e : mx 0 (x - a) = x - a := by have := mx_ge 0 (x - a); omega
    have hm := mn_le (rY0 f.2.2 i).1 (x - a)
    have m := mul_abs (a := mn (rY0 f.2.2 i).1 (x - a)) (b := (rY0 f.2.2 i).2) (A := 2000000) (B := 10000000) (by omega) (by omega) (by omega) (by omega)
    rw [w64 (x := (run.length : Int) - 1) (by omega) (by omega), hx, w64 (x := x - a) (by omega) (by omega), e, w64 (x := i + 1) (by omega) (by omega), w64 (x := a + _) (by omega) (by omega), w64 (x := mn _ _ * _) (by omega) (by omega), w64 (x := v + _) (by omega) (by omega)]
    refine EvP.pos (by omega) (EvP.pos (by omega) (ih (i + 1) _ _ (by omega) (by omega) (by omega) (by omega) (by omega) (by omega) ?_ ?_))
    · rw [show x - (a + mn (rY0 f.2.2 i).1 (x - a)) = x - a - mn (rY0 f.2.2 i).1 (x - a) by omega]; omega
    · have := total_nonneg (f.2.2.drop (i + 1).toNat) (fun q hq => h.ok.sp.nn q (List.mem_of_mem_drop hq))
      omega
theorem Value_ev (s : Pl) (ps : List Int) : EvP (fun k => storage_Value.f k s ps) (fun r => (r.2 ≠ 0 ∧ r.1 = (0, 0, [])) ∨ (POk s ∧ PrOk ps ∧ r.2 = 0 ∧ ∃ out, Vals s ps out ∧ out.length = ps.length + 1 ∧ out[ps.length]? = some r.1)) := by
  unfold storage_Value.f
  refine EvP.bind (scheck_ev s) (fun e he => EvP.ite (fun hz => ?_) (fun hz => EvP.ret (Or.inl ⟨hz, rfl⟩)))
  refine EvP.bind (prices_ev ps) (fun e' he' => EvP.ite (fun hz' => ?_) (fun hz' => EvP.ret (Or.inl ⟨hz', rfl⟩)))
  have hs := he.1 hz
  have hp := he'.1 hz'
  have hlen := hp.len
  refine EvP.bind (values_ev hs hp) (fun r hr => ?_)
  cases hr with
  | large => exact EvP.neg (by decide) (EvP.ret (Or.inl ⟨by decide, rfl⟩))
  | none out hv hl f hf h0 hn => exact EvP.neg (by decide) (EvP.ret (Or.inl ⟨by decide, rfl⟩))
  | ok out hv hl =>
    have hlast : out[ps.length]? = some (rY2 out (ps.length : Int)) := by
      have := rY2_some (xs := out) (i := (ps.length : Int)) (by omega) (by omega)
      rwa [show (ps.length : Int).toNat = ps.length by omega] at this
    refine EvP.pos rfl ?_
    rw [show (out.length : Int) - 1 = (ps.length : Int) by omega, w64 (x := (ps.length : Int)) (by omega) (by omega)]
    exact EvP.pos (by omega) (EvP.pos (by show (ps.length : Int) < (out.length : Int); omega) (EvP.ret (Or.inr ⟨hs, hp, rfl, out, hv, hl, hlast⟩)))
theorem Pure.StorageValue : StorageValue.Pure := by
  intro s ps cs h0 h1 h2
  apply EvP.rounds
  unfold gridhallkeep3_StorageValue.f
  refine EvP.bindE (a := ((0, 0, [(2, 4)]), 0)) (Ev.far 60 (fun k => by kernel_rfl)) (EvP.pos rfl (EvP.pos rfl (EvP.pos (by decide) (EvP.pos (by decide) (EvP.pos (by decide) ?_)))))
  refine EvP.bindE (a := ([1], 4, 0)) (Ev.far 60 (fun k => by kernel_rfl)) (EvP.pos rfl (EvP.pos rfl (EvP.pos rfl ?_)))
  refine EvP.bind (Value_ev s ps) (fun r hr => EvP.bind (run_ev s ps cs) (fun q hq => ?_))
  have last : EvP (fun _ => if r.2 = 0 then some true else some (decide ((r.1.2.2.length : Int) = 0))) (fun x => x = true) := by
    refine EvP.ite (fun _ => EvP.ret rfl) (fun hz => EvP.ret ?_)
    rcases hr with ⟨_, e⟩ | ⟨_, _, e, _⟩
    · rw [e]; rfl
    · exact absurd e hz
  refine EvP.ite (fun hz => EvP.ite (fun hq0 => EvP.ite (fun hl0 => last) (fun hl0 => ?_)) (fun _ => last)) (fun _ => last)
  rcases hr with ⟨hr, _⟩ | ⟨hs, hp, _, out, hv, hl, hf⟩
  · exact absurd hz hr
  rcases hq with ⟨_, _, hq⟩ | ⟨_, _, _, q3⟩
  case inr => exact absurd hq0 q3
  cases hq with
  | bad e he _ => exact absurd hq0 he
  | ok o k z h he hlo hlz =>
    have hb := hs.b
    have hk := hs.k
    have hlen := hp.len
    have hrl := h.len
    have hsv := single_valid (b := s.2.2.2.1) (by omega)
    obtain ⟨g, g1, g2, g3, g4⟩ := run_ge hv hl ps.length 0 _ s.2.2.2.1 k z cs (by omega) hv.z (Int.le_refl _) (by rw [hsv.2.1]; exact Int.le_refl _) h
    rw [hf] at g1
    cases g1
    rw [hsv.2.2] at g4
    obtain ⟨f0, f1, hF⟩ := vals_dom hs hv (by omega) ps.length _ hf
    have hl0 : ¬ (o.length : Int) = 0 := hl0
    have hx : rI64 o ((o.length : Int) - 1) = z := by
      have := rI64_some (xs := o) (i := (o.length : Int) - 1) (by omega) (by omega)
      rw [show ((o.length : Int) - 1).toNat = o.length - 1 by omega] at this
      exact hlz _ this
    have hh := hF.hi_ge
    have hf2 := hF.2.2.1
    exact sv_loop r.1 hF o (by omega) (by omega) z k hx g2 g3 (by omega) r.1.2.2.length 0 r.1.1 r.1.2.1 (by omega) (by omega) (Int.le_refl _) g2 (by omega) (by omega) rfl g3
end Go.Proofs.Ytcmbckancficcaa.VE
