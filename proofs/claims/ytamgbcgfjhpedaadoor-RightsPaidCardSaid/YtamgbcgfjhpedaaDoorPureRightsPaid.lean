/- The pure statement of the law RightsPaid; what its row says is proved behind it. -/
import Derived.Test.YtamgbcgfjhpedaaDoorVpRi
namespace Go.Proofs.YtamgbcgfjhpedaaDoor.VE
open Go Go.RowKit
set_option linter.unusedVariables false
attribute [local irreducible] wrap64
theorem rL4 (a b c d : LdT) : rY15 [a, b, c, d] ((0 : Nat) : Int) = a ∧ rY15 [a, b, c, d] ((1 : Nat) : Int) = b ∧ rY15 [a, b, c, d] ((2 : Nat) : Int) = c ∧ rY15 [a, b, c, d] ((3 : Nat) : Int) = d := ⟨rfl, rfl, rfl, rfl⟩
attribute [local irreducible] rd
/-- The row's pure statement. -/
def RightsPaid.Pure : Prop := ∀ (a0 : List ByteArray × (List (ByteArray × ByteArray × ByteArray × Bool × Bool)) × (List (ByteArray × ByteArray × ByteArray × Int × Int × Int × Int × Int × Int)) × (List (ByteArray × ByteArray × Int × Int × Int)) × (List (ByteArray × ByteArray × Int)) × List (ByteArray × ByteArray × Int × Int × Int)) (a1 : ByteArray × ByteArray × Int) (a2 : List ByteArray) (a3 : Int), OkV BY (.pair (.list 9 .str) (.pair (.list 150 (.pair .str (.pair .str (.pair .str (.pair .bool .bool))))) (.pair (.list 107 (.pair .str (.pair .str (.pair .str (.pair (.int .i64) (.pair (.int .i64) (.pair (.int .i64) (.pair (.int .i64) (.pair (.int .i64) (.int .i64)))))))))) (.pair (.list 76 (.pair .str (.pair .str (.pair (.int .i64) (.pair (.int .i64) (.int .i64)))))) (.pair (.list 109 (.pair .str (.pair .str (.int .i64)))) (.list 175 (.pair .str (.pair .str (.pair (.int .i64) (.pair (.int .i64) (.int .i64))))))))))) a0 → OkV BY (.pair .str (.pair .str (.int .i64))) a1 → OkV BY (.list 28 .str) a2 → OkV BY (.int .i64) a3 → ∃ k, gridhallkeep3_RightsPaid.f k a0 a1 a2 a3 = some true
theorem thirty : Ev (fun k => (gridhallkeep3_ring.f k 10).bind fun r1 => rights_Payout.f k r1.1 [(ByteArray.mk #[78, 49], ByteArray.mk #[78, 50], 10)] [ByteArray.mk #[53], ByteArray.mk #[56]]) ([ByteArray.mk #[51, 48]], 0) := Ev.far 100 (fun k => by kernel_rfl)
theorem thirty2 : Ev (fun k => slices_Equal_api_Rat.f k [ByteArray.mk #[51, 48]] [ByteArray.mk #[51, 48]]) true := Ev.far 10 (fun k => by kernel_rfl)
theorem Pure.RightsPaid : RightsPaid.Pure := by
  intro a0 a1 a2 a3 ok0 ok1 ok2 ok3
  have hz : NetSz a0 := ⟨fun x hx => Nat.le_trans (ok0.1.2 x hx) (by omega), fun x hx => Nat.le_trans (ok0.2.1.2 x hx).1 (by omega), fun x hx => Nat.le_trans (ok0.2.2.1.2 x hx).1 (by omega), fun x hx => Nat.le_trans (ok0.2.2.2.1.2 x hx).1 (by omega), fun x hx => Nat.le_trans (ok0.2.2.2.2.1.2 x hx).1 (by omega), fun x hx => Nat.le_trans (ok0.2.2.2.2.2.2 x hx).1 (by omega)⟩
  have hs : ∀ x ∈ a2, x.size ≤ 140737488355328 := fun x hx => Nat.le_trans (ok2.2 x hx) (by omega)
  have h1 : -9223372036854775808 ≤ a1.2.2 ∧ a1.2.2 ≤ 9223372036854775807 := ok1.2.2
  have h3 : -9223372036854775808 ≤ a3 ∧ a3 ≤ 9223372036854775807 := ok3
  refine EvP.rounds ?_
  have T : Ev (fun k => rights_Payout.f k (([ByteArray.mk #[78, 49], ByteArray.mk #[78, 50]], [], [(ByteArray.mk #[76, 49], ByteArray.mk #[78, 49], ByteArray.mk #[78, 50], 1000, 1000, 0, 10, 10, 1)], [(ByteArray.mk #[71, 49], ByteArray.mk #[78, 49], 0, 20, 1), (ByteArray.mk #[71, 50], ByteArray.mk #[78, 50], 0, 20, 1)], [(ByteArray.mk #[68, 49], ByteArray.mk #[78, 50], 15)], [])) [(ByteArray.mk #[78, 49], ByteArray.mk #[78, 50], 10)] [ByteArray.mk #[53], ByteArray.mk #[56]]) ([ByteArray.mk #[51, 48]], 0) := by
    obtain ⟨K, hK⟩ := thirty
    exact ⟨K, hK⟩
  refine EvP.bindE (Ev.now _) (EvP.bindE T (EvP.pos rfl (EvP.bindE thirty2 (EvP.pos rfl ?_))))
  refine EvP.bind (within_ev a3 1 1000 h3 (by omega) (by omega) (by omega) (by omega)) (fun p hp => EvP.bind (within_ev a1.2.2 1 1000 h1 (by omega) (by omega) (by omega) (by omega)) (fun q hq => ?_))
  rw [w64 (x := p + q) (by omega) (by omega), w64 (x := p + q - p) (by omega) (by omega), show p + q - p = q by omega]
  refine EvP.bind (payout_ex a0 hz _ a2 hs) (fun r hr => EvP.ite (fun e => ?_) (fun e => EvP.neg e (EvP.ret (by rw [hr.1 e]; rfl))))
  obtain ⟨t, f, hok, ht, hl, hf, hx, hrl, hro⟩ := hr.2 e
  have hrl : r.1.length = 4 := hrl
  obtain ⟨e0, e1, e2, e3⟩ := rL4 (a1.1, a1.2.1, q) (a1.2.1, a1.1, q) (a1.1, a1.2.1, p) (a1.1, a1.2.1, p + q)
  have o0 := hro 0 (by simp)
  have o1 := hro 1 (by simp)
  have o2 := hro 2 (by simp)
  have o3 := hro 3 (by simp)
  rw [e0] at o0
  rw [e1] at o1
  rw [e2] at o2
  rw [e3] at o3
  have s1 : dueQ a0 t f (a1.1, a1.2.1, q) + dueQ a0 t f (a1.2.1, a1.1, q) = 0 := by unfold dueQ; grind
  have s2 : dueQ a0 t f (a1.1, a1.2.1, q) + dueQ a0 t f (a1.1, a1.2.1, p) = dueQ a0 t f (a1.1, a1.2.1, p + q) := by
    unfold dueQ
    show _ * _ + _ * _ = _ * (((p + q : Int)) : Rat)
    rw [Rat.intCast_add]
    grind
  have A1 := ratAdd_ev o0 o1
  have A2 := ratAdd_ev o0 o2
  rw [s1, if_pos ok_zero.2] at A1
  rw [s2, if_pos o3.2] at A2
  refine EvP.pos (by omega) (EvP.pos (by decide) (EvP.pos (by omega) (EvP.pos (by decide) (EvP.pos (by omega) (EvP.bindE A1 ?_)))))
  refine EvP.pos (by decide) (EvP.pos (by omega) (EvP.pos (by decide) (EvP.pos (by omega) (EvP.bindE A2 (EvP.bindE (fine_ev _ (by simp)) (EvP.pos rfl (EvP.pos ok_zero.1.symm (EvP.pos (by decide) (EvP.pos (by omega) (EvP.ret ?_))))))))))
  exact decide_eq_true o3.1.symm
end Go.Proofs.YtamgbcgfjhpedaaDoor.VE
