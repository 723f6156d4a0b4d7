/- What gridhallkeep3.fine and within answer (lemmas; no statement is proved here). -/
import Derived.Test.YtlfhabekhfahbaaEvp
import Derived.Test.YtlfhabekhfahbaaPx22
import Derived.Test.YtlfhabekhfahbaaPx23
namespace Go.Proofs.Ytlfhabekhfahbaa.P
set_option linter.unusedVariables false
open Go.RowKit Go.Proofs.YtlfhabekhfahbaaW.PrintWords Go.Proofs.YtlfhabekhfahbaaW.PrintMore Go.Proofs.Ytlfhabekhfahbaa.Opn Go.Proofs.Ytlfhabekhfahbaa.Evp

theorem fine_index (l : List Int) (hl : l.length ≤ 1000000) : ∀ (d : Nat) (i : Int), 0 ≤ i → i ≤ (l.length : Int) → (l.length : Int) - i = d →
    EvP (fun k => slices_IndexFunc_api_Errno_api_Errno.l0 k l (l.length : Int) i) (fun r => r ≥ 0 ↔ ∃ x ∈ l.drop i.toNat, x ≠ 0) := by
  intro d
  induction d with
  | zero =>
    intro i h0 h1 hd
    refine EvP.step (fun k => by rw [slices_IndexFunc_api_Errno_api_Errno.l0]) ?_
    refine EvP.neg (by omega) (EvP.ret ?_)
    rw [drop_end (by omega)]
    simp
  | succ d ih =>
    intro i h0 h1 hd
    refine EvP.step (fun k => by rw [slices_IndexFunc_api_Errno_api_Errno.l0]) ?_
    refine EvP.pos (by omega) (EvP.pos h0 (EvP.pos (by omega) ?_))
    have hx : l.drop i.toNat = rd l i :: l.drop (i + 1).toNat := drop_getD 0 h0 (by omega)
    rw [hx]
    refine EvP.bindE (a := rd l i != 0) (Ev.now _) ?_
    refine EvP.ite (fun c => EvP.ret ?_) (fun c => ?_)
    · have hc : rd l i ≠ 0 := by simpa using c
      exact ⟨fun _ => ⟨_, List.mem_cons_self, hc⟩, fun _ => h0⟩
    · have hc : rd l i = 0 := by simpa using c
      rw [w64 (by omega) (by omega)]
      refine (ih (i + 1) (by omega) (by omega) (by omega)).mono fun r hr => hr.trans ?_
      constructor
      · rintro ⟨x, hx, h⟩
        exact ⟨x, List.mem_cons_of_mem _ hx, h⟩
      · rintro ⟨x, hx, h⟩
        rcases List.mem_cons.1 hx with rfl | hx
        · exact absurd hc h
        · exact ⟨x, hx, h⟩
theorem fine_some (l : List Int) (hl : l.length ≤ 1000000) : ∃ b, Ev (fun k => gridhallkeep3_fine.f k l) b ∧ (b = true ↔ ∀ x ∈ l, x = 0) := by
  have h : EvP (fun k => gridhallkeep3_fine.f k l) (fun b => b = true ↔ ∀ x ∈ l, x = 0) := by
    unfold gridhallkeep3_fine.f slices_ContainsFunc_api_Errno_api_Errno.f slices_IndexFunc_api_Errno_api_Errno.f
    obtain ⟨r, hr, hp⟩ := fine_index l hl l.length 0 (by omega) (by omega) (by omega)
    refine EvP.bindE (a := decide (r ≥ 0)) (Ev.bind hr (Ev.now _)) (EvP.ret ?_)
    simp only [Int.toNat_zero, List.drop_zero] at hp
    simp only [Bool.not_eq_true', decide_eq_false_iff_not, hp]
    constructor
    · intro h x hx
      exact Classical.byContradiction fun hn => h ⟨x, hx, hn⟩
    · rintro h ⟨x, hx, hn⟩
      exact hn (h x hx)
  exact h
theorem fine_true {l : List Int} (hl : l.length ≤ 1000000) (h : ∀ x ∈ l, x = 0) : Ev (fun k => gridhallkeep3_fine.f k l) true := by
  obtain ⟨b, hb, hp⟩ := fine_some l hl
  have := hp.2 h
  subst this
  exact hb
theorem fine_false {l : List Int} (hl : l.length ≤ 1000000) (h : ¬ ∀ x ∈ l, x = 0) : Ev (fun k => gridhallkeep3_fine.f k l) false := by
  obtain ⟨b, hb, hp⟩ := fine_some l hl
  cases b with
  | true => exact absurd (hp.1 rfl) h
  | false => exact hb
end Go.Proofs.Ytlfhabekhfahbaa.P
