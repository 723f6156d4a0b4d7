/- How a printed contract is put together (lemmas; no statement is proved here). -/
import Derived.Test.YtamgbcgfjhpedaaDoorVeCon
import Derived.Test.YtamgbcgfjhpedaaDoorProg
namespace Go.Proofs.YtamgbcgfjhpedaaDoor.VE
open Go Go.RowKit
theorem follows : Go.Proofs.Tryd.prog.follows .mixedOrders = true := by kernel_rfl
theorem Γnil {P : Program} : ΓOk P (look []) := fun _ _ h => by cases h
theorem Γcons {P : Program} {f : FuncId} {c : Con} {l : List (Nat × Con)} (h : ConSound P f c) (hf : ∃ fn, P.funcs[f]? = some fn ∧ (fn.name == "runtime.NumGoroutine") = false ∧ fn.body.isSome = true) (hl : ΓOk P (look l)) : ΓOk P (look ((f, c) :: l)) := by
  intro g c' h'
  rw [look_cons] at h'
  by_cases hg : g = f
  · rw [if_pos hg] at h'; cases h'; subst hg; exact ⟨h, hf⟩
  · rw [if_neg hg] at h'; exact hl g c' h'
def TZero {R : Type} : List (Nat × Hint R) → Prop
  | [] => True
  | (_, h) :: l => (∀ x, h.k x = none) ∧ TZero l
theorem tzero {R : Type} : ∀ {l : List (Nat × Hint R)}, TZero l → ∀ id h x r, look l id = some h → h.k x = some r → False
  | [], _, _, _, _, _, e, _ => by cases e
  | (i, h') :: l, ⟨h1, h2⟩, id, h, x, r, e, hx => by
    rw [look_cons] at e
    by_cases hi : id = i
    · rw [if_pos hi] at e; cases e; rw [h1 x] at hx; cases hx
    · rw [if_neg hi] at e; exact tzero h2 id h x r e hx
def TStep {P : Program} (Γ : FuncId → Option Con) (F : Fin P) (T : Nat → Option (Hint (prods F.cout.tys))) (body : Code) : List (Nat × Hint (prods F.cout.tys)) → Prop
  | [] => True
  | (id, h) :: l => (∀ x, h.k x = segK Γ F T body id (h.c.st x)) ∧ TStep Γ F T body l
theorem tstep {P : Program} {Γ : FuncId → Option Con} {F : Fin P} {T : Nat → Option (Hint (prods F.cout.tys))} {body : Code} : ∀ {l : List (Nat × Hint (prods F.cout.tys))}, TStep Γ F T body l →
    ∀ id h x r, look l id = some h → h.k x = some r → segK Γ F T body id (h.c.st x) = some r
  | [], _, _, _, _, _, e, _ => by cases e
  | (i, h') :: l, ⟨h1, h2⟩, id, h, x, r, e, hx => by
    rw [look_cons] at e
    by_cases hi : id = i
    · rw [if_pos hi] at e; cases e; subst hi; rw [← h1 x]; exact hx
    · rw [if_neg hi] at e; exact tstep h2 id h x r e hx
end Go.Proofs.YtamgbcgfjhpedaaDoor.VE
