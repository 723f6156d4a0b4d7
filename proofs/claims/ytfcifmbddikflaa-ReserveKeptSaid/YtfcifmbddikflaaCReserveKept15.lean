/- Texts of the claim, put together: Ok. -/
import Derived.Test.YtfcifmbddikflaaCReserveKept1
import Derived.Test.YtfcifmbddikflaaCReserveKept14
namespace Go.Proofs.Ytfcifmbddikflaa.P
open Go.RowKit Go.Proofs.YtfcifmbddikflaaW.PrintWords Go.Proofs.Ytfcifmbddikflaa.Opn
def ok41 (x : S41) : Prop := I64 x.f0 ∧ I64 x.f1
theorem opn41 : Opn Try.prog 41 k41 ok41 := by
  intro H enc w base spare held fuel cs x h0 hw; obtain ⟨a, ha, h⟩ := (opn_struct (f := fun x : S41 => (x.f0, x.f1)) (fun a => (⟨a.1, a.2⟩ : S41)) Try.underlying41 rfl (by kernel_rfl) (opnS_cons rfl (by kernel_rfl) (opn_i64 Try.underlying3) (opnS_one rfl (by kernel_rfl) (opn_i64 Try.underlying3))) (fun _ => rfl)) H enc w base spare held fuel cs x h0 hw
  exact ⟨a, ha, ⟨h.1, h.2⟩⟩
def ok29 (x : S29) : Prop := StrOk x.f0 ∧ (ListOk 16 ok41) x.f1
theorem opn29 : Opn Try.prog 29 k29 ok29 := by
  intro H enc w base spare held fuel cs x h0 hw; obtain ⟨a, ha, h⟩ := (opn_struct (f := fun x : S29 => (x.f0, x.f1)) (fun a => (⟨a.1, a.2⟩ : S29)) Try.underlying29 rfl (by kernel_rfl) (opnS_cons rfl (by kernel_rfl) (opn_string Try.underlying9) (opnS_one rfl (by kernel_rfl) (opn_slice Try.underlying27 (by kernel_rfl) (by kernel_rfl) opn41))) (fun _ => rfl)) H enc w base spare held fuel cs x h0 hw
  exact ⟨a, ha, ⟨h.1, h.2⟩⟩
def ok32 (x : S32) : Prop := ok29 x.f0 ∧ I64 x.f1
theorem opn32 : Opn Try.prog 32 k32 ok32 := by
  intro H enc w base spare held fuel cs x h0 hw; obtain ⟨a, ha, h⟩ := (opn_struct (f := fun x : S32 => (x.f0, x.f1)) (fun a => (⟨a.1, a.2⟩ : S32)) Try.underlying32 rfl (by kernel_rfl) (opnS_cons rfl (by kernel_rfl) opn29 (opnS_one rfl (by kernel_rfl) (opn_i64 Try.underlying3))) (fun _ => rfl)) H enc w base spare held fuel cs x h0 hw
  exact ⟨a, ha, ⟨h.1, h.2⟩⟩
end Go.Proofs.Ytfcifmbddikflaa.P
