-- Written by xprint.py of this session.
import Derived.Test.YtlfhabekhfahbaaOpn
import Derived.Test.YtlfhabekhfahbaaPx0
namespace Go.Proofs.Ytlfhabekhfahbaa.P
open Go.RowKit Go.Proofs.YtlfhabekhfahbaaW.PrintWords Go.Proofs.Ytlfhabekhfahbaa.Opn
def ok52 (x : S52) : Prop := I64 x.f0 ∧ I64 x.f1
theorem opn52 : Opn Try.prog 52 k52 ok52 := by
  intro H enc w base spare held fuel cs x h0 hw
  obtain ⟨a, ha, h⟩ := (opn_struct (f := fun x : S52 => (x.f0, x.f1)) (fun a => (⟨a.1, a.2⟩ : S52)) Try.underlying52 rfl (by kernel_rfl) (opnS_cons rfl (by kernel_rfl) (opn_i64 Try.underlying3) (opnS_one rfl (by kernel_rfl) (opn_i64 Try.underlying3))) (fun _ => rfl)) H enc w base spare held fuel cs x h0 hw
  exact ⟨a, ha, ⟨h.1, h.2⟩⟩
def ok29 (x : S29) : Prop := StrOk x.f0 ∧ (ListOk 16 ok52) x.f1
theorem opn29 : Opn Try.prog 29 k29 ok29 := by
  intro H enc w base spare held fuel cs x h0 hw
  obtain ⟨a, ha, h⟩ := (opn_struct (f := fun x : S29 => (x.f0, x.f1)) (fun a => (⟨a.1, a.2⟩ : S29)) Try.underlying29 rfl (by kernel_rfl) (opnS_cons rfl (by kernel_rfl) (opn_string Try.underlying9) (opnS_one rfl (by kernel_rfl) (opn_slice Try.underlying27 (by kernel_rfl) (by kernel_rfl) opn52))) (fun _ => rfl)) H enc w base spare held fuel cs x h0 hw
  exact ⟨a, ha, ⟨h.1, h.2⟩⟩
def ok55 (x : S55) : Prop := ok29 x.f0 ∧ I64 x.f1
theorem opn55 : Opn Try.prog 55 k55 ok55 := by
  intro H enc w base spare held fuel cs x h0 hw
  obtain ⟨a, ha, h⟩ := (opn_struct (f := fun x : S55 => (x.f0, x.f1)) (fun a => (⟨a.1, a.2⟩ : S55)) Try.underlying55 rfl (by kernel_rfl) (opnS_cons rfl (by kernel_rfl) opn29 (opnS_one rfl (by kernel_rfl) (opn_i64 Try.underlying3))) (fun _ => rfl)) H enc w base spare held fuel cs x h0 hw
  exact ⟨a, ha, ⟨h.1, h.2⟩⟩
end Go.Proofs.Ytlfhabekhfahbaa.P
