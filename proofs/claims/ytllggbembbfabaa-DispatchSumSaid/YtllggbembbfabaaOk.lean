-- Written by xprint.py of this session.
import Derived.Test.YtllggbembbfabaaOpn
import Derived.Test.YtllggbembbfabaaPx0
namespace Go.Proofs.Ytllggbembbfabaa.P
open Go.RowKit Go.Proofs.YtllggbembbfabaaW.PrintWords Go.Proofs.Ytllggbembbfabaa.Opn
def ok78 (x : S78) : Prop := I64 x.f0 ∧ I64 x.f1
theorem opn78 : Opn Try.prog 78 k78 ok78 := by
  intro H enc w base spare held fuel cs x h0 hw
  obtain ⟨a, ha, h⟩ := (opn_struct (f := fun x : S78 => (x.f0, x.f1)) (fun a => (⟨a.1, a.2⟩ : S78)) Try.underlying78 rfl (by kernel_rfl) (opnS_cons rfl (by kernel_rfl) (opn_i64 Try.underlying3) (opnS_one rfl (by kernel_rfl) (opn_i64 Try.underlying3))) (fun _ => rfl)) H enc w base spare held fuel cs x h0 hw
  exact ⟨a, ha, ⟨h.1, h.2⟩⟩
def ok34 (x : S34) : Prop := I64 x.f0 ∧ I64 x.f1 ∧ (ListOk 16 ok78) x.f2
theorem opn34 : Opn Try.prog 34 k34 ok34 := by
  intro H enc w base spare held fuel cs x h0 hw
  obtain ⟨a, ha, h⟩ := (opn_struct (f := fun x : S34 => (x.f0, x.f1, x.f2)) (fun a => (⟨a.1, a.2.1, a.2.2⟩ : S34)) Try.underlying34 rfl (by kernel_rfl) (opnS_cons rfl (by kernel_rfl) (opn_i64 Try.underlying3) (opnS_cons rfl (by kernel_rfl) (opn_i64 Try.underlying3) (opnS_one rfl (by kernel_rfl) (opn_slice Try.underlying32 (by kernel_rfl) (by kernel_rfl) opn78)))) (fun _ => rfl)) H enc w base spare held fuel cs x h0 hw
  exact ⟨a, ha, ⟨h.1, h.2.1, h.2.2⟩⟩
def ok43 (x : S43) : Prop := StrOk x.f0 ∧ I64 x.f1 ∧ I64 x.f2 ∧ I64 x.f3 ∧ I64 x.f4 ∧ I64 x.f5 ∧ I64 x.f6 ∧ I64 x.f7
theorem opn43 : Opn Try.prog 43 k43 ok43 := by
  intro H enc w base spare held fuel cs x h0 hw
  obtain ⟨a, ha, h⟩ := (opn_struct (f := fun x : S43 => (x.f0, x.f1, x.f2, x.f3, x.f4, x.f5, x.f6, x.f7)) (fun a => (⟨a.1, a.2.1, a.2.2.1, a.2.2.2.1, a.2.2.2.2.1, a.2.2.2.2.2.1, a.2.2.2.2.2.2.1, a.2.2.2.2.2.2.2⟩ : S43)) Try.underlying43 rfl (by kernel_rfl) (opnS_cons rfl (by kernel_rfl) (opn_string Try.underlying9) (opnS_cons rfl (by kernel_rfl) (opn_i64 Try.underlying3) (opnS_cons rfl (by kernel_rfl) (opn_i64 Try.underlying3) (opnS_cons rfl (by kernel_rfl) (opn_i64 Try.underlying3) (opnS_cons rfl (by kernel_rfl) (opn_i64 Try.underlying3) (opnS_cons rfl (by kernel_rfl) (opn_i64 Try.underlying3) (opnS_cons rfl (by kernel_rfl) (opn_i64 Try.underlying3) (opnS_one rfl (by kernel_rfl) (opn_i64 Try.underlying3))))))))) (fun _ => rfl)) H enc w base spare held fuel cs x h0 hw
  exact ⟨a, ha, ⟨h.1, h.2.1, h.2.2.1, h.2.2.2.1, h.2.2.2.2.1, h.2.2.2.2.2.1, h.2.2.2.2.2.2.1, h.2.2.2.2.2.2.2⟩⟩
def ok45 (x : S45) : Prop := I64 x.f1 ∧ I64 x.f2
theorem opn45 : Opn Try.prog 45 k45 ok45 := by
  intro H enc w base spare held fuel cs x h0 hw
  obtain ⟨a, ha, h⟩ := (opn_struct (f := fun x : S45 => (x.f0, x.f1, x.f2)) (fun a => (⟨a.1, a.2.1, a.2.2⟩ : S45)) Try.underlying45 rfl (by kernel_rfl) (opnS_cons rfl (by kernel_rfl) (opn_bool Try.underlying4) (opnS_cons rfl (by kernel_rfl) (opn_i64 Try.underlying3) (opnS_one rfl (by kernel_rfl) (opn_i64 Try.underlying3)))) (fun _ => rfl)) H enc w base spare held fuel cs x h0 hw
  exact ⟨a, ha, ⟨h.2.1, h.2.2⟩⟩
def ok86 (x : S86) : Prop := I64 x.f0 ∧ I64 x.f1
theorem opn86 : Opn Try.prog 86 k86 ok86 := by
  intro H enc w base spare held fuel cs x h0 hw
  obtain ⟨a, ha, h⟩ := (opn_struct (f := fun x : S86 => (x.f0, x.f1)) (fun a => (⟨a.1, a.2⟩ : S86)) Try.underlying86 rfl (by kernel_rfl) (opnS_cons rfl (by kernel_rfl) (opn_i64 Try.underlying3) (opnS_one rfl (by kernel_rfl) (opn_i64 Try.underlying3))) (fun _ => rfl)) H enc w base spare held fuel cs x h0 hw
  exact ⟨a, ha, ⟨h.1, h.2⟩⟩
def ok60 (x : S60) : Prop := StrOk x.f0 ∧ (ListOk 16 ok86) x.f1
theorem opn60 : Opn Try.prog 60 k60 ok60 := by
  intro H enc w base spare held fuel cs x h0 hw
  obtain ⟨a, ha, h⟩ := (opn_struct (f := fun x : S60 => (x.f0, x.f1)) (fun a => (⟨a.1, a.2⟩ : S60)) Try.underlying60 rfl (by kernel_rfl) (opnS_cons rfl (by kernel_rfl) (opn_string Try.underlying9) (opnS_one rfl (by kernel_rfl) (opn_slice Try.underlying58 (by kernel_rfl) (by kernel_rfl) opn86))) (fun _ => rfl)) H enc w base spare held fuel cs x h0 hw
  exact ⟨a, ha, ⟨h.1, h.2⟩⟩
end Go.Proofs.Ytllggbembbfabaa.P
