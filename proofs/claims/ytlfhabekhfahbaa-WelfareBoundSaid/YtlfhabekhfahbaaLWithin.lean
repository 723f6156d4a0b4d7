/- What gridhallkeep3.within answers (lemmas; no statement is proved here). -/
import Derived.Test.YtlfhabekhfahbaaEvp
import Derived.Test.YtlfhabekhfahbaaPx25
namespace Go.Proofs.Ytlfhabekhfahbaa.P
open Go.RowKit Go.Proofs.YtlfhabekhfahbaaW.PrintWords Go.Proofs.YtlfhabekhfahbaaW.PrintMore Go.Proofs.Ytlfhabekhfahbaa.Opn Go.Proofs.Ytlfhabekhfahbaa.Evp

/-! within -/
theorem tmod_pos {a n : Int} (hn : 0 < n) : -n < Int.tmod a n ∧ Int.tmod a n < n := by
  have h1 := Int.natAbs_tmod a n
  have h2 : Int.natAbs a % Int.natAbs n < Int.natAbs n := Nat.mod_lt _ (by omega)
  omega
theorem within_some {low high : Int} (a : Int) (h1 : -1000000000000 ≤ low) (h2 : low ≤ high) (h3 : high ≤ 1000000000000) : ∃ r, gridhallkeep3_within.f a low high = some r ∧ low ≤ r ∧ r ≤ high := by
  unfold gridhallkeep3_within.f
  rw [w64 (x := high - low) (by omega) (by omega), w64 (x := high - low + 1) (by omega) (by omega), if_neg (by omega)]
  have ha := tmod_pos (a := a) (n := high - low + 1) (by omega)
  rw [w64 (x := Int.tmod a (high - low + 1) + (high - low + 1)) (by omega) (by omega)]
  have hb := tmod_pos (a := Int.tmod a (high - low + 1) + (high - low + 1)) (n := high - low + 1) (by omega)
  have hc : 0 ≤ Int.tmod (Int.tmod a (high - low + 1) + (high - low + 1)) (high - low + 1) := Int.tmod_nonneg _ (by omega)
  rw [w64 (by omega) (by omega)]
  exact ⟨_, rfl, by omega, by omega⟩
end Go.Proofs.Ytlfhabekhfahbaa.P
