/-
  No cell of these rows narrows 'for every input' (looked for: loops, veiled, ifaces, maps, wideKeys, modest, calm, conditions, laid).
  DERIVED. THE GIVEN ROWS OF THIS SEAT. 11 by the template 'for every input the law returns true; each argument reads behind the call as it read before'; 0 by the template 'total and deterministic' (their statements: YtodagcbcdkfniaaTotals.lean).
  GIVEN WITH THE SEED: the statements are not yours to turn. If you find one false, say at which input.
  Laid BY PROGRAM, IN A SANDBOX (cutbox-rows.mjs): the forced cells as the released guide's own fill.sh prints them over the translation 7901075e34c38cd2… (all of the seat's roots in one cut). By AI agents, Wed Nov 11 2026. No macro, syntax, notation, axiom, sorry.
-/
import Derived.Test.YtodagcbcdkfniaaChecked
import GoSem.Claim
import GoSem.ClaimJoined
import GoSem.ClaimMapViews
import Derived.JoinedTies
import Derived.KernelRfl
namespace Go.Proofs.Ytodagcbcdkfniaa
/- THE CELL 'sum', in the pinned program and in every row, IS THE sha256 OF THE DUMP (.gsa) THAT YtodagcbcdkfniaaProg.lean LOADS. Nothing in Lean hashes anything: it is a label: what it is worth is what the hold of that sum in a sandbox is worth. -/
noncomputable def Try.pinned : Pinned := { name := "ytodagcbcdkfniaa", sum := "7901075e34c38cd2e7a1d3eb5f9e6b93a472908eeedca5bad17b7b5dae77202d", checked := Try.checked }
namespace Rows
def none {H : Type} : Left H := { results := [], args := [] }

/-- 'gridhalltop.TopCommit': WHATEVER THE INPUT: true; the input reads as it did. -/
def topCommitSpec : ChangeSpec := { name := "topCommit", fn := fun _ => fun
  | [d1, d2, d3] => { results := [.lit (.bool true)], args := [d1, d2, d3] }
  | _ => none }
def topCommitRow : OpenClaim := { program := "ytodagcbcdkfniaa", sum := "7901075e34c38cd2e7a1d3eb5f9e6b93a472908eeedca5bad17b7b5dae77202d", func := "gridhall/gridhalltop.TopCommit", spec := "topCommit", unfollowed := true, recurses := true, apart := false }
def TopCommitSaid : Prop := topCommitRow.holds Try.pinned (OpenSpec.ofChange topCommitSpec)

/-- ITS FALSE NEIGHBOUR: 'it returns false'. Refute it at one input. -/
def topCommitWrong : ChangeSpec := { name := "topCommit", fn := fun _ => fun
  | [d1, d2, d3] => { results := [.lit (.bool false)], args := [d1, d2, d3] }
  | _ => none }
def TopCommitWrongFalsely : Prop := topCommitRow.holds Try.pinned (OpenSpec.ofChange topCommitWrong)

/-- 'gridhallkeep3.AuctionMore': WHATEVER THE INPUT: true; the input reads as it did. -/
def auctionMoreSpec : ChangeSpec := { name := "auctionMore", fn := fun _ => fun
  | [d1, d2] => { results := [.lit (.bool true)], args := [d1, d2] }
  | _ => none }
def auctionMoreRow : OpenClaim := { program := "ytodagcbcdkfniaa", sum := "7901075e34c38cd2e7a1d3eb5f9e6b93a472908eeedca5bad17b7b5dae77202d", func := "gridhall/gridhallkeep3.AuctionMore", spec := "auctionMore", unfollowed := true, recurses := true, apart := false }
def AuctionMoreSaid : Prop := auctionMoreRow.holds Try.pinned (OpenSpec.ofChange auctionMoreSpec)

/-- ITS FALSE NEIGHBOUR: 'it returns false'. Refute it at one input. -/
def auctionMoreWrong : ChangeSpec := { name := "auctionMore", fn := fun _ => fun
  | [d1, d2] => { results := [.lit (.bool false)], args := [d1, d2] }
  | _ => none }
def AuctionMoreWrongFalsely : Prop := auctionMoreRow.holds Try.pinned (OpenSpec.ofChange auctionMoreWrong)

/-- 'gridhallkeep3.DualSteps': WHATEVER THE INPUT: true; the input reads as it did. -/
def dualStepsSpec : ChangeSpec := { name := "dualSteps", fn := fun _ => fun
  | [d1, d2, d3, d4] => { results := [.lit (.bool true)], args := [d1, d2, d3, d4] }
  | _ => none }
def dualStepsRow : OpenClaim := { program := "ytodagcbcdkfniaa", sum := "7901075e34c38cd2e7a1d3eb5f9e6b93a472908eeedca5bad17b7b5dae77202d", func := "gridhall/gridhallkeep3.DualSteps", spec := "dualSteps", apart := false }
def DualStepsSaid : Prop := dualStepsRow.holds Try.pinned (OpenSpec.ofChange dualStepsSpec)

/-- ITS FALSE NEIGHBOUR: 'it returns false'. Refute it at one input. -/
def dualStepsWrong : ChangeSpec := { name := "dualSteps", fn := fun _ => fun
  | [d1, d2, d3, d4] => { results := [.lit (.bool false)], args := [d1, d2, d3, d4] }
  | _ => none }
def DualStepsWrongFalsely : Prop := dualStepsRow.holds Try.pinned (OpenSpec.ofChange dualStepsWrong)

/-- 'gridhallkeep3.AuctionBest': WHATEVER THE INPUT: true; the input reads as it did. -/
def auctionBestSpec : ChangeSpec := { name := "auctionBest", fn := fun _ => fun
  | [d1, d2, d3] => { results := [.lit (.bool true)], args := [d1, d2, d3] }
  | _ => none }
def auctionBestRow : OpenClaim := { program := "ytodagcbcdkfniaa", sum := "7901075e34c38cd2e7a1d3eb5f9e6b93a472908eeedca5bad17b7b5dae77202d", func := "gridhall/gridhallkeep3.AuctionBest", spec := "auctionBest", unfollowed := true, recurses := true, apart := false }
def AuctionBestSaid : Prop := auctionBestRow.holds Try.pinned (OpenSpec.ofChange auctionBestSpec)

/-- ITS FALSE NEIGHBOUR: 'it returns false'. Refute it at one input. -/
def auctionBestWrong : ChangeSpec := { name := "auctionBest", fn := fun _ => fun
  | [d1, d2, d3] => { results := [.lit (.bool false)], args := [d1, d2, d3] }
  | _ => none }
def AuctionBestWrongFalsely : Prop := auctionBestRow.holds Try.pinned (OpenSpec.ofChange auctionBestWrong)

/-- 'gridhallkeep3.AuctionVerified': WHATEVER THE INPUT: true; the input reads as it did. -/
def auctionVerifiedSpec : ChangeSpec := { name := "auctionVerified", fn := fun _ => fun
  | [d1, d2, d3] => { results := [.lit (.bool true)], args := [d1, d2, d3] }
  | _ => none }
def auctionVerifiedRow : OpenClaim := { program := "ytodagcbcdkfniaa", sum := "7901075e34c38cd2e7a1d3eb5f9e6b93a472908eeedca5bad17b7b5dae77202d", func := "gridhall/gridhallkeep3.AuctionVerified", spec := "auctionVerified", unfollowed := true, recurses := true, apart := false }
def AuctionVerifiedSaid : Prop := auctionVerifiedRow.holds Try.pinned (OpenSpec.ofChange auctionVerifiedSpec)

/-- ITS FALSE NEIGHBOUR: 'it returns false'. Refute it at one input. -/
def auctionVerifiedWrong : ChangeSpec := { name := "auctionVerified", fn := fun _ => fun
  | [d1, d2, d3] => { results := [.lit (.bool false)], args := [d1, d2, d3] }
  | _ => none }
def AuctionVerifiedWrongFalsely : Prop := auctionVerifiedRow.holds Try.pinned (OpenSpec.ofChange auctionVerifiedWrong)

/-- 'gridhallkeep3.ReserveKept': WHATEVER THE INPUT: true; the input reads as it did. -/
def reserveKeptSpec : ChangeSpec := { name := "reserveKept", fn := fun _ => fun
  | [d1, d2, d3, d4] => { results := [.lit (.bool true)], args := [d1, d2, d3, d4] }
  | _ => none }
def reserveKeptRow : OpenClaim := { program := "ytodagcbcdkfniaa", sum := "7901075e34c38cd2e7a1d3eb5f9e6b93a472908eeedca5bad17b7b5dae77202d", func := "gridhall/gridhallkeep3.ReserveKept", spec := "reserveKept", unfollowed := true, recurses := true, apart := false }
def ReserveKeptSaid : Prop := reserveKeptRow.holds Try.pinned (OpenSpec.ofChange reserveKeptSpec)

/-- ITS FALSE NEIGHBOUR: 'it returns false'. Refute it at one input. -/
def reserveKeptWrong : ChangeSpec := { name := "reserveKept", fn := fun _ => fun
  | [d1, d2, d3, d4] => { results := [.lit (.bool false)], args := [d1, d2, d3, d4] }
  | _ => none }
def ReserveKeptWrongFalsely : Prop := reserveKeptRow.holds Try.pinned (OpenSpec.ofChange reserveKeptWrong)

/-- 'gridhallkeep3.HoursFree': WHATEVER THE INPUT: true; the input reads as it did. -/
def hoursFreeSpec : ChangeSpec := { name := "hoursFree", fn := fun _ => fun
  | [d1, d2, d3] => { results := [.lit (.bool true)], args := [d1, d2, d3] }
  | _ => none }
def hoursFreeRow : OpenClaim := { program := "ytodagcbcdkfniaa", sum := "7901075e34c38cd2e7a1d3eb5f9e6b93a472908eeedca5bad17b7b5dae77202d", func := "gridhall/gridhallkeep3.HoursFree", spec := "hoursFree", unfollowed := true, recurses := true, apart := false }
def HoursFreeSaid : Prop := hoursFreeRow.holds Try.pinned (OpenSpec.ofChange hoursFreeSpec)

/-- ITS FALSE NEIGHBOUR: 'it returns false'. Refute it at one input. -/
def hoursFreeWrong : ChangeSpec := { name := "hoursFree", fn := fun _ => fun
  | [d1, d2, d3] => { results := [.lit (.bool false)], args := [d1, d2, d3] }
  | _ => none }
def HoursFreeWrongFalsely : Prop := hoursFreeRow.holds Try.pinned (OpenSpec.ofChange hoursFreeWrong)

/-- 'gridhallkeep3.ReserveFree': WHATEVER THE INPUT: true; the input reads as it did. -/
def reserveFreeSpec : ChangeSpec := { name := "reserveFree", fn := fun _ => fun
  | [d1, d2] => { results := [.lit (.bool true)], args := [d1, d2] }
  | _ => none }
def reserveFreeRow : OpenClaim := { program := "ytodagcbcdkfniaa", sum := "7901075e34c38cd2e7a1d3eb5f9e6b93a472908eeedca5bad17b7b5dae77202d", func := "gridhall/gridhallkeep3.ReserveFree", spec := "reserveFree", unfollowed := true, recurses := true, apart := false }
def ReserveFreeSaid : Prop := reserveFreeRow.holds Try.pinned (OpenSpec.ofChange reserveFreeSpec)

/-- ITS FALSE NEIGHBOUR: 'it returns false'. Refute it at one input. -/
def reserveFreeWrong : ChangeSpec := { name := "reserveFree", fn := fun _ => fun
  | [d1, d2] => { results := [.lit (.bool false)], args := [d1, d2] }
  | _ => none }
def ReserveFreeWrongFalsely : Prop := reserveFreeRow.holds Try.pinned (OpenSpec.ofChange reserveFreeWrong)

/-- 'gridhallkeep3.CommitMore': WHATEVER THE INPUT: true; the input reads as it did. -/
def commitMoreSpec : ChangeSpec := { name := "commitMore", fn := fun _ => fun
  | [d1, d2] => { results := [.lit (.bool true)], args := [d1, d2] }
  | _ => none }
def commitMoreRow : OpenClaim := { program := "ytodagcbcdkfniaa", sum := "7901075e34c38cd2e7a1d3eb5f9e6b93a472908eeedca5bad17b7b5dae77202d", func := "gridhall/gridhallkeep3.CommitMore", spec := "commitMore", unfollowed := true, recurses := true, apart := false }
def CommitMoreSaid : Prop := commitMoreRow.holds Try.pinned (OpenSpec.ofChange commitMoreSpec)

/-- ITS FALSE NEIGHBOUR: 'it returns false'. Refute it at one input. -/
def commitMoreWrong : ChangeSpec := { name := "commitMore", fn := fun _ => fun
  | [d1, d2] => { results := [.lit (.bool false)], args := [d1, d2] }
  | _ => none }
def CommitMoreWrongFalsely : Prop := commitMoreRow.holds Try.pinned (OpenSpec.ofChange commitMoreWrong)

/-- 'gridhallkeep3.CommitKept': WHATEVER THE INPUT: true; the input reads as it did. -/
def commitKeptSpec : ChangeSpec := { name := "commitKept", fn := fun _ => fun
  | [d1, d2, d3] => { results := [.lit (.bool true)], args := [d1, d2, d3] }
  | _ => none }
def commitKeptRow : OpenClaim := { program := "ytodagcbcdkfniaa", sum := "7901075e34c38cd2e7a1d3eb5f9e6b93a472908eeedca5bad17b7b5dae77202d", func := "gridhall/gridhallkeep3.CommitKept", spec := "commitKept", unfollowed := true, recurses := true, apart := false }
def CommitKeptSaid : Prop := commitKeptRow.holds Try.pinned (OpenSpec.ofChange commitKeptSpec)

/-- ITS FALSE NEIGHBOUR: 'it returns false'. Refute it at one input. -/
def commitKeptWrong : ChangeSpec := { name := "commitKept", fn := fun _ => fun
  | [d1, d2, d3] => { results := [.lit (.bool false)], args := [d1, d2, d3] }
  | _ => none }
def CommitKeptWrongFalsely : Prop := commitKeptRow.holds Try.pinned (OpenSpec.ofChange commitKeptWrong)

/-- 'gridhallkeep3.DualBelow': WHATEVER THE INPUT: true; the input reads as it did. -/
def dualBelowSpec : ChangeSpec := { name := "dualBelow", fn := fun _ => fun
  | [d1, d2, d3, d4] => { results := [.lit (.bool true)], args := [d1, d2, d3, d4] }
  | _ => none }
def dualBelowRow : OpenClaim := { program := "ytodagcbcdkfniaa", sum := "7901075e34c38cd2e7a1d3eb5f9e6b93a472908eeedca5bad17b7b5dae77202d", func := "gridhall/gridhallkeep3.DualBelow", spec := "dualBelow", unfollowed := true, recurses := true, apart := false }
def DualBelowSaid : Prop := dualBelowRow.holds Try.pinned (OpenSpec.ofChange dualBelowSpec)

/-- ITS FALSE NEIGHBOUR: 'it returns false'. Refute it at one input. -/
def dualBelowWrong : ChangeSpec := { name := "dualBelow", fn := fun _ => fun
  | [d1, d2, d3, d4] => { results := [.lit (.bool false)], args := [d1, d2, d3, d4] }
  | _ => none }
def DualBelowWrongFalsely : Prop := dualBelowRow.holds Try.pinned (OpenSpec.ofChange dualBelowWrong)

/- THE SECOND FORM. 'bulk': how many values and letters a reading holds, each counted each time it is reached (what is shared counts as often as it is met; a slice's spare places count too). A statement '..UptoSaid' is the law's where the arguments, and the package variables that the reading takes, are together of bulk at most 1048576: NARROWER than '..Said'. Prove '..Said' where nothing that the law and all that it calls make is longer than what came in: it says more and counts as full. Else prove '..UptoSaid'. A law counts once. -/
mutual
def uptoBulk {H : Type} : DataW H → Nat
  | .lit (.string bytes) => bytes.length + 1
  | .lit _ => 1
  | .nil => 1
  | .ptr d => uptoBulk d + 1
  | .slice elems spare => uptoBulkAll elems + uptoBulkAll spare + 1
  | .agg parts => uptoBulkAll parts + 1
  | .iface _ d => uptoBulk d + 1
  | .map entries => uptoBulkEntries entries + 1
  | .held _ => 1
def uptoBulkAll {H : Type} : List (DataW H) → Nat
  | [] => 0
  | d :: r => uptoBulk d + uptoBulkAll r
def uptoBulkEntries {H : Type} : List (Lit × DataW H) → Nat
  | [] => 0
  | x :: r => uptoBulkEntry x + uptoBulkEntries r
def uptoBulkEntry {H : Type} : Lit × DataW H → Nat
  | (.string bytes, d) => bytes.length + uptoBulk d + 1
  | (_, d) => uptoBulk d + 1
 end
def uptoSmall : (H : Type) → List (DataW H) → Bool := fun _ ds => decide (uptoBulkAll ds ≤ 1048576)
def OpenSpec.upto (s : _root_.Go.ChangeSpec) : _root_.Go.OpenSpec := { _root_.Go.OpenSpec.ofChange s with cond := some uptoSmall }

/-- 'gridhalltop.TopCommit', WHERE WHAT IT READS IS OF BULK AT MOST 1048576: true; the input reads as it did. -/
def topCommitUptoRow : OpenClaim := { program := "ytodagcbcdkfniaa", sum := "7901075e34c38cd2e7a1d3eb5f9e6b93a472908eeedca5bad17b7b5dae77202d", func := "gridhall/gridhalltop.TopCommit", spec := "topCommit", unfollowed := true, recurses := true, apart := false, narrowed := true }
def TopCommitUptoSaid : Prop := topCommitUptoRow.holds Try.pinned (OpenSpec.upto topCommitSpec)

/-- 'gridhallkeep3.AuctionMore', WHERE WHAT IT READS IS OF BULK AT MOST 1048576: true; the input reads as it did. -/
def auctionMoreUptoRow : OpenClaim := { program := "ytodagcbcdkfniaa", sum := "7901075e34c38cd2e7a1d3eb5f9e6b93a472908eeedca5bad17b7b5dae77202d", func := "gridhall/gridhallkeep3.AuctionMore", spec := "auctionMore", unfollowed := true, recurses := true, apart := false, narrowed := true }
def AuctionMoreUptoSaid : Prop := auctionMoreUptoRow.holds Try.pinned (OpenSpec.upto auctionMoreSpec)

/-- 'gridhallkeep3.DualSteps', WHERE WHAT IT READS IS OF BULK AT MOST 1048576: true; the input reads as it did. -/
def dualStepsUptoRow : OpenClaim := { program := "ytodagcbcdkfniaa", sum := "7901075e34c38cd2e7a1d3eb5f9e6b93a472908eeedca5bad17b7b5dae77202d", func := "gridhall/gridhallkeep3.DualSteps", spec := "dualSteps", apart := false, narrowed := true }
def DualStepsUptoSaid : Prop := dualStepsUptoRow.holds Try.pinned (OpenSpec.upto dualStepsSpec)

/-- 'gridhallkeep3.AuctionBest', WHERE WHAT IT READS IS OF BULK AT MOST 1048576: true; the input reads as it did. -/
def auctionBestUptoRow : OpenClaim := { program := "ytodagcbcdkfniaa", sum := "7901075e34c38cd2e7a1d3eb5f9e6b93a472908eeedca5bad17b7b5dae77202d", func := "gridhall/gridhallkeep3.AuctionBest", spec := "auctionBest", unfollowed := true, recurses := true, apart := false, narrowed := true }
def AuctionBestUptoSaid : Prop := auctionBestUptoRow.holds Try.pinned (OpenSpec.upto auctionBestSpec)

/-- 'gridhallkeep3.AuctionVerified', WHERE WHAT IT READS IS OF BULK AT MOST 1048576: true; the input reads as it did. -/
def auctionVerifiedUptoRow : OpenClaim := { program := "ytodagcbcdkfniaa", sum := "7901075e34c38cd2e7a1d3eb5f9e6b93a472908eeedca5bad17b7b5dae77202d", func := "gridhall/gridhallkeep3.AuctionVerified", spec := "auctionVerified", unfollowed := true, recurses := true, apart := false, narrowed := true }
def AuctionVerifiedUptoSaid : Prop := auctionVerifiedUptoRow.holds Try.pinned (OpenSpec.upto auctionVerifiedSpec)

/-- 'gridhallkeep3.ReserveKept', WHERE WHAT IT READS IS OF BULK AT MOST 1048576: true; the input reads as it did. -/
def reserveKeptUptoRow : OpenClaim := { program := "ytodagcbcdkfniaa", sum := "7901075e34c38cd2e7a1d3eb5f9e6b93a472908eeedca5bad17b7b5dae77202d", func := "gridhall/gridhallkeep3.ReserveKept", spec := "reserveKept", unfollowed := true, recurses := true, apart := false, narrowed := true }
def ReserveKeptUptoSaid : Prop := reserveKeptUptoRow.holds Try.pinned (OpenSpec.upto reserveKeptSpec)

/-- 'gridhallkeep3.HoursFree', WHERE WHAT IT READS IS OF BULK AT MOST 1048576: true; the input reads as it did. -/
def hoursFreeUptoRow : OpenClaim := { program := "ytodagcbcdkfniaa", sum := "7901075e34c38cd2e7a1d3eb5f9e6b93a472908eeedca5bad17b7b5dae77202d", func := "gridhall/gridhallkeep3.HoursFree", spec := "hoursFree", unfollowed := true, recurses := true, apart := false, narrowed := true }
def HoursFreeUptoSaid : Prop := hoursFreeUptoRow.holds Try.pinned (OpenSpec.upto hoursFreeSpec)

/-- 'gridhallkeep3.ReserveFree', WHERE WHAT IT READS IS OF BULK AT MOST 1048576: true; the input reads as it did. -/
def reserveFreeUptoRow : OpenClaim := { program := "ytodagcbcdkfniaa", sum := "7901075e34c38cd2e7a1d3eb5f9e6b93a472908eeedca5bad17b7b5dae77202d", func := "gridhall/gridhallkeep3.ReserveFree", spec := "reserveFree", unfollowed := true, recurses := true, apart := false, narrowed := true }
def ReserveFreeUptoSaid : Prop := reserveFreeUptoRow.holds Try.pinned (OpenSpec.upto reserveFreeSpec)

/-- 'gridhallkeep3.CommitMore', WHERE WHAT IT READS IS OF BULK AT MOST 1048576: true; the input reads as it did. -/
def commitMoreUptoRow : OpenClaim := { program := "ytodagcbcdkfniaa", sum := "7901075e34c38cd2e7a1d3eb5f9e6b93a472908eeedca5bad17b7b5dae77202d", func := "gridhall/gridhallkeep3.CommitMore", spec := "commitMore", unfollowed := true, recurses := true, apart := false, narrowed := true }
def CommitMoreUptoSaid : Prop := commitMoreUptoRow.holds Try.pinned (OpenSpec.upto commitMoreSpec)

/-- 'gridhallkeep3.CommitKept', WHERE WHAT IT READS IS OF BULK AT MOST 1048576: true; the input reads as it did. -/
def commitKeptUptoRow : OpenClaim := { program := "ytodagcbcdkfniaa", sum := "7901075e34c38cd2e7a1d3eb5f9e6b93a472908eeedca5bad17b7b5dae77202d", func := "gridhall/gridhallkeep3.CommitKept", spec := "commitKept", unfollowed := true, recurses := true, apart := false, narrowed := true }
def CommitKeptUptoSaid : Prop := commitKeptUptoRow.holds Try.pinned (OpenSpec.upto commitKeptSpec)

/-- 'gridhallkeep3.DualBelow', WHERE WHAT IT READS IS OF BULK AT MOST 1048576: true; the input reads as it did. -/
def dualBelowUptoRow : OpenClaim := { program := "ytodagcbcdkfniaa", sum := "7901075e34c38cd2e7a1d3eb5f9e6b93a472908eeedca5bad17b7b5dae77202d", func := "gridhall/gridhallkeep3.DualBelow", spec := "dualBelow", unfollowed := true, recurses := true, apart := false, narrowed := true }
def DualBelowUptoSaid : Prop := dualBelowUptoRow.holds Try.pinned (OpenSpec.upto dualBelowSpec)

end Rows
end Go.Proofs.Ytodagcbcdkfniaa
