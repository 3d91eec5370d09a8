/-
  No cell of these rows narrows 'for every input' (looked for: loops, veiled, ifaces, maps, wideKeys, modest, calm, conditions, laid).
  DERIVED. THE GIVEN ROWS OF THIS SEAT. 4 by the template 'for every input the law returns true; each argument reads behind the call as it read before'; 0 by the template 'total and deterministic' (their statements: YtbbbdckbcicmbaaTotals.lean).
  GIVEN WITH THE SEED: the statements are not yours to turn. If you find one false, say at which input.
  Laid BY PROGRAM, IN A SANDBOX (cutbox-rows.mjs): the forced cells as the released guide's own fill.sh prints them over the translation c9b67e35af589b4a… (all of the seat's roots in one cut). By AI agents, Wed Nov 11 2026. No macro, syntax, notation, axiom, sorry.
-/
import Derived.Test.YtbbbdckbcicmbaaChecked
import GoSem.Claim
import GoSem.ClaimJoined
import GoSem.ClaimMapViews
import Derived.JoinedTies
import Derived.KernelRfl
namespace Go.Proofs.Ytbbbdckbcicmbaa
/- THE CELL 'sum', in the pinned program and in every row, IS THE sha256 OF THE DUMP (.gsa) THAT YtbbbdckbcicmbaaProg.lean LOADS. Nothing in Lean hashes anything: it is a label: what it is worth is what the hold of that sum in a sandbox is worth. -/
noncomputable def Try.pinned : Pinned := { name := "ytbbbdckbcicmbaa", sum := "c9b67e35af589b4abd2e2f8a9a73589f2c1cb576c89b6273ffd1d872b286e029", checked := Try.checked }
namespace Rows
def none {H : Type} : Left H := { results := [], args := [] }

/-- 'tontinelaw17.BalanceKeys': WHATEVER THE INPUT: true; the input reads as it did. -/
def balanceKeysSpec : ChangeSpec := { name := "balanceKeys", fn := fun _ => fun
  | [d1, d2] => { results := [.lit (.bool true)], args := [d1, d2] }
  | _ => none }
def balanceKeysRow : OpenClaim := { program := "ytbbbdckbcicmbaa", sum := "c9b67e35af589b4abd2e2f8a9a73589f2c1cb576c89b6273ffd1d872b286e029", func := "tontine/tontinelaw17.BalanceKeys", spec := "balanceKeys", unfollowed := true, recurses := true, apart := false }
def BalanceKeysSaid : Prop := balanceKeysRow.holds Try.pinned (OpenSpec.ofChange balanceKeysSpec)

/-- ITS FALSE NEIGHBOUR: 'it returns false'. Refute it at one input. -/
def balanceKeysWrong : ChangeSpec := { name := "balanceKeys", fn := fun _ => fun
  | [d1, d2] => { results := [.lit (.bool false)], args := [d1, d2] }
  | _ => none }
def BalanceKeysWrongFalsely : Prop := balanceKeysRow.holds Try.pinned (OpenSpec.ofChange balanceKeysWrong)

/-- 'tontinelaw17.BalanceSplits': WHATEVER THE INPUT: true; the input reads as it did. -/
def balanceSplitsSpec : ChangeSpec := { name := "balanceSplits", fn := fun _ => fun
  | [d] => { results := [.lit (.bool true)], args := [d] }
  | _ => none }
def balanceSplitsRow : OpenClaim := { program := "ytbbbdckbcicmbaa", sum := "c9b67e35af589b4abd2e2f8a9a73589f2c1cb576c89b6273ffd1d872b286e029", func := "tontine/tontinelaw17.BalanceSplits", spec := "balanceSplits", unfollowed := true, recurses := true, apart := false }
def BalanceSplitsSaid : Prop := balanceSplitsRow.holds Try.pinned (OpenSpec.ofChange balanceSplitsSpec)

/-- ITS FALSE NEIGHBOUR: 'it returns false'. Refute it at one input. -/
def balanceSplitsWrong : ChangeSpec := { name := "balanceSplits", fn := fun _ => fun
  | [d] => { results := [.lit (.bool false)], args := [d] }
  | _ => none }
def BalanceSplitsWrongFalsely : Prop := balanceSplitsRow.holds Try.pinned (OpenSpec.ofChange balanceSplitsWrong)

/-- 'tontinelaw17.BalancePlans': WHATEVER THE INPUT: true; the input reads as it did. -/
def balancePlansSpec : ChangeSpec := { name := "balancePlans", fn := fun _ => fun
  | [d1, d2] => { results := [.lit (.bool true)], args := [d1, d2] }
  | _ => none }
def balancePlansRow : OpenClaim := { program := "ytbbbdckbcicmbaa", sum := "c9b67e35af589b4abd2e2f8a9a73589f2c1cb576c89b6273ffd1d872b286e029", func := "tontine/tontinelaw17.BalancePlans", spec := "balancePlans", unfollowed := true, recurses := true, apart := false }
def BalancePlansSaid : Prop := balancePlansRow.holds Try.pinned (OpenSpec.ofChange balancePlansSpec)

/-- ITS FALSE NEIGHBOUR: 'it returns false'. Refute it at one input. -/
def balancePlansWrong : ChangeSpec := { name := "balancePlans", fn := fun _ => fun
  | [d1, d2] => { results := [.lit (.bool false)], args := [d1, d2] }
  | _ => none }
def BalancePlansWrongFalsely : Prop := balancePlansRow.holds Try.pinned (OpenSpec.ofChange balancePlansWrong)

/-- 'tontinelaw17.BalanceSettles': WHATEVER THE INPUT: true; the input reads as it did. -/
def balanceSettlesSpec : ChangeSpec := { name := "balanceSettles", fn := fun _ => fun
  | [d] => { results := [.lit (.bool true)], args := [d] }
  | _ => none }
def balanceSettlesRow : OpenClaim := { program := "ytbbbdckbcicmbaa", sum := "c9b67e35af589b4abd2e2f8a9a73589f2c1cb576c89b6273ffd1d872b286e029", func := "tontine/tontinelaw17.BalanceSettles", spec := "balanceSettles", unfollowed := true, recurses := true, apart := false }
def BalanceSettlesSaid : Prop := balanceSettlesRow.holds Try.pinned (OpenSpec.ofChange balanceSettlesSpec)

/-- ITS FALSE NEIGHBOUR: 'it returns false'. Refute it at one input. -/
def balanceSettlesWrong : ChangeSpec := { name := "balanceSettles", fn := fun _ => fun
  | [d] => { results := [.lit (.bool false)], args := [d] }
  | _ => none }
def BalanceSettlesWrongFalsely : Prop := balanceSettlesRow.holds Try.pinned (OpenSpec.ofChange balanceSettlesWrong)

/- THE SECOND FORM. 'bulk': how many values and letters a reading holds, each counted each time it is reached (what is shared counts as often as it is met; a slice's spare places count too). A statement '..UptoSaid' is the law's where the arguments, and the package variables that the reading takes, are together of bulk at most 1048576: NARROWER than '..Said'. Prove '..Said' where nothing that the law and all that it calls make is longer than what came in: it says more and counts as full. Else prove '..UptoSaid'. A law counts once. -/
mutual
def uptoBulk {H : Type} : DataW H → Nat
  | .lit (.string bytes) => bytes.length + 1
  | .lit _ => 1
  | .nil => 1
  | .ptr d => uptoBulk d + 1
  | .slice elems spare => uptoBulkAll elems + uptoBulkAll spare + 1
  | .agg parts => uptoBulkAll parts + 1
  | .iface _ d => uptoBulk d + 1
  | .map entries => uptoBulkEntries entries + 1
  | .held _ => 1
def uptoBulkAll {H : Type} : List (DataW H) → Nat
  | [] => 0
  | d :: r => uptoBulk d + uptoBulkAll r
def uptoBulkEntries {H : Type} : List (Lit × DataW H) → Nat
  | [] => 0
  | x :: r => uptoBulkEntry x + uptoBulkEntries r
def uptoBulkEntry {H : Type} : Lit × DataW H → Nat
  | (.string bytes, d) => bytes.length + uptoBulk d + 1
  | (_, d) => uptoBulk d + 1
 end
def uptoSmall : (H : Type) → List (DataW H) → Bool := fun _ ds => decide (uptoBulkAll ds ≤ 1048576)
def OpenSpec.upto (s : _root_.Go.ChangeSpec) : _root_.Go.OpenSpec := { _root_.Go.OpenSpec.ofChange s with cond := some uptoSmall }

/-- 'tontinelaw17.BalanceKeys', WHERE WHAT IT READS IS OF BULK AT MOST 1048576: true; the input reads as it did. -/
def balanceKeysUptoRow : OpenClaim := { program := "ytbbbdckbcicmbaa", sum := "c9b67e35af589b4abd2e2f8a9a73589f2c1cb576c89b6273ffd1d872b286e029", func := "tontine/tontinelaw17.BalanceKeys", spec := "balanceKeys", unfollowed := true, recurses := true, apart := false, narrowed := true }
def BalanceKeysUptoSaid : Prop := balanceKeysUptoRow.holds Try.pinned (OpenSpec.upto balanceKeysSpec)

/-- 'tontinelaw17.BalanceSplits', WHERE WHAT IT READS IS OF BULK AT MOST 1048576: true; the input reads as it did. -/
def balanceSplitsUptoRow : OpenClaim := { program := "ytbbbdckbcicmbaa", sum := "c9b67e35af589b4abd2e2f8a9a73589f2c1cb576c89b6273ffd1d872b286e029", func := "tontine/tontinelaw17.BalanceSplits", spec := "balanceSplits", unfollowed := true, recurses := true, apart := false, narrowed := true }
def BalanceSplitsUptoSaid : Prop := balanceSplitsUptoRow.holds Try.pinned (OpenSpec.upto balanceSplitsSpec)

/-- 'tontinelaw17.BalancePlans', WHERE WHAT IT READS IS OF BULK AT MOST 1048576: true; the input reads as it did. -/
def balancePlansUptoRow : OpenClaim := { program := "ytbbbdckbcicmbaa", sum := "c9b67e35af589b4abd2e2f8a9a73589f2c1cb576c89b6273ffd1d872b286e029", func := "tontine/tontinelaw17.BalancePlans", spec := "balancePlans", unfollowed := true, recurses := true, apart := false, narrowed := true }
def BalancePlansUptoSaid : Prop := balancePlansUptoRow.holds Try.pinned (OpenSpec.upto balancePlansSpec)

/-- 'tontinelaw17.BalanceSettles', WHERE WHAT IT READS IS OF BULK AT MOST 1048576: true; the input reads as it did. -/
def balanceSettlesUptoRow : OpenClaim := { program := "ytbbbdckbcicmbaa", sum := "c9b67e35af589b4abd2e2f8a9a73589f2c1cb576c89b6273ffd1d872b286e029", func := "tontine/tontinelaw17.BalanceSettles", spec := "balanceSettles", unfollowed := true, recurses := true, apart := false, narrowed := true }
def BalanceSettlesUptoSaid : Prop := balanceSettlesUptoRow.holds Try.pinned (OpenSpec.upto balanceSettlesSpec)

end Rows
end Go.Proofs.Ytbbbdckbcicmbaa
