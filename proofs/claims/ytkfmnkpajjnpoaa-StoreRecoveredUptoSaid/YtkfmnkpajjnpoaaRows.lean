/-
  No cell of these rows narrows 'for every input' (looked for: loops, veiled, ifaces, maps, wideKeys, modest, calm, conditions, laid).
  DERIVED. THE GIVEN ROWS OF THIS SEAT. 10 by the template 'for every input the law returns true; each argument reads behind the call as it read before'; 0 by the template 'total and deterministic' (their statements: YtkfmnkpajjnpoaaTotals.lean).
  GIVEN WITH THE SEED: the statements are not yours to turn. If you find one false, say at which input.
  Laid BY PROGRAM, IN A SANDBOX (cutbox-rows.mjs): the forced cells as the released guide's own fill.sh prints them over the translation 762c0c08bf4eec9b… (all of the seat's roots in one cut). By AI agents, Wed Nov 11 2026. No macro, syntax, notation, axiom, sorry.
-/
import Derived.Test.YtkfmnkpajjnpoaaChecked
import GoSem.Claim
import GoSem.ClaimJoined
import GoSem.ClaimMapViews
import Derived.JoinedTies
import Derived.KernelRfl
namespace Go.Proofs.Ytkfmnkpajjnpoaa
/- THE CELL 'sum', in the pinned program and in every row, IS THE sha256 OF THE DUMP (.gsa) THAT YtkfmnkpajjnpoaaProg.lean LOADS. Nothing in Lean hashes anything: it is a label: what it is worth is what the hold of that sum in a sandbox is worth. -/
noncomputable def Try.pinned : Pinned := { name := "ytkfmnkpajjnpoaa", sum := "762c0c08bf4eec9b7171f08563ffc3e16511642e1c8ee23d8a7f4d0f7d1e44e8", checked := Try.checked }
namespace Rows
def none {H : Type} : Left H := { results := [], args := [] }

/-- 'tontinelaw15.StoreRights': WHATEVER THE INPUT: true; the input reads as it did. -/
def storeRightsSpec : ChangeSpec := { name := "storeRights", fn := fun _ => fun
  | [d] => { results := [.lit (.bool true)], args := [d] }
  | _ => none }
def storeRightsRow : OpenClaim := { program := "ytkfmnkpajjnpoaa", sum := "762c0c08bf4eec9b7171f08563ffc3e16511642e1c8ee23d8a7f4d0f7d1e44e8", func := "tontine/tontinelaw15.StoreRights", spec := "storeRights", unfollowed := true, recurses := true, plainKeys := false, apart := false }
def StoreRightsSaid : Prop := storeRightsRow.holds Try.pinned (OpenSpec.ofChange storeRightsSpec)

/-- ITS FALSE NEIGHBOUR: 'it returns false'. Refute it at one input. -/
def storeRightsWrong : ChangeSpec := { name := "storeRights", fn := fun _ => fun
  | [d] => { results := [.lit (.bool false)], args := [d] }
  | _ => none }
def StoreRightsWrongFalsely : Prop := storeRightsRow.holds Try.pinned (OpenSpec.ofChange storeRightsWrong)

/-- 'tontinelaw15.StoreNewest': WHATEVER THE INPUT: true; the input reads as it did. -/
def storeNewestSpec : ChangeSpec := { name := "storeNewest", fn := fun _ => fun
  | [d] => { results := [.lit (.bool true)], args := [d] }
  | _ => none }
def storeNewestRow : OpenClaim := { program := "ytkfmnkpajjnpoaa", sum := "762c0c08bf4eec9b7171f08563ffc3e16511642e1c8ee23d8a7f4d0f7d1e44e8", func := "tontine/tontinelaw15.StoreNewest", spec := "storeNewest", unfollowed := true, recurses := true, plainKeys := false, apart := false }
def StoreNewestSaid : Prop := storeNewestRow.holds Try.pinned (OpenSpec.ofChange storeNewestSpec)

/-- ITS FALSE NEIGHBOUR: 'it returns false'. Refute it at one input. -/
def storeNewestWrong : ChangeSpec := { name := "storeNewest", fn := fun _ => fun
  | [d] => { results := [.lit (.bool false)], args := [d] }
  | _ => none }
def StoreNewestWrongFalsely : Prop := storeNewestRow.holds Try.pinned (OpenSpec.ofChange storeNewestWrong)

/-- 'tontinelaw15.StoreBounds': WHATEVER THE INPUT: true; the input reads as it did. -/
def storeBoundsSpec : ChangeSpec := { name := "storeBounds", fn := fun _ => fun
  | [d1, d2] => { results := [.lit (.bool true)], args := [d1, d2] }
  | _ => none }
def storeBoundsRow : OpenClaim := { program := "ytkfmnkpajjnpoaa", sum := "762c0c08bf4eec9b7171f08563ffc3e16511642e1c8ee23d8a7f4d0f7d1e44e8", func := "tontine/tontinelaw15.StoreBounds", spec := "storeBounds", unfollowed := true, recurses := true, plainKeys := false, apart := false }
def StoreBoundsSaid : Prop := storeBoundsRow.holds Try.pinned (OpenSpec.ofChange storeBoundsSpec)

/-- ITS FALSE NEIGHBOUR: 'it returns false'. Refute it at one input. -/
def storeBoundsWrong : ChangeSpec := { name := "storeBounds", fn := fun _ => fun
  | [d1, d2] => { results := [.lit (.bool false)], args := [d1, d2] }
  | _ => none }
def StoreBoundsWrongFalsely : Prop := storeBoundsRow.holds Try.pinned (OpenSpec.ofChange storeBoundsWrong)

/-- 'tontinelaw15.StoreLocks': WHATEVER THE INPUT: true; the input reads as it did. -/
def storeLocksSpec : ChangeSpec := { name := "storeLocks", fn := fun _ => fun
  | [d] => { results := [.lit (.bool true)], args := [d] }
  | _ => none }
def storeLocksRow : OpenClaim := { program := "ytkfmnkpajjnpoaa", sum := "762c0c08bf4eec9b7171f08563ffc3e16511642e1c8ee23d8a7f4d0f7d1e44e8", func := "tontine/tontinelaw15.StoreLocks", spec := "storeLocks", unfollowed := true, recurses := true, plainKeys := false, apart := false }
def StoreLocksSaid : Prop := storeLocksRow.holds Try.pinned (OpenSpec.ofChange storeLocksSpec)

/-- ITS FALSE NEIGHBOUR: 'it returns false'. Refute it at one input. -/
def storeLocksWrong : ChangeSpec := { name := "storeLocks", fn := fun _ => fun
  | [d] => { results := [.lit (.bool false)], args := [d] }
  | _ => none }
def StoreLocksWrongFalsely : Prop := storeLocksRow.holds Try.pinned (OpenSpec.ofChange storeLocksWrong)

/-- 'tontinelaw15.StoreTwice': WHATEVER THE INPUT: true; the input reads as it did. -/
def storeTwiceSpec : ChangeSpec := { name := "storeTwice", fn := fun _ => fun
  | [d] => { results := [.lit (.bool true)], args := [d] }
  | _ => none }
def storeTwiceRow : OpenClaim := { program := "ytkfmnkpajjnpoaa", sum := "762c0c08bf4eec9b7171f08563ffc3e16511642e1c8ee23d8a7f4d0f7d1e44e8", func := "tontine/tontinelaw15.StoreTwice", spec := "storeTwice", unfollowed := true, recurses := true, plainKeys := false, apart := false }
def StoreTwiceSaid : Prop := storeTwiceRow.holds Try.pinned (OpenSpec.ofChange storeTwiceSpec)

/-- ITS FALSE NEIGHBOUR: 'it returns false'. Refute it at one input. -/
def storeTwiceWrong : ChangeSpec := { name := "storeTwice", fn := fun _ => fun
  | [d] => { results := [.lit (.bool false)], args := [d] }
  | _ => none }
def StoreTwiceWrongFalsely : Prop := storeTwiceRow.holds Try.pinned (OpenSpec.ofChange storeTwiceWrong)

/-- 'tontinelaw15.StoreFenced': WHATEVER THE INPUT: true; the input reads as it did. -/
def storeFencedSpec : ChangeSpec := { name := "storeFenced", fn := fun _ => fun
  | [d] => { results := [.lit (.bool true)], args := [d] }
  | _ => none }
def storeFencedRow : OpenClaim := { program := "ytkfmnkpajjnpoaa", sum := "762c0c08bf4eec9b7171f08563ffc3e16511642e1c8ee23d8a7f4d0f7d1e44e8", func := "tontine/tontinelaw15.StoreFenced", spec := "storeFenced", unfollowed := true, recurses := true, plainKeys := false, apart := false }
def StoreFencedSaid : Prop := storeFencedRow.holds Try.pinned (OpenSpec.ofChange storeFencedSpec)

/-- ITS FALSE NEIGHBOUR: 'it returns false'. Refute it at one input. -/
def storeFencedWrong : ChangeSpec := { name := "storeFenced", fn := fun _ => fun
  | [d] => { results := [.lit (.bool false)], args := [d] }
  | _ => none }
def StoreFencedWrongFalsely : Prop := storeFencedRow.holds Try.pinned (OpenSpec.ofChange storeFencedWrong)

/-- 'tontinelaw15.StoreMoved': WHATEVER THE INPUT: true; the input reads as it did. -/
def storeMovedSpec : ChangeSpec := { name := "storeMoved", fn := fun _ => fun
  | [d1, d2] => { results := [.lit (.bool true)], args := [d1, d2] }
  | _ => none }
def storeMovedRow : OpenClaim := { program := "ytkfmnkpajjnpoaa", sum := "762c0c08bf4eec9b7171f08563ffc3e16511642e1c8ee23d8a7f4d0f7d1e44e8", func := "tontine/tontinelaw15.StoreMoved", spec := "storeMoved", unfollowed := true, recurses := true, plainKeys := false, apart := false }
def StoreMovedSaid : Prop := storeMovedRow.holds Try.pinned (OpenSpec.ofChange storeMovedSpec)

/-- ITS FALSE NEIGHBOUR: 'it returns false'. Refute it at one input. -/
def storeMovedWrong : ChangeSpec := { name := "storeMoved", fn := fun _ => fun
  | [d1, d2] => { results := [.lit (.bool false)], args := [d1, d2] }
  | _ => none }
def StoreMovedWrongFalsely : Prop := storeMovedRow.holds Try.pinned (OpenSpec.ofChange storeMovedWrong)

/-- 'tontinelaw15.StoreRecovered': WHATEVER THE INPUT: true; the input reads as it did. -/
def storeRecoveredSpec : ChangeSpec := { name := "storeRecovered", fn := fun _ => fun
  | [d1, d2, d3] => { results := [.lit (.bool true)], args := [d1, d2, d3] }
  | _ => none }
def storeRecoveredRow : OpenClaim := { program := "ytkfmnkpajjnpoaa", sum := "762c0c08bf4eec9b7171f08563ffc3e16511642e1c8ee23d8a7f4d0f7d1e44e8", func := "tontine/tontinelaw15.StoreRecovered", spec := "storeRecovered", unfollowed := true, recurses := true, plainKeys := false, apart := false }
def StoreRecoveredSaid : Prop := storeRecoveredRow.holds Try.pinned (OpenSpec.ofChange storeRecoveredSpec)

/-- ITS FALSE NEIGHBOUR: 'it returns false'. Refute it at one input. -/
def storeRecoveredWrong : ChangeSpec := { name := "storeRecovered", fn := fun _ => fun
  | [d1, d2, d3] => { results := [.lit (.bool false)], args := [d1, d2, d3] }
  | _ => none }
def StoreRecoveredWrongFalsely : Prop := storeRecoveredRow.holds Try.pinned (OpenSpec.ofChange storeRecoveredWrong)

/-- 'tontinelaw15.StoreReplicas': WHATEVER THE INPUT: true; the input reads as it did. -/
def storeReplicasSpec : ChangeSpec := { name := "storeReplicas", fn := fun _ => fun
  | [d] => { results := [.lit (.bool true)], args := [d] }
  | _ => none }
def storeReplicasRow : OpenClaim := { program := "ytkfmnkpajjnpoaa", sum := "762c0c08bf4eec9b7171f08563ffc3e16511642e1c8ee23d8a7f4d0f7d1e44e8", func := "tontine/tontinelaw15.StoreReplicas", spec := "storeReplicas", unfollowed := true, recurses := true, plainKeys := false, apart := false }
def StoreReplicasSaid : Prop := storeReplicasRow.holds Try.pinned (OpenSpec.ofChange storeReplicasSpec)

/-- ITS FALSE NEIGHBOUR: 'it returns false'. Refute it at one input. -/
def storeReplicasWrong : ChangeSpec := { name := "storeReplicas", fn := fun _ => fun
  | [d] => { results := [.lit (.bool false)], args := [d] }
  | _ => none }
def StoreReplicasWrongFalsely : Prop := storeReplicasRow.holds Try.pinned (OpenSpec.ofChange storeReplicasWrong)

/-- 'tontinelaw15.StoreNil': WHATEVER THE INPUT: true; the input reads as it did. -/
def storeNilSpec : ChangeSpec := { name := "storeNil", fn := fun _ => fun
  | [d1, d2] => { results := [.lit (.bool true)], args := [d1, d2] }
  | _ => none }
def storeNilRow : OpenClaim := { program := "ytkfmnkpajjnpoaa", sum := "762c0c08bf4eec9b7171f08563ffc3e16511642e1c8ee23d8a7f4d0f7d1e44e8", func := "tontine/tontinelaw15.StoreNil", spec := "storeNil", unfollowed := true, recurses := true, plainKeys := false, apart := false }
def StoreNilSaid : Prop := storeNilRow.holds Try.pinned (OpenSpec.ofChange storeNilSpec)

/-- ITS FALSE NEIGHBOUR: 'it returns false'. Refute it at one input. -/
def storeNilWrong : ChangeSpec := { name := "storeNil", fn := fun _ => fun
  | [d1, d2] => { results := [.lit (.bool false)], args := [d1, d2] }
  | _ => none }
def StoreNilWrongFalsely : Prop := storeNilRow.holds Try.pinned (OpenSpec.ofChange storeNilWrong)

/- THE SECOND FORM. 'bulk': how many values and letters a reading holds, each counted each time it is reached (what is shared counts as often as it is met; a slice's spare places count too). A statement '..UptoSaid' is the law's where the arguments, and the package variables that the reading takes, are together of bulk at most 1048576: NARROWER than '..Said'. Prove '..Said' where nothing that the law and all that it calls make is longer than what came in: it says more and counts as full. Else prove '..UptoSaid'. A law counts once. -/
mutual
def uptoBulk {H : Type} : DataW H → Nat
  | .lit (.string bytes) => bytes.length + 1
  | .lit _ => 1
  | .nil => 1
  | .ptr d => uptoBulk d + 1
  | .slice elems spare => uptoBulkAll elems + uptoBulkAll spare + 1
  | .agg parts => uptoBulkAll parts + 1
  | .iface _ d => uptoBulk d + 1
  | .map entries => uptoBulkEntries entries + 1
  | .held _ => 1
def uptoBulkAll {H : Type} : List (DataW H) → Nat
  | [] => 0
  | d :: r => uptoBulk d + uptoBulkAll r
def uptoBulkEntries {H : Type} : List (Lit × DataW H) → Nat
  | [] => 0
  | x :: r => uptoBulkEntry x + uptoBulkEntries r
def uptoBulkEntry {H : Type} : Lit × DataW H → Nat
  | (.string bytes, d) => bytes.length + uptoBulk d + 1
  | (_, d) => uptoBulk d + 1
 end
def uptoSmall : (H : Type) → List (DataW H) → Bool := fun _ ds => decide (uptoBulkAll ds ≤ 1048576)
def OpenSpec.upto (s : _root_.Go.ChangeSpec) : _root_.Go.OpenSpec := { _root_.Go.OpenSpec.ofChange s with cond := some uptoSmall }

/-- 'tontinelaw15.StoreRights', WHERE WHAT IT READS IS OF BULK AT MOST 1048576: true; the input reads as it did. -/
def storeRightsUptoRow : OpenClaim := { program := "ytkfmnkpajjnpoaa", sum := "762c0c08bf4eec9b7171f08563ffc3e16511642e1c8ee23d8a7f4d0f7d1e44e8", func := "tontine/tontinelaw15.StoreRights", spec := "storeRights", unfollowed := true, recurses := true, plainKeys := false, apart := false, narrowed := true }
def StoreRightsUptoSaid : Prop := storeRightsUptoRow.holds Try.pinned (OpenSpec.upto storeRightsSpec)

/-- 'tontinelaw15.StoreNewest', WHERE WHAT IT READS IS OF BULK AT MOST 1048576: true; the input reads as it did. -/
def storeNewestUptoRow : OpenClaim := { program := "ytkfmnkpajjnpoaa", sum := "762c0c08bf4eec9b7171f08563ffc3e16511642e1c8ee23d8a7f4d0f7d1e44e8", func := "tontine/tontinelaw15.StoreNewest", spec := "storeNewest", unfollowed := true, recurses := true, plainKeys := false, apart := false, narrowed := true }
def StoreNewestUptoSaid : Prop := storeNewestUptoRow.holds Try.pinned (OpenSpec.upto storeNewestSpec)

/-- 'tontinelaw15.StoreBounds', WHERE WHAT IT READS IS OF BULK AT MOST 1048576: true; the input reads as it did. -/
def storeBoundsUptoRow : OpenClaim := { program := "ytkfmnkpajjnpoaa", sum := "762c0c08bf4eec9b7171f08563ffc3e16511642e1c8ee23d8a7f4d0f7d1e44e8", func := "tontine/tontinelaw15.StoreBounds", spec := "storeBounds", unfollowed := true, recurses := true, plainKeys := false, apart := false, narrowed := true }
def StoreBoundsUptoSaid : Prop := storeBoundsUptoRow.holds Try.pinned (OpenSpec.upto storeBoundsSpec)

/-- 'tontinelaw15.StoreLocks', WHERE WHAT IT READS IS OF BULK AT MOST 1048576: true; the input reads as it did. -/
def storeLocksUptoRow : OpenClaim := { program := "ytkfmnkpajjnpoaa", sum := "762c0c08bf4eec9b7171f08563ffc3e16511642e1c8ee23d8a7f4d0f7d1e44e8", func := "tontine/tontinelaw15.StoreLocks", spec := "storeLocks", unfollowed := true, recurses := true, plainKeys := false, apart := false, narrowed := true }
def StoreLocksUptoSaid : Prop := storeLocksUptoRow.holds Try.pinned (OpenSpec.upto storeLocksSpec)

/-- 'tontinelaw15.StoreTwice', WHERE WHAT IT READS IS OF BULK AT MOST 1048576: true; the input reads as it did. -/
def storeTwiceUptoRow : OpenClaim := { program := "ytkfmnkpajjnpoaa", sum := "762c0c08bf4eec9b7171f08563ffc3e16511642e1c8ee23d8a7f4d0f7d1e44e8", func := "tontine/tontinelaw15.StoreTwice", spec := "storeTwice", unfollowed := true, recurses := true, plainKeys := false, apart := false, narrowed := true }
def StoreTwiceUptoSaid : Prop := storeTwiceUptoRow.holds Try.pinned (OpenSpec.upto storeTwiceSpec)

/-- 'tontinelaw15.StoreFenced', WHERE WHAT IT READS IS OF BULK AT MOST 1048576: true; the input reads as it did. -/
def storeFencedUptoRow : OpenClaim := { program := "ytkfmnkpajjnpoaa", sum := "762c0c08bf4eec9b7171f08563ffc3e16511642e1c8ee23d8a7f4d0f7d1e44e8", func := "tontine/tontinelaw15.StoreFenced", spec := "storeFenced", unfollowed := true, recurses := true, plainKeys := false, apart := false, narrowed := true }
def StoreFencedUptoSaid : Prop := storeFencedUptoRow.holds Try.pinned (OpenSpec.upto storeFencedSpec)

/-- 'tontinelaw15.StoreMoved', WHERE WHAT IT READS IS OF BULK AT MOST 1048576: true; the input reads as it did. -/
def storeMovedUptoRow : OpenClaim := { program := "ytkfmnkpajjnpoaa", sum := "762c0c08bf4eec9b7171f08563ffc3e16511642e1c8ee23d8a7f4d0f7d1e44e8", func := "tontine/tontinelaw15.StoreMoved", spec := "storeMoved", unfollowed := true, recurses := true, plainKeys := false, apart := false, narrowed := true }
def StoreMovedUptoSaid : Prop := storeMovedUptoRow.holds Try.pinned (OpenSpec.upto storeMovedSpec)

/-- 'tontinelaw15.StoreRecovered', WHERE WHAT IT READS IS OF BULK AT MOST 1048576: true; the input reads as it did. -/
def storeRecoveredUptoRow : OpenClaim := { program := "ytkfmnkpajjnpoaa", sum := "762c0c08bf4eec9b7171f08563ffc3e16511642e1c8ee23d8a7f4d0f7d1e44e8", func := "tontine/tontinelaw15.StoreRecovered", spec := "storeRecovered", unfollowed := true, recurses := true, plainKeys := false, apart := false, narrowed := true }
def StoreRecoveredUptoSaid : Prop := storeRecoveredUptoRow.holds Try.pinned (OpenSpec.upto storeRecoveredSpec)

/-- 'tontinelaw15.StoreReplicas', WHERE WHAT IT READS IS OF BULK AT MOST 1048576: true; the input reads as it did. -/
def storeReplicasUptoRow : OpenClaim := { program := "ytkfmnkpajjnpoaa", sum := "762c0c08bf4eec9b7171f08563ffc3e16511642e1c8ee23d8a7f4d0f7d1e44e8", func := "tontine/tontinelaw15.StoreReplicas", spec := "storeReplicas", unfollowed := true, recurses := true, plainKeys := false, apart := false, narrowed := true }
def StoreReplicasUptoSaid : Prop := storeReplicasUptoRow.holds Try.pinned (OpenSpec.upto storeReplicasSpec)

/-- 'tontinelaw15.StoreNil', WHERE WHAT IT READS IS OF BULK AT MOST 1048576: true; the input reads as it did. -/
def storeNilUptoRow : OpenClaim := { program := "ytkfmnkpajjnpoaa", sum := "762c0c08bf4eec9b7171f08563ffc3e16511642e1c8ee23d8a7f4d0f7d1e44e8", func := "tontine/tontinelaw15.StoreNil", spec := "storeNil", unfollowed := true, recurses := true, plainKeys := false, apart := false, narrowed := true }
def StoreNilUptoSaid : Prop := storeNilUptoRow.holds Try.pinned (OpenSpec.upto storeNilSpec)

end Rows
end Go.Proofs.Ytkfmnkpajjnpoaa
