/-
  No cell of these rows narrows 'for every input' (looked for: loops, veiled, ifaces, maps, wideKeys, modest, calm, conditions, laid).
  DERIVED. THE GIVEN ROWS OF THIS SEAT. 7 by the template 'for every input the law returns true; each argument reads behind the call as it read before'; 0 by the template 'total and deterministic' (their statements: YtnbiohlaibdeaaaTotals.lean).
  GIVEN WITH THE SEED: the statements are not yours to turn. If you find one false, say at which input.
  Laid BY PROGRAM, IN A SANDBOX (cutbox-rows.mjs): the forced cells as the released guide's own fill.sh prints them over the translation a69916a9ab3582f0… (all of the seat's roots in one cut). By AI agents, Wed Nov 11 2026. No macro, syntax, notation, axiom, sorry.
-/
import Derived.Test.YtnbiohlaibdeaaaChecked
import GoSem.Claim
import GoSem.ClaimJoined
import GoSem.ClaimMapViews
import Derived.JoinedTies
import Derived.KernelRfl
namespace Go.Proofs.Ytnbiohlaibdeaaa
/- THE CELL 'sum', in the pinned program and in every row, IS THE sha256 OF THE DUMP (.gsa) THAT YtnbiohlaibdeaaaProg.lean LOADS. Nothing in Lean hashes anything: it is a label: what it is worth is what the hold of that sum in a sandbox is worth. -/
noncomputable def Try.pinned : Pinned := { name := "ytnbiohlaibdeaaa", sum := "a69916a9ab3582f0637d40884d4737d4820b943531ea8d6c340f5542c24e6603", checked := Try.checked }
namespace Rows
def none {H : Type} : Left H := { results := [], args := [] }

/-- 'tontinelaw14.LeasePlays': WHATEVER THE INPUT: true; the input reads as it did. -/
def leasePlaysSpec : ChangeSpec := { name := "leasePlays", fn := fun _ => fun
  | [d1, d2] => { results := [.lit (.bool true)], args := [d1, d2] }
  | _ => none }
def leasePlaysRow : OpenClaim := { program := "ytnbiohlaibdeaaa", sum := "a69916a9ab3582f0637d40884d4737d4820b943531ea8d6c340f5542c24e6603", func := "tontine/tontinelaw14.LeasePlays", spec := "leasePlays", apart := false }
def LeasePlaysSaid : Prop := leasePlaysRow.holds Try.pinned (OpenSpec.ofChange leasePlaysSpec)

/-- ITS FALSE NEIGHBOUR: 'it returns false'. Refute it at one input. -/
def leasePlaysWrong : ChangeSpec := { name := "leasePlays", fn := fun _ => fun
  | [d1, d2] => { results := [.lit (.bool false)], args := [d1, d2] }
  | _ => none }
def LeasePlaysWrongFalsely : Prop := leasePlaysRow.holds Try.pinned (OpenSpec.ofChange leasePlaysWrong)

/-- 'tontinelaw14.LeaseCounts': WHATEVER THE INPUT: true; the input reads as it did. -/
def leaseCountsSpec : ChangeSpec := { name := "leaseCounts", fn := fun _ => fun
  | [d1, d2] => { results := [.lit (.bool true)], args := [d1, d2] }
  | _ => none }
def leaseCountsRow : OpenClaim := { program := "ytnbiohlaibdeaaa", sum := "a69916a9ab3582f0637d40884d4737d4820b943531ea8d6c340f5542c24e6603", func := "tontine/tontinelaw14.LeaseCounts", spec := "leaseCounts", apart := false }
def LeaseCountsSaid : Prop := leaseCountsRow.holds Try.pinned (OpenSpec.ofChange leaseCountsSpec)

/-- ITS FALSE NEIGHBOUR: 'it returns false'. Refute it at one input. -/
def leaseCountsWrong : ChangeSpec := { name := "leaseCounts", fn := fun _ => fun
  | [d1, d2] => { results := [.lit (.bool false)], args := [d1, d2] }
  | _ => none }
def LeaseCountsWrongFalsely : Prop := leaseCountsRow.holds Try.pinned (OpenSpec.ofChange leaseCountsWrong)

/-- 'tontinelaw14.LeaseTimes': WHATEVER THE INPUT: true; the input reads as it did. -/
def leaseTimesSpec : ChangeSpec := { name := "leaseTimes", fn := fun _ => fun
  | [d1, d2] => { results := [.lit (.bool true)], args := [d1, d2] }
  | _ => none }
def leaseTimesRow : OpenClaim := { program := "ytnbiohlaibdeaaa", sum := "a69916a9ab3582f0637d40884d4737d4820b943531ea8d6c340f5542c24e6603", func := "tontine/tontinelaw14.LeaseTimes", spec := "leaseTimes", apart := false }
def LeaseTimesSaid : Prop := leaseTimesRow.holds Try.pinned (OpenSpec.ofChange leaseTimesSpec)

/-- ITS FALSE NEIGHBOUR: 'it returns false'. Refute it at one input. -/
def leaseTimesWrong : ChangeSpec := { name := "leaseTimes", fn := fun _ => fun
  | [d1, d2] => { results := [.lit (.bool false)], args := [d1, d2] }
  | _ => none }
def LeaseTimesWrongFalsely : Prop := leaseTimesRow.holds Try.pinned (OpenSpec.ofChange leaseTimesWrong)

/-- 'tontinelaw14.LeaseExclusive': WHATEVER THE INPUT: true; the input reads as it did. -/
def leaseExclusiveSpec : ChangeSpec := { name := "leaseExclusive", fn := fun _ => fun
  | [d] => { results := [.lit (.bool true)], args := [d] }
  | _ => none }
def leaseExclusiveRow : OpenClaim := { program := "ytnbiohlaibdeaaa", sum := "a69916a9ab3582f0637d40884d4737d4820b943531ea8d6c340f5542c24e6603", func := "tontine/tontinelaw14.LeaseExclusive", spec := "leaseExclusive", apart := false }
def LeaseExclusiveSaid : Prop := leaseExclusiveRow.holds Try.pinned (OpenSpec.ofChange leaseExclusiveSpec)

/-- ITS FALSE NEIGHBOUR: 'it returns false'. Refute it at one input. -/
def leaseExclusiveWrong : ChangeSpec := { name := "leaseExclusive", fn := fun _ => fun
  | [d] => { results := [.lit (.bool false)], args := [d] }
  | _ => none }
def LeaseExclusiveWrongFalsely : Prop := leaseExclusiveRow.holds Try.pinned (OpenSpec.ofChange leaseExclusiveWrong)

/-- 'tontinelaw14.LeaseOne': WHATEVER THE INPUT: true; the input reads as it did. -/
def leaseOneSpec : ChangeSpec := { name := "leaseOne", fn := fun _ => fun
  | [d1, d2] => { results := [.lit (.bool true)], args := [d1, d2] }
  | _ => none }
def leaseOneRow : OpenClaim := { program := "ytnbiohlaibdeaaa", sum := "a69916a9ab3582f0637d40884d4737d4820b943531ea8d6c340f5542c24e6603", func := "tontine/tontinelaw14.LeaseOne", spec := "leaseOne", apart := false }
def LeaseOneSaid : Prop := leaseOneRow.holds Try.pinned (OpenSpec.ofChange leaseOneSpec)

/-- ITS FALSE NEIGHBOUR: 'it returns false'. Refute it at one input. -/
def leaseOneWrong : ChangeSpec := { name := "leaseOne", fn := fun _ => fun
  | [d1, d2] => { results := [.lit (.bool false)], args := [d1, d2] }
  | _ => none }
def LeaseOneWrongFalsely : Prop := leaseOneRow.holds Try.pinned (OpenSpec.ofChange leaseOneWrong)

/-- 'tontinelaw14.LeaseThere': WHATEVER THE INPUT: true; the input reads as it did. -/
def leaseThereSpec : ChangeSpec := { name := "leaseThere", fn := fun _ => fun
  | [d1, d2, d3] => { results := [.lit (.bool true)], args := [d1, d2, d3] }
  | _ => none }
def leaseThereRow : OpenClaim := { program := "ytnbiohlaibdeaaa", sum := "a69916a9ab3582f0637d40884d4737d4820b943531ea8d6c340f5542c24e6603", func := "tontine/tontinelaw14.LeaseThere", spec := "leaseThere", apart := false }
def LeaseThereSaid : Prop := leaseThereRow.holds Try.pinned (OpenSpec.ofChange leaseThereSpec)

/-- ITS FALSE NEIGHBOUR: 'it returns false'. Refute it at one input. -/
def leaseThereWrong : ChangeSpec := { name := "leaseThere", fn := fun _ => fun
  | [d1, d2, d3] => { results := [.lit (.bool false)], args := [d1, d2, d3] }
  | _ => none }
def LeaseThereWrongFalsely : Prop := leaseThereRow.holds Try.pinned (OpenSpec.ofChange leaseThereWrong)

/-- 'tontinelaw14.LeaseTaken': WHATEVER THE INPUT: true; the input reads as it did. -/
def leaseTakenSpec : ChangeSpec := { name := "leaseTaken", fn := fun _ => fun
  | [d] => { results := [.lit (.bool true)], args := [d] }
  | _ => none }
def leaseTakenRow : OpenClaim := { program := "ytnbiohlaibdeaaa", sum := "a69916a9ab3582f0637d40884d4737d4820b943531ea8d6c340f5542c24e6603", func := "tontine/tontinelaw14.LeaseTaken", spec := "leaseTaken", apart := false }
def LeaseTakenSaid : Prop := leaseTakenRow.holds Try.pinned (OpenSpec.ofChange leaseTakenSpec)

/-- ITS FALSE NEIGHBOUR: 'it returns false'. Refute it at one input. -/
def leaseTakenWrong : ChangeSpec := { name := "leaseTaken", fn := fun _ => fun
  | [d] => { results := [.lit (.bool false)], args := [d] }
  | _ => none }
def LeaseTakenWrongFalsely : Prop := leaseTakenRow.holds Try.pinned (OpenSpec.ofChange leaseTakenWrong)

/- THE SECOND FORM. 'bulk': how many values and letters a reading holds, each counted each time it is reached (what is shared counts as often as it is met; a slice's spare places count too). A statement '..UptoSaid' is the law's where the arguments, and the package variables that the reading takes, are together of bulk at most 1048576: NARROWER than '..Said'. Prove '..Said' where nothing that the law and all that it calls make is longer than what came in: it says more and counts as full. Else prove '..UptoSaid'. A law counts once. -/
mutual
def uptoBulk {H : Type} : DataW H → Nat
  | .lit (.string bytes) => bytes.length + 1
  | .lit _ => 1
  | .nil => 1
  | .ptr d => uptoBulk d + 1
  | .slice elems spare => uptoBulkAll elems + uptoBulkAll spare + 1
  | .agg parts => uptoBulkAll parts + 1
  | .iface _ d => uptoBulk d + 1
  | .map entries => uptoBulkEntries entries + 1
  | .held _ => 1
def uptoBulkAll {H : Type} : List (DataW H) → Nat
  | [] => 0
  | d :: r => uptoBulk d + uptoBulkAll r
def uptoBulkEntries {H : Type} : List (Lit × DataW H) → Nat
  | [] => 0
  | x :: r => uptoBulkEntry x + uptoBulkEntries r
def uptoBulkEntry {H : Type} : Lit × DataW H → Nat
  | (.string bytes, d) => bytes.length + uptoBulk d + 1
  | (_, d) => uptoBulk d + 1
 end
def uptoSmall : (H : Type) → List (DataW H) → Bool := fun _ ds => decide (uptoBulkAll ds ≤ 1048576)
def OpenSpec.upto (s : _root_.Go.ChangeSpec) : _root_.Go.OpenSpec := { _root_.Go.OpenSpec.ofChange s with cond := some uptoSmall }

/-- 'tontinelaw14.LeasePlays', WHERE WHAT IT READS IS OF BULK AT MOST 1048576: true; the input reads as it did. -/
def leasePlaysUptoRow : OpenClaim := { program := "ytnbiohlaibdeaaa", sum := "a69916a9ab3582f0637d40884d4737d4820b943531ea8d6c340f5542c24e6603", func := "tontine/tontinelaw14.LeasePlays", spec := "leasePlays", apart := false, narrowed := true }
def LeasePlaysUptoSaid : Prop := leasePlaysUptoRow.holds Try.pinned (OpenSpec.upto leasePlaysSpec)

/-- 'tontinelaw14.LeaseCounts', WHERE WHAT IT READS IS OF BULK AT MOST 1048576: true; the input reads as it did. -/
def leaseCountsUptoRow : OpenClaim := { program := "ytnbiohlaibdeaaa", sum := "a69916a9ab3582f0637d40884d4737d4820b943531ea8d6c340f5542c24e6603", func := "tontine/tontinelaw14.LeaseCounts", spec := "leaseCounts", apart := false, narrowed := true }
def LeaseCountsUptoSaid : Prop := leaseCountsUptoRow.holds Try.pinned (OpenSpec.upto leaseCountsSpec)

/-- 'tontinelaw14.LeaseTimes', WHERE WHAT IT READS IS OF BULK AT MOST 1048576: true; the input reads as it did. -/
def leaseTimesUptoRow : OpenClaim := { program := "ytnbiohlaibdeaaa", sum := "a69916a9ab3582f0637d40884d4737d4820b943531ea8d6c340f5542c24e6603", func := "tontine/tontinelaw14.LeaseTimes", spec := "leaseTimes", apart := false, narrowed := true }
def LeaseTimesUptoSaid : Prop := leaseTimesUptoRow.holds Try.pinned (OpenSpec.upto leaseTimesSpec)

/-- 'tontinelaw14.LeaseExclusive', WHERE WHAT IT READS IS OF BULK AT MOST 1048576: true; the input reads as it did. -/
def leaseExclusiveUptoRow : OpenClaim := { program := "ytnbiohlaibdeaaa", sum := "a69916a9ab3582f0637d40884d4737d4820b943531ea8d6c340f5542c24e6603", func := "tontine/tontinelaw14.LeaseExclusive", spec := "leaseExclusive", apart := false, narrowed := true }
def LeaseExclusiveUptoSaid : Prop := leaseExclusiveUptoRow.holds Try.pinned (OpenSpec.upto leaseExclusiveSpec)

/-- 'tontinelaw14.LeaseOne', WHERE WHAT IT READS IS OF BULK AT MOST 1048576: true; the input reads as it did. -/
def leaseOneUptoRow : OpenClaim := { program := "ytnbiohlaibdeaaa", sum := "a69916a9ab3582f0637d40884d4737d4820b943531ea8d6c340f5542c24e6603", func := "tontine/tontinelaw14.LeaseOne", spec := "leaseOne", apart := false, narrowed := true }
def LeaseOneUptoSaid : Prop := leaseOneUptoRow.holds Try.pinned (OpenSpec.upto leaseOneSpec)

/-- 'tontinelaw14.LeaseThere', WHERE WHAT IT READS IS OF BULK AT MOST 1048576: true; the input reads as it did. -/
def leaseThereUptoRow : OpenClaim := { program := "ytnbiohlaibdeaaa", sum := "a69916a9ab3582f0637d40884d4737d4820b943531ea8d6c340f5542c24e6603", func := "tontine/tontinelaw14.LeaseThere", spec := "leaseThere", apart := false, narrowed := true }
def LeaseThereUptoSaid : Prop := leaseThereUptoRow.holds Try.pinned (OpenSpec.upto leaseThereSpec)

/-- 'tontinelaw14.LeaseTaken', WHERE WHAT IT READS IS OF BULK AT MOST 1048576: true; the input reads as it did. -/
def leaseTakenUptoRow : OpenClaim := { program := "ytnbiohlaibdeaaa", sum := "a69916a9ab3582f0637d40884d4737d4820b943531ea8d6c340f5542c24e6603", func := "tontine/tontinelaw14.LeaseTaken", spec := "leaseTaken", apart := false, narrowed := true }
def LeaseTakenUptoSaid : Prop := leaseTakenUptoRow.holds Try.pinned (OpenSpec.upto leaseTakenSpec)

end Rows
end Go.Proofs.Ytnbiohlaibdeaaa
