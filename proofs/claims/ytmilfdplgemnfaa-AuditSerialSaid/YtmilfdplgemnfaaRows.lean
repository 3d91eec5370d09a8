/-
  No cell of these rows narrows 'for every input' (looked for: loops, veiled, ifaces, maps, wideKeys, modest, calm, conditions, laid).
  DERIVED. THE GIVEN ROWS OF THIS SEAT. 5 by the template 'for every input the law returns true; each argument reads behind the call as it read before'; 0 by the template 'total and deterministic' (their statements: YtmilfdplgemnfaaTotals.lean).
  GIVEN WITH THE SEED: the statements are not yours to turn. If you find one false, say at which input.
  Laid BY PROGRAM, IN A SANDBOX (cutbox-rows.mjs): the forced cells as the released guide's own fill.sh prints them over the translation bc62cbef22366be0… (all of the seat's roots in one cut). By AI agents, Wed Nov 11 2026. No macro, syntax, notation, axiom, sorry.
-/
import Derived.Test.YtmilfdplgemnfaaChecked
import GoSem.Claim
import GoSem.ClaimJoined
import GoSem.ClaimMapViews
import Derived.JoinedTies
import Derived.KernelRfl
namespace Go.Proofs.Ytmilfdplgemnfaa
/- THE CELL 'sum', in the pinned program and in every row, IS THE sha256 OF THE DUMP (.gsa) THAT YtmilfdplgemnfaaProg.lean LOADS. Nothing in Lean hashes anything: it is a label: what it is worth is what the hold of that sum in a sandbox is worth. -/
noncomputable def Try.pinned : Pinned := { name := "ytmilfdplgemnfaa", sum := "bc62cbef22366be065b5dacaed45aa9e8c011aaa09da9567692f0710819d0dc8", checked := Try.checked }
namespace Rows
def none {H : Type} : Left H := { results := [], args := [] }

/-- 'tontinelaw23.AuditOrders': WHATEVER THE INPUT: true; the input reads as it did. -/
def auditOrdersSpec : ChangeSpec := { name := "auditOrders", fn := fun _ => fun
  | [d] => { results := [.lit (.bool true)], args := [d] }
  | _ => none }
def auditOrdersRow : OpenClaim := { program := "ytmilfdplgemnfaa", sum := "bc62cbef22366be065b5dacaed45aa9e8c011aaa09da9567692f0710819d0dc8", func := "tontine/tontinelaw23.AuditOrders", spec := "auditOrders", unfollowed := true, recurses := true, plainKeys := false, apart := false }
def AuditOrdersSaid : Prop := auditOrdersRow.holds Try.pinned (OpenSpec.ofChange auditOrdersSpec)

/-- ITS FALSE NEIGHBOUR: 'it returns false'. Refute it at one input. -/
def auditOrdersWrong : ChangeSpec := { name := "auditOrders", fn := fun _ => fun
  | [d] => { results := [.lit (.bool false)], args := [d] }
  | _ => none }
def AuditOrdersWrongFalsely : Prop := auditOrdersRow.holds Try.pinned (OpenSpec.ofChange auditOrdersWrong)

/-- 'tontinelaw23.AuditExplains': WHATEVER THE INPUT: true; the input reads as it did. -/
def auditExplainsSpec : ChangeSpec := { name := "auditExplains", fn := fun _ => fun
  | [d] => { results := [.lit (.bool true)], args := [d] }
  | _ => none }
def auditExplainsRow : OpenClaim := { program := "ytmilfdplgemnfaa", sum := "bc62cbef22366be065b5dacaed45aa9e8c011aaa09da9567692f0710819d0dc8", func := "tontine/tontinelaw23.AuditExplains", spec := "auditExplains", unfollowed := true, recurses := true, plainKeys := false, apart := false }
def AuditExplainsSaid : Prop := auditExplainsRow.holds Try.pinned (OpenSpec.ofChange auditExplainsSpec)

/-- ITS FALSE NEIGHBOUR: 'it returns false'. Refute it at one input. -/
def auditExplainsWrong : ChangeSpec := { name := "auditExplains", fn := fun _ => fun
  | [d] => { results := [.lit (.bool false)], args := [d] }
  | _ => none }
def AuditExplainsWrongFalsely : Prop := auditExplainsRow.holds Try.pinned (OpenSpec.ofChange auditExplainsWrong)

/-- 'tontinelaw23.AuditSerial': WHATEVER THE INPUT: true; the input reads as it did. -/
def auditSerialSpec : ChangeSpec := { name := "auditSerial", fn := fun _ => fun
  | [d1, d2] => { results := [.lit (.bool true)], args := [d1, d2] }
  | _ => none }
def auditSerialRow : OpenClaim := { program := "ytmilfdplgemnfaa", sum := "bc62cbef22366be065b5dacaed45aa9e8c011aaa09da9567692f0710819d0dc8", func := "tontine/tontinelaw23.AuditSerial", spec := "auditSerial", unfollowed := true, recurses := true, plainKeys := false, apart := false }
def AuditSerialSaid : Prop := auditSerialRow.holds Try.pinned (OpenSpec.ofChange auditSerialSpec)

/-- ITS FALSE NEIGHBOUR: 'it returns false'. Refute it at one input. -/
def auditSerialWrong : ChangeSpec := { name := "auditSerial", fn := fun _ => fun
  | [d1, d2] => { results := [.lit (.bool false)], args := [d1, d2] }
  | _ => none }
def AuditSerialWrongFalsely : Prop := auditSerialRow.holds Try.pinned (OpenSpec.ofChange auditSerialWrong)

/-- 'tontinelaw23.AuditShuffled': WHATEVER THE INPUT: true; the input reads as it did. -/
def auditShuffledSpec : ChangeSpec := { name := "auditShuffled", fn := fun _ => fun
  | [d1, d2] => { results := [.lit (.bool true)], args := [d1, d2] }
  | _ => none }
def auditShuffledRow : OpenClaim := { program := "ytmilfdplgemnfaa", sum := "bc62cbef22366be065b5dacaed45aa9e8c011aaa09da9567692f0710819d0dc8", func := "tontine/tontinelaw23.AuditShuffled", spec := "auditShuffled", unfollowed := true, recurses := true, plainKeys := false, apart := false }
def AuditShuffledSaid : Prop := auditShuffledRow.holds Try.pinned (OpenSpec.ofChange auditShuffledSpec)

/-- ITS FALSE NEIGHBOUR: 'it returns false'. Refute it at one input. -/
def auditShuffledWrong : ChangeSpec := { name := "auditShuffled", fn := fun _ => fun
  | [d1, d2] => { results := [.lit (.bool false)], args := [d1, d2] }
  | _ => none }
def AuditShuffledWrongFalsely : Prop := auditShuffledRow.holds Try.pinned (OpenSpec.ofChange auditShuffledWrong)

/-- 'tontinelaw23.AuditLast': WHATEVER THE INPUT: true; the input reads as it did. -/
def auditLastSpec : ChangeSpec := { name := "auditLast", fn := fun _ => fun
  | [d] => { results := [.lit (.bool true)], args := [d] }
  | _ => none }
def auditLastRow : OpenClaim := { program := "ytmilfdplgemnfaa", sum := "bc62cbef22366be065b5dacaed45aa9e8c011aaa09da9567692f0710819d0dc8", func := "tontine/tontinelaw23.AuditLast", spec := "auditLast", unfollowed := true, recurses := true, plainKeys := false, apart := false }
def AuditLastSaid : Prop := auditLastRow.holds Try.pinned (OpenSpec.ofChange auditLastSpec)

/-- ITS FALSE NEIGHBOUR: 'it returns false'. Refute it at one input. -/
def auditLastWrong : ChangeSpec := { name := "auditLast", fn := fun _ => fun
  | [d] => { results := [.lit (.bool false)], args := [d] }
  | _ => none }
def AuditLastWrongFalsely : Prop := auditLastRow.holds Try.pinned (OpenSpec.ofChange auditLastWrong)

/- THE SECOND FORM. 'bulk': how many values and letters a reading holds, each counted each time it is reached (what is shared counts as often as it is met; a slice's spare places count too). A statement '..UptoSaid' is the law's where the arguments, and the package variables that the reading takes, are together of bulk at most 1048576: NARROWER than '..Said'. Prove '..Said' where nothing that the law and all that it calls make is longer than what came in: it says more and counts as full. Else prove '..UptoSaid'. A law counts once. -/
mutual
def uptoBulk {H : Type} : DataW H → Nat
  | .lit (.string bytes) => bytes.length + 1
  | .lit _ => 1
  | .nil => 1
  | .ptr d => uptoBulk d + 1
  | .slice elems spare => uptoBulkAll elems + uptoBulkAll spare + 1
  | .agg parts => uptoBulkAll parts + 1
  | .iface _ d => uptoBulk d + 1
  | .map entries => uptoBulkEntries entries + 1
  | .held _ => 1
def uptoBulkAll {H : Type} : List (DataW H) → Nat
  | [] => 0
  | d :: r => uptoBulk d + uptoBulkAll r
def uptoBulkEntries {H : Type} : List (Lit × DataW H) → Nat
  | [] => 0
  | x :: r => uptoBulkEntry x + uptoBulkEntries r
def uptoBulkEntry {H : Type} : Lit × DataW H → Nat
  | (.string bytes, d) => bytes.length + uptoBulk d + 1
  | (_, d) => uptoBulk d + 1
 end
def uptoSmall : (H : Type) → List (DataW H) → Bool := fun _ ds => decide (uptoBulkAll ds ≤ 1048576)
def OpenSpec.upto (s : _root_.Go.ChangeSpec) : _root_.Go.OpenSpec := { _root_.Go.OpenSpec.ofChange s with cond := some uptoSmall }

/-- 'tontinelaw23.AuditOrders', WHERE WHAT IT READS IS OF BULK AT MOST 1048576: true; the input reads as it did. -/
def auditOrdersUptoRow : OpenClaim := { program := "ytmilfdplgemnfaa", sum := "bc62cbef22366be065b5dacaed45aa9e8c011aaa09da9567692f0710819d0dc8", func := "tontine/tontinelaw23.AuditOrders", spec := "auditOrders", unfollowed := true, recurses := true, plainKeys := false, apart := false, narrowed := true }
def AuditOrdersUptoSaid : Prop := auditOrdersUptoRow.holds Try.pinned (OpenSpec.upto auditOrdersSpec)

/-- 'tontinelaw23.AuditExplains', WHERE WHAT IT READS IS OF BULK AT MOST 1048576: true; the input reads as it did. -/
def auditExplainsUptoRow : OpenClaim := { program := "ytmilfdplgemnfaa", sum := "bc62cbef22366be065b5dacaed45aa9e8c011aaa09da9567692f0710819d0dc8", func := "tontine/tontinelaw23.AuditExplains", spec := "auditExplains", unfollowed := true, recurses := true, plainKeys := false, apart := false, narrowed := true }
def AuditExplainsUptoSaid : Prop := auditExplainsUptoRow.holds Try.pinned (OpenSpec.upto auditExplainsSpec)

/-- 'tontinelaw23.AuditSerial', WHERE WHAT IT READS IS OF BULK AT MOST 1048576: true; the input reads as it did. -/
def auditSerialUptoRow : OpenClaim := { program := "ytmilfdplgemnfaa", sum := "bc62cbef22366be065b5dacaed45aa9e8c011aaa09da9567692f0710819d0dc8", func := "tontine/tontinelaw23.AuditSerial", spec := "auditSerial", unfollowed := true, recurses := true, plainKeys := false, apart := false, narrowed := true }
def AuditSerialUptoSaid : Prop := auditSerialUptoRow.holds Try.pinned (OpenSpec.upto auditSerialSpec)

/-- 'tontinelaw23.AuditShuffled', WHERE WHAT IT READS IS OF BULK AT MOST 1048576: true; the input reads as it did. -/
def auditShuffledUptoRow : OpenClaim := { program := "ytmilfdplgemnfaa", sum := "bc62cbef22366be065b5dacaed45aa9e8c011aaa09da9567692f0710819d0dc8", func := "tontine/tontinelaw23.AuditShuffled", spec := "auditShuffled", unfollowed := true, recurses := true, plainKeys := false, apart := false, narrowed := true }
def AuditShuffledUptoSaid : Prop := auditShuffledUptoRow.holds Try.pinned (OpenSpec.upto auditShuffledSpec)

/-- 'tontinelaw23.AuditLast', WHERE WHAT IT READS IS OF BULK AT MOST 1048576: true; the input reads as it did. -/
def auditLastUptoRow : OpenClaim := { program := "ytmilfdplgemnfaa", sum := "bc62cbef22366be065b5dacaed45aa9e8c011aaa09da9567692f0710819d0dc8", func := "tontine/tontinelaw23.AuditLast", spec := "auditLast", unfollowed := true, recurses := true, plainKeys := false, apart := false, narrowed := true }
def AuditLastUptoSaid : Prop := auditLastUptoRow.holds Try.pinned (OpenSpec.upto auditLastSpec)

end Rows
end Go.Proofs.Ytmilfdplgemnfaa
