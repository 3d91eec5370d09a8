/-
  No cell of these rows narrows 'for every input' (looked for: loops, veiled, ifaces, maps, wideKeys, modest, calm, conditions, laid).
  DERIVED. THE GIVEN ROWS OF THIS SEAT. 4 by the template 'for every input the law returns true; each argument reads behind the call as it read before'; 0 by the template 'total and deterministic' (their statements: YtjnnbkfnhfondaaTotals.lean).
  GIVEN WITH THE SEED: the statements are not yours to turn. If you find one false, say at which input.
  Laid BY PROGRAM, IN A SANDBOX (cutbox-rows.mjs): the forced cells as the released guide's own fill.sh prints them over the translation 2478f7995725d612… (all of the seat's roots in one cut). By AI agents, Wed Nov 11 2026. No macro, syntax, notation, axiom, sorry.
-/
import Derived.Test.YtjnnbkfnhfondaaChecked
import GoSem.Claim
import GoSem.ClaimJoined
import GoSem.ClaimMapViews
import Derived.JoinedTies
import Derived.KernelRfl
namespace Go.Proofs.Ytjnnbkfnhfondaa
/- THE CELL 'sum', in the pinned program and in every row, IS THE sha256 OF THE DUMP (.gsa) THAT YtjnnbkfnhfondaaProg.lean LOADS. Nothing in Lean hashes anything: it is a label: what it is worth is what the hold of that sum in a sandbox is worth. -/
noncomputable def Try.pinned : Pinned := { name := "ytjnnbkfnhfondaa", sum := "2478f7995725d6127d8259a2cbbd7cbd712cbb9a72fa763909becfe1a8736bc6", checked := Try.checked }
namespace Rows
def none {H : Type} : Left H := { results := [], args := [] }

/-- 'tontinelaw05.DrawsApart': WHATEVER THE INPUT: true; the input reads as it did. -/
def drawsApartSpec : ChangeSpec := { name := "drawsApart", fn := fun _ => fun
  | [d1, d2, d3] => { results := [.lit (.bool true)], args := [d1, d2, d3] }
  | _ => none }
def drawsApartRow : OpenClaim := { program := "ytjnnbkfnhfondaa", sum := "2478f7995725d6127d8259a2cbbd7cbd712cbb9a72fa763909becfe1a8736bc6", func := "tontine/tontinelaw05.DrawsApart", spec := "drawsApart", apart := false }
def DrawsApartSaid : Prop := drawsApartRow.holds Try.pinned (OpenSpec.ofChange drawsApartSpec)

/-- ITS FALSE NEIGHBOUR: 'it returns false'. Refute it at one input. -/
def drawsApartWrong : ChangeSpec := { name := "drawsApart", fn := fun _ => fun
  | [d1, d2, d3] => { results := [.lit (.bool false)], args := [d1, d2, d3] }
  | _ => none }
def DrawsApartWrongFalsely : Prop := drawsApartRow.holds Try.pinned (OpenSpec.ofChange drawsApartWrong)

/-- 'tontinelaw05.DrawsFair': WHATEVER THE INPUT: true; the input reads as it did. -/
def drawsFairSpec : ChangeSpec := { name := "drawsFair", fn := fun _ => fun
  | [d1, d2, d3] => { results := [.lit (.bool true)], args := [d1, d2, d3] }
  | _ => none }
def drawsFairRow : OpenClaim := { program := "ytjnnbkfnhfondaa", sum := "2478f7995725d6127d8259a2cbbd7cbd712cbb9a72fa763909becfe1a8736bc6", func := "tontine/tontinelaw05.DrawsFair", spec := "drawsFair", apart := false }
def DrawsFairSaid : Prop := drawsFairRow.holds Try.pinned (OpenSpec.ofChange drawsFairSpec)

/-- ITS FALSE NEIGHBOUR: 'it returns false'. Refute it at one input. -/
def drawsFairWrong : ChangeSpec := { name := "drawsFair", fn := fun _ => fun
  | [d1, d2, d3] => { results := [.lit (.bool false)], args := [d1, d2, d3] }
  | _ => none }
def DrawsFairWrongFalsely : Prop := drawsFairRow.holds Try.pinned (OpenSpec.ofChange drawsFairWrong)

/-- 'tontinelaw05.DrawsPlay': WHATEVER THE INPUT: true; the input reads as it did. -/
def drawsPlaySpec : ChangeSpec := { name := "drawsPlay", fn := fun _ => fun
  | [d1, d2] => { results := [.lit (.bool true)], args := [d1, d2] }
  | _ => none }
def drawsPlayRow : OpenClaim := { program := "ytjnnbkfnhfondaa", sum := "2478f7995725d6127d8259a2cbbd7cbd712cbb9a72fa763909becfe1a8736bc6", func := "tontine/tontinelaw05.DrawsPlay", spec := "drawsPlay", apart := false }
def DrawsPlaySaid : Prop := drawsPlayRow.holds Try.pinned (OpenSpec.ofChange drawsPlaySpec)

/-- ITS FALSE NEIGHBOUR: 'it returns false'. Refute it at one input. -/
def drawsPlayWrong : ChangeSpec := { name := "drawsPlay", fn := fun _ => fun
  | [d1, d2] => { results := [.lit (.bool false)], args := [d1, d2] }
  | _ => none }
def DrawsPlayWrongFalsely : Prop := drawsPlayRow.holds Try.pinned (OpenSpec.ofChange drawsPlayWrong)

/-- 'tontinelaw05.DrawsNil': WHATEVER THE INPUT: true; the input reads as it did. -/
def drawsNilSpec : ChangeSpec := { name := "drawsNil", fn := fun _ => fun
  | [d1, d2] => { results := [.lit (.bool true)], args := [d1, d2] }
  | _ => none }
def drawsNilRow : OpenClaim := { program := "ytjnnbkfnhfondaa", sum := "2478f7995725d6127d8259a2cbbd7cbd712cbb9a72fa763909becfe1a8736bc6", func := "tontine/tontinelaw05.DrawsNil", spec := "drawsNil", apart := false }
def DrawsNilSaid : Prop := drawsNilRow.holds Try.pinned (OpenSpec.ofChange drawsNilSpec)

/-- ITS FALSE NEIGHBOUR: 'it returns false'. Refute it at one input. -/
def drawsNilWrong : ChangeSpec := { name := "drawsNil", fn := fun _ => fun
  | [d1, d2] => { results := [.lit (.bool false)], args := [d1, d2] }
  | _ => none }
def DrawsNilWrongFalsely : Prop := drawsNilRow.holds Try.pinned (OpenSpec.ofChange drawsNilWrong)

/- THE SECOND FORM. 'bulk': how many values and letters a reading holds, each counted each time it is reached (what is shared counts as often as it is met; a slice's spare places count too). A statement '..UptoSaid' is the law's where the arguments, and the package variables that the reading takes, are together of bulk at most 1048576: NARROWER than '..Said'. Prove '..Said' where nothing that the law and all that it calls make is longer than what came in: it says more and counts as full. Else prove '..UptoSaid'. A law counts once. -/
mutual
def uptoBulk {H : Type} : DataW H → Nat
  | .lit (.string bytes) => bytes.length + 1
  | .lit _ => 1
  | .nil => 1
  | .ptr d => uptoBulk d + 1
  | .slice elems spare => uptoBulkAll elems + uptoBulkAll spare + 1
  | .agg parts => uptoBulkAll parts + 1
  | .iface _ d => uptoBulk d + 1
  | .map entries => uptoBulkEntries entries + 1
  | .held _ => 1
def uptoBulkAll {H : Type} : List (DataW H) → Nat
  | [] => 0
  | d :: r => uptoBulk d + uptoBulkAll r
def uptoBulkEntries {H : Type} : List (Lit × DataW H) → Nat
  | [] => 0
  | x :: r => uptoBulkEntry x + uptoBulkEntries r
def uptoBulkEntry {H : Type} : Lit × DataW H → Nat
  | (.string bytes, d) => bytes.length + uptoBulk d + 1
  | (_, d) => uptoBulk d + 1
 end
def uptoSmall : (H : Type) → List (DataW H) → Bool := fun _ ds => decide (uptoBulkAll ds ≤ 1048576)
def OpenSpec.upto (s : _root_.Go.ChangeSpec) : _root_.Go.OpenSpec := { _root_.Go.OpenSpec.ofChange s with cond := some uptoSmall }

/-- 'tontinelaw05.DrawsApart', WHERE WHAT IT READS IS OF BULK AT MOST 1048576: true; the input reads as it did. -/
def drawsApartUptoRow : OpenClaim := { program := "ytjnnbkfnhfondaa", sum := "2478f7995725d6127d8259a2cbbd7cbd712cbb9a72fa763909becfe1a8736bc6", func := "tontine/tontinelaw05.DrawsApart", spec := "drawsApart", apart := false, narrowed := true }
def DrawsApartUptoSaid : Prop := drawsApartUptoRow.holds Try.pinned (OpenSpec.upto drawsApartSpec)

/-- 'tontinelaw05.DrawsFair', WHERE WHAT IT READS IS OF BULK AT MOST 1048576: true; the input reads as it did. -/
def drawsFairUptoRow : OpenClaim := { program := "ytjnnbkfnhfondaa", sum := "2478f7995725d6127d8259a2cbbd7cbd712cbb9a72fa763909becfe1a8736bc6", func := "tontine/tontinelaw05.DrawsFair", spec := "drawsFair", apart := false, narrowed := true }
def DrawsFairUptoSaid : Prop := drawsFairUptoRow.holds Try.pinned (OpenSpec.upto drawsFairSpec)

/-- 'tontinelaw05.DrawsPlay', WHERE WHAT IT READS IS OF BULK AT MOST 1048576: true; the input reads as it did. -/
def drawsPlayUptoRow : OpenClaim := { program := "ytjnnbkfnhfondaa", sum := "2478f7995725d6127d8259a2cbbd7cbd712cbb9a72fa763909becfe1a8736bc6", func := "tontine/tontinelaw05.DrawsPlay", spec := "drawsPlay", apart := false, narrowed := true }
def DrawsPlayUptoSaid : Prop := drawsPlayUptoRow.holds Try.pinned (OpenSpec.upto drawsPlaySpec)

/-- 'tontinelaw05.DrawsNil', WHERE WHAT IT READS IS OF BULK AT MOST 1048576: true; the input reads as it did. -/
def drawsNilUptoRow : OpenClaim := { program := "ytjnnbkfnhfondaa", sum := "2478f7995725d6127d8259a2cbbd7cbd712cbb9a72fa763909becfe1a8736bc6", func := "tontine/tontinelaw05.DrawsNil", spec := "drawsNil", apart := false, narrowed := true }
def DrawsNilUptoSaid : Prop := drawsNilUptoRow.holds Try.pinned (OpenSpec.upto drawsNilSpec)

end Rows
end Go.Proofs.Ytjnnbkfnhfondaa
