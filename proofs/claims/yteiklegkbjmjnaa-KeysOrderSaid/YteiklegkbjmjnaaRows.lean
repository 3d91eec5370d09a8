/-
  No cell of these rows narrows 'for every input' (looked for: loops, veiled, ifaces, maps, wideKeys, modest, calm, conditions, laid).
  DERIVED. THE GIVEN ROWS OF THIS SEAT. 7 by the template 'for every input the law returns true; each argument reads behind the call as it read before'; 0 by the template 'total and deterministic' (their statements: YteiklegkbjmjnaaTotals.lean).
  GIVEN WITH THE SEED: the statements are not yours to turn. If you find one false, say at which input.
  Laid BY PROGRAM, IN A SANDBOX (cutbox-rows.mjs): the forced cells as the released guide's own fill.sh prints them over the translation 2b07226316998c9f… (all of the seat's roots in one cut). By AI agents, Wed Nov 11 2026. No macro, syntax, notation, axiom, sorry.
-/
import Derived.Test.YteiklegkbjmjnaaChecked
import GoSem.Claim
import GoSem.ClaimJoined
import GoSem.ClaimMapViews
import Derived.JoinedTies
import Derived.KernelRfl
namespace Go.Proofs.Yteiklegkbjmjnaa
/- THE CELL 'sum', in the pinned program and in every row, IS THE sha256 OF THE DUMP (.gsa) THAT YteiklegkbjmjnaaProg.lean LOADS. Nothing in Lean hashes anything: it is a label: what it is worth is what the hold of that sum in a sandbox is worth. -/
noncomputable def Try.pinned : Pinned := { name := "yteiklegkbjmjnaa", sum := "2b07226316998c9f59e936a67ea931b8176df80020c288d638bcb3eda88804f8", checked := Try.checked }
namespace Rows
def none {H : Type} : Left H := { results := [], args := [] }

/-- 'tontinelaw01.KeysTexts': WHATEVER THE INPUT: true; the input reads as it did. -/
def keysTextsSpec : ChangeSpec := { name := "keysTexts", fn := fun _ => fun
  | [d] => { results := [.lit (.bool true)], args := [d] }
  | _ => none }
def keysTextsRow : OpenClaim := { program := "yteiklegkbjmjnaa", sum := "2b07226316998c9f59e936a67ea931b8176df80020c288d638bcb3eda88804f8", func := "tontine/tontinelaw01.KeysTexts", spec := "keysTexts", apart := false }
def KeysTextsSaid : Prop := keysTextsRow.holds Try.pinned (OpenSpec.ofChange keysTextsSpec)

/-- ITS FALSE NEIGHBOUR: 'it returns false'. Refute it at one input. -/
def keysTextsWrong : ChangeSpec := { name := "keysTexts", fn := fun _ => fun
  | [d] => { results := [.lit (.bool false)], args := [d] }
  | _ => none }
def KeysTextsWrongFalsely : Prop := keysTextsRow.holds Try.pinned (OpenSpec.ofChange keysTextsWrong)

/-- 'tontinelaw01.KeysTurns': WHATEVER THE INPUT: true; the input reads as it did. -/
def keysTurnsSpec : ChangeSpec := { name := "keysTurns", fn := fun _ => fun
  | [d] => { results := [.lit (.bool true)], args := [d] }
  | _ => none }
def keysTurnsRow : OpenClaim := { program := "yteiklegkbjmjnaa", sum := "2b07226316998c9f59e936a67ea931b8176df80020c288d638bcb3eda88804f8", func := "tontine/tontinelaw01.KeysTurns", spec := "keysTurns", apart := false }
def KeysTurnsSaid : Prop := keysTurnsRow.holds Try.pinned (OpenSpec.ofChange keysTurnsSpec)

/-- ITS FALSE NEIGHBOUR: 'it returns false'. Refute it at one input. -/
def keysTurnsWrong : ChangeSpec := { name := "keysTurns", fn := fun _ => fun
  | [d] => { results := [.lit (.bool false)], args := [d] }
  | _ => none }
def KeysTurnsWrongFalsely : Prop := keysTurnsRow.holds Try.pinned (OpenSpec.ofChange keysTurnsWrong)

/-- 'tontinelaw01.KeysQuorums': WHATEVER THE INPUT: true; the input reads as it did. -/
def keysQuorumsSpec : ChangeSpec := { name := "keysQuorums", fn := fun _ => fun
  | [d1, d2] => { results := [.lit (.bool true)], args := [d1, d2] }
  | _ => none }
def keysQuorumsRow : OpenClaim := { program := "yteiklegkbjmjnaa", sum := "2b07226316998c9f59e936a67ea931b8176df80020c288d638bcb3eda88804f8", func := "tontine/tontinelaw01.KeysQuorums", spec := "keysQuorums", apart := false }
def KeysQuorumsSaid : Prop := keysQuorumsRow.holds Try.pinned (OpenSpec.ofChange keysQuorumsSpec)

/-- ITS FALSE NEIGHBOUR: 'it returns false'. Refute it at one input. -/
def keysQuorumsWrong : ChangeSpec := { name := "keysQuorums", fn := fun _ => fun
  | [d1, d2] => { results := [.lit (.bool false)], args := [d1, d2] }
  | _ => none }
def KeysQuorumsWrongFalsely : Prop := keysQuorumsRow.holds Try.pinned (OpenSpec.ofChange keysQuorumsWrong)

/-- 'tontinelaw01.KeysRanges': WHATEVER THE INPUT: true; the input reads as it did. -/
def keysRangesSpec : ChangeSpec := { name := "keysRanges", fn := fun _ => fun
  | [d1, d2, d3] => { results := [.lit (.bool true)], args := [d1, d2, d3] }
  | _ => none }
def keysRangesRow : OpenClaim := { program := "yteiklegkbjmjnaa", sum := "2b07226316998c9f59e936a67ea931b8176df80020c288d638bcb3eda88804f8", func := "tontine/tontinelaw01.KeysRanges", spec := "keysRanges", apart := false }
def KeysRangesSaid : Prop := keysRangesRow.holds Try.pinned (OpenSpec.ofChange keysRangesSpec)

/-- ITS FALSE NEIGHBOUR: 'it returns false'. Refute it at one input. -/
def keysRangesWrong : ChangeSpec := { name := "keysRanges", fn := fun _ => fun
  | [d1, d2, d3] => { results := [.lit (.bool false)], args := [d1, d2, d3] }
  | _ => none }
def KeysRangesWrongFalsely : Prop := keysRangesRow.holds Try.pinned (OpenSpec.ofChange keysRangesWrong)

/-- 'tontinelaw01.KeysPlaces': WHATEVER THE INPUT: true; the input reads as it did. -/
def keysPlacesSpec : ChangeSpec := { name := "keysPlaces", fn := fun _ => fun
  | [d1, d2, d3] => { results := [.lit (.bool true)], args := [d1, d2, d3] }
  | _ => none }
def keysPlacesRow : OpenClaim := { program := "yteiklegkbjmjnaa", sum := "2b07226316998c9f59e936a67ea931b8176df80020c288d638bcb3eda88804f8", func := "tontine/tontinelaw01.KeysPlaces", spec := "keysPlaces", apart := false }
def KeysPlacesSaid : Prop := keysPlacesRow.holds Try.pinned (OpenSpec.ofChange keysPlacesSpec)

/-- ITS FALSE NEIGHBOUR: 'it returns false'. Refute it at one input. -/
def keysPlacesWrong : ChangeSpec := { name := "keysPlaces", fn := fun _ => fun
  | [d1, d2, d3] => { results := [.lit (.bool false)], args := [d1, d2, d3] }
  | _ => none }
def KeysPlacesWrongFalsely : Prop := keysPlacesRow.holds Try.pinned (OpenSpec.ofChange keysPlacesWrong)

/-- 'tontinelaw01.KeysFour': WHATEVER THE INPUT: true; the input reads as it did. -/
def keysFourSpec : ChangeSpec := { name := "keysFour", fn := fun _ => fun
  | [d1, d2] => { results := [.lit (.bool true)], args := [d1, d2] }
  | _ => none }
def keysFourRow : OpenClaim := { program := "yteiklegkbjmjnaa", sum := "2b07226316998c9f59e936a67ea931b8176df80020c288d638bcb3eda88804f8", func := "tontine/tontinelaw01.KeysFour", spec := "keysFour", apart := false }
def KeysFourSaid : Prop := keysFourRow.holds Try.pinned (OpenSpec.ofChange keysFourSpec)

/-- ITS FALSE NEIGHBOUR: 'it returns false'. Refute it at one input. -/
def keysFourWrong : ChangeSpec := { name := "keysFour", fn := fun _ => fun
  | [d1, d2] => { results := [.lit (.bool false)], args := [d1, d2] }
  | _ => none }
def KeysFourWrongFalsely : Prop := keysFourRow.holds Try.pinned (OpenSpec.ofChange keysFourWrong)

/-- 'tontinelaw01.KeysOrder': WHATEVER THE INPUT: true; the input reads as it did. -/
def keysOrderSpec : ChangeSpec := { name := "keysOrder", fn := fun _ => fun
  | [d1, d2] => { results := [.lit (.bool true)], args := [d1, d2] }
  | _ => none }
def keysOrderRow : OpenClaim := { program := "yteiklegkbjmjnaa", sum := "2b07226316998c9f59e936a67ea931b8176df80020c288d638bcb3eda88804f8", func := "tontine/tontinelaw01.KeysOrder", spec := "keysOrder", apart := false }
def KeysOrderSaid : Prop := keysOrderRow.holds Try.pinned (OpenSpec.ofChange keysOrderSpec)

/-- ITS FALSE NEIGHBOUR: 'it returns false'. Refute it at one input. -/
def keysOrderWrong : ChangeSpec := { name := "keysOrder", fn := fun _ => fun
  | [d1, d2] => { results := [.lit (.bool false)], args := [d1, d2] }
  | _ => none }
def KeysOrderWrongFalsely : Prop := keysOrderRow.holds Try.pinned (OpenSpec.ofChange keysOrderWrong)

/- THE SECOND FORM. 'bulk': how many values and letters a reading holds, each counted each time it is reached (what is shared counts as often as it is met; a slice's spare places count too). A statement '..UptoSaid' is the law's where the arguments, and the package variables that the reading takes, are together of bulk at most 1048576: NARROWER than '..Said'. Prove '..Said' where nothing that the law and all that it calls make is longer than what came in: it says more and counts as full. Else prove '..UptoSaid'. A law counts once. -/
mutual
def uptoBulk {H : Type} : DataW H → Nat
  | .lit (.string bytes) => bytes.length + 1
  | .lit _ => 1
  | .nil => 1
  | .ptr d => uptoBulk d + 1
  | .slice elems spare => uptoBulkAll elems + uptoBulkAll spare + 1
  | .agg parts => uptoBulkAll parts + 1
  | .iface _ d => uptoBulk d + 1
  | .map entries => uptoBulkEntries entries + 1
  | .held _ => 1
def uptoBulkAll {H : Type} : List (DataW H) → Nat
  | [] => 0
  | d :: r => uptoBulk d + uptoBulkAll r
def uptoBulkEntries {H : Type} : List (Lit × DataW H) → Nat
  | [] => 0
  | x :: r => uptoBulkEntry x + uptoBulkEntries r
def uptoBulkEntry {H : Type} : Lit × DataW H → Nat
  | (.string bytes, d) => bytes.length + uptoBulk d + 1
  | (_, d) => uptoBulk d + 1
 end
def uptoSmall : (H : Type) → List (DataW H) → Bool := fun _ ds => decide (uptoBulkAll ds ≤ 1048576)
def OpenSpec.upto (s : _root_.Go.ChangeSpec) : _root_.Go.OpenSpec := { _root_.Go.OpenSpec.ofChange s with cond := some uptoSmall }

/-- 'tontinelaw01.KeysTexts', WHERE WHAT IT READS IS OF BULK AT MOST 1048576: true; the input reads as it did. -/
def keysTextsUptoRow : OpenClaim := { program := "yteiklegkbjmjnaa", sum := "2b07226316998c9f59e936a67ea931b8176df80020c288d638bcb3eda88804f8", func := "tontine/tontinelaw01.KeysTexts", spec := "keysTexts", apart := false, narrowed := true }
def KeysTextsUptoSaid : Prop := keysTextsUptoRow.holds Try.pinned (OpenSpec.upto keysTextsSpec)

/-- 'tontinelaw01.KeysTurns', WHERE WHAT IT READS IS OF BULK AT MOST 1048576: true; the input reads as it did. -/
def keysTurnsUptoRow : OpenClaim := { program := "yteiklegkbjmjnaa", sum := "2b07226316998c9f59e936a67ea931b8176df80020c288d638bcb3eda88804f8", func := "tontine/tontinelaw01.KeysTurns", spec := "keysTurns", apart := false, narrowed := true }
def KeysTurnsUptoSaid : Prop := keysTurnsUptoRow.holds Try.pinned (OpenSpec.upto keysTurnsSpec)

/-- 'tontinelaw01.KeysQuorums', WHERE WHAT IT READS IS OF BULK AT MOST 1048576: true; the input reads as it did. -/
def keysQuorumsUptoRow : OpenClaim := { program := "yteiklegkbjmjnaa", sum := "2b07226316998c9f59e936a67ea931b8176df80020c288d638bcb3eda88804f8", func := "tontine/tontinelaw01.KeysQuorums", spec := "keysQuorums", apart := false, narrowed := true }
def KeysQuorumsUptoSaid : Prop := keysQuorumsUptoRow.holds Try.pinned (OpenSpec.upto keysQuorumsSpec)

/-- 'tontinelaw01.KeysRanges', WHERE WHAT IT READS IS OF BULK AT MOST 1048576: true; the input reads as it did. -/
def keysRangesUptoRow : OpenClaim := { program := "yteiklegkbjmjnaa", sum := "2b07226316998c9f59e936a67ea931b8176df80020c288d638bcb3eda88804f8", func := "tontine/tontinelaw01.KeysRanges", spec := "keysRanges", apart := false, narrowed := true }
def KeysRangesUptoSaid : Prop := keysRangesUptoRow.holds Try.pinned (OpenSpec.upto keysRangesSpec)

/-- 'tontinelaw01.KeysPlaces', WHERE WHAT IT READS IS OF BULK AT MOST 1048576: true; the input reads as it did. -/
def keysPlacesUptoRow : OpenClaim := { program := "yteiklegkbjmjnaa", sum := "2b07226316998c9f59e936a67ea931b8176df80020c288d638bcb3eda88804f8", func := "tontine/tontinelaw01.KeysPlaces", spec := "keysPlaces", apart := false, narrowed := true }
def KeysPlacesUptoSaid : Prop := keysPlacesUptoRow.holds Try.pinned (OpenSpec.upto keysPlacesSpec)

/-- 'tontinelaw01.KeysFour', WHERE WHAT IT READS IS OF BULK AT MOST 1048576: true; the input reads as it did. -/
def keysFourUptoRow : OpenClaim := { program := "yteiklegkbjmjnaa", sum := "2b07226316998c9f59e936a67ea931b8176df80020c288d638bcb3eda88804f8", func := "tontine/tontinelaw01.KeysFour", spec := "keysFour", apart := false, narrowed := true }
def KeysFourUptoSaid : Prop := keysFourUptoRow.holds Try.pinned (OpenSpec.upto keysFourSpec)

/-- 'tontinelaw01.KeysOrder', WHERE WHAT IT READS IS OF BULK AT MOST 1048576: true; the input reads as it did. -/
def keysOrderUptoRow : OpenClaim := { program := "yteiklegkbjmjnaa", sum := "2b07226316998c9f59e936a67ea931b8176df80020c288d638bcb3eda88804f8", func := "tontine/tontinelaw01.KeysOrder", spec := "keysOrder", apart := false, narrowed := true }
def KeysOrderUptoSaid : Prop := keysOrderUptoRow.holds Try.pinned (OpenSpec.upto keysOrderSpec)

end Rows
end Go.Proofs.Yteiklegkbjmjnaa
