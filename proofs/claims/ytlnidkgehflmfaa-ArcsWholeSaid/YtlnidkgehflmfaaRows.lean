/-
  No cell of these rows narrows 'for every input' (looked for: loops, veiled, ifaces, maps, wideKeys, modest, calm, conditions, laid).
  DERIVED. THE GIVEN ROWS OF THIS SEAT. 7 by the template 'for every input the law returns true; each argument reads behind the call as it read before'; 0 by the template 'total and deterministic' (their statements: YtlnidkgehflmfaaTotals.lean).
  GIVEN WITH THE SEED: the statements are not yours to turn. If you find one false, say at which input.
  Laid BY PROGRAM, IN A SANDBOX (cutbox-rows.mjs): the forced cells as the released guide's own fill.sh prints them over the translation 350a39c702a4153b… (all of the seat's roots in one cut). By AI agents, Wed Nov 11 2026. No macro, syntax, notation, axiom, sorry.
-/
import Derived.Test.YtlnidkgehflmfaaChecked
import GoSem.Claim
import GoSem.ClaimJoined
import GoSem.ClaimMapViews
import Derived.JoinedTies
import Derived.KernelRfl
namespace Go.Proofs.Ytlnidkgehflmfaa
/- THE CELL 'sum', in the pinned program and in every row, IS THE sha256 OF THE DUMP (.gsa) THAT YtlnidkgehflmfaaProg.lean LOADS. Nothing in Lean hashes anything: it is a label: what it is worth is what the hold of that sum in a sandbox is worth. -/
noncomputable def Try.pinned : Pinned := { name := "ytlnidkgehflmfaa", sum := "350a39c702a4153b3d049b1cf5994ab1645a65650361004bb51a264b60cb4337", checked := Try.checked }
namespace Rows
def none {H : Type} : Left H := { results := [], args := [] }

/-- 'tontinelaw02.ArcsParts': WHATEVER THE INPUT: true; the input reads as it did. -/
def arcsPartsSpec : ChangeSpec := { name := "arcsParts", fn := fun _ => fun
  | [d1, d2, d3] => { results := [.lit (.bool true)], args := [d1, d2, d3] }
  | _ => none }
def arcsPartsRow : OpenClaim := { program := "ytlnidkgehflmfaa", sum := "350a39c702a4153b3d049b1cf5994ab1645a65650361004bb51a264b60cb4337", func := "tontine/tontinelaw02.ArcsParts", spec := "arcsParts", apart := false }
def ArcsPartsSaid : Prop := arcsPartsRow.holds Try.pinned (OpenSpec.ofChange arcsPartsSpec)

/-- ITS FALSE NEIGHBOUR: 'it returns false'. Refute it at one input. -/
def arcsPartsWrong : ChangeSpec := { name := "arcsParts", fn := fun _ => fun
  | [d1, d2, d3] => { results := [.lit (.bool false)], args := [d1, d2, d3] }
  | _ => none }
def ArcsPartsWrongFalsely : Prop := arcsPartsRow.holds Try.pinned (OpenSpec.ofChange arcsPartsWrong)

/-- 'tontinelaw02.ArcsPlaces': WHATEVER THE INPUT: true; the input reads as it did. -/
def arcsPlacesSpec : ChangeSpec := { name := "arcsPlaces", fn := fun _ => fun
  | [d1, d2, d3] => { results := [.lit (.bool true)], args := [d1, d2, d3] }
  | _ => none }
def arcsPlacesRow : OpenClaim := { program := "ytlnidkgehflmfaa", sum := "350a39c702a4153b3d049b1cf5994ab1645a65650361004bb51a264b60cb4337", func := "tontine/tontinelaw02.ArcsPlaces", spec := "arcsPlaces", apart := false }
def ArcsPlacesSaid : Prop := arcsPlacesRow.holds Try.pinned (OpenSpec.ofChange arcsPlacesSpec)

/-- ITS FALSE NEIGHBOUR: 'it returns false'. Refute it at one input. -/
def arcsPlacesWrong : ChangeSpec := { name := "arcsPlaces", fn := fun _ => fun
  | [d1, d2, d3] => { results := [.lit (.bool false)], args := [d1, d2, d3] }
  | _ => none }
def ArcsPlacesWrongFalsely : Prop := arcsPlacesRow.holds Try.pinned (OpenSpec.ofChange arcsPlacesWrong)

/-- 'tontinelaw02.ArcsShare': WHATEVER THE INPUT: true; the input reads as it did. -/
def arcsShareSpec : ChangeSpec := { name := "arcsShare", fn := fun _ => fun
  | [d1, d2] => { results := [.lit (.bool true)], args := [d1, d2] }
  | _ => none }
def arcsShareRow : OpenClaim := { program := "ytlnidkgehflmfaa", sum := "350a39c702a4153b3d049b1cf5994ab1645a65650361004bb51a264b60cb4337", func := "tontine/tontinelaw02.ArcsShare", spec := "arcsShare", apart := false }
def ArcsShareSaid : Prop := arcsShareRow.holds Try.pinned (OpenSpec.ofChange arcsShareSpec)

/-- ITS FALSE NEIGHBOUR: 'it returns false'. Refute it at one input. -/
def arcsShareWrong : ChangeSpec := { name := "arcsShare", fn := fun _ => fun
  | [d1, d2] => { results := [.lit (.bool false)], args := [d1, d2] }
  | _ => none }
def ArcsShareWrongFalsely : Prop := arcsShareRow.holds Try.pinned (OpenSpec.ofChange arcsShareWrong)

/-- 'tontinelaw02.ArcsOf': WHATEVER THE INPUT: true; the input reads as it did. -/
def arcsOfSpec : ChangeSpec := { name := "arcsOf", fn := fun _ => fun
  | [d] => { results := [.lit (.bool true)], args := [d] }
  | _ => none }
def arcsOfRow : OpenClaim := { program := "ytlnidkgehflmfaa", sum := "350a39c702a4153b3d049b1cf5994ab1645a65650361004bb51a264b60cb4337", func := "tontine/tontinelaw02.ArcsOf", spec := "arcsOf", apart := false }
def ArcsOfSaid : Prop := arcsOfRow.holds Try.pinned (OpenSpec.ofChange arcsOfSpec)

/-- ITS FALSE NEIGHBOUR: 'it returns false'. Refute it at one input. -/
def arcsOfWrong : ChangeSpec := { name := "arcsOf", fn := fun _ => fun
  | [d] => { results := [.lit (.bool false)], args := [d] }
  | _ => none }
def ArcsOfWrongFalsely : Prop := arcsOfRow.holds Try.pinned (OpenSpec.ofChange arcsOfWrong)

/-- 'tontinelaw02.ArcsWhole': WHATEVER THE INPUT: true; the input reads as it did. -/
def arcsWholeSpec : ChangeSpec := { name := "arcsWhole", fn := fun _ => fun
  | [d1, d2, d3] => { results := [.lit (.bool true)], args := [d1, d2, d3] }
  | _ => none }
def arcsWholeRow : OpenClaim := { program := "ytlnidkgehflmfaa", sum := "350a39c702a4153b3d049b1cf5994ab1645a65650361004bb51a264b60cb4337", func := "tontine/tontinelaw02.ArcsWhole", spec := "arcsWhole", apart := false }
def ArcsWholeSaid : Prop := arcsWholeRow.holds Try.pinned (OpenSpec.ofChange arcsWholeSpec)

/-- ITS FALSE NEIGHBOUR: 'it returns false'. Refute it at one input. -/
def arcsWholeWrong : ChangeSpec := { name := "arcsWhole", fn := fun _ => fun
  | [d1, d2, d3] => { results := [.lit (.bool false)], args := [d1, d2, d3] }
  | _ => none }
def ArcsWholeWrongFalsely : Prop := arcsWholeRow.holds Try.pinned (OpenSpec.ofChange arcsWholeWrong)

/-- 'tontinelaw02.ArcsBetween': WHATEVER THE INPUT: true; the input reads as it did. -/
def arcsBetweenSpec : ChangeSpec := { name := "arcsBetween", fn := fun _ => fun
  | [d1, d2, d3] => { results := [.lit (.bool true)], args := [d1, d2, d3] }
  | _ => none }
def arcsBetweenRow : OpenClaim := { program := "ytlnidkgehflmfaa", sum := "350a39c702a4153b3d049b1cf5994ab1645a65650361004bb51a264b60cb4337", func := "tontine/tontinelaw02.ArcsBetween", spec := "arcsBetween", apart := false }
def ArcsBetweenSaid : Prop := arcsBetweenRow.holds Try.pinned (OpenSpec.ofChange arcsBetweenSpec)

/-- ITS FALSE NEIGHBOUR: 'it returns false'. Refute it at one input. -/
def arcsBetweenWrong : ChangeSpec := { name := "arcsBetween", fn := fun _ => fun
  | [d1, d2, d3] => { results := [.lit (.bool false)], args := [d1, d2, d3] }
  | _ => none }
def ArcsBetweenWrongFalsely : Prop := arcsBetweenRow.holds Try.pinned (OpenSpec.ofChange arcsBetweenWrong)

/-- 'tontinelaw02.ArcsAround': WHATEVER THE INPUT: true; the input reads as it did. -/
def arcsAroundSpec : ChangeSpec := { name := "arcsAround", fn := fun _ => fun
  | [d1, d2, d3] => { results := [.lit (.bool true)], args := [d1, d2, d3] }
  | _ => none }
def arcsAroundRow : OpenClaim := { program := "ytlnidkgehflmfaa", sum := "350a39c702a4153b3d049b1cf5994ab1645a65650361004bb51a264b60cb4337", func := "tontine/tontinelaw02.ArcsAround", spec := "arcsAround", apart := false }
def ArcsAroundSaid : Prop := arcsAroundRow.holds Try.pinned (OpenSpec.ofChange arcsAroundSpec)

/-- ITS FALSE NEIGHBOUR: 'it returns false'. Refute it at one input. -/
def arcsAroundWrong : ChangeSpec := { name := "arcsAround", fn := fun _ => fun
  | [d1, d2, d3] => { results := [.lit (.bool false)], args := [d1, d2, d3] }
  | _ => none }
def ArcsAroundWrongFalsely : Prop := arcsAroundRow.holds Try.pinned (OpenSpec.ofChange arcsAroundWrong)

/- THE SECOND FORM. 'bulk': how many values and letters a reading holds, each counted each time it is reached (what is shared counts as often as it is met; a slice's spare places count too). A statement '..UptoSaid' is the law's where the arguments, and the package variables that the reading takes, are together of bulk at most 1048576: NARROWER than '..Said'. Prove '..Said' where nothing that the law and all that it calls make is longer than what came in: it says more and counts as full. Else prove '..UptoSaid'. A law counts once. -/
mutual
def uptoBulk {H : Type} : DataW H → Nat
  | .lit (.string bytes) => bytes.length + 1
  | .lit _ => 1
  | .nil => 1
  | .ptr d => uptoBulk d + 1
  | .slice elems spare => uptoBulkAll elems + uptoBulkAll spare + 1
  | .agg parts => uptoBulkAll parts + 1
  | .iface _ d => uptoBulk d + 1
  | .map entries => uptoBulkEntries entries + 1
  | .held _ => 1
def uptoBulkAll {H : Type} : List (DataW H) → Nat
  | [] => 0
  | d :: r => uptoBulk d + uptoBulkAll r
def uptoBulkEntries {H : Type} : List (Lit × DataW H) → Nat
  | [] => 0
  | x :: r => uptoBulkEntry x + uptoBulkEntries r
def uptoBulkEntry {H : Type} : Lit × DataW H → Nat
  | (.string bytes, d) => bytes.length + uptoBulk d + 1
  | (_, d) => uptoBulk d + 1
 end
def uptoSmall : (H : Type) → List (DataW H) → Bool := fun _ ds => decide (uptoBulkAll ds ≤ 1048576)
def OpenSpec.upto (s : _root_.Go.ChangeSpec) : _root_.Go.OpenSpec := { _root_.Go.OpenSpec.ofChange s with cond := some uptoSmall }

/-- 'tontinelaw02.ArcsParts', WHERE WHAT IT READS IS OF BULK AT MOST 1048576: true; the input reads as it did. -/
def arcsPartsUptoRow : OpenClaim := { program := "ytlnidkgehflmfaa", sum := "350a39c702a4153b3d049b1cf5994ab1645a65650361004bb51a264b60cb4337", func := "tontine/tontinelaw02.ArcsParts", spec := "arcsParts", apart := false, narrowed := true }
def ArcsPartsUptoSaid : Prop := arcsPartsUptoRow.holds Try.pinned (OpenSpec.upto arcsPartsSpec)

/-- 'tontinelaw02.ArcsPlaces', WHERE WHAT IT READS IS OF BULK AT MOST 1048576: true; the input reads as it did. -/
def arcsPlacesUptoRow : OpenClaim := { program := "ytlnidkgehflmfaa", sum := "350a39c702a4153b3d049b1cf5994ab1645a65650361004bb51a264b60cb4337", func := "tontine/tontinelaw02.ArcsPlaces", spec := "arcsPlaces", apart := false, narrowed := true }
def ArcsPlacesUptoSaid : Prop := arcsPlacesUptoRow.holds Try.pinned (OpenSpec.upto arcsPlacesSpec)

/-- 'tontinelaw02.ArcsShare', WHERE WHAT IT READS IS OF BULK AT MOST 1048576: true; the input reads as it did. -/
def arcsShareUptoRow : OpenClaim := { program := "ytlnidkgehflmfaa", sum := "350a39c702a4153b3d049b1cf5994ab1645a65650361004bb51a264b60cb4337", func := "tontine/tontinelaw02.ArcsShare", spec := "arcsShare", apart := false, narrowed := true }
def ArcsShareUptoSaid : Prop := arcsShareUptoRow.holds Try.pinned (OpenSpec.upto arcsShareSpec)

/-- 'tontinelaw02.ArcsOf', WHERE WHAT IT READS IS OF BULK AT MOST 1048576: true; the input reads as it did. -/
def arcsOfUptoRow : OpenClaim := { program := "ytlnidkgehflmfaa", sum := "350a39c702a4153b3d049b1cf5994ab1645a65650361004bb51a264b60cb4337", func := "tontine/tontinelaw02.ArcsOf", spec := "arcsOf", apart := false, narrowed := true }
def ArcsOfUptoSaid : Prop := arcsOfUptoRow.holds Try.pinned (OpenSpec.upto arcsOfSpec)

/-- 'tontinelaw02.ArcsWhole', WHERE WHAT IT READS IS OF BULK AT MOST 1048576: true; the input reads as it did. -/
def arcsWholeUptoRow : OpenClaim := { program := "ytlnidkgehflmfaa", sum := "350a39c702a4153b3d049b1cf5994ab1645a65650361004bb51a264b60cb4337", func := "tontine/tontinelaw02.ArcsWhole", spec := "arcsWhole", apart := false, narrowed := true }
def ArcsWholeUptoSaid : Prop := arcsWholeUptoRow.holds Try.pinned (OpenSpec.upto arcsWholeSpec)

/-- 'tontinelaw02.ArcsBetween', WHERE WHAT IT READS IS OF BULK AT MOST 1048576: true; the input reads as it did. -/
def arcsBetweenUptoRow : OpenClaim := { program := "ytlnidkgehflmfaa", sum := "350a39c702a4153b3d049b1cf5994ab1645a65650361004bb51a264b60cb4337", func := "tontine/tontinelaw02.ArcsBetween", spec := "arcsBetween", apart := false, narrowed := true }
def ArcsBetweenUptoSaid : Prop := arcsBetweenUptoRow.holds Try.pinned (OpenSpec.upto arcsBetweenSpec)

/-- 'tontinelaw02.ArcsAround', WHERE WHAT IT READS IS OF BULK AT MOST 1048576: true; the input reads as it did. -/
def arcsAroundUptoRow : OpenClaim := { program := "ytlnidkgehflmfaa", sum := "350a39c702a4153b3d049b1cf5994ab1645a65650361004bb51a264b60cb4337", func := "tontine/tontinelaw02.ArcsAround", spec := "arcsAround", apart := false, narrowed := true }
def ArcsAroundUptoSaid : Prop := arcsAroundUptoRow.holds Try.pinned (OpenSpec.upto arcsAroundSpec)

end Rows
end Go.Proofs.Ytlnidkgehflmfaa
