/-
  No cell of these rows narrows 'for every input' (looked for: loops, veiled, ifaces, maps, wideKeys, modest, calm, conditions, laid).
  DERIVED. THE GIVEN ROWS OF THIS SEAT. 2 by the template 'for every input the law returns true; each argument reads behind the call as it read before'; 0 by the template 'total and deterministic' (their statements: YtioacppahkhbhaaTotals.lean).
  GIVEN WITH THE SEED: the statements are not yours to turn. If you find one false, say at which input.
  Laid BY PROGRAM, IN A SANDBOX (cutbox-rows.mjs): the forced cells as the released guide's own fill.sh prints them over the translation dc3235fac3e6bf07… (all of the seat's roots in one cut). By AI agents, Wed Nov 11 2026. No macro, syntax, notation, axiom, sorry.
-/
import Derived.Test.YtioacppahkhbhaaChecked
import GoSem.Claim
import GoSem.ClaimJoined
import GoSem.ClaimMapViews
import Derived.JoinedTies
import Derived.KernelRfl
namespace Go.Proofs.Ytioacppahkhbhaa
/- THE CELL 'sum', in the pinned program and in every row, IS THE sha256 OF THE DUMP (.gsa) THAT YtioacppahkhbhaaProg.lean LOADS. Nothing in Lean hashes anything: it is a label: what it is worth is what the hold of that sum in a sandbox is worth. -/
noncomputable def Try.pinned : Pinned := { name := "ytioacppahkhbhaa", sum := "dc3235fac3e6bf07a19fb3dc79e237d33335ec8a8d048f2a8d1260f329de0022", checked := Try.checked }
namespace Rows
def none {H : Type} : Left H := { results := [], args := [] }

/-- 'tontinetop.TopSlides': WHATEVER THE INPUT: true; the input reads as it did. -/
def topSlidesSpec : ChangeSpec := { name := "topSlides", fn := fun _ => fun
  | [d] => { results := [.lit (.bool true)], args := [d] }
  | _ => none }
def topSlidesRow : OpenClaim := { program := "ytioacppahkhbhaa", sum := "dc3235fac3e6bf07a19fb3dc79e237d33335ec8a8d048f2a8d1260f329de0022", func := "tontine/tontinetop.TopSlides", spec := "topSlides", unfollowed := true, recurses := true, apart := false }
def TopSlidesSaid : Prop := topSlidesRow.holds Try.pinned (OpenSpec.ofChange topSlidesSpec)

/-- ITS FALSE NEIGHBOUR: 'it returns false'. Refute it at one input. -/
def topSlidesWrong : ChangeSpec := { name := "topSlides", fn := fun _ => fun
  | [d] => { results := [.lit (.bool false)], args := [d] }
  | _ => none }
def TopSlidesWrongFalsely : Prop := topSlidesRow.holds Try.pinned (OpenSpec.ofChange topSlidesWrong)

/-- 'tontinetop.TopBeats': WHATEVER THE INPUT: true; the input reads as it did. -/
def topBeatsSpec : ChangeSpec := { name := "topBeats", fn := fun _ => fun
  | [d] => { results := [.lit (.bool true)], args := [d] }
  | _ => none }
def topBeatsRow : OpenClaim := { program := "ytioacppahkhbhaa", sum := "dc3235fac3e6bf07a19fb3dc79e237d33335ec8a8d048f2a8d1260f329de0022", func := "tontine/tontinetop.TopBeats", spec := "topBeats", unfollowed := true, recurses := true, apart := false }
def TopBeatsSaid : Prop := topBeatsRow.holds Try.pinned (OpenSpec.ofChange topBeatsSpec)

/-- ITS FALSE NEIGHBOUR: 'it returns false'. Refute it at one input. -/
def topBeatsWrong : ChangeSpec := { name := "topBeats", fn := fun _ => fun
  | [d] => { results := [.lit (.bool false)], args := [d] }
  | _ => none }
def TopBeatsWrongFalsely : Prop := topBeatsRow.holds Try.pinned (OpenSpec.ofChange topBeatsWrong)

/- THE SECOND FORM. 'bulk': how many values and letters a reading holds, each counted each time it is reached (what is shared counts as often as it is met; a slice's spare places count too). A statement '..UptoSaid' is the law's where the arguments, and the package variables that the reading takes, are together of bulk at most 1048576: NARROWER than '..Said'. Prove '..Said' where nothing that the law and all that it calls make is longer than what came in: it says more and counts as full. Else prove '..UptoSaid'. A law counts once. -/
mutual
def uptoBulk {H : Type} : DataW H → Nat
  | .lit (.string bytes) => bytes.length + 1
  | .lit _ => 1
  | .nil => 1
  | .ptr d => uptoBulk d + 1
  | .slice elems spare => uptoBulkAll elems + uptoBulkAll spare + 1
  | .agg parts => uptoBulkAll parts + 1
  | .iface _ d => uptoBulk d + 1
  | .map entries => uptoBulkEntries entries + 1
  | .held _ => 1
def uptoBulkAll {H : Type} : List (DataW H) → Nat
  | [] => 0
  | d :: r => uptoBulk d + uptoBulkAll r
def uptoBulkEntries {H : Type} : List (Lit × DataW H) → Nat
  | [] => 0
  | x :: r => uptoBulkEntry x + uptoBulkEntries r
def uptoBulkEntry {H : Type} : Lit × DataW H → Nat
  | (.string bytes, d) => bytes.length + uptoBulk d + 1
  | (_, d) => uptoBulk d + 1
 end
def uptoSmall : (H : Type) → List (DataW H) → Bool := fun _ ds => decide (uptoBulkAll ds ≤ 1048576)
def OpenSpec.upto (s : _root_.Go.ChangeSpec) : _root_.Go.OpenSpec := { _root_.Go.OpenSpec.ofChange s with cond := some uptoSmall }

/-- 'tontinetop.TopSlides', WHERE WHAT IT READS IS OF BULK AT MOST 1048576: true; the input reads as it did. -/
def topSlidesUptoRow : OpenClaim := { program := "ytioacppahkhbhaa", sum := "dc3235fac3e6bf07a19fb3dc79e237d33335ec8a8d048f2a8d1260f329de0022", func := "tontine/tontinetop.TopSlides", spec := "topSlides", unfollowed := true, recurses := true, apart := false, narrowed := true }
def TopSlidesUptoSaid : Prop := topSlidesUptoRow.holds Try.pinned (OpenSpec.upto topSlidesSpec)

/-- 'tontinetop.TopBeats', WHERE WHAT IT READS IS OF BULK AT MOST 1048576: true; the input reads as it did. -/
def topBeatsUptoRow : OpenClaim := { program := "ytioacppahkhbhaa", sum := "dc3235fac3e6bf07a19fb3dc79e237d33335ec8a8d048f2a8d1260f329de0022", func := "tontine/tontinetop.TopBeats", spec := "topBeats", unfollowed := true, recurses := true, apart := false, narrowed := true }
def TopBeatsUptoSaid : Prop := topBeatsUptoRow.holds Try.pinned (OpenSpec.upto topBeatsSpec)

end Rows
end Go.Proofs.Ytioacppahkhbhaa
