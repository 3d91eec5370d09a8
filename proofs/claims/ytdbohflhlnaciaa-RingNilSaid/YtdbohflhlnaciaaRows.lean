/-
  No cell of these rows narrows 'for every input' (looked for: loops, veiled, ifaces, maps, wideKeys, modest, calm, conditions, laid).
  DERIVED. THE GIVEN ROWS OF THIS SEAT. 4 by the template 'for every input the law returns true; each argument reads behind the call as it read before'; 0 by the template 'total and deterministic' (their statements: YtdbohflhlnaciaaTotals.lean).
  GIVEN WITH THE SEED: the statements are not yours to turn. If you find one false, say at which input.
  Laid BY PROGRAM, IN A SANDBOX (cutbox-rows.mjs): the forced cells as the released guide's own fill.sh prints them over the translation 8cdaadc50bad26a6… (all of the seat's roots in one cut). By AI agents, Wed Nov 11 2026. No macro, syntax, notation, axiom, sorry.
-/
import Derived.Test.YtdbohflhlnaciaaChecked
import GoSem.Claim
import GoSem.ClaimJoined
import GoSem.ClaimMapViews
import Derived.JoinedTies
import Derived.KernelRfl
namespace Go.Proofs.Ytdbohflhlnaciaa
/- THE CELL 'sum', in the pinned program and in every row, IS THE sha256 OF THE DUMP (.gsa) THAT YtdbohflhlnaciaaProg.lean LOADS. Nothing in Lean hashes anything: it is a label: what it is worth is what the hold of that sum in a sandbox is worth. -/
noncomputable def Try.pinned : Pinned := { name := "ytdbohflhlnaciaa", sum := "8cdaadc50bad26a6a511887ef13cce28750e06a046823bd08c0151f1c879ca22", checked := Try.checked }
namespace Rows
def none {H : Type} : Left H := { results := [], args := [] }

/-- 'tontinelaw12.RingBetween': WHATEVER THE INPUT: true; the input reads as it did. -/
def ringBetweenSpec : ChangeSpec := { name := "ringBetween", fn := fun _ => fun
  | [d1, d2, d3] => { results := [.lit (.bool true)], args := [d1, d2, d3] }
  | _ => none }
def ringBetweenRow : OpenClaim := { program := "ytdbohflhlnaciaa", sum := "8cdaadc50bad26a6a511887ef13cce28750e06a046823bd08c0151f1c879ca22", func := "tontine/tontinelaw12.RingBetween", spec := "ringBetween", unfollowed := true, recurses := true, apart := false }
def RingBetweenSaid : Prop := ringBetweenRow.holds Try.pinned (OpenSpec.ofChange ringBetweenSpec)

/-- ITS FALSE NEIGHBOUR: 'it returns false'. Refute it at one input. -/
def ringBetweenWrong : ChangeSpec := { name := "ringBetween", fn := fun _ => fun
  | [d1, d2, d3] => { results := [.lit (.bool false)], args := [d1, d2, d3] }
  | _ => none }
def RingBetweenWrongFalsely : Prop := ringBetweenRow.holds Try.pinned (OpenSpec.ofChange ringBetweenWrong)

/-- 'tontinelaw12.RingComes': WHATEVER THE INPUT: true; the input reads as it did. -/
def ringComesSpec : ChangeSpec := { name := "ringComes", fn := fun _ => fun
  | [d1, d2, d3] => { results := [.lit (.bool true)], args := [d1, d2, d3] }
  | _ => none }
def ringComesRow : OpenClaim := { program := "ytdbohflhlnaciaa", sum := "8cdaadc50bad26a6a511887ef13cce28750e06a046823bd08c0151f1c879ca22", func := "tontine/tontinelaw12.RingComes", spec := "ringComes", unfollowed := true, recurses := true, apart := false }
def RingComesSaid : Prop := ringComesRow.holds Try.pinned (OpenSpec.ofChange ringComesSpec)

/-- ITS FALSE NEIGHBOUR: 'it returns false'. Refute it at one input. -/
def ringComesWrong : ChangeSpec := { name := "ringComes", fn := fun _ => fun
  | [d1, d2, d3] => { results := [.lit (.bool false)], args := [d1, d2, d3] }
  | _ => none }
def RingComesWrongFalsely : Prop := ringComesRow.holds Try.pinned (OpenSpec.ofChange ringComesWrong)

/-- 'tontinelaw12.RingHeals': WHATEVER THE INPUT: true; the input reads as it did. -/
def ringHealsSpec : ChangeSpec := { name := "ringHeals", fn := fun _ => fun
  | [d1, d2] => { results := [.lit (.bool true)], args := [d1, d2] }
  | _ => none }
def ringHealsRow : OpenClaim := { program := "ytdbohflhlnaciaa", sum := "8cdaadc50bad26a6a511887ef13cce28750e06a046823bd08c0151f1c879ca22", func := "tontine/tontinelaw12.RingHeals", spec := "ringHeals", unfollowed := true, recurses := true, apart := false }
def RingHealsSaid : Prop := ringHealsRow.holds Try.pinned (OpenSpec.ofChange ringHealsSpec)

/-- ITS FALSE NEIGHBOUR: 'it returns false'. Refute it at one input. -/
def ringHealsWrong : ChangeSpec := { name := "ringHeals", fn := fun _ => fun
  | [d1, d2] => { results := [.lit (.bool false)], args := [d1, d2] }
  | _ => none }
def RingHealsWrongFalsely : Prop := ringHealsRow.holds Try.pinned (OpenSpec.ofChange ringHealsWrong)

/-- 'tontinelaw12.RingNil': WHATEVER THE INPUT: true; the input reads as it did. -/
def ringNilSpec : ChangeSpec := { name := "ringNil", fn := fun _ => fun
  | [d] => { results := [.lit (.bool true)], args := [d] }
  | _ => none }
def ringNilRow : OpenClaim := { program := "ytdbohflhlnaciaa", sum := "8cdaadc50bad26a6a511887ef13cce28750e06a046823bd08c0151f1c879ca22", func := "tontine/tontinelaw12.RingNil", spec := "ringNil", unfollowed := true, recurses := true, apart := false }
def RingNilSaid : Prop := ringNilRow.holds Try.pinned (OpenSpec.ofChange ringNilSpec)

/-- ITS FALSE NEIGHBOUR: 'it returns false'. Refute it at one input. -/
def ringNilWrong : ChangeSpec := { name := "ringNil", fn := fun _ => fun
  | [d] => { results := [.lit (.bool false)], args := [d] }
  | _ => none }
def RingNilWrongFalsely : Prop := ringNilRow.holds Try.pinned (OpenSpec.ofChange ringNilWrong)

/- THE SECOND FORM. 'bulk': how many values and letters a reading holds, each counted each time it is reached (what is shared counts as often as it is met; a slice's spare places count too). A statement '..UptoSaid' is the law's where the arguments, and the package variables that the reading takes, are together of bulk at most 1048576: NARROWER than '..Said'. Prove '..Said' where nothing that the law and all that it calls make is longer than what came in: it says more and counts as full. Else prove '..UptoSaid'. A law counts once. -/
mutual
def uptoBulk {H : Type} : DataW H → Nat
  | .lit (.string bytes) => bytes.length + 1
  | .lit _ => 1
  | .nil => 1
  | .ptr d => uptoBulk d + 1
  | .slice elems spare => uptoBulkAll elems + uptoBulkAll spare + 1
  | .agg parts => uptoBulkAll parts + 1
  | .iface _ d => uptoBulk d + 1
  | .map entries => uptoBulkEntries entries + 1
  | .held _ => 1
def uptoBulkAll {H : Type} : List (DataW H) → Nat
  | [] => 0
  | d :: r => uptoBulk d + uptoBulkAll r
def uptoBulkEntries {H : Type} : List (Lit × DataW H) → Nat
  | [] => 0
  | x :: r => uptoBulkEntry x + uptoBulkEntries r
def uptoBulkEntry {H : Type} : Lit × DataW H → Nat
  | (.string bytes, d) => bytes.length + uptoBulk d + 1
  | (_, d) => uptoBulk d + 1
 end
def uptoSmall : (H : Type) → List (DataW H) → Bool := fun _ ds => decide (uptoBulkAll ds ≤ 1048576)
def OpenSpec.upto (s : _root_.Go.ChangeSpec) : _root_.Go.OpenSpec := { _root_.Go.OpenSpec.ofChange s with cond := some uptoSmall }

/-- 'tontinelaw12.RingBetween', WHERE WHAT IT READS IS OF BULK AT MOST 1048576: true; the input reads as it did. -/
def ringBetweenUptoRow : OpenClaim := { program := "ytdbohflhlnaciaa", sum := "8cdaadc50bad26a6a511887ef13cce28750e06a046823bd08c0151f1c879ca22", func := "tontine/tontinelaw12.RingBetween", spec := "ringBetween", unfollowed := true, recurses := true, apart := false, narrowed := true }
def RingBetweenUptoSaid : Prop := ringBetweenUptoRow.holds Try.pinned (OpenSpec.upto ringBetweenSpec)

/-- 'tontinelaw12.RingComes', WHERE WHAT IT READS IS OF BULK AT MOST 1048576: true; the input reads as it did. -/
def ringComesUptoRow : OpenClaim := { program := "ytdbohflhlnaciaa", sum := "8cdaadc50bad26a6a511887ef13cce28750e06a046823bd08c0151f1c879ca22", func := "tontine/tontinelaw12.RingComes", spec := "ringComes", unfollowed := true, recurses := true, apart := false, narrowed := true }
def RingComesUptoSaid : Prop := ringComesUptoRow.holds Try.pinned (OpenSpec.upto ringComesSpec)

/-- 'tontinelaw12.RingHeals', WHERE WHAT IT READS IS OF BULK AT MOST 1048576: true; the input reads as it did. -/
def ringHealsUptoRow : OpenClaim := { program := "ytdbohflhlnaciaa", sum := "8cdaadc50bad26a6a511887ef13cce28750e06a046823bd08c0151f1c879ca22", func := "tontine/tontinelaw12.RingHeals", spec := "ringHeals", unfollowed := true, recurses := true, apart := false, narrowed := true }
def RingHealsUptoSaid : Prop := ringHealsUptoRow.holds Try.pinned (OpenSpec.upto ringHealsSpec)

/-- 'tontinelaw12.RingNil', WHERE WHAT IT READS IS OF BULK AT MOST 1048576: true; the input reads as it did. -/
def ringNilUptoRow : OpenClaim := { program := "ytdbohflhlnaciaa", sum := "8cdaadc50bad26a6a511887ef13cce28750e06a046823bd08c0151f1c879ca22", func := "tontine/tontinelaw12.RingNil", spec := "ringNil", unfollowed := true, recurses := true, apart := false, narrowed := true }
def RingNilUptoSaid : Prop := ringNilUptoRow.holds Try.pinned (OpenSpec.upto ringNilSpec)

end Rows
end Go.Proofs.Ytdbohflhlnaciaa
