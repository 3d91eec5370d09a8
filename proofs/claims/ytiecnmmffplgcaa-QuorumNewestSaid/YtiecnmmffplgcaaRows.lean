/-
  No cell of these rows narrows 'for every input' (looked for: loops, veiled, ifaces, maps, wideKeys, modest, calm, conditions, laid).
  DERIVED. THE GIVEN ROWS OF THIS SEAT. 5 by the template 'for every input the law returns true; each argument reads behind the call as it read before'; 0 by the template 'total and deterministic' (their statements: YtiecnmmffplgcaaTotals.lean).
  GIVEN WITH THE SEED: the statements are not yours to turn. If you find one false, say at which input.
  Laid BY PROGRAM, IN A SANDBOX (cutbox-rows.mjs): the forced cells as the released guide's own fill.sh prints them over the translation d040868284b33fe4… (all of the seat's roots in one cut). By AI agents, Wed Nov 11 2026. No macro, syntax, notation, axiom, sorry.
-/
import Derived.Test.YtiecnmmffplgcaaChecked
import GoSem.Claim
import GoSem.ClaimJoined
import GoSem.ClaimMapViews
import Derived.JoinedTies
import Derived.KernelRfl
namespace Go.Proofs.Ytiecnmmffplgcaa
/- THE CELL 'sum', in the pinned program and in every row, IS THE sha256 OF THE DUMP (.gsa) THAT YtiecnmmffplgcaaProg.lean LOADS. Nothing in Lean hashes anything: it is a label: what it is worth is what the hold of that sum in a sandbox is worth. -/
noncomputable def Try.pinned : Pinned := { name := "ytiecnmmffplgcaa", sum := "d040868284b33fe426f1c74fb88c616730b89b976ec631dfad70b6066e33ba03", checked := Try.checked }
namespace Rows
def none {H : Type} : Left H := { results := [], args := [] }

/-- 'tontinelaw16.QuorumNewest': WHATEVER THE INPUT: true; the input reads as it did. -/
def quorumNewestSpec : ChangeSpec := { name := "quorumNewest", fn := fun _ => fun
  | [d1, d2, d3] => { results := [.lit (.bool true)], args := [d1, d2, d3] }
  | _ => none }
def quorumNewestRow : OpenClaim := { program := "ytiecnmmffplgcaa", sum := "d040868284b33fe426f1c74fb88c616730b89b976ec631dfad70b6066e33ba03", func := "tontine/tontinelaw16.QuorumNewest", spec := "quorumNewest", unfollowed := true, recurses := true, apart := false }
def QuorumNewestSaid : Prop := quorumNewestRow.holds Try.pinned (OpenSpec.ofChange quorumNewestSpec)

/-- ITS FALSE NEIGHBOUR: 'it returns false'. Refute it at one input. -/
def quorumNewestWrong : ChangeSpec := { name := "quorumNewest", fn := fun _ => fun
  | [d1, d2, d3] => { results := [.lit (.bool false)], args := [d1, d2, d3] }
  | _ => none }
def QuorumNewestWrongFalsely : Prop := quorumNewestRow.holds Try.pinned (OpenSpec.ofChange quorumNewestWrong)

/-- 'tontinelaw16.QuorumOrder': WHATEVER THE INPUT: true; the input reads as it did. -/
def quorumOrderSpec : ChangeSpec := { name := "quorumOrder", fn := fun _ => fun
  | [d1, d2, d3] => { results := [.lit (.bool true)], args := [d1, d2, d3] }
  | _ => none }
def quorumOrderRow : OpenClaim := { program := "ytiecnmmffplgcaa", sum := "d040868284b33fe426f1c74fb88c616730b89b976ec631dfad70b6066e33ba03", func := "tontine/tontinelaw16.QuorumOrder", spec := "quorumOrder", unfollowed := true, recurses := true, apart := false }
def QuorumOrderSaid : Prop := quorumOrderRow.holds Try.pinned (OpenSpec.ofChange quorumOrderSpec)

/-- ITS FALSE NEIGHBOUR: 'it returns false'. Refute it at one input. -/
def quorumOrderWrong : ChangeSpec := { name := "quorumOrder", fn := fun _ => fun
  | [d1, d2, d3] => { results := [.lit (.bool false)], args := [d1, d2, d3] }
  | _ => none }
def QuorumOrderWrongFalsely : Prop := quorumOrderRow.holds Try.pinned (OpenSpec.ofChange quorumOrderWrong)

/-- 'tontinelaw16.QuorumPlays': WHATEVER THE INPUT: true; the input reads as it did. -/
def quorumPlaysSpec : ChangeSpec := { name := "quorumPlays", fn := fun _ => fun
  | [d1, d2, d3] => { results := [.lit (.bool true)], args := [d1, d2, d3] }
  | _ => none }
def quorumPlaysRow : OpenClaim := { program := "ytiecnmmffplgcaa", sum := "d040868284b33fe426f1c74fb88c616730b89b976ec631dfad70b6066e33ba03", func := "tontine/tontinelaw16.QuorumPlays", spec := "quorumPlays", unfollowed := true, recurses := true, apart := false }
def QuorumPlaysSaid : Prop := quorumPlaysRow.holds Try.pinned (OpenSpec.ofChange quorumPlaysSpec)

/-- ITS FALSE NEIGHBOUR: 'it returns false'. Refute it at one input. -/
def quorumPlaysWrong : ChangeSpec := { name := "quorumPlays", fn := fun _ => fun
  | [d1, d2, d3] => { results := [.lit (.bool false)], args := [d1, d2, d3] }
  | _ => none }
def QuorumPlaysWrongFalsely : Prop := quorumPlaysRow.holds Try.pinned (OpenSpec.ofChange quorumPlaysWrong)

/-- 'tontinelaw16.QuorumNil': WHATEVER THE INPUT: true; the input reads as it did. -/
def quorumNilSpec : ChangeSpec := { name := "quorumNil", fn := fun _ => fun
  | [d1, d2] => { results := [.lit (.bool true)], args := [d1, d2] }
  | _ => none }
def quorumNilRow : OpenClaim := { program := "ytiecnmmffplgcaa", sum := "d040868284b33fe426f1c74fb88c616730b89b976ec631dfad70b6066e33ba03", func := "tontine/tontinelaw16.QuorumNil", spec := "quorumNil", unfollowed := true, recurses := true, apart := false }
def QuorumNilSaid : Prop := quorumNilRow.holds Try.pinned (OpenSpec.ofChange quorumNilSpec)

/-- ITS FALSE NEIGHBOUR: 'it returns false'. Refute it at one input. -/
def quorumNilWrong : ChangeSpec := { name := "quorumNil", fn := fun _ => fun
  | [d1, d2] => { results := [.lit (.bool false)], args := [d1, d2] }
  | _ => none }
def QuorumNilWrongFalsely : Prop := quorumNilRow.holds Try.pinned (OpenSpec.ofChange quorumNilWrong)

/-- 'tontinelaw16.QuorumStale': WHATEVER THE INPUT: true; the input reads as it did. -/
def quorumStaleSpec : ChangeSpec := { name := "quorumStale", fn := fun _ => fun
  | [d1, d2] => { results := [.lit (.bool true)], args := [d1, d2] }
  | _ => none }
def quorumStaleRow : OpenClaim := { program := "ytiecnmmffplgcaa", sum := "d040868284b33fe426f1c74fb88c616730b89b976ec631dfad70b6066e33ba03", func := "tontine/tontinelaw16.QuorumStale", spec := "quorumStale", unfollowed := true, recurses := true, apart := false }
def QuorumStaleSaid : Prop := quorumStaleRow.holds Try.pinned (OpenSpec.ofChange quorumStaleSpec)

/-- ITS FALSE NEIGHBOUR: 'it returns false'. Refute it at one input. -/
def quorumStaleWrong : ChangeSpec := { name := "quorumStale", fn := fun _ => fun
  | [d1, d2] => { results := [.lit (.bool false)], args := [d1, d2] }
  | _ => none }
def QuorumStaleWrongFalsely : Prop := quorumStaleRow.holds Try.pinned (OpenSpec.ofChange quorumStaleWrong)

/- THE SECOND FORM. 'bulk': how many values and letters a reading holds, each counted each time it is reached (what is shared counts as often as it is met; a slice's spare places count too). A statement '..UptoSaid' is the law's where the arguments, and the package variables that the reading takes, are together of bulk at most 1048576: NARROWER than '..Said'. Prove '..Said' where nothing that the law and all that it calls make is longer than what came in: it says more and counts as full. Else prove '..UptoSaid'. A law counts once. -/
mutual
def uptoBulk {H : Type} : DataW H → Nat
  | .lit (.string bytes) => bytes.length + 1
  | .lit _ => 1
  | .nil => 1
  | .ptr d => uptoBulk d + 1
  | .slice elems spare => uptoBulkAll elems + uptoBulkAll spare + 1
  | .agg parts => uptoBulkAll parts + 1
  | .iface _ d => uptoBulk d + 1
  | .map entries => uptoBulkEntries entries + 1
  | .held _ => 1
def uptoBulkAll {H : Type} : List (DataW H) → Nat
  | [] => 0
  | d :: r => uptoBulk d + uptoBulkAll r
def uptoBulkEntries {H : Type} : List (Lit × DataW H) → Nat
  | [] => 0
  | x :: r => uptoBulkEntry x + uptoBulkEntries r
def uptoBulkEntry {H : Type} : Lit × DataW H → Nat
  | (.string bytes, d) => bytes.length + uptoBulk d + 1
  | (_, d) => uptoBulk d + 1
 end
def uptoSmall : (H : Type) → List (DataW H) → Bool := fun _ ds => decide (uptoBulkAll ds ≤ 1048576)
def OpenSpec.upto (s : _root_.Go.ChangeSpec) : _root_.Go.OpenSpec := { _root_.Go.OpenSpec.ofChange s with cond := some uptoSmall }

/-- 'tontinelaw16.QuorumNewest', WHERE WHAT IT READS IS OF BULK AT MOST 1048576: true; the input reads as it did. -/
def quorumNewestUptoRow : OpenClaim := { program := "ytiecnmmffplgcaa", sum := "d040868284b33fe426f1c74fb88c616730b89b976ec631dfad70b6066e33ba03", func := "tontine/tontinelaw16.QuorumNewest", spec := "quorumNewest", unfollowed := true, recurses := true, apart := false, narrowed := true }
def QuorumNewestUptoSaid : Prop := quorumNewestUptoRow.holds Try.pinned (OpenSpec.upto quorumNewestSpec)

/-- 'tontinelaw16.QuorumOrder', WHERE WHAT IT READS IS OF BULK AT MOST 1048576: true; the input reads as it did. -/
def quorumOrderUptoRow : OpenClaim := { program := "ytiecnmmffplgcaa", sum := "d040868284b33fe426f1c74fb88c616730b89b976ec631dfad70b6066e33ba03", func := "tontine/tontinelaw16.QuorumOrder", spec := "quorumOrder", unfollowed := true, recurses := true, apart := false, narrowed := true }
def QuorumOrderUptoSaid : Prop := quorumOrderUptoRow.holds Try.pinned (OpenSpec.upto quorumOrderSpec)

/-- 'tontinelaw16.QuorumPlays', WHERE WHAT IT READS IS OF BULK AT MOST 1048576: true; the input reads as it did. -/
def quorumPlaysUptoRow : OpenClaim := { program := "ytiecnmmffplgcaa", sum := "d040868284b33fe426f1c74fb88c616730b89b976ec631dfad70b6066e33ba03", func := "tontine/tontinelaw16.QuorumPlays", spec := "quorumPlays", unfollowed := true, recurses := true, apart := false, narrowed := true }
def QuorumPlaysUptoSaid : Prop := quorumPlaysUptoRow.holds Try.pinned (OpenSpec.upto quorumPlaysSpec)

/-- 'tontinelaw16.QuorumNil', WHERE WHAT IT READS IS OF BULK AT MOST 1048576: true; the input reads as it did. -/
def quorumNilUptoRow : OpenClaim := { program := "ytiecnmmffplgcaa", sum := "d040868284b33fe426f1c74fb88c616730b89b976ec631dfad70b6066e33ba03", func := "tontine/tontinelaw16.QuorumNil", spec := "quorumNil", unfollowed := true, recurses := true, apart := false, narrowed := true }
def QuorumNilUptoSaid : Prop := quorumNilUptoRow.holds Try.pinned (OpenSpec.upto quorumNilSpec)

/-- 'tontinelaw16.QuorumStale', WHERE WHAT IT READS IS OF BULK AT MOST 1048576: true; the input reads as it did. -/
def quorumStaleUptoRow : OpenClaim := { program := "ytiecnmmffplgcaa", sum := "d040868284b33fe426f1c74fb88c616730b89b976ec631dfad70b6066e33ba03", func := "tontine/tontinelaw16.QuorumStale", spec := "quorumStale", unfollowed := true, recurses := true, apart := false, narrowed := true }
def QuorumStaleUptoSaid : Prop := quorumStaleUptoRow.holds Try.pinned (OpenSpec.upto quorumStaleSpec)

end Rows
end Go.Proofs.Ytiecnmmffplgcaa
