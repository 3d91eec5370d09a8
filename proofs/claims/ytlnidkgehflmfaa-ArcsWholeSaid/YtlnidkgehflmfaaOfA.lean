/- Plain law: rows of bools told as arcs. -/
import Derived.Test.YtlnidkgehflmfaaOf
namespace Go.Am.Ytlnidkgehflmfaa
open Runs
theorem p14_eq : p14 FUEL () = some true := by kernel_rfl
theorem pure6 (x : List Bool) (w : Ty.wf (.arr 64 .bool) x) : p6 FUEL x = some true := by
  simp only [p6, p14_eq, cond_true, of_eq x w.1, ref_eq x w.1]
  rw [same_eq _ (Nat.le_trans (runs_len _) (by decide))]
end Go.Am.Ytlnidkgehflmfaa
