/- Plain law of the printed functions of draws: any script, by the size of what is handed in. -/
import Derived.Test.YtjnnbkfnhfondaaDrawsG
import Derived.Test.YtjnnbkfnhfondaaAmZG
namespace Go.Am.Ytjnnbkfnhfondaa
theorem plays (a : Int) (wa : Ty.wr (.int .u64) a) (l : List Op) (w : Ty.wr (.slice (.pair (.int .i64) (.pair (.int .i64) (.pair (.int .u64) (.slice (.int .i64)))))) l) : p5 FUEL (a, l) = some true := by
  refine play a wa.wf l fun o ho => ?_
  obtain ⟨_, h2, _, h4⟩ := w.2 o ho
  have h5 : o.2.2.2.length * 8 ≤ 140737488351232 := h4.1.2
  exact ⟨wf_i64 h2, by omega⟩
end Go.Am.Ytjnnbkfnhfondaa
