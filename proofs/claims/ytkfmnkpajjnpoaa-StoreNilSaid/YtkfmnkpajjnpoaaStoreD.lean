/- Plain laws of the printed functions of the store: no store (StoreNil). -/
import Derived.Test.YtkfmnkpajjnpoaaStoreC
import Derived.Test.YtkfmnkpajjnpoaaWalkNil
import Derived.Test.YtkfmnkpajjnpoaaAmZH
namespace Go.Am.Ytkfmnkpajjnpoaa
theorem nil_eq (f : Nat) (x0 : LK) (x1 : Int × (Int × (Int × (List En × (List LK × (List Int × List (Int × Int))))))) (h : p13 f () = some true) : p12 f (x0, x1) = some true := by
  simp only [p12, p19, p22, p26, p23, j12_0, p17b, p31, p32, p18b, p29, p27, h, p47, p43, p37]
  rfl
theorem storeNil (x0 : LK) (_ : Ty.wr (.pair (.int .u64) (.pair (.arr 3 (.int .i64)) (.pair (.int .i64) (.pair (.int .u32) (.pair .bool (.pair (.slice (.pair .str .str)) (.arr 4 (.int .u32)))))))) x0)
    (x1 : Int × (Int × (Int × (List En × (List LK × (List Int × List (Int × Int))))))) (_ : Ty.wr (.pair (.int .i64) (.pair (.int .u32) (.pair (.int .u32) (.pair (.slice (.pair .str .str)) (.pair (.slice (.pair (.int .u64) (.pair (.arr 3 (.int .i64)) (.pair (.int .i64) (.pair (.int .u32) (.pair .bool (.pair (.slice (.pair .str .str)) (.arr 4 (.int .u32))))))))) (.pair (.arr 4 (.int .u32)) (.slice (.pair (.int .u64) (.int .i64))))))))) x1) : p12 FUEL (x0, x1) = some true :=
  nil_eq FUEL x0 x1 alive_run
end Go.Am.Ytkfmnkpajjnpoaa
