/- Plain laws of the printed functions of keys: quorums. -/
import Derived.Test.YteiklegkbjmjnaaPlain2
namespace Go.Am.Yteiklegkbjmjnaa
theorem pure5 (a b c d e f g h : Bool) : p5 FUEL (([a, b, c, d], ([e, f, g, h], ())), ()) = some (true, ()) := by
  cases a <;> cases b <;> cases c <;> cases d <;> cases e <;> cases f <;> cases g <;> cases h <;> kernel_rfl
end Go.Am.Yteiklegkbjmjnaa
