/- Plain laws of the printed functions of arcs: parts. -/
import Derived.Test.YtlnidkgehflmfaaWalk
import Derived.Test.YtlnidkgehflmfaaAmZE
namespace Go.Am.Ytlnidkgehflmfaa
def FUEL : Nat := 2 ^ 70
theorem p14_eq : p14 FUEL ((), ()) = some (true, ()) := by kernel_rfl
theorem p18_some (fuel : Nat) (x : Int × Int) : ∃ b, p18 fuel ((x, ()), ()) = some (b, ()) ∧ p19 fuel ((x, ()), ()) = some (b, ()) := by
  have e : p19 fuel ((x, ()), ()) = p18 fuel ((x, ()), ()) := rfl
  rw [e]
  suffices h : ∃ b, p18 fuel ((x, ()), ()) = some (b, ()) from h.imp fun _ h => ⟨h, h⟩
  cases h1 : decide ((0 : Int) ≤ x.1) <;> cases h2 : decide (x.1 < (64 : Int)) <;> cases h3 : decide ((0 : Int) ≤ x.2) <;> simp [p18, h1, h2, h3]
theorem p12_13 (fuel : Nat) (x y : Int × Int) : p13 fuel ((x, (y, ())), ()) = p12 fuel ((x, (y, ())), ()) := by
  obtain ⟨b, h1, h2⟩ := p18_some fuel x
  obtain ⟨c, h3, h4⟩ := p18_some fuel y
  simp only [p12, p13, h1, h2, h3, h4]
theorem eqB2 (x : Int × Int) : Ty.eqB (.pair (.int .i64) (.int .i64)) x x = true := by simp [Ty.eqB]
theorem p10_some (fuel : Nat) (x : Int × Int) (n : Int) : ∃ z, p10 fuel ((x, (n, ())), ()) = some z := by
  obtain ⟨b, h1, _⟩ := p18_some fuel x
  simp only [p10, h1]
  cases (!b) <;> cases decide (n < (0 : Int)) <;> cases decide (x.2 < n) <;> exact ⟨_, rfl⟩
theorem p12_some (fuel : Nat) (x y : Int × Int) : ∃ z, p12 fuel ((x, (y, ())), ()) = some z := by
  obtain ⟨b, h1, _⟩ := p18_some fuel x
  obtain ⟨c, h3, _⟩ := p18_some fuel y
  simp only [p12, h1, h3]
  cases (!b) <;> cases (!c) <;> cases decide ((64 : Int) < (IntKind.wrap .i64 (x.2 + y.2))) <;> cases (!decide ((Int.tmod (IntKind.wrap .i64 (x.1 + x.2)) (64 : Int)) = y.1)) <;> exact ⟨_, rfl⟩
theorem pure3 (x : Int × Int) (_ : Ty.wf (.pair (.int .i64) (.int .i64)) x) (y : Int × Int) (_ : Ty.wf (.pair (.int .i64) (.int .i64)) y) (n : Int) (_ : Ty.wf (.int .i64) n) : p3 FUEL ((x, (y, (n, ()))), ()) = some (true, ()) := by
  obtain ⟨z, h1⟩ := p10_some FUEL x n
  obtain ⟨u, h2⟩ := p12_some FUEL x y
  have h3 : p11 FUEL ((x, (n, ())), ()) = some z := h1
  have h4 : p13 FUEL ((x, (y, ())), ()) = some u := (p12_13 FUEL x y).trans h2
  simp only [p3, h1, h2, h3, h4, p14_eq, eqB2, cond_true, decide_true]
end Go.Am.Ytlnidkgehflmfaa
