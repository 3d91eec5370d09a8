/- Plain laws of the printed functions of the ring: between two positions; no ring. -/
import Derived.Test.YtdbohflhlnaciaaWalk
import Derived.Test.YtdbohflhlnaciaaAmZG
namespace Go.Am.Ytdbohflhlnaciaa
theorem p7_eq : p7 FUEL () = some true := by kernel_rfl
def lt (x y : Int × Int) : Bool := decide (x.1 < y.1 ∨ x.1 = y.1 ∧ x.2 < y.2)
def eq (x y : Int × Int) : Bool := decide (x.1 = y.1 ∧ x.2 = y.2)
theorem eqB_eq (x y : Int × Int) : Ty.eqB (.pair (.int .u64) (.int .u64)) x y = eq x y := by
  rw [eqB_pair2, eq]
  obtain ⟨a, b⟩ := x
  obtain ⟨c, d⟩ := y
  simp
theorem p27_eq (x y : Int × Int) : p27 FUEL (x, y) = some (lt x y) := by
  simp only [p27, lt]
  by_cases h : x.1 < y.1
  · rw [decide_eq_true h, decide_eq_true (Or.inl h : x.1 < y.1 ∨ x.1 = y.1 ∧ x.2 < y.2)]; rfl
  · by_cases g : x.1 = y.1
    · rw [decide_eq_false h, decide_eq_true g]
      simp only [cond_false, cond_true, g, true_and, false_or, Int.lt_irrefl]
    · rw [decide_eq_false h, decide_eq_false g, decide_eq_false (show ¬ (x.1 < y.1 ∨ x.1 = y.1 ∧ x.2 < y.2) by omega)]; rfl
theorem p28_eq (x y : Int × Int) : p28 FUEL (x, y) = some (lt x y) := by
  simp only [p28, lt]
  by_cases g : x.1 = y.1
  · rw [decide_eq_true g]
    simp only [Bool.not_true, cond_false, g, true_and, false_or, Int.lt_irrefl]
  · rw [decide_eq_false g]
    simp only [Bool.not_false, cond_true, g, false_and, or_false]
theorem lt_t {x y : Int × Int} (h : lt x y = true) : x.1 < y.1 ∨ x.1 = y.1 ∧ x.2 < y.2 := by simpa [lt] using h
theorem lt_f {x y : Int × Int} (h : lt x y = false) : ¬ (x.1 < y.1 ∨ x.1 = y.1 ∧ x.2 < y.2) := by simpa only [lt, decide_eq_false_iff_not] using h
theorem eq_t {x y : Int × Int} (h : eq x y = true) : x.1 = y.1 ∧ x.2 = y.2 := by simpa [eq] using h
theorem eq_f {x y : Int × Int} (h : eq x y = false) : ¬ (x.1 = y.1 ∧ x.2 = y.2) := by simpa only [eq, decide_eq_false_iff_not] using h
/-- Three positions stand one behind the other in one way. -/
inductive Way (x y : Int × Int) : Prop
  | less (h : lt x y = true) (h2 : lt y x = false) (h3 : eq x y = false) (h4 : eq y x = false)
  | same (h : lt x y = false) (h2 : lt y x = false) (h3 : eq x y = true) (h4 : eq y x = true)
  | more (h : lt x y = false) (h2 : lt y x = true) (h3 : eq x y = false) (h4 : eq y x = false)
theorem way (x y : Int × Int) : Way x y := by
  by_cases h : x.1 < y.1 ∨ x.1 = y.1 ∧ x.2 < y.2
  · exact .less (decide_eq_true h) (decide_eq_false (by omega)) (decide_eq_false (by omega)) (decide_eq_false (by omega))
  · by_cases g : x.1 = y.1 ∧ x.2 = y.2
    · exact .same (decide_eq_false h) (decide_eq_false (by omega)) (decide_eq_true g) (decide_eq_true (by omega))
    · exact .more (decide_eq_false h) (decide_eq_true (by omega)) (decide_eq_false g) (decide_eq_false (by omega))
def bt (a x b : Int × Int) : Bool := bif lt a b then lt a x && lt x b else !eq x a && (!eq x b && (lt a x || lt x b))
theorem p8_eq (a x b : Int × Int) : p8 FUEL (a, x, b) = some (bt a x b) := by
  simp only [p8, p27_eq, eqB_eq, bt]
  cases lt a b <;> cases lt a x <;> cases lt x b <;> cases eq x a <;> cases eq x b <;> rfl
theorem p9_eq (a x b : Int × Int) : p9 FUEL (a, x, b) = some (bt a x b) := by
  simp only [p9, p28_eq, eqB_eq, bt]
  rcases way a x with ⟨a1, a2, a3, a4⟩ | ⟨a1, a2, a3, a4⟩ | ⟨a1, a2, a3, a4⟩ <;> rcases way x b with ⟨b1, b2, b3, b4⟩ | ⟨b1, b2, b3, b4⟩ | ⟨b1, b2, b3, b4⟩ <;> rcases way a b with ⟨c1, c2, c3, c4⟩ | ⟨c1, c2, c3, c4⟩ | ⟨c1, c2, c3, c4⟩ <;>
    simp only [a1, a2, a3, a4, b1, b2, b3, b4, c1, c2, c3, c4] <;> first
    | rfl
    | (exfalso
       have a1 := a1; have b1 := b1; have c1 := c1
       first | replace a1 := lt_t a1 | replace a1 := lt_f a1
       first | replace b1 := lt_t b1 | replace b1 := lt_f b1
       first | replace c1 := lt_t c1 | replace c1 := lt_f c1
       first | replace a3 := eq_t a3 | replace a3 := eq_f a3
       first | replace b3 := eq_t b3 | replace b3 := eq_f b3
       first | replace c3 := eq_t c3 | replace c3 := eq_f c3
       omega)
theorem between (a : Int × Int) (_ : Ty.wr (.pair (.int .u64) (.int .u64)) a) (x : Int × Int) (_ : Ty.wr (.pair (.int .u64) (.int .u64)) x) (b : Int × Int) (_ : Ty.wr (.pair (.int .u64) (.int .u64)) b) : p3 FUEL (a, x, b) = some true := by
  simp only [p3, p7_eq, p8_eq, p9_eq, Bool.not_true, cond_false, BEq.rfl, eqB_eq, j3_0, j3_1, bt]
  rcases way a x with ⟨a1, a2, a3, a4⟩ | ⟨a1, a2, a3, a4⟩ | ⟨a1, a2, a3, a4⟩ <;> rcases way x b with ⟨b1, b2, b3, b4⟩ | ⟨b1, b2, b3, b4⟩ | ⟨b1, b2, b3, b4⟩ <;> rcases way a b with ⟨c1, c2, c3, c4⟩ | ⟨c1, c2, c3, c4⟩ | ⟨c1, c2, c3, c4⟩ <;>
    simp only [a1, a2, a3, a4, b1, b2, b3, b4, c1, c2, c3, c4] <;> first
    | rfl
    | (exfalso
       first | replace a1 := lt_t a1 | replace a1 := lt_f a1
       first | replace b1 := lt_t b1 | replace b1 := lt_f b1
       first | replace c1 := lt_t c1 | replace c1 := lt_f c1
       first | replace a3 := eq_t a3 | replace a3 := eq_f a3
       first | replace b3 := eq_t b3 | replace b3 := eq_f b3
       first | replace c3 := eq_t c3 | replace c3 := eq_f c3
       omega)
end Go.Am.Ytdbohflhlnaciaa
