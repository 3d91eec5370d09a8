/- How many places an arc has (written by make.py) -/
import Derived.Test.YtioacppahkhbhaaTLease
namespace Go.Am.Ytioacppahkhbhaa
open Runs
theorem countP_or {α : Type} (p r : α → Bool) (l : List α) (h : ∀ x ∈ l, p x = true → r x = true → False) : l.countP (fun x => p x || r x) = l.countP p + l.countP r := by
  induction l with
  | nil => rfl
  | cons a l ih =>
    have hh := h a List.mem_cons_self
    rw [List.countP_cons, List.countP_cons, List.countP_cons, ih fun x hx => h x (List.mem_cons_of_mem _ hx)]
    cases hp : p a <;> cases hr : r a
    · simp
    · simp; omega
    · simp; omega
    · exact (hh hp hr).elim
theorem count_one : ∀ c, c < 64 → (List.range 64).countP (fun q => decide (q = c)) = 1 := by decide +kernel
/-- How many places an arc has. -/
theorem count_arc (a : Nat) (ha : a < 64) : ∀ s : Nat, s ≤ 64 → (List.range 64).countP (fun q => decide ((((q : Nat) : Int) - (a : Int) + 64) % 64 < (s : Int))) = s
  | 0, _ => by
    rw [List.countP_eq_zero]
    intro q _ h
    have := of_decide_eq_true h
    omega
  | s + 1, hs => by
    have ih := count_arc a ha s (by omega)
    have e : (fun q : Nat => decide ((((q : Nat) : Int) - (a : Int) + 64) % 64 < ((s + 1 : Nat) : Int))) = fun q : Nat => decide ((((q : Nat) : Int) - (a : Int) + 64) % 64 < (s : Int)) || decide ((((q : Nat) : Int) - (a : Int) + 64) % 64 = (s : Int)) := by
      funext q
      rw [← Bool.decide_or, decide_eq_decide]; omega
    rw [e, countP_or _ _ _ fun x _ h1 h2 => by have := of_decide_eq_true h1; have := of_decide_eq_true h2; omega, ih]
    have e2 : (List.range 64).countP (fun q : Nat => decide ((((q : Nat) : Int) - (a : Int) + 64) % 64 = (s : Int))) = (List.range 64).countP (fun q => decide (q = (a + s) % 64)) := by
      refine List.countP_congr fun q hq => ?_
      have := List.mem_range.1 hq
      simp only [decide_eq_true_eq]
      omega
    rw [e2, count_one _ (by omega)]
section
variable {R : Type} (s : List Dec) (top i : Int) (t u : Tab)
end
end Go.Am.Ytioacppahkhbhaa
