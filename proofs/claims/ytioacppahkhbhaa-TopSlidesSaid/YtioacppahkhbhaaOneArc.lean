/- A ring of 64 places of which just one arc is there: its one run. -/
import Derived.Test.YtioacppahkhbhaaTold
namespace Go.Am.Runs
theorem only_one : ∀ f, f < 64 → (List.range 64).filter (fun s => decide (s = f)) = [f] := by decide +kernel
theorem runs_arc (b : Nat → Bool) (f z : Nat) (hf : f < 64) (h1 : 1 ≤ z) (h2 : z ≤ 63) (h : ∀ q, q < 64 → b q = decide ((q + 64 - f) % 64 < z)) : runs b = [((f : Int), (z : Int))] := by
  have hring : ∀ i, i < z → ring b (f + i) = true := fun i hi => by
    unfold ring
    rw [h _ (Nat.mod_lt _ (by omega))]
    exact decide_eq_true (by omega)
  have hend : ring b (f + z) = false := by
    unfold ring
    rw [h _ (Nat.mod_lt _ (by omega))]
    exact decide_eq_false (by omega)
  have hnot : R b 64 0 ≠ 64 := by
    intro e
    have := (R_all b 64 0).1 e ((f + z) % 64) (Nat.zero_le _) (by have := Nat.mod_lt (f + z) (show 0 < 64 by omega); omega)
    unfold ring at hend
    rw [hend] at this; cases this
  have hR : R (ring b) 64 f = z := by
    have e1 : R (ring b) z f = z := (R_all (ring b) z f).2 fun i hi hj => by
      have := hring (i - f) (by omega)
      rw [show f + (i - f) = i by omega] at this; exact this
    have e2 : R (ring b) (z + 1) f = z := by
      rw [R_succ, if_neg (by rintro ⟨_, x⟩; rw [hend] at x; cases x)]; exact e1
    have e3 := R_more (ring b) (z + 1) (63 - z) f (f + z) (by omega) (by omega) hend
    rw [show z + 1 + (63 - z) = 64 by omega, e2] at e3
    exact e3
  have hcst : (List.range 64).filter (cst b) = [f] := by
    rw [← only_one f hf]
    refine List.filter_congr fun s hs => ?_
    have hs := List.mem_range.1 hs
    unfold cst
    rw [h s hs, h ((s + 63) % 64) (Nat.mod_lt _ (by omega))]
    by_cases e : s = f
    · subst e
      rw [decide_eq_true rfl, decide_eq_true (by omega), decide_eq_false (by omega)]; rfl
    · rw [decide_eq_false e]
      by_cases c : (s + 64 - f) % 64 < z
      · rw [decide_eq_true c, decide_eq_true (by omega)]; rfl
      · rw [decide_eq_false c]; rfl
  unfold runs
  rw [if_neg hnot]
  unfold circ
  rw [hcst, List.map_cons, List.map_nil, hR]
end Go.Am.Runs
