/- Plain laws of the printed functions of draws: picks; forks; the play. -/
import Derived.Test.YtjnnbkfnhfondaaDrawsE
namespace Go.Am.Ytjnnbkfnhfondaa
/-- Pick of both: a refusal, or one place. -/
theorem pick_both (w : List Int) (s : Nat) (hs : s < 18446744073709551616) : (∃ sum : Int, p27 FUEL w = some (sum, false) ∧ p14b FUEL (w, (s : Int)) = some (0, 1, (s : Int))) ∨
    (∃ (sum x : Int) (s' : Nat), s' < 18446744073709551616 ∧ p27 FUEL w = some (sum, true) ∧ p14b FUEL (w, (s : Int)) = some (x, 0, (s' : Int)) ∧ p28 FUEL (w, sum, (s : Int)) = some (x, (s' : Int))) := by
  have hf := big
  obtain ⟨B, T, hB⟩ := both FUEL
  by_cases hl : w.length ≤ 1000
  · have hlen : decide ((1000 : Int) < ((w.length : Nat) : Int)) = false := decide_eq_false (by omega)
    by_cases hv : Valid w
    · have hsum := valid_sum w hv
      have e27 := fun (k0 : (Int × Bool) → Option (Int × Bool)) k1 => l27_0_good w hl k0 k1 hv FUEL 0 (by omega) (by omega)
      have e14 := fun (k0 : (Int × Int × Int) → Option (Int × Int × Int)) k1 => l14b_0_good w hl k0 k1 hv (s : Int) FUEL 0 (by omega) (by omega)
      have r27 : p27 FUEL w = some (w.sum, decide (0 < w.sum)) := by
        simp only [p27]
        refine (e27 _ _).trans ?_
        simp only
        by_cases h0 : 0 < w.sum
        · rw [decide_eq_true h0, decide_eq_true (show ((w.length : Nat) : Int) ≤ 1000 by omega)]; rfl
        · rw [decide_eq_false h0]; rfl
      by_cases h0 : 0 < w.sum
      · rw [decide_eq_true h0] at r27
        obtain ⟨n, hn⟩ : ∃ n : Nat, w.sum = (n : Int) := ⟨w.sum.toNat, by omega⟩
        obtain ⟨b1, b2, b3, b4⟩ := hB n s (by omega) (by omega)
        have hfind := fun (k0 : (Int × Int × Int) → Option (Int × Int × Int)) k1 (q0 : (Int × Int) → Option (Int × Int)) q1 => find w hl hv k0 k1 q0 q1 ((B n s : Nat) : Int) (by omega) ((T s : Nat) : Int) FUEL 0 (by omega) (by omega) (by rw [List.take_zero, List.sum_nil]; omega)
        obtain ⟨j, j1, j2⟩ := hfind (fun (x23, x24, x25) => (some (x23, x24, x25))) (fun x26 => (some ((0 : Int), (1 : Int), x26))) (fun (x11, x12) => (some (x11, x12))) (fun x13 => (some ((-1 : Int), x13)))
        rw [List.take_zero, List.sum_nil] at j1 j2
        refine Or.inr ⟨w.sum, (j : Int), T s, b2, r27, ?_, ?_⟩
        · simp only [p14b, hlen, cond_false]
          refine (e14 _ _).trans ?_
          simp only [hn]
          rw [decide_eq_false (show ¬ (n : Int) = 0 by omega)]
          simp only [cond_false, b3]
          rw [Int.sub_zero] at j1
          exact j1
        · simp only [p28, hn, b4]
          exact j2
      · rw [decide_eq_false h0] at r27
        refine Or.inl ⟨w.sum, r27, ?_⟩
        simp only [p14b, hlen, cond_false]
        refine (e14 _ _).trans ?_
        simp only
        rw [decide_eq_true (by omega)]; rfl
    · refine Or.inl ⟨0, ?_, ?_⟩
      · simp only [p27]
        exact l27_0_bad w hl _ _ FUEL 0 0 (by omega) (by omega) hv
      · simp only [p14b, hlen, cond_false]
        exact l14b_0_bad w hl _ _ (s : Int) FUEL 0 0 (by omega) (by omega) hv
  · have hlen : decide ((1000 : Int) < ((w.length : Nat) : Int)) = true := decide_eq_true (by omega)
    have e27 := fun (k0 : (Int × Bool) → Option (Int × Bool)) k1 => l27_0_long w (by omega) k1 k0 FUEL 0 0 (by omega) (by omega)
    have e14 : p14b FUEL (w, (s : Int)) = some (0, 1, (s : Int)) := by simp only [p14b, hlen, cond_true]
    rcases e27 (fun (x8, x9) => (some (x8, x9))) (fun (x10, x11) => (bif (decide ((0 : Int) < x11)) then (some (x11, (decide (((List.length x10 : Nat) : Int) ≤ (1000 : Int))))) else (some (x11, false)))) with h | ⟨v, h⟩
    · exact Or.inl ⟨0, h, e14⟩
    · refine Or.inl ⟨v, h.trans ?_, e14⟩
      simp only
      rw [decide_eq_false (show ¬ ((w.length : Nat) : Int) ≤ 1000 by omega)]
      cases decide (0 < v) <;> rfl
theorem p18_eq (w : List Int) (hroom : (w.length + 1) * 8 ≤ 140737488355328) (s : Nat) (hs : s < 18446744073709551616) : ∃ s' : Nat, s' < 18446744073709551616 ∧ p18 FUEL (w, (s : Int), (s : Int)) = some (true, (s' : Int), (s' : Int)) := by
  have hown : List.take (Int.toNat ((List.length w : Nat) : Int) - 0) (List.drop 0 (([] ++ w) ++ [(77 : Int)])) = w := by
    rw [Int.toNat_natCast]; simp
  have hlen : (([] ++ w) ++ [(77 : Int)]).length = w.length + 1 := by simp
  have h77 : ((([] : List Int) ++ w) ++ [(77 : Int)])[(Int.toNat ((List.length w : Nat) : Int))]? = some 77 := by
    rw [Int.toNat_natCast]; simp
  have c1 : (List.length ([] : List Int) + List.length w) * 8 ≤ 140737488355328 := by simp only [List.length_nil]; omega
  have c2 : (List.length (([] : List Int) ++ w) + List.length [(77 : Int)]) * 8 ≤ 140737488355328 := by simp only [List.nil_append, List.length_singleton]; omega
  have c3 : 0 ≤ ((List.length w : Nat) : Int) ∧ ((List.length w : Nat) : Int) ≤ (((w.length + 1) : Nat) : Int) := by omega
  have c4 : 0 ≤ ((List.length w : Nat) : Int) ∧ ((List.length w : Nat) : Int) < (((w.length + 1) : Nat) : Int) := by omega
  have same := p26_eq w (by omega)
  rcases pick_both w s hs with ⟨sum, h1, h2⟩ | ⟨sum, x, s', hs', h1, h2, h3⟩
  · refine ⟨s, hs, ?_⟩
    simp only [p18, if_pos c1, if_pos c2, hlen, if_pos c3, hown, h2, same, h1, if_pos c4, h77]
    rfl
  · refine ⟨s', hs', ?_⟩
    simp only [p18, if_pos c1, if_pos c2, hlen, if_pos c3, hown, h2, same, h1, if_pos c4, h77, h3]
    simp
end Go.Am.Ytjnnbkfnhfondaa
