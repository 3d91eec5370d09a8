/- Plain laws of the printed functions of draws: orders of both are one. -/
import Derived.Test.YtjnnbkfnhfondaaDrawsC
namespace Go.Am.Ytjnnbkfnhfondaa
section
variable (B : Nat → Nat → Nat) (T : Nat → Nat)
theorem p12_shuf (hB : Both B T) (n s : Nat) (h : n ≤ 1000) : p12 FUEL ((n : Int), (s : Int)) = some (0, ((shuf B T (n - 1) s (ints n)).1 : Int), (shuf B T (n - 1) s (ints n)).2) := by
  have hf := big
  have run : ∀ k : (Int × List Int) → Option (Int × Int × List Int), l12_1 FUEL k FUEL (IntKind.wrap .i64 ((n : Int) - 1), (s : Int), ints n) = k (((shuf B T (n - 1) s (ints n)).1 : Int), (shuf B T (n - 1) s (ints n)).2) := fun k => by
    rw [wrapI (n := (n : Int) - 1) (by omega) (by omega)]
    by_cases h0 : 0 < n
    · rw [show (n : Int) - 1 = ((n - 1 : Nat) : Int) by omega]
      exact l12_1_shuf B T hB k FUEL (n - 1) s (ints n) (by rw [ints_len]; omega) (by rw [ints_len]; exact h) (by omega)
    · obtain rfl : n = 0 := by omega
      exact l12_1_none FUEL k FUEL (by omega) _ (by omega) _ _
  simp only [p12]
  rw [decide_eq_false (show ¬ (n : Int) < 0 by omega), decide_eq_false (show ¬ (1000 : Int) < (n : Int) by omega)]
  simp only [cond_false, List.length_replicate, Int.toNat_natCast]
  rw [if_pos (by omega)]
  have h0 := fun k => l12_0_run (R := Int × Int × List Int) FUEL k n h (s : Int) FUEL 0 (by omega) (by omega)
  exact (h0 _).trans (run (fun (x20, x21) => (some ((0 : Int), x20, x21))))
theorem l29_0_run {R : Type} (k : (Int × Int × List Int) → Option R) (n : Nat) (hn : n ≤ 1000) (s : Int) : ∀ (m i : Nat), i ≤ n → n - i < m → l29_0 FUEL k m ((n : Int), (i : Int), s, ints i) = k ((n : Int), s, ints n) := by
  intro m
  induction m with
  | zero => intro i _ h; omega
  | succ m ih =>
    intro i hi hm
    show s29_0 FUEL (l29_0 FUEL k m) k _ = _
    simp only [s29_0]
    by_cases e : i < n
    · rw [decide_eq_true (show (i : Int) < (n : Int) by omega), wrapNext i (by omega)]
      simp only [cond_true]
      rw [if_pos (by rw [ints_len, List.length_singleton]; omega), ← ints_succ]
      exact ih (i + 1) (by omega) (by omega)
    · obtain rfl : i = n := by omega
      rw [decide_eq_false (by omega)]; rfl
theorem l29_1_none {R : Type} (k : (Int × List Int) → Option R) (m : Nat) (hm : 0 < m) (i : Int) (hi : ¬ 1 ≤ i) (s : Int) (l : List Int) : l29_1 FUEL k m (i, s, l) = k (s, l) := by
  obtain ⟨m, rfl⟩ : ∃ n, m = n + 1 := ⟨m - 1, by omega⟩
  show s29_1 FUEL (l29_1 FUEL k m) k _ = _
  simp only [s29_1]
  rw [decide_eq_false hi]; rfl
theorem p29_shuf (hB : Both B T) (n s : Nat) (h : n ≤ 1000) : p29 FUEL ((n : Int), (s : Int)) = some (((shuf B T (n - 1) s (ints n)).1 : Int), (shuf B T (n - 1) s (ints n)).2) := by
  have hf := big
  have run : ∀ k : (Int × List Int) → Option (Int × List Int), l29_1 FUEL k FUEL (IntKind.wrap .i64 ((n : Int) - 1), (s : Int), ints n) = k (((shuf B T (n - 1) s (ints n)).1 : Int), (shuf B T (n - 1) s (ints n)).2) := fun k => by
    rw [wrapI (n := (n : Int) - 1) (by omega) (by omega)]
    by_cases h0 : 0 < n
    · rw [show (n : Int) - 1 = ((n - 1 : Nat) : Int) by omega]
      exact l29_1_shuf B T hB k FUEL (n - 1) s (ints n) (by rw [ints_len]; omega) (by rw [ints_len]; exact h) (by omega)
    · obtain rfl : n = 0 := by omega
      exact l29_1_none k FUEL (by omega) _ (by omega) _ _
  simp only [p29]
  have h0 := fun k => l29_0_run (R := Int × List Int) k n h (s : Int) FUEL 0 (by omega) (by omega)
  exact (h0 _).trans (run (fun (x19, x20) => (some (x19, x20))))
end
theorem l26b_run {R : Type} (k0 : Bool → Option R) (k1 : Unit → Option R) (l : List Int) (hl : l.length ≤ 1000) : ∀ (n i : Nat), i ≤ l.length → l.length - i < n → l26b_0 FUEL k0 k1 n (l, l, (i : Int)) = k1 () := by
  intro n
  induction n with
  | zero => intro j _ h; omega
  | succ n ih =>
    intro i hi hn
    show s26b_0 FUEL (l26b_0 FUEL k0 k1 n) k0 k1 _ = _
    simp only [s26b_0]
    by_cases e : i < l.length
    · rw [decide_eq_true (show (i : Int) < ((l.length : Nat) : Int) by omega), if_pos (by omega), Int.toNat_natCast, List.getElem?_eq_getElem e]
      simp only [cond_true]
      rw [if_pos (by omega), wrapNext i (by omega)]
      simp only [decide_true, Bool.not_true, cond_false]
      exact ih (i + 1) (by omega) (by omega)
    · obtain rfl : i = l.length := by omega
      rw [decide_eq_false (by omega)]
      rfl
theorem p26b_eq (l : List Int) (hl : l.length ≤ 1000) : p26b FUEL (l, l) = some true := by
  have hf := big
  simp only [p26b, decide_true, Bool.not_true, cond_false]
  exact l26b_run _ _ l hl FUEL 0 (by omega) (by omega)
theorem l19_1_run {R : Type} (k : (Int × Bool × Int × Int × List Int) → Option R) (e : Int) (z : Bool) (s t : Int) (len : Nat) (hlen : len ≤ 1000) : ∀ (n i : Nat) (l : List Int), l.length = len → i ≤ len → len - i < n → ∃ l' : List Int, l'.length = len ∧ l19_1 FUEL k n (e, z, (i : Int), s, t, l) = k (e, z, s, t, l') := by
  intro n
  induction n with
  | zero => intro j _ _ _ h; omega
  | succ n ih =>
    intro i l hl hi hn
    show ∃ l' : List Int, l'.length = len ∧ s19_1 FUEL (l19_1 FUEL k n) k _ = _
    simp only [s19_1]
    by_cases e : i < len
    · have hi' : 0 ≤ (i : Int) ∧ (i : Int) < ((l.length : Nat) : Int) := by omega
      rw [decide_eq_true hi'.2, wrapNext i (by omega)]
      simp only [cond_true, if_pos hi', Int.toNat_natCast, List.getElem?_eq_getElem (show i < l.length by omega)]
      exact ih (i + 1) _ (by rw [List.length_set]; exact hl) (by omega) (by omega)
    · rw [decide_eq_false (by omega)]
      exact ⟨l, hl, rfl⟩
theorem p19_eq (n : Int) (s : Nat) (hs : s < 18446744073709551616) : ∃ s' : Nat, s' < 18446744073709551616 ∧ p19 FUEL (n, (s : Int), (s : Int)) = some (true, (s' : Int), (s' : Int)) := by
  have hf := big
  obtain ⟨B, T, hB⟩ := both FUEL
  by_cases h : 0 ≤ n ∧ n ≤ 1000
  · obtain ⟨m, rfl⟩ : ∃ m : Nat, n = (m : Int) := ⟨n.toNat, by omega⟩
    have hlen : (shuf B T (m - 1) s (ints m)).2.length = m := by rw [shuf_len, ints_len]
    refine ⟨(shuf B T (m - 1) s (ints m)).1, shuf_lt B T hB _ _ _ (by omega) hs, ?_⟩
    simp only [p19, p12_shuf B T hB m s (by omega)]
    rw [decide_eq_false (show ¬ (m : Int) < 0 by omega), decide_eq_false (show ¬ (1000 : Int) < (m : Int) by omega)]
    simp only [cond_false, j19_0, j19_2, p29_shuf B T hB m s (by omega), p26b_eq _ (show (shuf B T (m - 1) s (ints m)).2.length ≤ 1000 by omega)]
    have h1 := fun k => l19_1_run (R := Bool × Int × Int) k 0 true ((shuf B T (m - 1) s (ints m)).1 : Int) ((shuf B T (m - 1) s (ints m)).1 : Int) m (by omega) FUEL 0 (shuf B T (m - 1) s (ints m)).2 hlen (by omega) (by omega)
    obtain ⟨l', hl', e⟩ := h1 (fun (x41, x42, x43, x44, x45) => (if (List.length x45 + List.length [(-1 : Int), (-1 : Int)]) * 8 ≤ 140737488355328 then (bif x42 then (some ((decide (x41 = (0 : Int))), x43, x44)) else (some (false, x43, x44))) else none))
    refine Eq.trans e ?_
    simp only
    rw [if_pos (by rw [hl']; simp only [List.length_cons, List.length_nil]; omega)]
    rfl
  · refine ⟨s, hs, ?_⟩
    simp only [p19, p12_out n s h]
    by_cases h0 : n < 0
    · rw [decide_eq_true h0]; rfl
    · rw [decide_eq_false h0, decide_eq_true (show (1000 : Int) < n by omega)]; rfl
end Go.Am.Ytjnnbkfnhfondaa
