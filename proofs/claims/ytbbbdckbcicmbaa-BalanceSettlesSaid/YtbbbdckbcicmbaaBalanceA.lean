/- Plain laws of the printed functions of balance: fair numbers; where buckets are split. -/
import Derived.Test.YtbbbdckbcicmbaaWalk
import Derived.Test.YtbbbdckbcicmbaaAmZI
namespace Go.Am.Ytbbbdckbcicmbaa
theorem condT {α : Type} {b : Bool} (h : b = true) {x y : α} : (bif b then x else y) = x := by rw [h]; rfl
theorem condF {α : Type} {b : Bool} (h : b = false) {x y : α} : (bif b then x else y) = y := by rw [h]; rfl
theorem big : 1180591620717411303424 ≤ FUEL := Nat.le_refl _
theorem p7_eq : p7 FUEL () = some true := by kernel_rfl
def bad (x : Int) : Bool := decide (x < 0) || decide (2147483647 < x)
theorem p35_eq (x : Int) : p35 FUEL x = some (bad x) := by
  simp only [p35, bad]
  by_cases h : x < 0
  · rw [decide_eq_true h]; rfl
  · rw [decide_eq_false h]; rfl
theorem l36_run (l : List Int) (hl : l.length < 9223372036854775807) : ∀ n i, l.length - i < n → i ≤ l.length → ∃ v : Int, l36_0 FUEL (fun x => some x) (fun _ => some (-1)) n (l, (l.length : Int), (i : Int)) = some v ∧ decide (0 ≤ v) = (l.drop i).any bad := by
  intro n
  induction n with
  | zero => intro i h; omega
  | succ n ih =>
    intro i h hi
    show ∃ v : Int, s36_0 FUEL (l36_0 FUEL _ _ n) _ _ _ = some v ∧ _
    simp only [s36_0]
    by_cases e : i < l.length
    · rw [decide_eq_true (show (i : Int) < ((l.length : Nat) : Int) by omega), cond_true, if_pos (show (0 : Int) ≤ (i : Int) by omega)]
      simp only [Int.toNat_natCast, List.getElem?_eq_getElem e, p35_eq]
      rw [List.drop_eq_getElem_cons e, List.any_cons]
      by_cases hb : bad l[i] = true
      · rw [hb]
        exact ⟨(i : Int), rfl, by rw [Bool.true_or]; exact decide_eq_true (by omega)⟩
      · rw [Bool.not_eq_true] at hb
        rw [hb, wrapNext i (by omega), cond_false, Bool.false_or]
        exact ih (i + 1) (by omega) (by omega)
    · rw [decide_eq_false (show ¬ (i : Int) < ((l.length : Nat) : Int) by omega), cond_false, List.drop_eq_nil_of_le (by omega)]
      exact ⟨-1, rfl, rfl⟩
theorem l23_run (l : List Int) (hl : l.length < 9223372036854775807) : ∀ n i, l.length - i < n → i ≤ l.length → l23_0 FUEL (fun x => some x) (fun _ => some true) n (l, (i : Int)) = some (!(l.drop i).any bad) := by
  intro n
  induction n with
  | zero => intro i h; omega
  | succ n ih =>
    intro i h hi
    show s23_0 FUEL (l23_0 FUEL _ _ n) _ _ _ = _
    simp only [s23_0]
    by_cases e : i < l.length
    · rw [decide_eq_true (show (i : Int) < ((l.length : Nat) : Int) by omega), cond_true, if_pos (show (0 : Int) ≤ (i : Int) by omega)]
      simp only [Int.toNat_natCast, List.getElem?_eq_getElem e]
      rw [List.drop_eq_getElem_cons e, List.any_cons]
      by_cases h1 : l[i] < 0
      · rw [decide_eq_true h1, bad, decide_eq_true h1]; rfl
      · rw [decide_eq_false h1, cond_false, if_pos (show (0 : Int) ≤ (i : Int) by omega), bad, decide_eq_false h1]
        by_cases h2 : 2147483647 < l[i]
        · rw [decide_eq_true h2]; rfl
        · rw [decide_eq_false h2, cond_false, wrapNext i (by omega), ih (i + 1) (by omega) (by omega)]; rfl
    · rw [decide_eq_false (show ¬ (i : Int) < ((l.length : Nat) : Int) by omega), cond_false, List.drop_eq_nil_of_le (by omega)]; rfl
/-- So many numbers, 0 to the greatest each. -/
def fair (l : List Int) (a b : Int) : Bool := decide (a ≤ (l.length : Int)) && (decide ((l.length : Int) ≤ b) && !l.any bad)
theorem p22_eq (l : List Int) (hl : l.length ≤ 9223372036854775806) (a b : Int) : p22 FUEL (l, a, b) = some (fair l a b) := by
  obtain ⟨v, h1, h2⟩ := l36_run l (by omega) FUEL 0 (by have := big; omega) (Nat.zero_le _)
  simp only [p22, p34, p36, show ((0 : Nat) : Int) = 0 from rfl] at h1 ⊢
  rw [h1]
  simp only [h2, List.drop_zero, fair]
  by_cases x : a ≤ (l.length : Int)
  · by_cases y : (l.length : Int) ≤ b
    · rw [decide_eq_true x, decide_eq_true y]; rfl
    · rw [decide_eq_true x, decide_eq_false y]; rfl
  · rw [decide_eq_false x]; rfl
theorem p23_eq (l : List Int) (hl : l.length ≤ 9223372036854775806) (a b : Int) : p23 FUEL (l, a, b) = some (fair l a b) := by
  have h1 := l23_run l (by omega) FUEL 0 (by have := big; omega) (Nat.zero_le _)
  simp only [p23, show ((0 : Nat) : Int) = 0 from rfl] at h1 ⊢
  rw [h1]
  simp only [List.drop_zero, fair]
  by_cases x : (l.length : Int) < a
  · rw [decide_eq_true x, decide_eq_false (show ¬ a ≤ (l.length : Int) by omega)]; rfl
  · by_cases y : b < (l.length : Int)
    · rw [decide_eq_false x, decide_eq_true y, decide_eq_true (show a ≤ (l.length : Int) by omega), decide_eq_false (show ¬ (l.length : Int) ≤ b by omega)]; rfl
    · rw [decide_eq_false x, decide_eq_false y, decide_eq_true (show a ≤ (l.length : Int) by omega), decide_eq_true (show (l.length : Int) ≤ b by omega)]; rfl
theorem fair_inv {l : List Int} {a b : Int} (h : fair l a b = true) : a ≤ (l.length : Int) ∧ (l.length : Int) ≤ b ∧ ∀ x ∈ l, 0 ≤ x ∧ x ≤ 2147483647 := by
  simp only [fair, Bool.and_eq_true, decide_eq_true_eq, Bool.not_eq_true', List.any_eq_false, bad, Bool.or_eq_true, not_or] at h
  exact ⟨h.1, h.2.1, fun x hx => by have := h.2.2 x hx; omega⟩

-- own numbers, and a mark behind them
theorem p10_eq (l : List Int) (h : (l.length + 1) * 8 ≤ 140737488355328) : p10 FUEL l = some (0, l.length, l ++ [77]) := by
  simp only [p10, List.nil_append, List.length_nil, Nat.zero_add, List.length_append, List.length_cons]
  rw [if_pos (by omega), if_pos (by omega), if_pos (by omega)]
  simp
theorem l18_run (l : List Int) (hl : l.length < 9223372036854775807) : ∀ n i, l.length - i < n → i ≤ l.length → l18_0 FUEL (fun x => some x) (fun _ => some true) n (l, l, (i : Int)) = some true := by
  intro n
  induction n with
  | zero => intro i h; omega
  | succ n ih =>
    intro i h hi
    show s18_0 FUEL (l18_0 FUEL _ _ n) _ _ _ = _
    simp only [s18_0]
    by_cases e : i < l.length
    · rw [decide_eq_true (show (i : Int) < ((l.length : Nat) : Int) by omega), cond_true, if_pos (show (0 : Int) ≤ (i : Int) by omega)]
      simp only [Int.toNat_natCast, List.getElem?_eq_getElem e, decide_true, Bool.not_true, cond_false]
      rw [if_pos (show (0 : Int) ≤ (i : Int) by omega), wrapNext i (by omega), ih (i + 1) (by omega) (by omega)]
    · rw [decide_eq_false (show ¬ (i : Int) < ((l.length : Nat) : Int) by omega)]; rfl
theorem p18_self (l : List Int) (hl : l.length ≤ 9223372036854775806) : p18 FUEL (l, l) = some true := by
  have h1 := l18_run l (by omega) FUEL 0 (by have := big; omega) (Nat.zero_le _)
  simp only [p18, decide_true, Bool.not_true, cond_false, show ((0 : Nat) : Int) = 0 from rfl] at h1 ⊢
  exact h1
theorem take_own (l : List Int) : List.take l.length (List.drop 0 (l ++ [77])) = l := by simp
theorem p13_eq (l : List Int) (hl : (l.length + 1) * 8 ≤ 140737488355328) : p13 FUEL (0, l.length, l, l ++ [77]) = some (true, l ++ [77]) := by
  simp only [p13, take_own, p18_self l (by omega), cond_true]
  rw [wrapNext _ (by omega), List.length_append, if_pos (by simp; omega), if_pos (by omega)]
  simp
end Go.Am.Ytbbbdckbcicmbaa
