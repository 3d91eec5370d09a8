/- Plain laws of the printed functions of balance: buckets are split where both parts are most alike. -/
import Derived.Test.YtbbbdckbcicmbaaBalanceA
namespace Go.Am.Ytbbbdckbcicmbaa
/-- The first so many, all together. -/
def pre (l : List Int) (i : Nat) : Int := (l.take i).sum
theorem pre_succ : ∀ (l : List Int) (i : Nat) (h : i < l.length), pre l (i + 1) = pre l i + l[i]
  | x :: l, 0, _ => by simp [pre]
  | x :: l, i + 1, h => by
    have := pre_succ l i (by simpa using h)
    simp only [pre, List.take_succ_cons, List.sum_cons, List.getElem_cons_succ] at this ⊢
    omega
theorem pre_zero (l : List Int) : pre l 0 = 0 := rfl
theorem pre_bound (l : List Int) (hl : ∀ x ∈ l, 0 ≤ x ∧ x ≤ 2147483647) : ∀ i, i ≤ l.length → 0 ≤ pre l i ∧ pre l i ≤ i * 2147483647
  | 0, _ => by rw [pre_zero]; omega
  | i + 1, h => by
    have h1 := pre_bound l hl i (by omega)
    have h2 := hl _ (List.getElem_mem (show i < l.length by omega))
    rw [pre_succ l i (by omega)]; omega
section
variable (l : List Int) (hl : ∀ x ∈ l, 0 ≤ x ∧ x ≤ 2147483647) (h64 : l.length ≤ 64)
include hl h64
theorem pre_small (i : Nat) (h : i ≤ l.length) : 0 ≤ pre l i ∧ pre l i ≤ 137438953408 := by
  have := pre_bound l hl i h; omega
theorem l11_0_run {R : Type} (k0 : List Int × Int → Option R) : ∀ n i, l.length - i < n → i ≤ l.length → l11_0 FUEL k0 n (l, pre l i, l, (l.length : Int), (i : Int)) = k0 (l, pre l l.length) := by
  intro n
  induction n with
  | zero => intro i h; omega
  | succ n ih =>
    intro i h hi
    show s11_0 FUEL (l11_0 FUEL _ n) _ _ = _
    simp only [s11_0]
    by_cases e : i < l.length
    · have b1 := pre_small l hl h64 (i + 1) e
      rw [decide_eq_true (show (i : Int) < ((l.length : Nat) : Int) by omega), cond_true, if_pos (show (0 : Int) ≤ (i : Int) by omega)]
      simp only [Int.toNat_natCast, List.getElem?_eq_getElem e, ← pre_succ l i e]
      rw [wrapNext i (by omega), wrapI (by omega) (by omega), ih (i + 1) (by omega) (by omega)]
    · rw [decide_eq_false (show ¬ (i : Int) < ((l.length : Nat) : Int) by omega), cond_false, show i = l.length by omega]
theorem l12_0_run {R : Type} (k0 : List Int × Int × Int × Int × Int → Option R) (b least : Int) (N : Nat) (hN : N ≤ l.length) : ∀ n i, l.length - i < n → i ≤ l.length →
    l12_0 FUEL k0 n (l, b, least, (N : Int), (if i ≤ N then pre l i else 2 * pre l N - pre l i), (i : Int)) = k0 (l, b, least, (N : Int), 2 * pre l N - pre l l.length) := by
  intro n
  induction n with
  | zero => intro i h; omega
  | succ n ih =>
    intro i h hi
    show s12_0 FUEL (l12_0 FUEL _ n) _ _ = _
    simp only [s12_0]
    by_cases e : i < l.length
    · have b0 := pre_small l hl h64 i (by omega)
      have b1 := pre_small l hl h64 (i + 1) e
      have b2 := pre_small l hl h64 N hN
      have b3 := ih (i + 1) (by omega) (by omega)
      have b4 := pre_succ l i e
      refine (condT (decide_eq_true (show (i : Int) < ((l.length : Nat) : Int) by omega))).trans ?_
      by_cases c : i < N
      · refine (condT (decide_eq_true (show (i : Int) < (N : Int) by omega))).trans ?_
        rw [if_pos (show (0 : Int) ≤ (i : Int) by omega)]
        simp only [Int.toNat_natCast, List.getElem?_eq_getElem e]
        rw [wrapNext i (by omega), if_pos (by omega), ← b4, wrapI (by omega) (by omega)]
        rw [if_pos (by omega)] at b3
        exact b3
      · refine (condF (decide_eq_false (show ¬ (i : Int) < (N : Int) by omega))).trans ?_
        rw [if_pos (show (0 : Int) ≤ (i : Int) by omega)]
        simp only [Int.toNat_natCast, List.getElem?_eq_getElem e]
        rw [if_neg (by omega)] at b3
        have e2 : (if i ≤ N then pre l i else 2 * pre l N - pre l i) - l[i] = 2 * pre l N - pre l (i + 1) := by
          split
          · obtain rfl : i = N := by omega
            omega
          · omega
        rw [wrapNext i (by omega), e2, wrapI (by omega) (by omega)]
        exact b3
    · rw [decide_eq_false (show ¬ (i : Int) < ((l.length : Nat) : Int) by omega), cond_false]
      congr 5
      split
      · obtain rfl : i = l.length := by omega
        obtain rfl : N = l.length := by omega
        omega
      · rw [show i = l.length by omega]
theorem split_run (h2 : 2 ≤ l.length) : ∀ m i : Nat, m = l.length - 1 - i → i ≤ l.length - 1 → ∀ (b b' least least' : Int), (i = 0 ∧ b' = 0 ∨ i ≠ 0 ∧ 1 ≤ b' ∧ b = b' ∧ least = least') → ∀ n n', m < n → m < n' →
    ∃ y, l11_2 FUEL (fun x => some (x, (0 : Int))) n (pre l l.length, b, least, pre l i, l.take (l.length - 1), ((l.length - 1 : Nat) : Int), (i : Int)) = some y ∧ l12_3 FUEL (fun x => some (x, (0 : Int))) n' (l, b', least', ((i + 1 : Nat) : Int)) = some y := by
  intro m
  induction m with
  | zero =>
    intro i hm hi b b' least least' hb n n' hn hn'
    obtain ⟨n, rfl⟩ : ∃ k, n = k + 1 := ⟨n - 1, by omega⟩
    obtain ⟨n', rfl⟩ : ∃ k, n' = k + 1 := ⟨n' - 1, by omega⟩
    show ∃ y, s11_2 FUEL (l11_2 FUEL _ n) _ _ = some y ∧ s12_3 FUEL (l12_3 FUEL _ n') _ _ = some y
    simp only [s11_2, s12_3]
    rw [decide_eq_false (show ¬ (i : Int) < ((l.length - 1 : Nat) : Int) by omega), decide_eq_false (show ¬ ((i + 1 : Nat) : Int) < ((l.length : Nat) : Int) by omega)]
    rcases hb with ⟨rfl, _⟩ | ⟨_, _, rfl, _⟩
    · omega
    · exact ⟨_, rfl, rfl⟩
  | succ m ih =>
    intro i hm hi b b' least least' hb n n' hn hn'
    obtain ⟨n, rfl⟩ : ∃ k, n = k + 1 := ⟨n - 1, by omega⟩
    obtain ⟨n', rfl⟩ : ∃ k, n' = k + 1 := ⟨n' - 1, by omega⟩
    have ih := fun b b' least least' hb => ih (i + 1) (by omega) (by omega) b b' least least' hb n n' (by omega) (by omega)
    have e : i < l.length := by omega
    have b1 := pre_small l hl h64 (i + 1) e
    have b2 := pre_small l hl h64 l.length (Nat.le_refl _)
    have hbig := big
    have inner := fun (k0 : List Int × Int × Int × Int × Int → Option (Int × Int)) (c d : Int) => l12_0_run l hl h64 k0 c d (i + 1) (by omega) FUEL 0 (by omega) (by omega)
    simp only [if_pos (Nat.zero_le _), pre_zero, show ((0 : Nat) : Int) = 0 from rfl] at inner
    show ∃ y, s11_2 FUEL (l11_2 FUEL _ n) _ _ = some y ∧ s12_3 FUEL (l12_3 FUEL _ n') _ _ = some y
    simp only [s11_2, s12_3]
    rw [decide_eq_true (show (i : Int) < ((l.length - 1 : Nat) : Int) by omega), decide_eq_true (show ((i + 1 : Nat) : Int) < ((l.length : Nat) : Int) by omega), cond_true, cond_true, if_pos (show (0 : Int) ≤ (i : Int) by omega), inner]
    simp only [Int.toNat_natCast, List.getElem?_take, if_pos (show i < l.length - 1 by omega), List.getElem?_eq_getElem e, ← pre_succ l i e]
    generalize pre l (i + 1) = Q at b1 ih ⊢
    generalize pre l l.length = S at b2 ih ⊢
    rw [wrapI (n := Q) (by omega) (by omega), wrapI (n := 2 * Q) (by omega) (by omega), wrapI (n := S - 2 * Q) (by omega) (by omega), wrapI (n := 2 * Q - S) (by omega) (by omega), wrapI (n := 0 - (2 * Q - S)) (by omega) (by omega)]
    obtain ⟨F, hF1, hF2, hF3⟩ : ∃ F : Int, (if S - 2 * Q < 2 * Q - S then 2 * Q - S else S - 2 * Q) = F ∧ (2 * Q - S < 0 → 0 - (2 * Q - S) = F) ∧ (¬ 2 * Q - S < 0 → 2 * Q - S = F) := by
      by_cases c : 2 * Q - S < 0
      · exact ⟨0 - (2 * Q - S), by rw [if_neg (by omega)]; omega, fun _ => rfl, fun h => absurd c h⟩
      · refine ⟨2 * Q - S, ?_, fun h => absurd h c, fun _ => rfl⟩
        split <;> omega
    rw [hF1]
    have right : ∀ F' : Int, F' = F → j12_2 FUEL (fun x => l12_3 FUEL (fun x => some (x, (0 : Int))) n' (x.1, x.2.1, x.2.2.1, IntKind.wrap .i64 (x.2.2.2 + 1))) (l, b', least', ((i + 1 : Nat) : Int), F') = l12_3 FUEL (fun x => some (x, (0 : Int))) n' (l, (if b' = 0 ∨ F < least' then ((i + 1 : Nat) : Int) else b'), (if b' = 0 ∨ F < least' then F else least'), ((i + 1 + 1 : Nat) : Int)) := by
      rintro F' rfl
      simp only [j12_2, j12_1]
      by_cases c1 : b' = 0
      · rw [decide_eq_true c1, if_pos (.inl c1), if_pos (.inl c1)]
        simp only [cond_true]
        rw [wrapNext (i + 1) (by omega)]
      · by_cases c2 : F' < least'
        · rw [decide_eq_false c1, decide_eq_true c2, if_pos (.inr c2), if_pos (.inr c2)]
          simp only [cond_true, cond_false]
          rw [wrapNext (i + 1) (by omega)]
        · rw [decide_eq_false c1, decide_eq_false c2, if_neg (by rintro (h | h) <;> contradiction), if_neg (by rintro (h | h) <;> contradiction)]
          simp only [cond_false]
          rw [wrapNext (i + 1) (by omega)]
    have hright : (bif decide (2 * Q - S < 0) then j12_2 FUEL (fun x => l12_3 FUEL (fun x => some (x, (0 : Int))) n' (x.1, x.2.1, x.2.2.1, IntKind.wrap .i64 (x.2.2.2 + 1))) (l, b', least', ((i + 1 : Nat) : Int), 0 - (2 * Q - S)) else j12_2 FUEL (fun x => l12_3 FUEL (fun x => some (x, (0 : Int))) n' (x.1, x.2.1, x.2.2.1, IntKind.wrap .i64 (x.2.2.2 + 1))) (l, b', least', ((i + 1 : Nat) : Int), 2 * Q - S)) = l12_3 FUEL (fun x => some (x, (0 : Int))) n' (l, (if b' = 0 ∨ F < least' then ((i + 1 : Nat) : Int) else b'), (if b' = 0 ∨ F < least' then F else least'), ((i + 1 + 1 : Nat) : Int)) := by
      by_cases c : 2 * Q - S < 0
      · rw [decide_eq_true c, cond_true]; exact right _ (hF2 c)
      · rw [decide_eq_false c, cond_false]; exact right _ (hF3 c)
    rw [hright]
    simp only [j11_1]
    rcases hb with ⟨rfl, rfl⟩ | ⟨hi0, hb1, rfl, rfl⟩
    · rw [if_pos (.inl rfl), if_pos (.inl rfl)]
      simp only [show ((0 : Nat) : Int) = 0 from rfl, decide_true, cond_true]
      rw [show (0 : Int) = ((0 : Nat) : Int) from rfl, wrapNext 0 (by omega)]
      exact ih _ _ _ _ (.inr ⟨by omega, by omega, rfl, rfl⟩)
    · rw [decide_eq_false (show ¬ (i : Int) = 0 by omega)]
      by_cases c2 : F < least
      · rw [decide_eq_true c2, if_pos (.inr c2), if_pos (.inr c2)]
        simp only [cond_true, cond_false]
        rw [wrapNext i (by omega)]
        exact ih _ _ _ _ (.inr ⟨by omega, by omega, rfl, rfl⟩)
      · rw [decide_eq_false c2, if_neg (by rintro (h | h) <;> omega), if_neg (by rintro (h | h) <;> omega)]
        simp only [cond_false]
        rw [wrapNext i (by omega)]
        exact ih _ _ _ _ (.inr ⟨by omega, hb1, rfl, rfl⟩)
end
end Go.Am.Ytbbbdckbcicmbaa
