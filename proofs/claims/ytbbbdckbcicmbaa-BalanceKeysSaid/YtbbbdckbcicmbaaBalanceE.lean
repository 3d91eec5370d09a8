/- Plain laws of the printed functions of balance: the key that is told. -/
import Derived.Test.YtbbbdckbcicmbaaBalanceD
namespace Go.Am.Ytbbbdckbcicmbaa
def srt : List ByteArray → Bool
  | a :: b :: l => strLess a b && srt (b :: l)
  | _ => true
theorem srt_step (l : List ByteArray) (i : Nat) (h1 : 1 ≤ i) (h : i < l.length) : srt (l.drop (i - 1)) = (strLess (l[i - 1]'(by omega)) l[i] && srt (l.drop i)) := by
  obtain ⟨i, rfl⟩ : ∃ k, i = k + 1 := ⟨i - 1, by omega⟩
  simp only [Nat.add_sub_cancel]
  rw [List.drop_eq_getElem_cons (show i < l.length by omega), List.drop_eq_getElem_cons h]
  rfl
theorem srt_short {l : List ByteArray} (h : l.length ≤ 1) : srt l = true := by
  match l, h with
  | [], _ => rfl
  | [_], _ => rfl
theorem srt_next (l : List ByteArray) (h : srt l = true) : ∀ i, (g : i + 1 < l.length) → strLess l[i] l[i + 1] = true := by
  have drop : ∀ i, srt (l.drop i) = true := by
    intro i
    induction i with
    | zero => exact h
    | succ i ih =>
      by_cases e : i + 1 < l.length
      · have := srt_step l (i + 1) (by omega) e
        simp only [Nat.add_sub_cancel, ih] at this
        have := this.symm
        rw [Bool.and_eq_true] at this
        exact this.2
      · exact srt_short (by rw [List.length_drop]; omega)
  intro i g
  have := srt_step l (i + 1) (by omega) g
  simp only [Nat.add_sub_cancel, drop] at this
  have := this.symm
  rw [Bool.and_eq_true] at this
  exact this.1
theorem srt_lt (l : List ByteArray) (h : srt l = true) (i : Nat) : ∀ d, (g : i + d + 1 < l.length) → Op.bytesLess l[i].toList l[i + d + 1].toList = true
  | 0, g => srt_next l h i g
  | d + 1, g => less_trans _ _ _ (srt_lt l h i d (by omega)) (srt_next l h (i + d + 1) g)
theorem srt_less (l : List ByteArray) (h : srt l = true) {i j : Nat} (hij : i < j) (g : j < l.length) : Op.bytesLess (l[i]'(by omega)).toList l[j].toList = true := by
  have := srt_lt l h i (j - i - 1) (by omega)
  simpa [show i + (j - i - 1) + 1 = j by omega] using this
section
variable (l : List ByteArray) (hl : l.length ≤ 1000)
include hl
theorem l9_0_run {R : Type} (k0 : ByteArray × Int → Option R) (k1 : List ByteArray × Int → Option R) (N : Int) : ∀ n i, l.length + 1 - i < n → 1 ≤ i → l9_0 FUEL k0 k1 n (l, N, (i : Int)) = bif srt (l.drop (i - 1)) then k1 (l, N) else k0 (ByteArray.empty, 171) := by
  intro n
  induction n with
  | zero => intro i h; omega
  | succ n ih =>
    intro i h hi
    show s9_0 FUEL (l9_0 FUEL _ _ n) _ _ _ = _
    simp only [s9_0]
    by_cases e : i < l.length
    · rw [decide_eq_true (show (i : Int) < ((l.length : Nat) : Int) by omega), cond_true, wrapI (by omega) (by omega), if_pos (by omega), show ((i : Int) - 1).toNat = i - 1 by omega]
      simp only [Int.toNat_natCast, List.getElem?_eq_getElem e, List.getElem?_eq_getElem (show i - 1 < l.length by omega)]
      rw [if_pos (by omega), srt_step l i hi e, wrapNext i (by omega), ih (i + 1) (by omega) (by omega), Nat.add_sub_cancel]
      cases strLess l[i - 1] l[i] <;> rfl
    · rw [decide_eq_false (show ¬ (i : Int) < ((l.length : Nat) : Int) by omega), cond_false, srt_short (by rw [List.length_drop]; omega), cond_true]
theorem l8_0_run {R : Type} (k0 : ByteArray × Int → Option R) (k1 : List ByteArray × Int → Option R) (N : Int) : ∀ n i, l.length + 1 - i < n → 1 ≤ i → l8_0 FUEL k0 k1 n (l, N, (l.length : Int), (i : Int)) = bif srt (l.drop (i - 1)) then k1 (l, N) else k0 (ByteArray.empty, 171) := by
  intro n
  induction n with
  | zero => intro i h; omega
  | succ n ih =>
    intro i h hi
    show s8_0 FUEL (l8_0 FUEL _ _ n) _ _ _ = _
    simp only [s8_0]
    by_cases e : i < l.length
    · rw [decide_eq_true (show (i : Int) < ((l.length : Nat) : Int) by omega), cond_true, decide_eq_true (show (0 : Int) < (i : Int) by omega), cond_true, wrapI (by omega) (by omega), if_pos (by omega), show ((i : Int) - 1).toNat = i - 1 by omega]
      simp only [Int.toNat_natCast, List.getElem?_eq_getElem e, List.getElem?_eq_getElem (show i - 1 < l.length by omega)]
      rw [if_pos (by omega), srt_step l i hi e, wrapNext i (by omega), ih (i + 1) (by omega) (by omega), Nat.add_sub_cancel]
      cases strLess l[i - 1] l[i] <;> rfl
    · rw [decide_eq_false (show ¬ (i : Int) < ((l.length : Nat) : Int) by omega), cond_false, srt_short (by rw [List.length_drop]; omega), cond_true]
theorem l8_0_all {R : Type} (k0 : ByteArray × Int → Option R) (k1 : List ByteArray × Int → Option R) (N : Int) : l8_0 FUEL k0 k1 FUEL (l, N, (l.length : Int), 0) = bif srt l then k1 (l, N) else k0 (ByteArray.empty, 171) := by
  have hb := big
  have hr := l8_0_run l hl k0 k1 N (FUEL - 1) 1 (by omega) (by omega)
  have step : ∀ m F, m = F + 1 → l8_0 FUEL k0 k1 m (l, N, (l.length : Int), 0) = s8_0 FUEL (l8_0 FUEL k0 k1 F) k0 k1 (l, N, (l.length : Int), 0) := by
    rintro _ F rfl; rfl
  rw [step FUEL (FUEL - 1) (by omega)]
  simp only [s8_0]
  rw [Nat.sub_self, List.drop_zero, show ((1 : Nat) : Int) = 1 from rfl] at hr
  by_cases e : 0 < l.length
  · rw [decide_eq_true (show (0 : Int) < ((l.length : Nat) : Int) by omega), cond_true, decide_eq_false (by omega), cond_false, wrapI (by omega) (by omega)]
    exact hr
  · rw [decide_eq_false (show ¬ (0 : Int) < ((l.length : Nat) : Int) by omega), cond_false, srt_short (by omega), cond_true]
variable (N : Nat) (h1 : 1 ≤ N) (hN : N < l.length) (hs : strLess (l[N - 1]'(by omega)) l[N] = true) (hz : ∀ x ∈ l, x.size ≤ 9223372036854775807)
include h1 hN hs hz
theorem l8_1_run {R : Type} (k0 : List ByteArray × Int × Int → Option R) : ∀ n j, lcp (l[N - 1]'(by omega)).toList l[N].toList - j < n → j ≤ lcp (l[N - 1]'(by omega)).toList l[N].toList →
    l8_1 FUEL k0 n (l, (N : Int), (j : Int)) = k0 (l, (N : Int), ((lcp (l[N - 1]'(by omega)).toList l[N].toList : Nat) : Int)) := by
  have hA : N - 1 < l.length := by omega
  have z1 := hz _ (List.getElem_mem hA)
  have z2 := hz _ (List.getElem_mem hN)
  intro n
  induction n with
  | zero => intro j h; omega
  | succ n ih =>
    intro j h hj
    show s8_1 FUEL (l8_1 FUEL _ n) _ _ = _
    simp only [s8_1]
    rw [wrapI (by omega) (by omega), if_pos (by omega), show ((N : Int) - 1).toNat = N - 1 by omega]
    simp only [Int.toNat_natCast, List.getElem?_eq_getElem hA, List.getElem?_eq_getElem hN]
    have s1 := size_toList l[N - 1]
    have s2 := size_toList l[N]
    have same := lcp_same l[N - 1].toList l[N].toList
    have stop := lcp_stop l[N - 1].toList l[N].toList
    have cl := lcp_lt _ _ hs
    have ba : ∀ i, i < l[N - 1].toList.length → i < l[N].toList.length → decide (byteAt l[N - 1] i = byteAt l[N] i) = decide (l[N - 1].toList[i]? = l[N].toList[i]?) := fun i ha hb => byteAt_same ha hb
    generalize l[N - 1].toList = A at ih h hj s1 same stop cl ba ⊢
    generalize l[N].toList = B at ih h hj s2 same stop cl ba ⊢
    by_cases e : j < lcp A B
    · obtain ⟨g1, g2, g3⟩ := same j e
      rw [decide_eq_true (show (j : Int) < ((l[N - 1].size : Nat) : Int) by omega), cond_true, if_pos (by omega), decide_eq_true (show (j : Int) < ((l[N].size : Nat) : Int) by omega), cond_true]
      simp only [if_pos (show (0 : Int) ≤ (j : Int) ∧ (j : Int) < ((l[N - 1].size : Nat) : Int) by omega), if_pos (show (0 : Int) ≤ (j : Int) ∧ (j : Int) < ((l[N].size : Nat) : Int) by omega), if_pos (show (0 : Int) ≤ (N : Int) by omega), if_pos (show (0 : Int) ≤ (N : Int) - 1 by omega)]
      rw [ba j g2 g3, decide_eq_true g1, cond_true, wrapNext j (by omega)]
      exact ih (j + 1) (by omega) (by omega)
    · obtain rfl : j = lcp A B := by omega
      by_cases c : lcp A B < A.length
      · have g1 := stop c cl
        rw [decide_eq_true (show (lcp A B : Int) < ((l[N - 1].size : Nat) : Int) by omega), cond_true, if_pos (by omega), decide_eq_true (show (lcp A B : Int) < ((l[N].size : Nat) : Int) by omega), cond_true]
        simp only [if_pos (show (0 : Int) ≤ (lcp A B : Int) ∧ (lcp A B : Int) < ((l[N - 1].size : Nat) : Int) by omega), if_pos (show (0 : Int) ≤ (lcp A B : Int) ∧ (lcp A B : Int) < ((l[N].size : Nat) : Int) by omega), if_pos (show (0 : Int) ≤ (N : Int) by omega), if_pos (show (0 : Int) ≤ (N : Int) - 1 by omega)]
        rw [ba _ c cl, decide_eq_false g1, cond_false]
      · rw [decide_eq_false (show ¬ (lcp A B : Int) < ((l[N - 1].size : Nat) : Int) by omega), cond_false]
theorem l9_1_run {R : Type} (k0 : ByteArray × Int → Option R) (k1 : List ByteArray × Int → Option R) : ∀ n j, lcp (l[N - 1]'(by omega)).toList l[N].toList + 1 - j < n → j ≤ lcp (l[N - 1]'(by omega)).toList l[N].toList + 1 →
    l9_1 FUEL k0 k1 n (l, (N : Int), (j : Int)) = k0 (ByteArray.extract l[N] 0 (lcp (l[N - 1]'(by omega)).toList l[N].toList + 1), 0) := by
  have hA : N - 1 < l.length := by omega
  have z2 := hz _ (List.getElem_mem hN)
  have cl := lcp_lt _ _ hs
  have tk := lcp_take (l[N - 1]'hA).toList l[N].toList
  have tk1 := lcp_take1 _ _ hs
  have s2 := size_toList l[N]
  intro n
  induction n with
  | zero => intro j h; omega
  | succ n ih =>
    intro j h hj
    show s9_1 FUEL (l9_1 FUEL _ _ n) _ _ _ = _
    simp only [s9_1]
    rw [wrapI (by omega) (by omega), show ((N : Int) - 1).toNat = N - 1 by omega]
    simp only [Int.toNat_natCast, List.getElem?_eq_getElem hA, List.getElem?_eq_getElem hN, if_pos (show (0 : Int) ≤ (N : Int) by omega), if_pos (show (0 : Int) ≤ (N : Int) - 1 by omega), strLess, strEq, extract_toList, greater]
    rw [decide_eq_true (show (j : Int) ≤ ((l[N].size : Nat) : Int) by omega), cond_true, if_pos (by omega)]
    by_cases e : j ≤ lcp l[N - 1].toList l[N].toList
    · rw [tk j e, cond_false, wrapNext j (by omega)]
      exact ih (j + 1) (by omega) (by omega)
    · obtain rfl : j = lcp l[N - 1].toList l[N].toList + 1 := by omega
      rw [tk1, cond_true, if_pos (by omega)]
end
end Go.Am.Ytbbbdckbcicmbaa
