/- Plain laws of the printed functions of draws: picks of both are one. -/
import Derived.Test.YtjnnbkfnhfondaaDrawsD
namespace Go.Am.Ytjnnbkfnhfondaa
def Valid (w : List Int) : Prop := ∀ x ∈ w, 0 ≤ x ∧ x ≤ 2147483647
theorem valid_sum : ∀ (w : List Int), Valid w → 0 ≤ w.sum ∧ w.sum ≤ 2147483647 * (w.length : Int)
  | [], _ => by simp
  | x :: w, h => by
    have hx := h x List.mem_cons_self
    have := valid_sum w fun y hy => h y (List.mem_cons_of_mem _ hy)
    rw [List.sum_cons, List.length_cons]
    omega
theorem sum_step (w : List Int) (i : Nat) (h : i < w.length) : (w.take (i + 1)).sum = (w.take i).sum + w[i] := by
  rw [List.take_succ_eq_append_getElem h, List.sum_append]; simp
section
variable {R : Type} (w : List Int) (hl : w.length ≤ 1000)
include hl
theorem l14b_0_good (k0 : (Int × Int × Int) → Option R) (k1 : (List Int × Int × Int) → Option R) (hv : Valid w) (s : Int) : ∀ (m i : Nat), i ≤ w.length → w.length - i < m →
    l14b_0 FUEL k0 k1 m (w, (w.take i).sum, w, ((w.length : Nat) : Int), (i : Int), s) = k1 (w, w.sum, s) := by
  intro m
  induction m with
  | zero => intro i _ h; omega
  | succ m ih =>
    intro i hi hm
    show s14b_0 FUEL (l14b_0 FUEL k0 k1 m) k0 k1 _ = _
    simp only [s14b_0]
    have hs := valid_sum (w.take i) fun x hx => hv x (List.mem_of_mem_take hx)
    rw [List.length_take] at hs
    by_cases e : i < w.length
    · have hx := hv _ (List.getElem_mem e)
      rw [decide_eq_true (show (i : Int) < ((w.length : Nat) : Int) by omega), if_pos (by omega), Int.toNat_natCast, List.getElem?_eq_getElem e, wrapNext i (by omega)]
      simp only [cond_true]
      rw [decide_eq_false (show ¬ w[i] < 0 by omega), decide_eq_false (show ¬ 2147483647 < w[i] by omega), wrapU' (n := w[i]) (by omega) (by omega), wrapU' (n := (w.take i).sum + w[i]) (by omega) (by omega), ← sum_step w i e]
      exact ih (i + 1) (by omega) (by omega)
    · obtain rfl : i = w.length := by omega
      rw [decide_eq_false (by omega), List.take_length]; rfl
theorem l14b_0_bad (k0 : (Int × Int × Int) → Option R) (k1 : (List Int × Int × Int) → Option R) (s : Int) : ∀ (m i : Nat) (v : Int), i ≤ w.length → w.length - i < m → ¬ Valid (w.drop i) →
    l14b_0 FUEL k0 k1 m (w, v, w, ((w.length : Nat) : Int), (i : Int), s) = k0 (0, 1, s) := by
  intro m
  induction m with
  | zero => intro i _ _ h; omega
  | succ m ih =>
    intro i v hi hm hv
    show s14b_0 FUEL (l14b_0 FUEL k0 k1 m) k0 k1 _ = _
    simp only [s14b_0]
    by_cases e : i < w.length
    · rw [decide_eq_true (show (i : Int) < ((w.length : Nat) : Int) by omega), if_pos (by omega), Int.toNat_natCast, List.getElem?_eq_getElem e, wrapNext i (by omega)]
      simp only [cond_true]
      by_cases g1 : w[i] < 0
      · rw [decide_eq_true g1]; rfl
      rw [decide_eq_false g1]
      by_cases g2 : 2147483647 < w[i]
      · rw [decide_eq_true g2]; rfl
      rw [decide_eq_false g2]
      refine ih (i + 1) _ (by omega) (by omega) fun h => hv ?_
      rw [List.drop_eq_getElem_cons e]
      intro x hx
      rcases List.mem_cons.1 hx with hx | hx
      · rw [hx]; omega
      · exact h x hx
    · exact absurd (fun x hx => by rw [List.drop_eq_nil_of_le (by omega)] at hx; cases hx) hv
theorem l27_0_good (k0 : (Int × Bool) → Option R) (k1 : (List Int × Int) → Option R) (hv : Valid w) : ∀ (m i : Nat), i ≤ w.length → w.length - i < m →
    l27_0 FUEL k0 k1 m (w, (w.take i).sum, (i : Int)) = k1 (w, w.sum) := by
  intro m
  induction m with
  | zero => intro i _ h; omega
  | succ m ih =>
    intro i hi hm
    show s27_0 FUEL (l27_0 FUEL k0 k1 m) k0 k1 _ = _
    simp only [s27_0]
    have hs := valid_sum (w.take i) fun x hx => hv x (List.mem_of_mem_take hx)
    rw [List.length_take] at hs
    by_cases e : i < w.length
    · have hx := hv _ (List.getElem_mem e)
      have hi0 : 0 ≤ (i : Int) := by omega
      rw [decide_eq_true (show (i : Int) < ((w.length : Nat) : Int) by omega), decide_eq_true (show (i : Int) < 1001 by omega), wrapNext i (by omega)]
      simp only [cond_true, if_pos hi0, Int.toNat_natCast, List.getElem?_eq_getElem e, decide_eq_false (show ¬ w[i] < 0 by omega), decide_eq_false (show ¬ 2147483647 < w[i] by omega), cond_false]
      rw [wrapU' (n := w[i]) (by omega) (by omega), wrapU' (n := (w.take i).sum + w[i]) (by omega) (by omega), ← sum_step w i e]
      exact ih (i + 1) (by omega) (by omega)
    · obtain rfl : i = w.length := by omega
      rw [decide_eq_false (by omega), List.take_length]; rfl
theorem l27_0_bad (k0 : (Int × Bool) → Option R) (k1 : (List Int × Int) → Option R) : ∀ (m i : Nat) (v : Int), i ≤ w.length → w.length - i < m → ¬ Valid (w.drop i) →
    l27_0 FUEL k0 k1 m (w, v, (i : Int)) = k0 (0, false) := by
  intro m
  induction m with
  | zero => intro i _ _ h; omega
  | succ m ih =>
    intro i v hi hm hv
    show s27_0 FUEL (l27_0 FUEL k0 k1 m) k0 k1 _ = _
    simp only [s27_0]
    by_cases e : i < w.length
    · have hi0 : 0 ≤ (i : Int) := by omega
      rw [decide_eq_true (show (i : Int) < ((w.length : Nat) : Int) by omega), decide_eq_true (show (i : Int) < 1001 by omega), wrapNext i (by omega)]
      simp only [cond_true, if_pos hi0, Int.toNat_natCast, List.getElem?_eq_getElem e]
      by_cases g1 : w[i] < 0
      · rw [decide_eq_true g1]; rfl
      rw [decide_eq_false g1]
      by_cases g2 : 2147483647 < w[i]
      · rw [decide_eq_true g2]; rfl
      rw [decide_eq_false g2]
      refine ih (i + 1) _ (by omega) (by omega) fun h => hv ?_
      rw [List.drop_eq_getElem_cons e]
      intro x hx
      rcases List.mem_cons.1 hx with hx | hx
      · rw [hx]; omega
      · exact h x hx
    · exact absurd (fun x hx => by rw [List.drop_eq_nil_of_le (by omega)] at hx; cases hx) hv
end
theorem l27_0_long {R : Type} (w : List Int) (hl : 1000 < w.length) (k1 : (List Int × Int) → Option R) (k0 : (Int × Bool) → Option R) : ∀ (m i : Nat) (v : Int), i ≤ 1001 → 1001 - i < m →
    l27_0 FUEL k0 k1 m (w, v, (i : Int)) = k0 (0, false) ∨ ∃ v', l27_0 FUEL k0 k1 m (w, v, (i : Int)) = k1 (w, v') := by
  intro m
  induction m with
  | zero => intro i _ _ h; omega
  | succ m ih =>
    intro i v hi hm
    show s27_0 FUEL (l27_0 FUEL k0 k1 m) k0 k1 _ = _ ∨ ∃ v', s27_0 FUEL (l27_0 FUEL k0 k1 m) k0 k1 _ = _
    simp only [s27_0]
    by_cases e : i < w.length
    · rw [decide_eq_true (show (i : Int) < ((w.length : Nat) : Int) by omega)]
      by_cases e2 : i < 1001
      · have hi0 : 0 ≤ (i : Int) := by omega
        rw [decide_eq_true (show (i : Int) < 1001 by omega), wrapNext i (by omega)]
        simp only [cond_true, if_pos hi0, Int.toNat_natCast, List.getElem?_eq_getElem e]
        by_cases g1 : w[i] < 0
        · rw [decide_eq_true g1]; exact Or.inl rfl
        rw [decide_eq_false g1]
        by_cases g2 : 2147483647 < w[i]
        · rw [decide_eq_true g2]; exact Or.inl rfl
        rw [decide_eq_false g2]
        exact ih (i + 1) _ (by omega) (by omega)
      · rw [decide_eq_false (show ¬ (i : Int) < 1001 by omega)]
        exact Or.inr ⟨v, rfl⟩
    · rw [decide_eq_false (show ¬ (i : Int) < ((w.length : Nat) : Int) by omega)]
      exact Or.inr ⟨v, rfl⟩
theorem find {R R' : Type} (w : List Int) (hl : w.length ≤ 1000) (hv : Valid w) (k0 : (Int × Int × Int) → Option R) (k1 : Int → Option R) (q0 : (Int × Int) → Option R') (q1 : Int → Option R') (x : Int) (hx : x < w.sum) (s : Int) : ∀ (m i : Nat), i ≤ w.length → w.length - i < m → (w.take i).sum ≤ x →
    ∃ j : Nat, l14b_1 FUEL k0 k1 m (x - (w.take i).sum, w, ((w.length : Nat) : Int), (i : Int), s) = k0 ((j : Int), 0, s) ∧ l28_0 FUEL q0 q1 m (w, x, (w.take i).sum, (i : Int), s) = q0 ((j : Int), s) := by
  have hw := valid_sum w hv
  intro m
  induction m with
  | zero => intro i _ h; omega
  | succ m ih =>
    intro i hi hm hle
    show ∃ j : Nat, s14b_1 FUEL (l14b_1 FUEL k0 k1 m) k0 k1 _ = _ ∧ s28_0 FUEL (l28_0 FUEL q0 q1 m) q0 q1 _ = _
    simp only [s14b_1, s28_0]
    have hs := valid_sum (w.take i) fun x hx => hv x (List.mem_of_mem_take hx)
    by_cases e : i < w.length
    · have hxi := hv _ (List.getElem_mem e)
      have hi0 : 0 ≤ (i : Int) := by omega
      have hst := sum_step w i e
      have hs2 := valid_sum (w.take (i + 1)) fun x hx => hv x (List.mem_of_mem_take hx)
      rw [List.length_take] at hs hs2
      rw [decide_eq_true (show (i : Int) < ((w.length : Nat) : Int) by omega), wrapNext i (by omega)]
      simp only [cond_true, if_pos hi0, Int.toNat_natCast, List.getElem?_eq_getElem e]
      rw [wrapU' (n := w[i]) (by omega) (by omega), ← hst, wrapU' (n := (w.take (i + 1)).sum) (by omega) (by omega)]
      by_cases g : x < (w.take (i + 1)).sum
      · rw [decide_eq_true (show x - (w.take i).sum < w[i] by omega), decide_eq_true g]
        exact ⟨i, rfl, rfl⟩
      · rw [decide_eq_false (show ¬ x - (w.take i).sum < w[i] by omega), decide_eq_false g, wrapU' (n := x - (w.take i).sum - w[i]) (by omega) (by omega), show x - (w.take i).sum - w[i] = x - (w.take (i + 1)).sum by omega]
        exact ih (i + 1) (by omega) (by omega) (by omega)
    · obtain rfl : i = w.length := by omega
      rw [List.take_length] at hle
      omega
theorem l26_run {R : Type} (k0 : Bool → Option R) (k1 : Unit → Option R) (l : List Int) (hl : l.length ≤ 9000000000000000) : ∀ (n i : Nat), i ≤ l.length → l.length - i < n → l26_0 FUEL k0 k1 n (l, l, (i : Int)) = k1 () := by
  intro n
  induction n with
  | zero => intro j _ h; omega
  | succ n ih =>
    intro i hi hn
    show s26_0 FUEL (l26_0 FUEL k0 k1 n) k0 k1 _ = _
    simp only [s26_0]
    by_cases e : i < l.length
    · rw [decide_eq_true (show (i : Int) < ((l.length : Nat) : Int) by omega), if_pos (by omega), Int.toNat_natCast, List.getElem?_eq_getElem e]
      simp only [cond_true]
      rw [if_pos (by omega), wrapNext i (by omega)]
      simp only [decide_true, Bool.not_true, cond_false]
      exact ih (i + 1) (by omega) (by omega)
    · obtain rfl : i = l.length := by omega
      rw [decide_eq_false (by omega)]
      rfl
theorem huge : 9000000000000001 ≤ FUEL := by unfold FUEL; omega
theorem p26_eq (l : List Int) (hl : l.length ≤ 9000000000000000) : p26 FUEL (l, l) = some true := by
  have hf := huge
  simp only [p26, decide_true, Bool.not_true, cond_false]
  exact l26_run _ _ l hl FUEL 0 (by omega) (by omega)
end Go.Am.Ytjnnbkfnhfondaa
