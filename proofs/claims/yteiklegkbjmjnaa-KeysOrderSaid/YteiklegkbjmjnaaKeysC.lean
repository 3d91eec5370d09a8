/- Plain laws of the printed functions of keys: the order of texts and of their positions. -/
import Derived.Test.YteiklegkbjmjnaaKeysB
import Derived.Laws.Strings
namespace Go.Am.Yteiklegkbjmjnaa
theorem acc_cat (f : Nat → Nat) (m : Nat) : ∀ n, acc f (m + n) = acc f m * 2 ^ (8 * n) + acc (fun j => f (m + j)) n := by
  intro n
  induction n with
  | zero => simp [acc]
  | succ n ih =>
    have e : 2 ^ (8 * (n + 1)) = 2 ^ (8 * n) * 256 := by rw [Nat.mul_add, Nat.pow_add]
    rw [← Nat.add_assoc]
    simp only [acc]
    rw [ih, e, ← Nat.mul_assoc]
    omega
def dig (l : List UInt8) (i : Nat) : Nat := (l[i]?.getD 0).toNat
theorem dig_lt (l : List UInt8) (i : Nat) : dig l i < 256 := UInt8.toNat_lt _
theorem bN_dig (s : ByteArray) : bN s = dig s.toList := by
  funext i
  rw [ByteArray.toList_eq]
  simp [bN, dig]
theorem acc_head (a : UInt8) (x : List UInt8) (n : Nat) : acc (dig (a :: x)) (n + 1) = a.toNat * 2 ^ (8 * n) + acc (dig x) n := by
  rw [Nat.add_comm n 1, acc_cat]
  have e1 : acc (dig (a :: x)) 1 = a.toNat := by simp [acc, dig]
  have e2 : (fun j => dig (a :: x) (1 + j)) = dig x := by
    funext j
    simp [dig, Nat.add_comm 1 j]
  rw [e1, e2]
theorem acc_nil (n : Nat) : acc (dig []) n = 0 := by
  induction n with
  | zero => rfl
  | succ n ih => simp [acc, ih, dig]
theorem less_acc : ∀ (l r : List UInt8), Op.bytesLess l r = true → ∀ n, acc (dig l) n ≤ acc (dig r) n
  | _, [], h, _ => by simp [Op.bytesLess] at h
  | [], _ :: _, _, n => by rw [acc_nil]; omega
  | a :: x, b :: y, h, 0 => Nat.le_refl _
  | a :: x, b :: y, h, n + 1 => by
    rw [acc_head, acc_head]
    simp only [Op.bytesLess, Bool.or_eq_true, Bool.and_eq_true, decide_eq_true_eq, beq_iff_eq] at h
    rcases h with h | ⟨rfl, h⟩
    · have h : a.toNat < b.toNat := h
      have h1 := acc_lt (dig x) (dig_lt x) n
      have h2 : (a.toNat + 1) * 2 ^ (8 * n) ≤ b.toNat * 2 ^ (8 * n) := Nat.mul_le_mul_right _ h
      rw [Nat.add_mul, Nat.one_mul] at h2
      omega
    · have := less_acc x y h n
      omega
theorem less_or : ∀ (l r : List UInt8), Op.bytesLess l r = false → l ≠ r → Op.bytesLess r l = true
  | [], [], _, h => absurd rfl h
  | _ :: _, [], _, _ => by simp [Op.bytesLess]
  | [], _ :: _, h, _ => by simp [Op.bytesLess] at h
  | a :: x, b :: y, h, hn => by
    simp only [Op.bytesLess, Bool.or_eq_false_iff, Bool.and_eq_false_iff, decide_eq_false_iff_not, beq_eq_false_iff_ne, ne_eq] at h
    simp only [Op.bytesLess, Bool.or_eq_true, Bool.and_eq_true, decide_eq_true_eq, beq_iff_eq]
    obtain ⟨h1, h2⟩ := h
    by_cases e : a = b
    · subst e
      refine Or.inr ⟨rfl, less_or x y (h2.resolve_left fun g => g rfl) fun g => hn (by rw [g])⟩
    · refine Or.inl ?_
      have h1 : ¬ a.toNat < b.toNat := h1
      have h3 : a.toNat ≠ b.toNat := fun g => e (UInt8.toNat_inj.1 g)
      show b.toNat < a.toNat
      omega
def below (a b : ByteArray) : Bool := strLess a b || strEq a b
theorem below_or (a b : ByteArray) (h : below a b = false) : below b a = true := by
  simp only [below, strLess, strEq, Bool.or_eq_false_iff, beq_eq_false_iff_ne, ne_eq] at h
  simp only [below, strLess, less_or _ _ h.1 h.2, Bool.true_or]
theorem below_acc (a b : ByteArray) (h : below a b = true) (n : Nat) : acc (bN a) n ≤ acc (bN b) n := by
  rw [bN_dig, bN_dig]
  simp only [below, strLess, strEq, Bool.or_eq_true, beq_iff_eq] at h
  rcases h with h | h
  · exact less_acc _ _ h n
  · rw [h]; exact Nat.le_refl _
theorem below_pos (a b : ByteArray) (h : below a b = true) : hiN a 8 < hiN b 8 ∨ (hiN a 8 = hiN b 8 ∧ loN a 8 ≤ loN b 8) := by
  have h1 := below_acc a b h 8
  have h2 := below_acc a b h (8 + 8)
  rw [acc_cat, acc_cat] at h2
  have e1 : hiN a 8 = acc (bN a) 8 := rfl
  have e2 : hiN b 8 = acc (bN b) 8 := rfl
  have e3 : loN a 8 = acc (fun j => bN a (8 + j)) 8 := rfl
  have e4 : loN b 8 = acc (fun j => bN b (8 + j)) 8 := rfl
  rw [e1, e2, e3, e4]
  generalize acc (bN a) 8 = A at *
  generalize acc (bN b) 8 = B at *
  rcases Nat.lt_or_ge A B with g | g
  · exact Or.inl g
  · obtain rfl : A = B := by omega
    exact Or.inr ⟨rfl, by omega⟩
def cmpN (a b : Int) : Int := if a < b then -1 else if b < a then 1 else 0
theorem p35_eq (fuel : Nat) (a b : Int) : p35 fuel (a, b) = some (cmpN a b) := by
  simp only [p35, p36, decide_true, Bool.not_true, cond_false, cmpN]
  by_cases h : a < b
  · rw [decide_eq_true h, if_pos h]; rfl
  · rw [decide_eq_false h, if_neg h]
    by_cases g : b < a
    · rw [decide_eq_true g, if_pos g]; rfl
    · rw [decide_eq_false g, if_neg g]; rfl
theorem l34_run (fuel : Nat) {R : Type} (k0 k1 : Int → Option R) (a b : Int) (n : Nat) : l34_0 fuel k0 k1 (n + 3) ((0 : Int), [a, b], (2 : Int), (0 : Int)) = if a = 0 then (if b = 0 then k1 0 else k0 b) else k0 a := by
  show s34_0 fuel (l34_0 fuel k0 k1 (n + 2)) k0 k1 _ = _
  simp only [s34_0]
  rw [show decide ((0 : Int) < 2) = true from rfl, if_pos (by decide)]
  simp only [cond_true, show [a, b][Int.toNat 0]? = some a from rfl]
  by_cases ha : a = 0
  · rw [decide_eq_true ha, if_pos ha]
    simp only [Bool.not_true, cond_false]
    show s34_0 fuel (l34_0 fuel k0 k1 (n + 1)) k0 k1 (0, [a, b], 2, 1) = _
    simp only [s34_0]
    rw [show decide ((1 : Int) < 2) = true from rfl, if_pos (by decide)]
    simp only [cond_true, show [a, b][Int.toNat 1]? = some b from rfl]
    by_cases hb : b = 0
    · rw [decide_eq_true hb, if_pos hb]
      simp only [Bool.not_true, cond_false]
      show s34_0 fuel (l34_0 fuel k0 k1 n) k0 k1 (0, [a, b], 2, 2) = _
      rfl
    · rw [decide_eq_false hb, if_neg hb]; rfl
  · rw [decide_eq_false ha, if_neg ha]; rfl
theorem p34_eq (fuel : Nat) (hf : 3 ≤ fuel) (a b : Int) : p34 fuel [a, b] = some (if a = 0 then b else a) := by
  have g : ∀ (f n : Nat), 3 ≤ n → l34_0 f (fun x7 => (some x7)) (fun x8 => (some x8)) n ((0 : Int), [a, b], (2 : Int), (0 : Int)) = some (if a = 0 then b else a) := by
    intro f n hn
    obtain ⟨m, rfl⟩ : ∃ m, n = m + 3 := ⟨n - 3, by omega⟩
    rw [l34_run]
    by_cases ha : a = 0
    · rw [if_pos ha, if_pos ha]
      by_cases hb : b = 0
      · rw [if_pos hb, hb]
      · rw [if_neg hb]
    · rw [if_neg ha, if_neg ha]
  exact g fuel fuel hf
def cmpP (x y : Int × Int) : Int := if cmpN x.1 y.1 = 0 then cmpN x.2 y.2 else cmpN x.1 y.1
theorem p32_eq (x y : Int × Int) : p32 FUEL (x, y) = some (cmpP x y) := by
  simp only [p32, p35_eq, p34_eq FUEL (by unfold FUEL; omega)]; rfl
theorem cmpP_le (x y : Int × Int) (h : x.1 < y.1 ∨ (x.1 = y.1 ∧ x.2 ≤ y.2)) : cmpP x y ≤ 0 ∧ cmpP y x = IntKind.wrap .i64 (0 - cmpP x y) := by
  unfold cmpP cmpN
  rcases h with h | ⟨h, g⟩
  · simp only [if_pos h, if_neg (show ¬ y.1 < x.1 by omega), if_neg (show ¬ (-1 : Int) = 0 by decide), if_neg (show ¬ (1 : Int) = 0 by decide)]
    exact ⟨by decide, rfl⟩
  · simp only [if_neg (show ¬ x.1 < y.1 by omega), if_neg (show ¬ y.1 < x.1 by omega), if_true]
    by_cases e : x.2 < y.2
    · simp only [if_pos e, if_neg (show ¬ y.2 < x.2 by omega)]
      exact ⟨by decide, rfl⟩
    · simp only [if_neg e, if_neg (show ¬ y.2 < x.2 by omega)]
      exact ⟨by decide, rfl⟩
theorem p19_eq (s : ByteArray) : p19 FUEL s = some ((hiN s 8 : Int) / 288230376151711744) := by
  have hf : 17 ≤ FUEL := by unfold FUEL; omega
  have h : hiN s 8 < 18446744073709551616 := acc_lt (bN s) (bN_lt s) 8
  simp only [p19, p10_eq FUEL hf]
  rw [p17_eq _ _ (by simp only; omega) (by simp only; omega)]
theorem j9_eq (a b : ByteArray) (h : below a b = true) : j9_0 FUEL some (a, b) = some true := by
  have hf : 17 ≤ FUEL := by unfold FUEL; omega
  have hp := below_pos a b h
  have h : (strLess a b || strEq a b) = true := h
  have hc := cmpP_le (((hiN a 8 : Nat) : Int), ((loN a 8 : Nat) : Int)) (((hiN b 8 : Nat) : Int), ((loN b 8 : Nat) : Int)) (by simp only; omega)
  simp only [j9_0, p10_eq FUEL hf, p32_eq, p22, h, Bool.not_true, cond_false, p19_eq, p11_eq]
  rw [decide_eq_true hc.1, decide_eq_true hc.2, decide_eq_true (show (hiN a 8 : Int) / 288230376151711744 ≤ (hiN b 8 : Int) / 288230376151711744 by omega)]
  simp only [cond_true, decide_true]
theorem pure9 (a : ByteArray) (_ : Ty.wf .str a) (b : ByteArray) (_ : Ty.wf .str b) : p9 FUEL (a, b) = some true := by
  simp only [p9]
  cases h : below a b
  · have e : (!(strLess a b || strEq a b)) = true := by rw [show (strLess a b || strEq a b) = false from h]; rfl
    rw [e]
    exact j9_eq b a (below_or a b h)
  · have e : (!(strLess a b || strEq a b)) = false := by rw [show (strLess a b || strEq a b) = true from h]; rfl
    rw [e]
    exact j9_eq a b h
end Go.Am.Yteiklegkbjmjnaa
