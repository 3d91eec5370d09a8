/- Plain laws of strings in order: where two part. -/
import Derived.Test.YtbbbdckbcicmbaaBalanceA
namespace Go.Am.Ytbbbdckbcicmbaa
theorem less_or : ∀ (l r : List UInt8), Op.bytesLess l r = false → l ≠ r → Op.bytesLess r l = true
  | [], [], _, h => absurd rfl h
  | _ :: _, [], _, _ => by simp [Op.bytesLess]
  | [], _ :: _, h, _ => by simp [Op.bytesLess] at h
  | a :: x, b :: y, h, hn => by
    simp only [Op.bytesLess, Bool.or_eq_false_iff, Bool.and_eq_false_iff, decide_eq_false_iff_not, beq_eq_false_iff_ne, ne_eq] at h
    simp only [Op.bytesLess, Bool.or_eq_true, Bool.and_eq_true, decide_eq_true_eq, beq_iff_eq]
    obtain ⟨h1, h2⟩ := h
    by_cases e : a = b
    · subst e
      refine Or.inr ⟨rfl, less_or x y (h2.resolve_left fun g => g rfl) fun g => hn (by rw [g])⟩
    · refine Or.inl ?_
      have h1 : ¬ a.toNat < b.toNat := h1
      have h3 : a.toNat ≠ b.toNat := fun g => e (UInt8.toNat_inj.1 g)
      show b.toNat < a.toNat
      omega
theorem less_trans : ∀ (a b c : List UInt8), Op.bytesLess a b = true → Op.bytesLess b c = true → Op.bytesLess a c = true
  | _, [], _, h, _ => by simp [Op.bytesLess] at h
  | _, _ :: _, [], _, h => by simp [Op.bytesLess] at h
  | [], _ :: _, _ :: _, _, _ => by simp [Op.bytesLess]
  | x :: a, y :: b, z :: c, h, g => by
    simp only [Op.bytesLess, Bool.or_eq_true, Bool.and_eq_true, decide_eq_true_eq, beq_iff_eq] at h g ⊢
    rcases h with h | ⟨rfl, h⟩
    · rcases g with g | ⟨rfl, g⟩
      · exact .inl (Nat.lt_trans h g)
      · exact .inl h
    · rcases g with g | ⟨rfl, g⟩
      · exact .inl g
      · exact .inr ⟨rfl, less_trans a b c h g⟩
theorem less_irr : ∀ a : List UInt8, Op.bytesLess a a = false
  | [] => rfl
  | x :: a => by
    simp only [Op.bytesLess, less_irr a, Bool.and_false, Bool.or_false, decide_eq_false_iff_not]
    exact Nat.lt_irrefl _
theorem less_asym {a b : List UInt8} (h : Op.bytesLess a b = true) : Op.bytesLess b a = false := by
  cases g : Op.bytesLess b a
  · rfl
  · have := less_trans a b a h g
    rw [less_irr] at this; cases this
theorem less_of {x t b : List UInt8} (h : Op.bytesLess x t = true) (g : Op.bytesLess b t = false) : Op.bytesLess x b = true := by
  by_cases e : b = t
  · rw [e]; exact h
  · exact less_trans _ _ _ h (less_or _ _ g e)
theorem greater (x y : List UInt8) : (!(Op.bytesLess x y || x == y)) = Op.bytesLess y x := by
  cases h : Op.bytesLess x y
  · by_cases e : x = y
    · subst e; simp [less_irr]
    · rw [less_or _ _ h e]; simp [e]
  · rw [less_asym h]; rfl
/-- How far two are alike. -/
def lcp : List UInt8 → List UInt8 → Nat
  | x :: a, y :: b => if x = y then lcp a b + 1 else 0
  | _, _ => 0
theorem lcp_lt : ∀ (a b : List UInt8), Op.bytesLess a b = true → lcp a b < b.length
  | _, [], h => by simp [Op.bytesLess] at h
  | [], _ :: _, _ => by simp [lcp]
  | x :: a, y :: b, h => by
    simp only [Op.bytesLess, Bool.or_eq_true, Bool.and_eq_true, decide_eq_true_eq, beq_iff_eq] at h
    simp only [lcp, List.length_cons]
    split
    · rename_i e
      subst e
      rcases h with h | ⟨_, h⟩
      · exact absurd h (Nat.lt_irrefl _)
      · have := lcp_lt a b h; omega
    · omega
theorem lcp_take : ∀ (a b : List UInt8) (k : Nat), k ≤ lcp a b → Op.bytesLess a (b.take k) = false
  | a, _, 0, _ => by rw [List.take_zero]; cases a <;> rfl
  | [], b, k + 1, h => by cases b <;> simp [lcp] at h
  | _ :: _, [], k + 1, h => by simp [lcp] at h
  | x :: a, y :: b, k + 1, h => by
    simp only [lcp] at h
    split at h
    · rename_i e
      subst e
      rw [List.take_succ_cons]
      simp only [Op.bytesLess, lcp_take a b k (by omega), Bool.and_false, Bool.or_false, decide_eq_false_iff_not]
      exact Nat.lt_irrefl _
    · omega
theorem lcp_take1 : ∀ (a b : List UInt8), Op.bytesLess a b = true → Op.bytesLess a (b.take (lcp a b + 1)) = true
  | _, [], h => by simp [Op.bytesLess] at h
  | [], _ :: _, _ => by simp [lcp, Op.bytesLess]
  | x :: a, y :: b, h => by
    simp only [Op.bytesLess, Bool.or_eq_true, Bool.and_eq_true, decide_eq_true_eq, beq_iff_eq] at h
    rw [List.take_succ_cons]
    simp only [Op.bytesLess, Bool.or_eq_true, Bool.and_eq_true, decide_eq_true_eq, beq_iff_eq]
    rcases h with h | ⟨e, h⟩
    · exact .inl h
    · subst e
      refine .inr ⟨rfl, ?_⟩
      simp only [lcp, if_true]
      exact lcp_take1 a b h
theorem lcp_same : ∀ (a b : List UInt8) (j : Nat), j < lcp a b → a[j]? = b[j]? ∧ j < a.length ∧ j < b.length
  | [], b, j, h => by cases b <;> simp [lcp] at h
  | _ :: _, [], j, h => by simp [lcp] at h
  | x :: a, y :: b, j, h => by
    simp only [lcp] at h
    split at h
    · rename_i e
      subst e
      cases j with
      | zero => simp
      | succ j =>
        have := lcp_same a b j (by omega)
        simp only [List.getElem?_cons_succ, List.length_cons]
        exact ⟨this.1, by omega, by omega⟩
    · omega
theorem lcp_stop : ∀ (a b : List UInt8), lcp a b < a.length → lcp a b < b.length → a[lcp a b]? ≠ b[lcp a b]?
  | [], _, h, _ => by simp at h
  | _ :: _, [], _, h => by simp at h
  | x :: a, y :: b, h, g => by
    simp only [lcp] at h g ⊢
    split
    · rename_i e
      subst e
      rw [if_pos rfl] at h g
      simp only [List.getElem?_cons_succ]
      exact lcp_stop a b (by simpa using h) (by simpa using g)
    · rename_i e
      simpa using e
theorem take_less (b : List UInt8) (k : Nat) : Op.bytesLess b (b.take k) = false := by
  cases h : Op.bytesLess b (b.take k)
  · rfl
  · exfalso
    have : ∀ (b : List UInt8) (k : Nat), Op.bytesLess b (b.take k) = false := by
      intro b
      induction b with
      | nil => intro k; rw [List.take_nil]; rfl
      | cons x b ih =>
        intro k
        cases k with
        | zero => rfl
        | succ k =>
          rw [List.take_succ_cons]
          simp only [Op.bytesLess, ih k, Bool.and_false, Bool.or_false, decide_eq_false_iff_not]
          exact Nat.lt_irrefl _
    rw [this] at h; cases h
-- strings
theorem size_toList (s : ByteArray) : s.toList.length = s.size := by rw [ByteArray.toList_eq]; rfl
theorem byteAt_toList (s : ByteArray) (i : Nat) : byteAt s i = (((s.toList[i]?).getD 0).toNat : Int) := by
  rw [ByteArray.toList_eq]; simp [byteAt]
theorem extract_toList (s : ByteArray) (k : Nat) : (s.extract 0 k).toList = s.toList.take k := by
  rw [ByteArray.toList_eq, ByteArray.toList_eq]; simp
theorem byteAt_same {a b : ByteArray} {i : Nat} (ha : i < a.toList.length) (hb : i < b.toList.length) : decide (byteAt a i = byteAt b i) = decide (a.toList[i]? = b.toList[i]?) := by
  rw [byteAt_toList, byteAt_toList, List.getElem?_eq_getElem ha, List.getElem?_eq_getElem hb]
  simp only [Option.getD_some, Option.some.injEq, ← UInt8.toNat_inj, Int.ofNat_inj]
theorem strEq_self (a : ByteArray) : strEq a a = true := by simp [strEq]
end Go.Am.Ytbbbdckbcicmbaa
