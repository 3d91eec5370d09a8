/- Plain laws of the printed functions of keys: positions of texts. -/
import Derived.Test.YtkfmnkpajjnpoaaWalkRights
import Derived.Test.YtkfmnkpajjnpoaaAmZI
namespace Go.Am.Ytkfmnkpajjnpoaa
/-- The text's bytes, and zeros behind them. -/
def bN (s : ByteArray) (i : Nat) : Nat := (s.data[i]?.getD 0).toNat
theorem bN_lt (s : ByteArray) (i : Nat) : bN s i < 256 := UInt8.toNat_lt _
theorem bN_zero (s : ByteArray) (i : Nat) (h : s.size ≤ i) : bN s i = 0 := by
  unfold bN
  have : s.data[i]? = none := Array.getElem?_eq_none h
  rw [this]; rfl
theorem byteAt_eq (s : ByteArray) (i : Nat) : byteAt s (Int.toNat (i : Int)) = ((bN s i : Nat) : Int) := rfl

/-- Digits to the base 256. -/
def acc (f : Nat → Nat) : Nat → Nat
  | 0 => 0
  | i + 1 => 256 * acc f i + f i
theorem acc_lt (f : Nat → Nat) (hf : ∀ i, f i < 256) : ∀ i, acc f i < 2 ^ (8 * i) := by
  intro i
  induction i with
  | zero => simp [acc]
  | succ i ih =>
    have := hf i
    have e : 2 ^ (8 * (i + 1)) = 2 ^ (8 * i) * 256 := by rw [Nat.mul_add, Nat.pow_add]
    simp only [acc]; omega
theorem acc_zero (f : Nat → Nat) (n : Nat) (hf : ∀ i, n ≤ i → f i = 0) : ∀ t, acc f (n + t) = acc f n * 2 ^ (8 * t) := by
  intro t
  induction t with
  | zero => simp
  | succ t ih =>
    have e : 2 ^ (8 * (t + 1)) = 2 ^ (8 * t) * 256 := by rw [Nat.mul_add, Nat.pow_add]
    rw [← Nat.add_assoc]
    simp only [acc]
    rw [hf _ (by omega), ih, e, Nat.add_zero, Nat.mul_comm (2 ^ (8 * t)), ← Nat.mul_assoc, Nat.mul_comm 256]
    rw [Nat.mul_assoc]
def hiN (s : ByteArray) : Nat → Nat := acc (bN s)
def loN (s : ByteArray) : Nat → Nat := acc fun j => bN s (8 + j)

theorem hi_lt (s : ByteArray) (i : Nat) (h : i < 8) : 256 * hiN s i + bN s i < 18446744073709551616 := by
  have h1 := acc_lt (bN s) (bN_lt s) (i + 1)
  have h2 : 2 ^ (8 * (i + 1)) ≤ 2 ^ 64 := Nat.pow_le_pow_right (by omega) (by omega)
  have e : acc (bN s) (i + 1) = 256 * hiN s i + bN s i := rfl
  omega
theorem lo_lt (s : ByteArray) (i : Nat) (h : i < 8) : 256 * loN s i + bN s (8 + i) < 18446744073709551616 := by
  have h1 := acc_lt (fun j => bN s (8 + j)) (fun j => bN_lt s _) (i + 1)
  have h2 : 2 ^ (8 * (i + 1)) ≤ 2 ^ 64 := Nat.pow_le_pow_right (by omega) (by omega)
  have e : acc (fun j => bN s (8 + j)) (i + 1) = 256 * loN s i + bN s (8 + i) := rfl
  omega

theorem digit (h b : Nat) (hl : 256 * h + b < 18446744073709551616) : IntKind.wrap .u64 (IntKind.wrap .u64 ((256 : Int) * (h : Int)) + IntKind.wrap .u64 (b : Int)) = ((256 * h + b : Nat) : Int) := by
  rw [show (256 : Int) * (h : Int) = ((256 * h : Nat) : Int) by omega, wrapU (by omega), wrapU (by omega), show ((256 * h : Nat) : Int) + (b : Int) = ((256 * h + b : Nat) : Int) by omega, wrapU hl]
theorem digit0 (h : Nat) (hl : 256 * h < 18446744073709551616) : IntKind.wrap .u64 (IntKind.wrap .u64 ((256 : Int) * (h : Int)) + (0 : Int)) = ((256 * h : Nat) : Int) := by
  rw [show (256 : Int) * (h : Int) = ((256 * h : Nat) : Int) by omega, wrapU (by omega), Int.add_zero, wrapU hl]
theorem next (i : Nat) (h : i < 100) : IntKind.wrap .i64 ((i : Int) + 1) = ((i + 1 : Nat) : Int) := by
  rw [wrapI (by omega) (by omega)]; omega

section
variable (fuel : Nat) {R : Type} (k0 : ((Int × Int) × (Int × Int)) → Option R) (s : ByteArray) (p : Int × Int)
theorem loop16b : ∀ (n j : Nat), j ≤ 8 → 9 ≤ n + j → l64_1 fuel k0 n (s, ((8 + j : Nat) : Int), p, ((hiN s 8 : Nat) : Int), ((loN s j : Nat) : Int)) = k0 (p, ((hiN s 8 : Nat) : Int), ((loN s 8 : Nat) : Int)) := by
  intro n
  induction n with
  | zero => intro j h1 h2; omega
  | succ n ih =>
    intro j h1 h2
    show s64_1 fuel (l64_1 fuel k0 n) k0 _ = _
    simp only [s64_1, j64_0]
    by_cases hj : j < 8
    · rw [show decide (((8 + j : Nat) : Int) < 16) = true from decide_eq_true (by omega), show decide (((8 + j : Nat) : Int) < 8) = false from decide_eq_false (by omega)]
      simp only [cond_true, cond_false]
      rw [next _ (by omega), byteAt_eq]
      have e : 256 * loN s j + bN s (8 + j) = loN s (j + 1) := rfl
      have hl := lo_lt s j hj
      by_cases hs : 8 + j < s.size
      · rw [show decide (((8 + j : Nat) : Int) < ((ByteArray.size s : Nat) : Int)) = true from decide_eq_true (by omega), if_pos ⟨by omega, by omega⟩, digit _ _ hl, e]
        exact ih (j + 1) (by omega) (by omega)
      · have hz := bN_zero s (8 + j) (by omega)
        rw [show decide (((8 + j : Nat) : Int) < ((ByteArray.size s : Nat) : Int)) = false from decide_eq_false (by omega), digit0 _ (by omega), show 256 * loN s j = loN s (j + 1) by rw [← e, hz]; rfl]
        exact ih (j + 1) (by omega) (by omega)
    · obtain rfl : j = 8 := by omega
      rw [show decide (((8 + 8 : Nat) : Int) < 16) = false from decide_eq_false (by omega)]
      rfl
theorem loop16 : ∀ (n i : Nat), i ≤ 8 → 17 ≤ n + i → l64_1 fuel k0 n (s, (i : Int), p, ((hiN s i : Nat) : Int), (0 : Int)) = k0 (p, ((hiN s 8 : Nat) : Int), ((loN s 8 : Nat) : Int)) := by
  intro n
  induction n with
  | zero => intro j h1 h2; omega
  | succ n ih =>
    intro i h1 h2
    by_cases hi : i < 8
    · show s64_1 fuel (l64_1 fuel k0 n) k0 _ = _
      simp only [s64_1, j64_0]
      rw [show decide ((i : Int) < 16) = true from decide_eq_true (by omega), show decide ((i : Int) < 8) = true from decide_eq_true (by omega)]
      simp only [cond_true]
      rw [next _ (by omega), byteAt_eq]
      have e : 256 * hiN s i + bN s i = hiN s (i + 1) := rfl
      have hl := hi_lt s i hi
      by_cases hs : i < s.size
      · rw [show decide ((i : Int) < ((ByteArray.size s : Nat) : Int)) = true from decide_eq_true (by omega), if_pos ⟨by omega, by omega⟩, digit _ _ hl, e]
        exact ih (i + 1) (by omega) (by omega)
      · have hz := bN_zero s i (by omega)
        rw [show decide ((i : Int) < ((ByteArray.size s : Nat) : Int)) = false from decide_eq_false (by omega), digit0 _ (by omega), show 256 * hiN s i = hiN s (i + 1) by rw [← e, hz]; rfl]
        exact ih (i + 1) (by omega) (by omega)
    · obtain rfl : i = 8 := by omega
      exact loop16b fuel k0 s p (n + 1) 0 (by omega) (by omega)
end
theorem p16_eq (fuel : Nat) (hf : 17 ≤ fuel) (s : ByteArray) : p64 fuel s = some (((hiN s 8 : Nat) : Int), ((loN s 8 : Nat) : Int)) := by
  unfold p64
  exact loop16 fuel _ s (0, 0) fuel 0 (by omega) (by omega)

theorem tdiv8 (i : Nat) : Int.tdiv (i : Int) (8 : Int) = ((i / 8 : Nat) : Int) := rfl
theorem tmod8 (i : Nat) : Int.tmod (i : Int) (8 : Int) = ((i % 8 : Nat) : Int) := rfl
theorem place (i : Nat) (hi : i < 16) : IntKind.wrap .i64 (Int.tdiv (i : Int) (8 : Int)) = ((i / 8 : Nat) : Int) := by rw [tdiv8, wrapI (by omega) (by omega)]
theorem shift (i : Nat) : IntKind.wrap .i64 ((56 : Int) - IntKind.wrap .i64 ((8 : Int) * Int.tmod (i : Int) (8 : Int))) = ((56 - 8 * (i % 8) : Nat) : Int) := by
  rw [tmod8, wrapI (n := (8 : Int) * ((i % 8 : Nat) : Int)) (by omega) (by omega), wrapI (by omega) (by omega)]; omega
theorem mulPow (b k : Nat) : ((b : Nat) : Int) * 2 ^ k = ((b * 2 ^ k : Nat) : Int) := by rw [Int.natCast_mul, Int.natCast_pow]; rfl
theorem shifted (b k : Nat) (hb : b < 256) (hk : k ≤ 56) : IntKind.wrap .u64 (IntKind.wrap .u64 (b : Int) * 2 ^ (min (Int.toNat (k : Int)) (IntKind.bits .u64))) = ((b * 2 ^ k : Nat) : Int) := by
  have h1 : 2 ^ k ≤ 2 ^ 56 := Nat.pow_le_pow_right (by omega) hk
  have h2 : b * 2 ^ k ≤ 255 * 2 ^ 56 := Nat.mul_le_mul (by omega) h1
  rw [wrapU (by omega), Int.toNat_natCast, show min k (IntKind.bits .u64) = k from Nat.min_eq_left (by show k ≤ 64; omega), mulPow, wrapU (by omega)]
theorem orD (h b k : Nat) (hb : b < 256) (hl : (256 * h + b) * 2 ^ k < 18446744073709551616) : bitsOp .or .u64 ((h * 2 ^ (k + 8) : Nat) : Int) ((b * 2 ^ k : Nat) : Int) = (((256 * h + b) * 2 ^ k : Nat) : Int) := by
  have e8 : 2 ^ (k + 8) = 256 * 2 ^ k := by rw [Nat.pow_add]; omega
  have hp : 0 < 2 ^ k := Nat.two_pow_pos k
  have hy : b * 2 ^ k < 2 ^ (k + 8) := by rw [e8]; exact (Nat.mul_lt_mul_right hp).2 hb
  have hsum : h * 2 ^ (k + 8) + b * 2 ^ k = (256 * h + b) * 2 ^ k := by rw [e8, Nat.add_mul, ← Nat.mul_assoc, Nat.mul_comm h 256]
  have hor : h * 2 ^ (k + 8) ||| b * 2 ^ k = (256 * h + b) * 2 ^ k := by
    rw [Nat.mul_comm h, ← Nat.two_pow_add_eq_or_of_lt hy h, Nat.mul_comm _ h, hsum]
  show IntKind.wrap .u64 ((BitVec.ofInt 64 _ ||| BitVec.ofInt 64 _).toNat : Int) = _
  rw [BitVec.ofInt_natCast, BitVec.ofInt_natCast, BitVec.toNat_or, BitVec.toNat_ofNat, BitVec.toNat_ofNat, Nat.mod_eq_of_lt (by omega), Nat.mod_eq_of_lt (by omega), hor, wrapU hl]

theorem up_lt (x i : Nat) (hi : i < 8) (h : x < 2 ^ (8 * (i + 1))) : x * 2 ^ (56 - 8 * i) < 18446744073709551616 := by
  have h1 := (Nat.mul_lt_mul_right (Nat.two_pow_pos (56 - 8 * i))).2 h
  rw [← Nat.pow_add, show 8 * (i + 1) + (56 - 8 * i) = 64 by omega] at h1
  omega

theorem hi_end (s : ByteArray) (i : Nat) (hi : i ≤ 8) (h : s.size ≤ i) : hiN s 8 = hiN s i * 2 ^ (64 - 8 * i) := by
  have := acc_zero (bN s) i (fun j hj => bN_zero s j (by omega)) (8 - i)
  rw [show i + (8 - i) = 8 by omega, show 8 * (8 - i) = 64 - 8 * i by omega] at this
  exact this
theorem lo_end (s : ByteArray) (i : Nat) (hi : i ≤ 8) (h : s.size ≤ 8 + i) : loN s 8 = loN s i * 2 ^ (64 - 8 * i) := by
  have := acc_zero (fun j => bN s (8 + j)) i (fun j hj => bN_zero s _ (by omega)) (8 - i)
  rw [show i + (8 - i) = 8 by omega, show 8 * (8 - i) = 64 - 8 * i by omega] at this
  exact this

section
variable (fuel : Nat) {R : Type} (k0 : ((Int × Int) × (List Int)) → Option R) (s : ByteArray) (p : Int × Int)
theorem loop10b : ∀ (n j : Nat), j ≤ 8 → 9 ≤ n + j → l85_0 fuel k0 n (s, ((8 + j : Nat) : Int), p, [((hiN s 8 : Nat) : Int), ((loN s j * 2 ^ (64 - 8 * j) : Nat) : Int)]) = k0 (p, [((hiN s 8 : Nat) : Int), ((loN s 8 : Nat) : Int)]) := by
  intro n
  induction n with
  | zero => intro j h1 h2; omega
  | succ n ih =>
    intro j h1 h2
    show s85_0 fuel (l85_0 fuel k0 n) k0 _ = _
    simp only [s85_0]
    by_cases hs : 8 + j < s.size
    · rw [show decide (((8 + j : Nat) : Int) < ((ByteArray.size s : Nat) : Int)) = true from decide_eq_true (by omega)]
      simp only [cond_true]
      by_cases hj : j < 8
      · rw [show decide (((8 + j : Nat) : Int) < 16) = true from decide_eq_true (by omega), place _ (by omega), shift, next _ (by omega), byteAt_eq, show (8 + j) / 8 = 1 by omega, show (8 + j) % 8 = j by omega, shifted _ _ (bN_lt s _) (by omega)]
        simp only [cond_true]
        rw [if_pos ⟨by omega, by omega⟩]
        show (if 0 ≤ ((8 + j : Nat) : Int) ∧ ((8 + j : Nat) : Int) < ((ByteArray.size s : Nat) : Int) then (if ((56 - 8 * j : Nat) : Int) < 0 then none else (if 0 ≤ ((1 : Nat) : Int) ∧ ((1 : Nat) : Int) < ((2 : Nat) : Int) then
          l85_0 fuel k0 n (s, ((8 + (j + 1) : Nat) : Int), p, [((hiN s 8 : Nat) : Int), bitsOp .or .u64 ((loN s j * 2 ^ (64 - 8 * j) : Nat) : Int) ((bN s (8 + j) * 2 ^ (56 - 8 * j) : Nat) : Int)]) else none)) else none) = _
        rw [if_pos ⟨by omega, by omega⟩, if_neg (by omega), if_pos ⟨by omega, by omega⟩]
        have hl := up_lt (loN s (j + 1)) j hj (acc_lt (fun j => bN s (8 + j)) (fun j => bN_lt s _) (j + 1))
        have e := orD (loN s j) (bN s (8 + j)) (56 - 8 * j) (bN_lt s _) hl
        rw [show 56 - 8 * j + 8 = 64 - 8 * j by omega] at e
        rw [e, show 56 - 8 * j = 64 - 8 * (j + 1) by omega]
        exact ih (j + 1) (by omega) (by omega)
      · obtain rfl : j = 8 := by omega
        rw [show decide (((8 + 8 : Nat) : Int) < 16) = false from decide_eq_false (by omega)]
        simp only [cond_false, show loN s 8 * 2 ^ (64 - 8 * 8) = loN s 8 by simp]
    · rw [show decide (((8 + j : Nat) : Int) < ((ByteArray.size s : Nat) : Int)) = false from decide_eq_false (by omega), ← lo_end s j h1 (by omega)]
      rfl
theorem loop10 : ∀ (n i : Nat), i ≤ 8 → 17 ≤ n + i → l85_0 fuel k0 n (s, (i : Int), p, [((hiN s i * 2 ^ (64 - 8 * i) : Nat) : Int), (0 : Int)]) = k0 (p, [((hiN s 8 : Nat) : Int), ((loN s 8 : Nat) : Int)]) := by
  intro n
  induction n with
  | zero => intro j h1 h2; omega
  | succ n ih =>
    intro i h1 h2
    by_cases hi : i < 8
    · show s85_0 fuel (l85_0 fuel k0 n) k0 _ = _
      simp only [s85_0]
      by_cases hs : i < s.size
      · rw [show decide ((i : Int) < ((ByteArray.size s : Nat) : Int)) = true from decide_eq_true (by omega), show decide ((i : Int) < 16) = true from decide_eq_true (by omega)]
        simp only [cond_true]
        rw [place _ (by omega), shift, next _ (by omega), byteAt_eq, show i / 8 = 0 by omega, show i % 8 = i by omega, shifted _ _ (bN_lt s _) (by omega)]
        rw [if_pos ⟨by omega, by omega⟩]
        show (if 0 ≤ (i : Int) ∧ (i : Int) < ((ByteArray.size s : Nat) : Int) then (if ((56 - 8 * i : Nat) : Int) < 0 then none else (if 0 ≤ ((0 : Nat) : Int) ∧ ((0 : Nat) : Int) < ((2 : Nat) : Int) then
          l85_0 fuel k0 n (s, ((i + 1 : Nat) : Int), p, [bitsOp .or .u64 ((hiN s i * 2 ^ (64 - 8 * i) : Nat) : Int) ((bN s i * 2 ^ (56 - 8 * i) : Nat) : Int), (0 : Int)]) else none)) else none) = _
        rw [if_pos ⟨by omega, by omega⟩, if_neg (by omega), if_pos ⟨by omega, by omega⟩]
        have hl := up_lt (hiN s (i + 1)) i hi (acc_lt (bN s) (bN_lt s) (i + 1))
        have e := orD (hiN s i) (bN s i) (56 - 8 * i) (bN_lt s _) hl
        rw [show 56 - 8 * i + 8 = 64 - 8 * i by omega] at e
        rw [e, show 56 - 8 * i = 64 - 8 * (i + 1) by omega]
        exact ih (i + 1) (by omega) (by omega)
      · rw [show decide ((i : Int) < ((ByteArray.size s : Nat) : Int)) = false from decide_eq_false (by omega), ← hi_end s i h1 (by omega)]
        have h0 : loN s 8 = 0 := by rw [lo_end s 0 (by omega) (by omega)]; simp [loN, acc]
        rw [h0]
        simp only [cond_false]
        rfl
    · obtain rfl : i = 8 := by omega
      have := loop10b fuel k0 s p (n + 1) 0 (by omega) (by omega)
      rw [show loN s 0 * 2 ^ (64 - 8 * 0) = 0 by simp [loN, acc]] at this
      rw [show hiN s 8 * 2 ^ (64 - 8 * 8) = hiN s 8 by simp]
      exact this
end
theorem p10_eq (fuel : Nat) (hf : 17 ≤ fuel) (s : ByteArray) : p85 fuel s = some (((hiN s 8 : Nat) : Int), ((loN s 8 : Nat) : Int)) := by
  have h := fun k => loop10 (R := Int × Int) fuel k s (0, 0) fuel 0 (by omega) (by omega)
  simp only [show hiN s 0 * 2 ^ (64 - 8 * 0) = 0 by simp [hiN, acc]] at h
  unfold p85
  exact h _

end Go.Am.Ytkfmnkpajjnpoaa
