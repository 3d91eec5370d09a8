/- Plain laws of the printed functions of draws: nil; first numbers; skipping. -/
import Derived.Test.YtjnnbkfnhfondaaWalk
import Derived.Test.YtjnnbkfnhfondaaAmZF
namespace Go.Am.Ytjnnbkfnhfondaa
theorem p7_eq : p7 FUEL () = some true := by kernel_rfl
theorem pure6 (n : Int) (_ : Ty.wf (.int .i64) n) (l : List Int) (_ : Ty.wf (.slice (.int .i64)) l) : p6 FUEL (n, l) = some true := by
  simp only [p6, p7_eq]; rfl

theorem xorU (a b : Nat) (ha : a < 18446744073709551616) (hb : b < 18446744073709551616) : bitsOp .xor .u64 (a : Int) (b : Int) = ((a ^^^ b : Nat) : Int) := by
  show IntKind.wrap .u64 ((BitVec.ofInt 64 _ ^^^ BitVec.ofInt 64 _).toNat : Int) = _
  have h : a ^^^ b < 18446744073709551616 := Nat.xor_lt_two_pow (n := 64) ha hb
  rw [BitVec.ofInt_natCast, BitVec.ofInt_natCast, BitVec.toNat_xor, BitVec.toNat_ofNat, BitVec.toNat_ofNat, Nat.mod_eq_of_lt ha, Nat.mod_eq_of_lt hb, wrapU h]
theorem fdivP (a k : Nat) : Int.fdiv (a : Int) (2 ^ k) = ((a / 2 ^ k : Nat) : Int) := by
  have e : ((2 : Int) ^ k) = ((2 ^ k : Nat) : Int) := by rw [Int.natCast_pow]; rfl
  rw [e, Int.fdiv_eq_ediv_of_nonneg _ (Int.natCast_nonneg _)]; rfl
/-- A number and itself some places lower. -/
def xs (k a : Nat) : Nat := a ^^^ a / 2 ^ k
theorem xs_lt (k a : Nat) (h : a < 18446744073709551616) : xs k a < 18446744073709551616 :=
  Nat.xor_lt_two_pow (n := 64) h (Nat.lt_of_le_of_lt (Nat.div_le_self _ _) h)
theorem xs_eq (k a : Nat) (h : a < 18446744073709551616) : bitsOp .xor .u64 (a : Int) (Int.fdiv (a : Int) (2 ^ k)) = ((xs k a : Nat) : Int) := by
  rw [fdivP, xorU a _ h (Nat.lt_of_le_of_lt (Nat.div_le_self _ _) h)]; rfl
theorem xs_inj (k : Nat) (hk : 0 < k) (a b : Nat) (h : xs k a = xs k b) : a = b := by
  unfold xs at h
  rw [← Nat.shiftRight_eq_div_pow, ← Nat.shiftRight_eq_div_pow] at h
  have h2 : a ^^^ b = (a ^^^ b) >>> k := by
    rw [Nat.shiftRight_xor_distrib]
    have e : (a ^^^ a >>> k) ^^^ (b ^^^ a >>> k) = (b ^^^ b >>> k) ^^^ (b ^^^ a >>> k) := by rw [h]
    have e1 : (a ^^^ a >>> k) ^^^ (b ^^^ a >>> k) = a ^^^ b := by
      rw [Nat.xor_comm b, Nat.xor_assoc, ← Nat.xor_assoc (a >>> k), Nat.xor_self, Nat.zero_xor]
    have e2 : (b ^^^ b >>> k) ^^^ (b ^^^ a >>> k) = a >>> k ^^^ b >>> k := by
      rw [Nat.xor_comm b (b >>> k), Nat.xor_assoc, ← Nat.xor_assoc b, Nat.xor_self, Nat.zero_xor, Nat.xor_comm]
    rw [e1, e2] at e; exact e
  rw [Nat.shiftRight_eq_div_pow] at h2
  have h3 : a ^^^ b = 0 := by
    rcases Nat.eq_zero_or_pos (a ^^^ b) with h0 | h0
    · exact h0
    · have := Nat.div_lt_self h0 (show 1 < 2 ^ k from Nat.one_lt_two_pow (by omega))
      omega
  have h4 : (a ^^^ b) ^^^ b = b := by rw [h3, Nat.zero_xor]
  rw [Nat.xor_assoc, Nat.xor_self, Nat.xor_zero] at h4
  exact h4
theorem mul_inv (M c c' : Nat) (h : c * c' % M = 1 % M) (x : Nat) (hx : x < M) : x * c % M * c' % M = x := by
  rw [Nat.mul_mod, Nat.mod_mod, ← Nat.mul_mod, Nat.mul_assoc, Nat.mul_mod, h, ← Nat.mul_mod, Nat.mul_one, Nat.mod_eq_of_lt hx]
theorem mul_inj (M c c' : Nat) (h : c * c' % M = 1 % M) (x y : Nat) (hx : x < M) (hy : y < M) (e : x * c % M = y * c % M) : x = y := by
  rw [← mul_inv M c c' h x hx, ← mul_inv M c c' h y hy, e]
def mixN (a : Nat) : Nat := xs 31 (xs 27 (xs 30 a * 13787848793156543929 % 18446744073709551616) * 10723151780598845931 % 18446744073709551616)
theorem mixN_lt (a : Nat) : mixN a < 18446744073709551616 := xs_lt _ _ (Nat.mod_lt _ (by decide))
theorem mixN_inj (a b : Nat) (ha : a < 18446744073709551616) (hb : b < 18446744073709551616) (h : mixN a = mixN b) : a = b := by
  unfold mixN at h
  have h1 := xs_inj 31 (by decide) _ _ h
  have l1 := xs_lt 27 (xs 30 a * 13787848793156543929 % 18446744073709551616) (Nat.mod_lt _ (by decide))
  have l2 := xs_lt 27 (xs 30 b * 13787848793156543929 % 18446744073709551616) (Nat.mod_lt _ (by decide))
  have h2 := xs_inj 27 (by decide) _ _ (mul_inj 18446744073709551616 10723151780598845931 3573116690164977347 rfl _ _ l1 l2 h1)
  exact xs_inj 30 (by decide) _ _ (mul_inj 18446744073709551616 13787848793156543929 10871156337175269513 rfl _ _ (xs_lt 30 a ha) (xs_lt 30 b hb) h2)
theorem p22_eq (fuel : Nat) (a : Nat) (ha : a < 18446744073709551616) : p22 fuel (a : Int) = some ((mixN a : Nat) : Int) := by
  have hm : ∀ x c : Nat, IntKind.wrap .u64 ((x : Int) * (c : Int)) = ((x * c % 18446744073709551616 : Nat) : Int) := fun x c => by
    rw [wrapU_mod, Int.natCast_emod, Int.natCast_mul, show ((18446744073709551616 : Nat) : Int) = 18446744073709551616 from rfl]
  unfold mixN
  simp only [p22]
  rw [xs_eq 30 a ha, show (13787848793156543929 : Int) = ((13787848793156543929 : Nat) : Int) from rfl, hm, xs_eq 27 _ (Nat.mod_lt _ (by decide)), show (10723151780598845931 : Int) = ((10723151780598845931 : Nat) : Int) from rfl, hm, xs_eq 31 _ (Nat.mod_lt _ (by decide))]
/-- The state behind a step. -/
def stepN (a : Nat) : Nat := (a + 11400714819323198485) % 18446744073709551616
theorem stepN_lt (a : Nat) : stepN a < 18446744073709551616 := Nat.mod_lt _ (by decide)
theorem step_eq (a : Nat) : IntKind.wrap .u64 ((a : Int) + 11400714819323198485) = ((stepN a : Nat) : Int) := by
  rw [wrapU_mod]; unfold stepN; omega
theorem p9_eq (fuel : Nat) (a : Nat) : p9 fuel (a : Int) = some (((mixN (stepN a) : Nat) : Int), ((stepN a : Nat) : Int)) := by
  simp only [p9, step_eq, p22_eq fuel _ (stepN_lt a)]
def stepsN (a n : Nat) : Nat := (a + n * 11400714819323198485) % 18446744073709551616
theorem loop3 (fuel : Nat) {R : Type} (k0 : (Int × Int × Int × Bool × Bool × Int × Int) → Option R) (a b : Int) (skip : Nat) (p q : Bool) (x z : Nat) (hs : skip < 500) : ∀ (n i : Nat), i ≤ skip → skip < n + i →
    l3_0 fuel k0 n (a, b, (skip : Int), p, q, (i : Int), ((stepsN x i : Nat) : Int), (z : Int)) = k0 (a, b, (skip : Int), p, q, ((stepsN x skip : Nat) : Int), (z : Int)) := by
  intro n
  induction n with
  | zero => intro i h1 h2; omega
  | succ n ih =>
    intro i h1 h2
    show s3_0 fuel (l3_0 fuel k0 n) k0 _ = _
    simp only [s3_0, p9_eq]
    rcases Nat.lt_or_ge i skip with hlt | hge
    · rw [decide_eq_true (show (i : Int) < (skip : Int) by omega), cond_true, wrapNext i (by omega), show stepN (stepsN x i) = stepsN x (i + 1) by unfold stepN stepsN; omega]
      exact ih (i + 1) (by omega) (by omega)
    · obtain rfl : i = skip := by omega
      rw [decide_eq_false (by omega)]; rfl
theorem loop3_0 (fuel : Nat) {R : Type} (k0 : (Int × Int × Int × Bool × Bool × Int × Int) → Option R) (a b : Int) (skip : Nat) (p q : Bool) (x z : Nat) (hs : skip < 500) (hf : 500 ≤ fuel) (hx : x < 18446744073709551616) :
    l3_0 fuel k0 fuel (a, b, (skip : Int), p, q, (0 : Int), (x : Int), (z : Int)) = k0 (a, b, (skip : Int), p, q, ((stepsN x skip : Nat) : Int), (z : Int)) := by
  have h := loop3 fuel k0 a b skip p q x z hs fuel 0 (Nat.zero_le _) (by omega)
  have h0 : stepsN x 0 = x := by unfold stepsN; omega
  rw [h0] at h
  exact h
theorem p10_eq (fuel : Nat) (a m : Nat) (hm : m < 500) : p10 fuel (IntKind.wrap .u64 (m : Int), (a : Int)) = some ((stepsN a m : Nat) : Int) := by
  have hz : IntKind.wrap .u64 ((a : Int) + IntKind.wrap .u64 (IntKind.wrap .u64 (m : Int) * 11400714819323198485)) = ((stepsN a m : Nat) : Int) := by
    rw [wrapU (n := m) (by omega), wrapU_mod, wrapU_mod]; unfold stepsN; omega
  simp only [p10, hz]
theorem first_eq (a b : Nat) (ha : a < 18446744073709551616) (hb : b < 18446744073709551616) : decide (((mixN (stepN a) : Nat) : Int) = ((mixN (stepN b) : Nat) : Int)) = decide ((a : Int) = (b : Int)) := by
  have key : mixN (stepN a) = mixN (stepN b) ↔ a = b := by
    constructor
    · intro e
      have h1 := mixN_inj _ _ (stepN_lt a) (stepN_lt b) e
      unfold stepN at h1; omega
    · intro e; rw [e]
  generalize mixN (stepN a) = x at key ⊢
  generalize mixN (stepN b) = y at key ⊢
  congr 1
  apply propext
  constructor
  · intro e; have := key.1 (by omega); omega
  · intro e; have := key.2 (by omega); omega
theorem j3_eq (a b : Nat) (ha : a < 18446744073709551616) (hb : b < 18446744073709551616) (n : Int) (hn : 0 ≤ n) : j3_1 FUEL some ((a : Int), (b : Int), n, true, (a : Int), (b : Int), (a : Int)) = some true := by
  obtain ⟨m, hm⟩ : ∃ m : Nat, Int.tmod n 500 = (m : Int) ∧ m < 500 := ⟨(n % 500).toNat, by rw [tmod_pos hn]; omega, by omega⟩
  have hfst := first_eq a b ha hb
  simp only [j3_1, p9_eq, p8, hm.1]
  generalize mixN (stepN a) = x at hfst ⊢
  generalize mixN (stepN b) = y at hfst ⊢
  rw [loop3_0 FUEL _ _ _ m _ _ a a hm.2 (fuel_big (by omega)) ha]
  simp only [p10_eq FUEL a m hm.2]
  generalize stepsN a m = s
  simp only [p11, p9_eq]
  generalize mixN (stepN s) = t
  rw [hfst]
  simp
theorem pure3 (a : Int) (wa : Ty.wf (.int .u64) a) (b : Int) (wb : Ty.wf (.int .u64) b) (n : Int) (wn : Ty.wf (.int .i64) n) : p3 FUEL (a, b, n) = some true := by
  have ha := wf_u64 wa; have hb := wf_u64 wb; have hn := wf_i64 wn
  obtain ⟨a, rfl⟩ := Int.eq_ofNat_of_zero_le ha.1
  obtain ⟨b, rfl⟩ := Int.eq_ofNat_of_zero_le hb.1
  simp only [p3, p7_eq, p8]
  by_cases h : n < 0
  · rw [decide_eq_true h, cond_true, wrapI (n := n + 1) (by omega) (by omega), wrapI (by omega) (by omega)]
    exact j3_eq a b (by omega) (by omega) _ (by omega)
  · rw [decide_eq_false h, cond_false]
    exact j3_eq a b (by omega) (by omega) _ (by omega)
end Go.Am.Ytjnnbkfnhfondaa
