/- Plain laws of the printed functions of keys: turns. -/
import Derived.Test.YteiklegkbjmjnaaPlain
import Derived.Test.YteiklegkbjmjnaaAmZE
namespace Go.Am.Yteiklegkbjmjnaa
theorem p20_ok (fuel : Nat) (p : Int × Int) (i : Int) (h0 : 0 ≤ i) (h4 : i < 4) : p20 fuel ((p, (i, ())), ()) = some (((IntKind.wrap .u64 (p.1 + i * 4611686018427387904), p.2), (0, ())), ()) := by
  have e : IntKind.wrap .u64 (IntKind.wrap .u64 i * 2 ^ 62) = i * 4611686018427387904 := by
    obtain ⟨n, rfl⟩ := Int.eq_ofNat_of_zero_le h0
    rw [show ((n : Nat) : Int) = (n : Int) from rfl, wrapU (by omega), show (n : Int) * 2 ^ 62 = ((n * 4611686018427387904 : Nat) : Int) by omega, wrapU (by omega)]
    omega
  unfold p20
  simp only [show decide (i < (0 : Int)) = false from decide_eq_false (by omega), show decide ((4 : Int) ≤ i) = false from decide_eq_false (by omega), cond_false, e]

theorem acc_congr (f g : Nat → Nat) : ∀ n, (∀ i, i < n → f i = g i) → acc f n = acc g n := by
  intro n
  induction n with
  | zero => intro _; rfl
  | succ n ih => intro h; simp only [acc]; rw [ih fun i hi => h i (by omega), h n (by omega)]

theorem bN_head (s : ByteArray) (n i : Nat) (hn : n = min 16 s.size) (hi : i < 16) : bN (s.extract 0 n) i = bN s i := by
  rcases Nat.lt_or_ge i n with h | h
  · unfold bN
    have : (s.extract 0 n).data[i]? = s.data[i]? := by
      rw [ByteArray.data_extract, Array.getElem?_extract]
      have hs : s.data.size = s.size := rfl
      rw [if_pos (by omega), Nat.zero_add]
    rw [this]
  · rw [bN_zero _ _ (by rw [ByteArray.size_extract]; omega), bN_zero s i (by omega)]

def cut (s : ByteArray) : Int := if (16 : Int) < ((ByteArray.size s : Nat) : Int) then (16 : Int) else ((ByteArray.size s : Nat) : Int)
theorem cut_eq (s : ByteArray) : cut s = ((min 16 s.size : Nat) : Int) := by unfold cut; split <;> omega

def tail4 (fuel : Nat) (p : Int × Int) (a b : Int) (s : ByteArray) : Option (Bool × Unit) :=
  match p20 fuel ((p, (a, ())), ()) with
  | some z4 => (match p20 fuel ((z4.1.1, (b, ())), ()) with
    | some z5 => (match p20 fuel ((p, ((Int.tmod (IntKind.wrap .i64 (a + b)) (4 : Int)), ())), ()) with
      | some z6 => (if 0 ≤ cut s ∧ cut s ≤ ((ByteArray.size s : Nat) : Int) then (match p11 fuel ((), ()) with
        | some z8 => (bif z8.1 then (bif (decide (z4.1.2.1 = (0 : Int))) then (bif (decide (z5.1.2.1 = (0 : Int))) then (bif (decide (z6.1.2.1 = (0 : Int))) then (bif (Ty.eqB (.pair (.int .u64) (.int .u64)) z5.1.1 z6.1.1) then (match p10 fuel ((s, ()), ()) with
          | some z9 => (match p10 fuel (((ByteArray.extract s 0 (Int.toNat (cut s))), ()), ()) with
            | some z10 => (some ((Ty.eqB (.pair (.int .u64) (.int .u64)) z9.1 z10.1), ()))
            | none => none)
          | none => none) else (some (false, ()))) else (some (false, ()))) else (some (false, ()))) else (some (false, ()))) else (some (false, ())))
        | none => none) else none)
      | none => none)
    | none => none)
  | none => none

def quarter (i : Int) : Int := bif decide (i < 0) then Int.tmod (IntKind.wrap .i64 (0 - (IntKind.wrap .i64 (i + (1 : Int))))) (4 : Int) else Int.tmod i 4

theorem p4_eq (fuel : Nat) (x : (Int × Int) × (Int × (Int × ByteArray))) : p4 fuel ((x, ()), ()) = tail4 fuel x.1 (quarter x.2.1) (quarter x.2.2.1) x.2.2.2 := by
  cases h1 : decide (x.2.1 < 0) <;> cases h2 : decide (x.2.2.1 < 0) <;> simp only [p4, quarter, h1, h2, cond_true, cond_false] <;> rfl

theorem tail_ok (p : Int × Int) (a b : Int) (s : ByteArray) (ha : 0 ≤ a ∧ a < 4) (hb : 0 ≤ b ∧ b < 4) : tail4 FUEL p a b s = some (true, ()) := by
  have hf : 17 ≤ FUEL := by unfold FUEL; omega
  have hab : Int.tmod (IntKind.wrap .i64 (a + b)) 4 = (a + b) % 4 := by rw [wrapI (by omega) (by omega), Int.tmod_eq_emod_of_nonneg (by omega)]
  have hw : IntKind.wrap .u64 (IntKind.wrap .u64 (p.1 + a * 4611686018427387904) + b * 4611686018427387904) = IntKind.wrap .u64 (p.1 + (a + b) % 4 * 4611686018427387904) := by
    show (((p.1 + a * 4611686018427387904) % (2 ^ 64 : Int)) + b * 4611686018427387904) % (2 ^ 64 : Int) = (p.1 + (a + b) % 4 * 4611686018427387904) % (2 ^ 64 : Int)
    omega
  have hh : hiN (s.extract 0 (min 16 s.size)) 8 = hiN s 8 := acc_congr _ _ 8 fun i hi => bN_head s _ i rfl (by omega)
  have hl : loN (s.extract 0 (min 16 s.size)) 8 = loN s 8 := acc_congr _ _ 8 fun i hi => bN_head s _ (8 + i) rfl (by omega)
  unfold tail4
  have hc : (0 : Int) ≤ ((min 16 s.size : Nat) : Int) ∧ ((min 16 s.size : Nat) : Int) ≤ ((ByteArray.size s : Nat) : Int) := ⟨by omega, by omega⟩
  rw [hab, cut_eq]
  simp only [if_pos hc, Int.toNat_natCast, p20_ok FUEL p a ha.1 ha.2, p20_ok FUEL _ b hb.1 hb.2, p20_ok FUEL p ((a + b) % 4) (by omega) (by omega), p11_eq, p10_eq FUEL hf, hw, hh, hl, eqB_int2, cond_true, decide_true]

theorem pure4 (x : (Int × Int) × (Int × (Int × ByteArray))) (w : Ty.wf (.pair (.pair (.int .u64) (.int .u64)) (.pair (.int .i64) (.pair (.int .i64) .str))) x) : p4 FUEL ((x, ()), ()) = some (true, ()) := by
  obtain ⟨_, hi, hj, _⟩ := w
  have q : ∀ i : Int, (Lit.int .i64 i).wf = true → 0 ≤ quarter i ∧ quarter i < 4 := by
    intro i hi
    have hr : -9223372036854775808 ≤ i ∧ i ≤ 9223372036854775807 := by simpa [Lit.wf, IntKind.min, IntKind.max, IntKind.signed, IntKind.bits] using hi
    unfold quarter
    by_cases h : i < 0
    · rw [decide_eq_true h, cond_true, wrapI (n := i + 1) (by omega) (by omega), wrapI (by omega) (by omega), Int.tmod_eq_emod_of_nonneg (by omega)]; omega
    · rw [decide_eq_false h, cond_false, Int.tmod_eq_emod_of_nonneg (by omega)]; omega
  rw [p4_eq]
  exact tail_ok _ _ _ _ (q _ hi) (q _ hj)
end Go.Am.Yteiklegkbjmjnaa
