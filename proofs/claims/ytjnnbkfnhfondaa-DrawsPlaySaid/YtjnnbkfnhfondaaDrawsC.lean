/- Plain laws of the printed functions of draws: the document's numbers are the program's. -/
import Derived.Test.YtjnnbkfnhfondaaDrawsB
namespace Go.Am.Ytjnnbkfnhfondaa
theorem tdivN (a k : Nat) : Int.tdiv (a : Int) (k : Int) = ((a / k : Nat) : Int) := rfl
theorem xsD (k q a : Nat) (hq : 2 ^ k = q) (h : a < 18446744073709551616) : bitsOp .xor .u64 (a : Int) (IntKind.wrap .u64 (Int.tdiv (a : Int) (q : Int))) = ((xs k a : Nat) : Int) := by
  have hle : a / q ≤ a := Nat.div_le_self _ _
  rw [tdivN, wrapU (by omega), xorU a _ h (by omega)]
  unfold xs
  rw [hq]
theorem p24_eq (fuel : Nat) (a : Nat) (ha : a < 18446744073709551616) : p24 fuel (a : Int) = some ((mixN a : Nat) : Int) := by
  have hm : ∀ x c : Nat, IntKind.wrap .u64 ((x : Int) * (c : Int)) = ((x * c % 18446744073709551616 : Nat) : Int) := fun x c => by
    rw [wrapU_mod, Int.natCast_emod, Int.natCast_mul, show ((18446744073709551616 : Nat) : Int) = 18446744073709551616 from rfl]
  unfold mixN
  simp only [p24]
  rw [show (1073741824 : Int) = ((1073741824 : Nat) : Int) from rfl, xsD 30 1073741824 a rfl ha, show (13787848793156543929 : Int) = ((13787848793156543929 : Nat) : Int) from rfl, hm,
    show (134217728 : Int) = ((134217728 : Nat) : Int) from rfl, xsD 27 134217728 _ rfl (Nat.mod_lt _ (by decide)), show (10723151780598845931 : Int) = ((10723151780598845931 : Nat) : Int) from rfl, hm,
    show (2147483648 : Int) = ((2147483648 : Nat) : Int) from rfl, xsD 31 2147483648 _ rfl (Nat.mod_lt _ (by decide))]
theorem p15_eq (fuel : Nat) (a : Nat) : p15 fuel (a : Int) = some (((mixN (stepN a) : Nat) : Int), ((stepN a : Nat) : Int)) := by
  simp only [p15, p16, step_eq, p24_eq fuel _ (stepN_lt a)]
theorem p25_eq (fuel : Nat) (x y : Nat) (hx : x < 18446744073709551616) (hy : y < 18446744073709551616) : p25 fuel ((x : Int), (y : Int)) = some ((x * y / 18446744073709551616 : Nat) : Int) := by
  have h32 : (4294967296 : Int) = ((4294967296 : Nat) : Int) := rfl
  have tm : ∀ a : Nat, Int.tmod (a : Int) (4294967296 : Int) = ((a % 4294967296 : Nat) : Int) := fun a => rfl
  have td : ∀ a : Nat, a < 18446744073709551616 → IntKind.wrap .u64 (Int.tdiv (a : Int) (4294967296 : Int)) = ((a / 4294967296 : Nat) : Int) := fun a h => by
    rw [h32, tdivN, wrapU (by omega)]
  simp only [p25, tm, td x hx, td y hy]
  have ha : x / 4294967296 < 4294967296 := by omega
  have hb : x % 4294967296 < 4294967296 := by omega
  have hc : y / 4294967296 < 4294967296 := by omega
  have hd : y % 4294967296 < 4294967296 := by omega
  have hm := mul64 _ _ _ _ ha hb hc hd
  rw [show x / 4294967296 * 4294967296 + x % 4294967296 = x by omega, show y / 4294967296 * 4294967296 + y % 4294967296 = y by omega] at hm
  rw [← hm]
  have m1 := mul32 _ _ ha hc
  have m2 := mul32 _ _ ha hd
  have m3 := mul32 _ _ hb hc
  have m4 := mul32 _ _ hb hd
  rw [wmul _ _ hb hd, wmul _ _ ha hd, wmul _ _ hb hc, wmul _ _ ha hc]
  generalize x / 4294967296 * (y / 4294967296) = P at *
  generalize x / 4294967296 * (y % 4294967296) = Q at *
  generalize x % 4294967296 * (y / 4294967296) = S at *
  generalize x % 4294967296 * (y % 4294967296) = T at *
  rw [td T (by omega), ← Int.natCast_add, wrapU (n := Q + T / 4294967296) (by omega), tm, td _ (by omega), ← Int.natCast_add, wrapU (n := P + (Q + T / 4294967296) / 4294967296) (by omega), ← Int.natCast_add,
    wrapU (n := S + (Q + T / 4294967296) % 4294967296) (by omega), td _ (by omega), ← Int.natCast_add, wrapU (by omega), Nat.add_comm S]
theorem p17_eq (fuel : Nat) (n s : Nat) (hn : n < 18446744073709551616) : p17 fuel ((n : Int), (s : Int)) = some (((belowN n s : Nat) : Int), ((stepN s : Nat) : Int)) := by
  simp only [p17, p15_eq]
  rw [p25_eq fuel _ n (mixN_lt _) hn]
  rfl
/-- Both draw the same numbers. -/
theorem both (fuel : Nat) : ∃ (B : Nat → Nat → Nat) (T : Nat → Nat), ∀ n s, 0 < n → n < 18446744073709551616 → B n s < n ∧ T s < 18446744073709551616 ∧ p23 fuel ((n : Int), (s : Int)) = some (((B n s : Nat) : Int), ((T s : Nat) : Int)) ∧ p17 fuel ((n : Int), (s : Int)) = some (((B n s : Nat) : Int), ((T s : Nat) : Int)) :=
  ⟨belowN, stepN, fun n s h hn => ⟨belowN_lt n s h, stepN_lt s, p23_eq fuel n s hn, p17_eq fuel n s hn⟩⟩

def at0 (l : List Int) (i : Nat) : Int := l[i]?.getD 0
theorem at0_get {l : List Int} {i : Nat} (h : i < l.length) : l[i]? = some (at0 l i) := by
  rw [at0, List.getElem?_eq_getElem h]; rfl
/-- Two places change. -/
def swap (l : List Int) (i j : Nat) : List Int := (l.set i (at0 l j)).set j (at0 l i)
theorem swap_len (l : List Int) (i j : Nat) : (swap l i j).length = l.length := by simp [swap]
section
variable (B : Nat → Nat → Nat) (T : Nat → Nat)
def shuf : Nat → Nat → List Int → Nat × List Int
  | 0, s, l => (s, l)
  | i + 1, s, l => shuf i (T s) (swap l (i + 1) (B (i + 2) s))
def Both : Prop := ∀ n s, 0 < n → n < 18446744073709551616 → B n s < n ∧ T s < 18446744073709551616 ∧ p23 FUEL ((n : Int), (s : Int)) = some (((B n s : Nat) : Int), ((T s : Nat) : Int)) ∧ p17 FUEL ((n : Int), (s : Int)) = some (((B n s : Nat) : Int), ((T s : Nat) : Int))
theorem shuf_lt (hB : Both B T) : ∀ i s l, i < 2000 → s < 18446744073709551616 → (shuf B T i s l).1 < 18446744073709551616
  | 0, _, _, _, h => h
  | i + 1, s, l, hi, _ => shuf_lt hB i _ _ (by omega) (hB (i + 2) s (by omega) (by omega)).2.1
theorem shuf_len : ∀ i s l, (shuf B T i s l).2.length = l.length
  | 0, _, _ => rfl
  | i + 1, s, l => by
    show (shuf B T i _ _).2.length = _
    rw [shuf_len i, swap_len]
theorem l12_1_shuf {R : Type} (hB : Both B T) (k : (Int × List Int) → Option R) : ∀ (m i s : Nat) (l : List Int), i < l.length → l.length ≤ 1000 → i < m →
    l12_1 FUEL k m ((i : Int), (s : Int), l) = k (((shuf B T i s l).1 : Int), (shuf B T i s l).2) := by
  intro m
  induction m with
  | zero => intro i _ _ _ _ h; omega
  | succ m ih =>
    intro i s l hi hl hm
    show s12_1 FUEL (l12_1 FUEL k m) k _ = _
    simp only [s12_1]
    cases i with
    | zero => rfl
    | succ i =>
      obtain ⟨b1, _, b3, _⟩ := hB (i + 2) s (by omega) (by omega)
      rw [decide_eq_true (show (0 : Int) < ((i + 1 : Nat) : Int) by omega), wrapU (n := i + 1) (by omega), show ((i + 1 : Nat) : Int) + 1 = ((i + 2 : Nat) : Int) by omega, wrapU (n := i + 2) (by omega), b3]
      have hj' : 0 ≤ ((B (i + 2) s : Nat) : Int) ∧ ((B (i + 2) s : Nat) : Int) < ((l.length : Nat) : Int) := by omega
      have hi' : 0 ≤ ((i + 1 : Nat) : Int) ∧ ((i + 1 : Nat) : Int) < ((l.length : Nat) : Int) := by omega
      have hjl : B (i + 2) s < l.length := by omega
      simp only [cond_true, List.length_set, if_pos hj', if_pos hi', Int.toNat_natCast, at0_get hjl, at0_get hi]
      rw [List.getElem?_eq_getElem (by rw [List.length_set]; exact hjl)]
      simp only
      rw [wrapI (n := ((i + 1 : Nat) : Int) - 1) (by omega) (by omega), show ((i + 1 : Nat) : Int) - 1 = ((i : Nat) : Int) by omega]
      exact ih i _ _ (by simp only [List.length_set]; omega) (by simp only [List.length_set]; omega) (by omega)
theorem l29_1_shuf {R : Type} (hB : Both B T) (k : (Int × List Int) → Option R) : ∀ (m i s : Nat) (l : List Int), i < l.length → l.length ≤ 1000 → i < m →
    l29_1 FUEL k m ((i : Int), (s : Int), l) = k (((shuf B T i s l).1 : Int), (shuf B T i s l).2) := by
  intro m
  induction m with
  | zero => intro i _ _ _ _ h; omega
  | succ m ih =>
    intro i s l hi hl hm
    show s29_1 FUEL (l29_1 FUEL k m) k _ = _
    simp only [s29_1]
    cases i with
    | zero => rfl
    | succ i =>
      obtain ⟨b1, _, _, b4⟩ := hB (i + 2) s (by omega) (by omega)
      rw [decide_eq_true (show (1 : Int) ≤ ((i + 1 : Nat) : Int) by omega), wrapI (n := ((i + 1 : Nat) : Int) + 1) (by omega) (by omega), show ((i + 1 : Nat) : Int) + 1 = ((i + 2 : Nat) : Int) by omega, wrapU (n := i + 2) (by omega), b4]
      have hw : IntKind.wrap .i64 ((B (i + 2) s : Nat) : Int) = ((B (i + 2) s : Nat) : Int) := wrapI (by omega) (by omega)
      have hj' : 0 ≤ ((B (i + 2) s : Nat) : Int) ∧ ((B (i + 2) s : Nat) : Int) < ((l.length : Nat) : Int) := by omega
      have hi' : 0 ≤ ((i + 1 : Nat) : Int) ∧ ((i + 1 : Nat) : Int) < ((l.length : Nat) : Int) := by omega
      have hjl : B (i + 2) s < l.length := by omega
      simp only [cond_true, List.length_set, hw, if_pos hj', if_pos hi', Int.toNat_natCast, at0_get hjl, at0_get hi]
      rw [List.getElem?_eq_getElem (by rw [List.length_set]; exact hjl)]
      simp only
      rw [wrapI (n := ((i + 1 : Nat) : Int) - 1) (by omega) (by omega), show ((i + 1 : Nat) : Int) - 1 = ((i : Nat) : Int) by omega]
      exact ih i _ _ (by simp only [List.length_set]; omega) (by simp only [List.length_set]; omega) (by omega)
end
end Go.Am.Ytjnnbkfnhfondaa
