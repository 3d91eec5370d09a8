/- Plain laws of the printed functions of keys: places, homes. -/
import Derived.Test.YteiklegkbjmjnaaKeysA
namespace Go.Am.Yteiklegkbjmjnaa
theorem p11_eq : p11 FUEL () = some true := by kernel_rfl
theorem p20_eq (fuel : Nat) (p : Int × Int) (h0 : 0 ≤ p.1) (h1 : p.1 < 18446744073709551616) (i : Int) :
    p20 fuel (p, i) = some (if 0 ≤ i ∧ i < 4 then (((p.1 + i * 4611686018427387904) % 18446744073709551616, p.2), 0) else ((0, 0), 1)) := by
  simp only [p20]
  by_cases a : i < 0
  · rw [decide_eq_true a, if_neg (by omega)]; rfl
  · rw [decide_eq_false a]
    by_cases b : (4 : Int) ≤ i
    · rw [decide_eq_true b, if_neg (by omega)]; rfl
    · rw [decide_eq_false b, if_pos (by omega)]
      simp only [cond_false]
      rw [wrapU' (n := i) (by omega) (by omega), show ((2 : Int) ^ 62) = 4611686018427387904 from rfl, wrapU_mod, wrapU_mod]
      congr 3
      omega
theorem l25_run (fuel : Nat) {R : Type} (k : ((Int × Int) × (Int × Int)) → Option R) (p q : Int × Int) (a : Int) (h0 : 0 ≤ a) (h1 : a < 18446744073709551616) (i : Nat) (hi : i < 4) :
    ∀ (n j : Nat), j ≤ i → i - j < n → l25_0 fuel k n ((i : Int), (j : Int), ((a + (j : Int) * 4611686018427387904) % 18446744073709551616, p.2), q) = k (((a + (i : Int) * 4611686018427387904) % 18446744073709551616, p.2), q) := by
  intro n
  induction n with
  | zero => intro j _ h; omega
  | succ n ih =>
    intro j hj hn
    show s25_0 fuel (l25_0 fuel k n) k _ = _
    simp only [s25_0]
    by_cases e : j < i
    · rw [decide_eq_true (show ((j : Int) < (i : Int)) by omega), wrapNext j (by omega), wrapU_mod]
      simp only [cond_true]
      rw [show ((a + (j : Int) * 4611686018427387904) % 18446744073709551616 + 4611686018427387904) % 18446744073709551616 = (a + ((j + 1 : Nat) : Int) * 4611686018427387904) % 18446744073709551616 by omega]
      exact ih (j + 1) (by omega) (by omega)
    · obtain rfl : j = i := by omega
      rw [decide_eq_false (show ¬ ((j : Int) < (j : Int)) by omega)]; rfl
theorem p25_eq (fuel : Nat) (hf : 5 ≤ fuel) (p : Int × Int) (h0 : 0 ≤ p.1) (h1 : p.1 < 18446744073709551616) (i : Int) :
    p25 fuel (p, i) = some (if 0 ≤ i ∧ i < 4 then (((p.1 + i * 4611686018427387904) % 18446744073709551616, p.2), 0) else ((0, 0), 1)) := by
  simp only [p25]
  by_cases a : i < 0
  · rw [decide_eq_true a, if_neg (by omega)]; rfl
  · rw [decide_eq_false a]
    by_cases b : (3 : Int) < i
    · rw [decide_eq_true b, if_neg (by omega)]; rfl
    · rw [decide_eq_false b, if_pos (by omega)]
      simp only [cond_false]
      obtain ⟨k, rfl⟩ : ∃ k : Nat, i = (k : Int) := ⟨i.toNat, by omega⟩
      have := l25_run fuel (fun (x7, x8) => (some (x7, (0 : Int)))) p (0, 0) p.1 h0 h1 k (by omega) fuel 0 (by omega) (by omega)
      rw [show (p.1 + ((0 : Nat) : Int) * 4611686018427387904) % 18446744073709551616 = p.1 by omega] at this
      exact this

theorem p33_eq (fuel : Nat) (a b : Int) : p33 fuel (a, b) = some (decide (0 ≤ a ∧ a < b)) := by
  simp only [p33]
  by_cases h : (0 : Int) ≤ a
  · rw [decide_eq_true h]; simp [h]
  · rw [decide_eq_false h, decide_eq_false (show ¬ (0 ≤ a ∧ a < b) from fun q => h q.1)]; rfl
theorem p26_eq (fuel : Nat) (x i : Int) : p26 fuel (x, i) = some (if (0 ≤ x ∧ x < 64) ∧ 0 ≤ i ∧ i < 4 then ((x + 16 * i) % 64, 0) else (0, 1)) := by
  simp only [p26, p33_eq]
  by_cases a : 0 ≤ x ∧ x < 64
  · by_cases b : 0 ≤ i ∧ i < 4
    · rw [decide_eq_true a, decide_eq_true b, if_pos ⟨a, b⟩]
      simp only [Bool.not_true, cond_false]
      rw [wrapI (n := (16 : Int) * i) (by omega) (by omega), wrapI (by omega) (by omega), tmod_pos (by omega)]
    · rw [decide_eq_true a, decide_eq_false b, if_neg (fun h => b h.2)]; rfl
  · rw [decide_eq_false a, if_neg (fun h => a h.1)]; rfl
theorem p27_eq (fuel : Nat) (x i : Int) : p27 fuel (x, i) = some (if (0 ≤ x ∧ x < 64) ∧ 0 ≤ i ∧ i < 4 then ((x + 16 * i) % 64, 0) else (0, 1)) := by
  simp only [p27]
  by_cases a : x < 0
  · rw [decide_eq_true a, if_neg (by omega)]; rfl
  rw [decide_eq_false a]
  by_cases b : 63 < x
  · rw [decide_eq_true b, if_neg (by omega)]; rfl
  rw [decide_eq_false b]
  by_cases c : i < 0
  · rw [decide_eq_true c, if_neg (by omega)]; rfl
  rw [decide_eq_false c]
  by_cases d : 3 < i
  · rw [decide_eq_true d, if_neg (by omega)]; rfl
  rw [decide_eq_false d, if_pos (by omega)]
  simp only [cond_false]
  rw [wrapI (n := (16 : Int) * i) (by omega) (by omega), wrapI (by omega) (by omega), tmod_pos (by omega)]
theorem p28_eq (fuel : Nat) (x i : Int) : p28 fuel (x, i) = some (if (0 ≤ x ∧ x < 64) ∧ 0 ≤ i ∧ i < 4 then ((x + 64 - 16 * i) % 64, 0) else (0, 1)) := by
  simp only [p28, p33_eq]
  by_cases a : 0 ≤ x ∧ x < 64
  · by_cases b : 0 ≤ i ∧ i < 4
    · rw [decide_eq_true a, decide_eq_true b, if_pos ⟨a, b⟩]
      simp only [Bool.not_true, cond_false]
      rw [wrapI (n := (16 : Int) * i) (by omega) (by omega), wrapI (n := x + 64) (by omega) (by omega), wrapI (by omega) (by omega), tmod_pos (by omega)]
    · rw [decide_eq_true a, decide_eq_false b, if_neg (fun h => b h.2)]; rfl
  · rw [decide_eq_false a, if_neg (fun h => a h.1)]; rfl
theorem l29_run (fuel : Nat) (x i : Int) : ∀ (n j : Nat), j ≤ 64 → 64 - j < n → (∀ b : Nat, b < j → ¬ ((0 ≤ i ∧ i < 4) ∧ ((b : Int) + 16 * i) % 64 = x)) →
    l29_0 fuel (fun (x7, x8) => (some (x7, x8))) (fun _ => (some ((0 : Int), (1 : Int)))) n (x, i, (j : Int)) = some (if (0 ≤ x ∧ x < 64) ∧ 0 ≤ i ∧ i < 4 then ((x + 64 - 16 * i) % 64, 0) else (0, 1)) := by
  intro n
  induction n with
  | zero => intro j _ h; omega
  | succ n ih =>
    intro j hj hn hb
    show s29_0 fuel (l29_0 fuel _ _ n) _ _ _ = _
    simp only [s29_0]
    by_cases e : j < 64
    · rw [decide_eq_true (show ((j : Int) < 64) by omega), wrapNext j (by omega)]
      simp only [cond_true, p27_eq]
      by_cases c : 0 ≤ i ∧ i < 4
      · rw [if_pos (show (0 ≤ (j : Int) ∧ (j : Int) < 64) ∧ 0 ≤ i ∧ i < 4 from ⟨by omega, c⟩)]
        simp only [decide_true, cond_true]
        by_cases d : ((j : Int) + 16 * i) % 64 = x
        · rw [decide_eq_true d, if_pos (by omega)]
          simp only [cond_true]
          congr 2
          omega
        · rw [decide_eq_false d]
          simp only [cond_false]
          refine ih (j + 1) (by omega) (by omega) fun b hbj => ?_
          by_cases g : b < j
          · exact hb b g
          · obtain rfl : b = j := by omega
            exact fun h => d h.2
      · rw [if_neg (show ¬ ((0 ≤ (j : Int) ∧ (j : Int) < 64) ∧ 0 ≤ i ∧ i < 4) from fun h => c h.2)]
        simp only [show decide ((1 : Int) = 0) = false from rfl, cond_false]
        exact ih (j + 1) (by omega) (by omega) fun b _ h => c h.1
    · obtain rfl : j = 64 := by omega
      rw [decide_eq_false (show ¬ (((64 : Nat) : Int) < 64) by omega)]
      simp only [cond_false]
      rw [if_neg]
      intro h
      exact hb ((x + 64 - 16 * i) % 64).toNat (by omega) ⟨h.2, by omega⟩
theorem p29_eq (fuel : Nat) (hf : 65 ≤ fuel) (x i : Int) : p29 fuel (x, i) = some (if (0 ≤ x ∧ x < 64) ∧ 0 ≤ i ∧ i < 4 then ((x + 64 - 16 * i) % 64, 0) else (0, 1)) := by
  unfold p29
  exact l29_run fuel x i fuel 0 (by omega) (by omega) fun b h => by omega
theorem p2627 (fuel : Nat) (x : Int × Int) : p27 fuel x = p26 fuel x := by obtain ⟨a, b⟩ := x; rw [p26_eq, p27_eq]
theorem l3031 (fuel : Nat) {R : Type} (k0 k1) (n : Nat) : ∀ x, l31_0 (R := R) fuel k0 k1 n x = l30_0 fuel k0 k1 n x := by
  induction n with
  | zero => intro x; rfl
  | succ n ih =>
    intro x
    show s31_0 fuel (l31_0 fuel k0 k1 n) k0 k1 x = s30_0 fuel (l30_0 fuel k0 k1 n) k0 k1 x
    rw [show l31_0 fuel k0 k1 n = l30_0 fuel k0 k1 n from funext ih]
    obtain ⟨a, b, c, d⟩ := x
    simp only [s31_0, s30_0, p2627]
theorem p3031 (fuel : Nat) (x : Int) : p31 fuel x = p30 fuel x := by unfold p30 p31; exact l3031 _ _ _ _ _
def homes (h : Int) : List Int := [h % 64, (h + 16) % 64, (h + 32) % 64, (h + 48) % 64]
theorem homes_get (h : Int) (i : Nat) (hi : i < 4) : (homes h)[i]? = some ((h + 16 * (i : Int)) % 64) := by
  obtain rfl | rfl | rfl | rfl : i = 0 ∨ i = 1 ∨ i = 2 ∨ i = 3 := by omega
  · show some (h % 64) = some _; congr 1; omega
  · show some ((h + 16) % 64) = some _; congr 1
  · show some ((h + 32) % 64) = some _; congr 1
  · show some ((h + 48) % 64) = some _; congr 1
section
variable (fuel : Nat) {R : Type} (k0 : (Int × (List Int)) → Option R) (k1 : ((List Int) × (List Int)) → Option R)
theorem l30_step (x : Int) (h : 0 ≤ x ∧ x < 64) (n : Nat) (i : Nat) (l r : List Int) (hi : i < 4) (hr : r.length = 4) : l30_0 fuel k0 k1 (n + 1) (x, (i : Int), l, r) = l30_0 fuel k0 k1 n (x, ((i + 1 : Nat) : Int), l, r.set i ((x + 16 * (i : Int)) % 64)) := by
  show s30_0 fuel (l30_0 fuel k0 k1 n) k0 k1 _ = _
  simp only [s30_0, p26_eq]
  rw [decide_eq_true (show (i : Int) < 4 by omega), if_pos ⟨h, by omega⟩, wrapNext i (by omega)]
  simp only [cond_true, decide_true, Bool.not_true, cond_false]
  rw [if_pos (by omega), Int.toNat_natCast, List.getElem?_eq_getElem (by omega)]
theorem l30_run (x : Int) (h : 0 ≤ x ∧ x < 64) (m : Nat) : l30_0 fuel k0 k1 (m + 6) (x, (0 : Int), [0, 0, 0, 0], [0, 0, 0, 0]) = k1 ([0, 0, 0, 0], homes x) := by
  have e0 := l30_step fuel k0 k1 x h (m + 5) 0 [0, 0, 0, 0] [0, 0, 0, 0] (by omega) rfl
  have e1 := l30_step fuel k0 k1 x h (m + 4) 1 [0, 0, 0, 0] _ (by omega) (show ([(x + 16 * ((0 : Nat) : Int)) % 64, 0, 0, 0] : List Int).length = 4 from rfl)
  have e2 := l30_step fuel k0 k1 x h (m + 3) 2 [0, 0, 0, 0] _ (by omega) (show ([(x + 16 * ((0 : Nat) : Int)) % 64, (x + 16 * ((1 : Nat) : Int)) % 64, 0, 0] : List Int).length = 4 from rfl)
  have e3 := l30_step fuel k0 k1 x h (m + 2) 3 [0, 0, 0, 0] _ (by omega) (show ([(x + 16 * ((0 : Nat) : Int)) % 64, (x + 16 * ((1 : Nat) : Int)) % 64, (x + 16 * ((2 : Nat) : Int)) % 64, 0] : List Int).length = 4 from rfl)
  refine (e0.trans (e1.trans (e2.trans e3))).trans ?_
  show s30_0 fuel (l30_0 fuel k0 k1 (m + 1)) k0 k1 _ = _
  simp only [s30_0]
  rw [show x + 16 * ((0 : Nat) : Int) = x by omega]
  rfl
end
theorem p30_in (x : Int) (h : 0 ≤ x ∧ x < 64) : p30 FUEL x = some (homes x, 0) := by
  have g : ∀ (n : Nat), 6 ≤ n → ∀ (k0 : (Int × (List Int)) → Option ((List Int) × Int)) k1, l30_0 FUEL k0 k1 n (x, (0 : Int), [0, 0, 0, 0], [0, 0, 0, 0]) = k1 ([0, 0, 0, 0], homes x) := by
    intro n hn k0 k1
    obtain ⟨m, rfl⟩ : ∃ m, n = m + 6 := ⟨n - 6, by omega⟩
    exact l30_run FUEL k0 k1 x h m
  unfold p30
  exact g FUEL (by unfold FUEL; omega) _ _
theorem l30_out (fuel : Nat) {R : Type} (k0 : (Int × (List Int)) → Option R) (k1 : ((List Int) × (List Int)) → Option R) (x : Int) (h : ¬ (0 ≤ x ∧ x < 64)) (m : Nat) : l30_0 fuel k0 k1 (m + 1) (x, (0 : Int), [0, 0, 0, 0], [0, 0, 0, 0]) = k0 (1, [0, 0, 0, 0]) := by
  show s30_0 fuel (l30_0 fuel k0 k1 m) k0 k1 _ = _
  simp only [s30_0, p26_eq]
  rw [if_neg (fun q => h q.1)]; rfl
theorem p30_out (x : Int) (h : ¬ (0 ≤ x ∧ x < 64)) : p30 FUEL x = some ([0, 0, 0, 0], 1) := by
  have g : ∀ (n : Nat), 1 ≤ n → ∀ (k0 : (Int × (List Int)) → Option ((List Int) × Int)) k1, l30_0 FUEL k0 k1 n (x, (0 : Int), [0, 0, 0, 0], [0, 0, 0, 0]) = k0 (1, [0, 0, 0, 0]) := by
    intro n hn k0 k1
    obtain ⟨m, rfl⟩ : ∃ m, n = m + 1 := ⟨n - 1, by omega⟩
    exact l30_out FUEL k0 k1 x h m
  unfold p30
  exact g FUEL (by unfold FUEL; omega) _ _
theorem p30_some (x : Int) : ∃ z, p30 FUEL x = some z := by
  by_cases h : 0 ≤ x ∧ x < 64
  · exact ⟨_, p30_in x h⟩
  · exact ⟨_, p30_out x h⟩

theorem pure7 (p : Int × Int) (wp : Ty.wf (.pair (.int .u64) (.int .u64)) p) (a : Int) (_ : Ty.wf (.int .i64) a) (b : Int) (_ : Ty.wf (.int .i64) b) : p7 FUEL (p, a, b) = some true := by
  have h1 := wf_u64 wp.1
  have hf : 65 ≤ FUEL := by unfold FUEL; omega
  obtain ⟨z, hz⟩ := p30_some a
  simp only [p7, p11_eq, p20_eq FUEL p h1.1 h1.2, p25_eq FUEL (by omega) p h1.1 h1.2, p26_eq, p27_eq, p28_eq, p29_eq FUEL hf, p3031, hz, eqB_pair2, eqB_arr_int, decide_true, cond_true]

theorem p17_eq (fuel : Nat) (p : Int × Int) (h0 : 0 ≤ p.1) (h1 : p.1 < 18446744073709551616) : p17 fuel p = some (p.1 / 288230376151711744) := by
  simp only [p17]
  rw [Int.fdiv_eq_ediv_of_nonneg _ (by decide), show ((2 : Int) ^ 58) = 288230376151711744 from rfl, wrapI (by omega) (by omega)]
section
variable (fuel : Nat) {R : Type} (k0 : Bool → Option R)
theorem l8_0_run (k1 : (Int × Int × (Int × Int) × (List Int)) → Option R) (u : Int) (p : Int × Int) (h : Int) (i : Nat) (hi : i < 4) : ∀ (n j : Nat), j ≤ i → i - j < n →
    l8_0 fuel k0 k1 n (u, (i : Int), (j : Int), p, homes h) = k1 (u, (i : Int), p, homes h) := by
  intro n
  induction n with
  | zero => intro j _ h; omega
  | succ n ih =>
    intro j hj hn
    show s8_0 fuel (l8_0 fuel k0 k1 n) k0 k1 _ = _
    simp only [s8_0]
    by_cases e : j < i
    · rw [decide_eq_true (show (j : Int) < (i : Int) by omega), wrapNext j (by omega)]
      simp only [cond_true, Int.toNat_natCast, homes_get h j (by omega), homes_get h i hi]
      rw [if_pos (by omega), if_pos (by omega), decide_eq_false (by omega)]
      exact ih (j + 1) (by omega) (by omega)
    · obtain rfl : j = i := by omega
      rw [decide_eq_false (show ¬ ((j : Int) < (j : Int)) by omega)]; rfl
theorem l8_1_run (k1 : Int → Option R) (u : Int) (p : Int × Int) (h0 : 0 ≤ p.1) (h1 : p.1 < 18446744073709551616) (hf : 5 ≤ fuel) : ∀ (n i : Nat), i ≤ 4 → 4 - i < n →
    l8_1 fuel k0 k1 n (u, (i : Int), p, homes (p.1 / 288230376151711744)) = k1 u := by
  intro n
  induction n with
  | zero => intro j _ h; omega
  | succ n ih =>
    intro i hi hn
    show s8_1 fuel (l8_1 fuel k0 k1 n) k0 k1 _ = _
    simp only [s8_1]
    by_cases e : i < 4
    · rw [decide_eq_true (show (i : Int) < 4 by omega)]
      simp only [cond_true, Int.toNat_natCast, homes_get _ i e, p20_eq fuel p h0 h1, p28_eq]
      rw [if_pos (show 0 ≤ (i : Int) ∧ (i : Int) < 4 by omega), if_pos (show 0 ≤ (i : Int) ∧ (i : Int) < ((4 : Nat) : Int) by omega), if_pos (show (_ ∧ _) ∧ 0 ≤ (i : Int) ∧ (i : Int) < 4 from ⟨⟨by omega, by omega⟩, by omega, by omega⟩)]
      simp only [decide_true, Bool.not_true, cond_false]
      rw [p17_eq fuel _ (by simp only; omega) (by simp only; omega), p17_eq fuel p h0 h1]
      simp only
      rw [if_pos (show 0 ≤ (i : Int) ∧ (i : Int) < ((4 : Nat) : Int) by omega)]
      rw [decide_eq_true (show (p.1 + (i : Int) * 4611686018427387904) % 18446744073709551616 / 288230376151711744 = (p.1 / 288230376151711744 + 16 * (i : Int)) % 64 by omega),
        decide_eq_true (show ((p.1 / 288230376151711744 + 16 * (i : Int)) % 64 + 64 - 16 * (i : Int)) % 64 = p.1 / 288230376151711744 by omega)]
      simp only [Bool.not_true, cond_false]
      rw [show (0 : Int) = ((0 : Nat) : Int) from rfl, l8_0_run fuel k0 _ u p _ i e fuel 0 (by omega) (by omega), wrapNext i (by omega)]
      exact ih (i + 1) (by omega) (by omega)
    · obtain rfl : i = 4 := by omega
      rw [decide_eq_false (show ¬ (((4 : Nat) : Int) < 4) by omega)]; rfl
theorem l8_2_run (k1 : Unit → Option R) (b : Int) (hb : 0 ≤ b ∧ b < 64) : ∀ (n i : Nat), i ≤ 4 → 4 - i < n → l8_2 fuel k0 k1 n (b, (i : Int)) = k1 () := by
  intro n
  induction n with
  | zero => intro j _ h; omega
  | succ n ih =>
    intro i hi hn
    show s8_2 fuel (l8_2 fuel k0 k1 n) k0 k1 _ = _
    simp only [s8_2]
    by_cases e : i < 4
    · rw [decide_eq_true (show (i : Int) < 4 by omega)]
      simp only [cond_true, p28_eq]
      rw [if_pos ⟨hb, by omega⟩]
      simp only [p26_eq]
      rw [if_pos ⟨by omega, by omega⟩]
      simp only [decide_true, Bool.not_true, cond_false]
      rw [decide_eq_true (by omega), wrapNext i (by omega)]
      simp only [Bool.not_true, cond_false]
      exact ih (i + 1) (by omega) (by omega)
    · obtain rfl : i = 4 := by omega
      rw [decide_eq_false (show ¬ (((4 : Nat) : Int) < 4) by omega)]; rfl
end
theorem j8_3_eq (n : Int) (hn : 0 ≤ n) : j8_3 FUEL some n = some true := by
  simp only [j8_3]
  rw [tmod_pos hn, show (0 : Int) = ((0 : Nat) : Int) from rfl, l8_2_run FUEL _ _ _ (by omega) FUEL 0 (by omega) (by unfold FUEL; omega)]
theorem pure8 (p : Int × Int) (wp : Ty.wf (.pair (.int .u64) (.int .u64)) p) (a : Int) (wa : Ty.wf (.int .i64) a) : p8 FUEL (p, a) = some true := by
  have h1 := wf_u64 wp.1
  have ha := wf_i64 wa
  have hf : 5 ≤ FUEL := by unfold FUEL; omega
  simp only [p8, p17_eq FUEL p h1.1 h1.2, p11_eq]
  rw [p30_in _ (by omega)]
  simp only [decide_true, Bool.not_true, cond_false]
  rw [show (0 : Int) = ((0 : Nat) : Int) from rfl, l8_1_run FUEL _ _ a p h1.1 h1.2 hf FUEL 0 (by omega) (by unfold FUEL; omega)]
  by_cases h : a < ((0 : Nat) : Int)
  · rw [decide_eq_true h, cond_true, wrapI (n := a + 1) (by omega) (by omega), wrapI (by omega) (by omega)]
    exact j8_3_eq _ (by omega)
  · rw [decide_eq_false h, cond_false]
    exact j8_3_eq _ (by omega)
end Go.Am.Yteiklegkbjmjnaa
