/- Plain laws of the printed functions of the clock: clocks part no further than their rates allow; no clock. -/
import Derived.Test.YtbggedhchjibjaaWalk
import Derived.Test.YtbggedhchjibjaaAmZG
namespace Go.Am.Ytbggedhchjibjaa
theorem condT {α : Type} {b : Bool} (h : b = true) {x y : α} : (bif b then x else y) = x := by rw [h]; rfl
theorem condF {α : Type} {b : Bool} (h : b = false) {x y : α} : (bif b then x else y) = y := by rw [h]; rfl
theorem big : 1180591620717411303424 ≤ FUEL := Nat.le_refl _
theorem p7_eq : p7 FUEL () = some true := by kernel_rfl
theorem nil (x0 : Int) (_ : Ty.wf (.int .i64) x0) (x1 : Int) (_ : Ty.wf (.int .u64) x1) : p6 FUEL (x0, x1) = some true := by
  simp only [p6, p7_eq]; rfl
theorem p8_eq (x n : Int) (h1 : -9223372036854775808 ≤ x) (h2 : x < 9223372036854775808) (hn : 0 < n) : ∃ r, p8 FUEL (x, n) = some r ∧ 0 ≤ r ∧ r < n := by
  simp only [p8, j8_0]
  have h0 : ¬ n = 0 := by omega
  by_cases c : x < 0
  · rw [decide_eq_true c, cond_true, if_neg h0, wrapI (n := x + 1) (by omega) (by omega), wrapI (by omega) (by omega), tmod_pos (by omega)]
    exact ⟨_, rfl, Int.emod_nonneg _ h0, Int.emod_lt_of_pos _ hn⟩
  · rw [decide_eq_false c, cond_false, if_neg h0, tmod_pos (by omega)]
    exact ⟨_, rfl, Int.emod_nonneg _ h0, Int.emod_lt_of_pos _ hn⟩
theorem p9_eq (r : Int) (h1 : 900 ≤ r) (h2 : r ≤ 1100) : p9 FUEL (r, 0) = some (.inr (0, r, 0, 0, [], [], 0)) := by
  simp only [p9, p22, decide_eq_true h1, decide_eq_true h2]
  rfl
theorem mul_bound {k r : Int} (h0 : 0 ≤ k) (hk : k < 1000000) (h1 : 900 ≤ r) (h2 : r ≤ 1100) : 0 ≤ k * r ∧ k * r ≤ 1100000000 :=
  ⟨Int.mul_nonneg h0 (by omega), Int.le_trans (Int.mul_le_mul (show k ≤ 1000000 by omega) h2 (by omega) (by omega)) (by omega)⟩
theorem p11_eq (k r m s : Int) (M : List (Int × Int)) (B : List Nat) (C : Nat) (h0 : 0 ≤ k) (hk : k < 1000000) (h1 : 900 ≤ r) (h2 : r ≤ 1100) (m0 : 0 ≤ m) (m1 : m ≤ 670000000000) :
    p11 FUEL (k, r, m, s, M, B, C) = some (0, r, m + k * r, s, M, B, C) := by
  obtain ⟨b1, b2⟩ := mul_bound h0 hk h1 h2
  simp only [p11]
  generalize k * r = P at b1 b2
  rw [decide_eq_false (by omega), decide_eq_false (by omega), wrapI (n := P) (by omega) (by omega), wrapI (n := m + P) (by omega) (by omega), tdiv_pos (by omega), wrapI (by omega) (by omega), decide_eq_false (by omega)]
  rfl
theorem p10_eq (r m s : Int) (M : List (Int × Int)) (B : List Nat) (C : Nat) (m0 : 0 ≤ m) (m1 : m ≤ 680000000000) : p10 FUEL (r, m, s, M, B, C) = some (m / 1000, r, m, s, M, B, C) := by
  simp only [p10]
  rw [tdiv_pos m0, wrapI (by omega) (by omega)]
theorem drift_run (l : List Int) (hl : ∀ x ∈ l, -9223372036854775808 ≤ x ∧ x < 9223372036854775808) (ra rb : Int) (a1 : 900 ≤ ra) (a2 : ra ≤ 1100) (b1 : 900 ≤ rb) (b2 : rb ≤ 1100) (s t : Int) (M M' : List (Int × Int)) (B B' : List Nat) (C C' : Nat) :
    ∀ (n i : Nat) (N : Int), 600 - i < n → i ≤ 600 → 0 ≤ N → N ≤ i * 1000000 → l3_0 FUEL (fun x => some x) (fun _ => some true) n (l, ra, rb, N, (i : Int), ra, N * ra, s, M, B, C, rb, N * rb, t, M', B', C') = some true := by
  intro n
  induction n with
  | zero => intro i N h; omega
  | succ n ih =>
    intro i N h hi N0 N1
    show s3_0 FUEL (l3_0 FUEL _ _ n) _ _ _ = _
    simp only [s3_0]
    by_cases e : i < l.length
    · refine (condT (decide_eq_true (show (i : Int) < ((l.length : Nat) : Int) by omega))).trans ?_
      by_cases g : i < 600
      · refine (condT (decide_eq_true (show (i : Int) < 600 by omega))).trans ?_
        obtain ⟨x1, x2⟩ := hl _ (List.getElem_mem e)
        obtain ⟨k, ek, k0, k1⟩ := p8_eq l[i] 1000000 x1 x2 (by omega)
        have hN : N ≤ 600000000 := by omega
        have A1 : 0 ≤ N * ra := Int.mul_nonneg N0 (by omega)
        have A2 : N * ra ≤ 660000000000 := Int.le_trans (Int.mul_le_mul hN a2 (by omega) (by omega)) (by omega)
        have B1 : 0 ≤ N * rb := Int.mul_nonneg N0 (by omega)
        have B2 : N * rb ≤ 660000000000 := Int.le_trans (Int.mul_le_mul hN b2 (by omega) (by omega)) (by omega)
        obtain ⟨ka0, ka1⟩ := mul_bound k0 k1 a1 a2
        obtain ⟨kb0, kb1⟩ := mul_bound k0 k1 b1 b2
        rw [if_pos (show (0 : Int) ≤ (i : Int) by omega)]
        simp only [Int.toNat_natCast, List.getElem?_eq_getElem e, ek, p10_eq ra (N * ra) s M B C A1 (by omega), p11_eq k ra (N * ra) s M B C k0 k1 a1 a2 A1 (by omega), p11_eq k rb (N * rb) t M' B' C' k0 k1 b1 b2 B1 (by omega)]
        have ih := ih (i + 1) (N + k) (by omega) (by omega) (by omega) (by omega)
        have hX : (N + k) * ra = N * ra + k * ra := Int.add_mul _ _ _
        have hY : (N + k) * rb = N * rb + k * rb := Int.add_mul _ _ _
        have hD : (N + k) * (ra - rb) = (N * ra + k * ra) - (N * rb + k * rb) := by rw [Int.mul_sub, hX, hY]
        rw [hX, hY] at ih
        rw [wrapI (n := N + k) (by omega) (by omega), wrapI (n := ra - rb) (by omega) (by omega), hD, hX, wrapNext i (by omega)]
        generalize hu : N * ra = X at *
        generalize hv : N * rb = Y at *
        generalize hw : k * ra = Ka at *
        generalize hz : k * rb = Kb at *
        simp only [p10_eq ra (X + Ka) s M B C (by omega) (by omega), p10_eq rb (Y + Kb) t M' B' C' (by omega) (by omega), decide_true, Bool.not_true, cond_false]
        rw [wrapI (n := (X + Ka) / 1000 - (Y + Kb) / 1000) (by omega) (by omega), wrapI (n := 1000 * ((X + Ka) / 1000 - (Y + Kb) / 1000)) (by omega) (by omega), wrapI (n := X + Ka - (Y + Kb)) (by omega) (by omega), wrapI (n := X + Ka - (Y + Kb) + 999) (by omega) (by omega), wrapI (n := X + Ka - (Y + Kb) - 999) (by omega) (by omega),
          wrapI (n := X + Ka) (by omega) (by omega), wrapI (n := 1000 * ((X + Ka) / 1000)) (by omega) (by omega), wrapI (n := X + Ka - 1000) (by omega) (by omega),
          decide_eq_false (show ¬ (X + Ka) / 1000 < X / 1000 by omega), decide_eq_false (show ¬ X + Ka - (Y + Kb) + 999 < 1000 * ((X + Ka) / 1000 - (Y + Kb) / 1000) by omega), decide_eq_false (show ¬ 1000 * ((X + Ka) / 1000 - (Y + Kb) / 1000) < X + Ka - (Y + Kb) - 999 by omega),
          decide_eq_false (show ¬ X + Ka < 1000 * ((X + Ka) / 1000) by omega), decide_eq_false (show ¬ 1000 * ((X + Ka) / 1000) ≤ X + Ka - 1000 by omega)]
        simp only [cond_false]
        exact ih
      · exact condF (decide_eq_false (show ¬ (i : Int) < 600 by omega))
    · exact condF (decide_eq_false (show ¬ (i : Int) < ((l.length : Nat) : Int) by omega))
theorem drifts (a : Int) (wa : Ty.wf (.int .i64) a) (b : Int) (wb : Ty.wf (.int .i64) b) (l : List Int) (w : Ty.wf (.slice (.int .i64)) l) : p3 FUEL (a, b, l) = some true := by
  have h1 := wf_i64 wa
  have h2 := wf_i64 wb
  obtain ⟨ka, ea, a0, a1⟩ := p8_eq a 201 h1.1 h1.2 (by omega)
  obtain ⟨kb, eb, b0, b1⟩ := p8_eq b 201 h2.1 h2.2 (by omega)
  have hb := big
  simp only [p3, p7_eq, ea, eb, wrapI (n := 900 + ka) (by omega) (by omega), wrapI (n := 900 + kb) (by omega) (by omega), p9_eq (900 + ka) (by omega) (by omega), p9_eq (900 + kb) (by omega) (by omega), Bool.not_true, cond_false, decide_true]
  have := drift_run l (fun x hx => wf_i64 (w.2 x hx)) (900 + ka) (900 + kb) (by omega) (by omega) (by omega) (by omega) 0 0 [] [] [] [] 0 0 FUEL 0 0 (by omega) (by omega) (by omega) (by omega)
  rw [Int.zero_mul, Int.zero_mul] at this
  exact this
end Go.Am.Ytbggedhchjibjaa
