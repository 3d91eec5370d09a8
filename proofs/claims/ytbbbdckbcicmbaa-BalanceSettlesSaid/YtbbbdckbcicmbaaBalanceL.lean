/- Plain laws of the printed functions of balance: moves until none is left. -/
import Derived.Test.YtbbbdckbcicmbaaBalanceK
namespace Go.Am.Ytbbbdckbcicmbaa
theorem apply15b (f : Nat) (x : List Int × MV) : p15b f x = p15 f x := by kernel_rfl

theorem sumF_nonneg {l : List Int} (h : ∀ x ∈ l, 0 ≤ x) : 0 ≤ sumF one l := by
  induction l with
  | nil => exact Int.le_refl _
  | cons x l ih =>
    have h1 := h x (by simp)
    have h2 := ih fun y hy => h y (by simp [hy])
    show 0 ≤ x + sumF one l; omega
theorem sq_nonneg (x : Int) : 0 ≤ x * x := by
  rcases Int.le_total 0 x with h | h
  · exact Int.mul_nonneg h h
  · exact Int.mul_nonneg_of_nonpos_of_nonpos h h
theorem sumQ_nonneg : ∀ l : List Int, 0 ≤ sumF sq l
  | [] => Int.le_refl _
  | x :: l => by
    have h1 := sq_nonneg x
    have h2 := sumQ_nonneg l
    show 0 ≤ x * x + sumF sq l; omega
theorem sumQ_le {l : List Int} (h : ∀ x ∈ l, 0 ≤ x) : sumF sq l ≤ sumF one l * sumF one l := by
  induction l with
  | nil => exact Int.le_refl _
  | cons x l ih =>
    have h1 := h x (by simp)
    have h0 : ∀ y ∈ l, 0 ≤ y := fun y hy => h y (by simp [hy])
    have h2 := ih h0
    have h3 := sumF_nonneg h0
    have h4 := Int.mul_nonneg h1 h3
    have e : (x + sumF one l) * (x + sumF one l) = x * x + 2 * (x * sumF one l) + sumF one l * sumF one l := by grind
    show x * x + sumF sq l ≤ (x + sumF one l) * (x + sumF one l)
    rw [e]; omega
theorem sum_le {l : List Int} {a : Int} (h : ∀ x ∈ l, x ≤ a) : sumF one l ≤ (l.length : Int) * a := by
  induction l with
  | nil => rw [List.length_nil]; show (0 : Int) ≤ ((0 : Nat) : Int) * a; simp
  | cons x l ih =>
    have h1 := h x (by simp)
    have h2 := ih fun y hy => h y (by simp [hy])
    have e : ((l.length + 1 : Nat) : Int) * a = (l.length : Int) * a + a := by rw [Int.natCast_add, Int.add_mul]; simp
    rw [List.length_cons, e]
    show x + sumF one l ≤ _; omega

/-- One move of a run. -/
structure Step (l : List Int) (m : MV) : Prop extends Moves l m where
  was : Am.Ytbbbdckbcicmbaa.fair l 1 12 = true
  less : sumF sq (doneS l m) < sumF sq l
def chain : List Int → List MV → List Int → Prop
  | l, [], e => l = e
  | l, m :: ms, e => Step l m ∧ chain (doneS l m) ms e
def Ends (l : List Int) : Prop := ∃ h lo, First l h lo ∧ (planS l h lo).2.1 = false

theorem settle_run {R : Type} (K : Int × List MV × List Int → Option R) (S : Int) : ∀ (n : Nat) (l : List Int) (moves : List MV), 1153 - moves.length < n → fair l 1 12 = true → sumF one l = S → moves.length ≤ 1152 → 1152 * sumF sq l + (moves.length : Int) * (S * S) ≤ 1152 * (S * S) →
    ∃ (ms : List MV) (e : List Int), l19_0 FUEL K n (moves, l) = K (0, moves ++ ms, e) ∧ chain l ms e ∧ Ends e ∧ fair e 1 12 = true ∧ (moves ++ ms).length ≤ 1152 := by
  intro n
  induction n with
  | zero => intro l moves h; omega
  | succ n ih =>
    intro l moves hk fr hS hm hQ
    obtain ⟨h1, hn, hb⟩ := fair_12 fr
    obtain ⟨h, lo, F, e14⟩ := plan14 (by omega) fr
    cases his : (planS l h lo).2.1 with
    | false =>
      refine ⟨[], l, ?_, rfl, ⟨h, lo, F, his⟩, fr, by rw [List.append_nil]; exact hm⟩
      show s19_0 FUEL _ K _ = _
      simp only [s19_0, e14, his, List.append_nil]; rfl
    | true =>
      obtain ⟨M, ha, hq⟩ := planned fr F his
      generalize hmv : (planS l h lo).1 = m at M hq
      have e15 := apply15 hn hb h1 m fr
      have eA : applyS l m = (0, doneS l m) := by unfold applyS; rw [M.goes]; rfl
      rw [eA] at e15
      have hbound := g_bound hb F.hl
      have hs1 := sum_le (l := l) (a := g l h) (fun x hx => by obtain ⟨i, hi, e⟩ := mem_g hx; rw [← e]; exact F.most i hi)
      have hs2 : (l.length : Int) * g l h ≤ 12 * g l h := Int.mul_le_mul_of_nonneg_right (by omega) hbound.1
      have hs0 : 0 ≤ S := by rw [← hS]; exact sumF_nonneg fun x hx => (hb x hx).1
      have hsq : S * S ≤ (12 * g l h) * (12 * g l h) := Int.mul_le_mul (by omega) (by omega) hs0 (by omega)
      have ex : (12 * g l h) * (12 * g l h) = 144 * (g l h * g l h) := by grind
      rw [ex] at hsq
      have hQ' := sumQ_nonneg (doneS l m)
      have hSpos : 2 ≤ S := by
        have : g l h ≤ S := by
          rw [← hS]
          have : ∀ (l : List Int), (∀ x ∈ l, 0 ≤ x) → ∀ x ∈ l, x ≤ sumF one l := by
            intro l
            induction l with
            | nil => intro _ x hx; cases hx
            | cons y l ih =>
              intro h0 x hx
              have h3 := sumF_nonneg (l := l) fun z hz => h0 z (by simp [hz])
              have h4 := h0 y (by simp)
              show x ≤ y + sumF one l
              rcases List.mem_cons.1 hx with e | hx
              · omega
              · have := ih (fun z hz => h0 z (by simp [hz])) x hx; omega
          exact this l (fun x hx => (hb x hx).1) _ (g_mem F.hl)
        omega
      have hSS : 2 * 2 ≤ S * S := Int.mul_le_mul hSpos hSpos (by omega) (by omega)
      have hcast : (((moves ++ [m]).length : Nat) : Int) * (S * S) = (moves.length : Int) * (S * S) + S * S := by
        rw [List.length_append, Int.natCast_add, Int.add_mul]; simp
      have hnew : 1152 * sumF sq (doneS l m) + (((moves ++ [m]).length : Nat) : Int) * (S * S) ≤ 1152 * (S * S) := by rw [hcast]; omega
      have hk2 : (moves ++ [m]).length ≤ 1152 := by
        have : (((moves ++ [m]).length : Nat) : Int) * (S * S) ≤ 1152 * (S * S) := by omega
        have := Int.le_of_mul_le_mul_right this (by omega)
        omega
      have hlen : (moves ++ [m]).length = moves.length + 1 := by simp
      obtain ⟨ms, e, r1, r2, r3, r4, r5⟩ := ih (doneS l m) (moves ++ [m]) (by omega) M.fair (by rw [M.sum]; exact hS) hk2 hnew
      refine ⟨m :: ms, e, ?_, ⟨⟨M, fr, by omega⟩, r2⟩, r3, r4, by rw [List.append_assoc] at r5; exact r5⟩
      rw [List.append_assoc] at r1
      refine Eq.trans ?_ r1
      show s19_0 FUEL _ K _ = _
      simp only [s19_0, e14, his, hmv, e15, Bool.not_true, cond_false]
      rw [if_pos (by simp; omega)]

theorem settled {l : List Int} (fr : fair l 1 12 = true) : ∃ (ms : List MV) (e : List Int), p19 FUEL l = some (0, ms, e) ∧ chain l ms e ∧ Ends e ∧ fair e 1 12 = true ∧ ms.length ≤ 1152 := by
  obtain ⟨h1, hn, hb⟩ := fair_12 fr
  have hq := sumQ_le (l := l) fun x hx => (hb x hx).1
  obtain ⟨ms, e, r1, r2, r3, r4, r5⟩ := settle_run (fun (x8, x9, x10) => some (x8, x9, x10)) (sumF one l) FUEL l [] (by have := big; omega) fr rfl (Nat.zero_le _) (by rw [List.length_nil]; show 1152 * sumF sq l + 0 * _ ≤ _; omega)
  refine ⟨ms, e, ?_, r2, r3, r4, by simpa using r5⟩
  simp only [p19, p22_eq l (by omega), fr, clone_run l hn, Bool.not_true, cond_false]
  exact r1

/-! ### Sums -/
theorem sq_small {x : Int} (h0 : 0 ≤ x) (h1 : x ≤ 2147483647) : 0 ≤ x * x ∧ x * x ≤ 4611686014132420609 := by
  refine ⟨sq_nonneg x, ?_⟩
  have : x * x ≤ 2147483647 * 2147483647 := Int.mul_le_mul h1 h1 h0 (by omega)
  omega
theorem sums_loop {R : Type} {l : List Int} (hn : l.length ≤ 12) (hb : ∀ x ∈ l, 0 ≤ x ∧ x ≤ 2147483647) (K : Int × Int × Int → Option R) : ∀ (n i : Nat) (s a b : Int), l.length - i < n → i ≤ l.length → 0 ≤ s → s ≤ (i : Int) * 2147483647 → 0 ≤ a → a ≤ (i : Int) * 4294967296 → 0 ≤ b → b ≤ (i : Int) * 4294967296 →
    ∃ a' b' : Int, l20_0 FUEL K n (l, s, a, b, (i : Int)) = K (s + sumF one (l.drop i), a', b') ∧ a' + b' * 4294967296 = a + b * 4294967296 + sumF sq (l.drop i) ∧ 0 ≤ a' ∧ a' ≤ 51539607552 ∧ 0 ≤ b' ∧ b' ≤ 51539607552 := by
  intro n
  induction n with
  | zero => intro i s a b h; omega
  | succ n ih =>
    intro i s a b h hi s0 s1 a0 a1 b0 b1
    by_cases e : i < l.length
    · have bx := g_bound hb e
      have q := sq_small bx.1 bx.2
      have hs : l20_0 FUEL K (n + 1) (l, s, a, b, (i : Int)) = l20_0 FUEL K n (l, s + g l i, a + g l i * g l i % 4294967296, b + g l i * g l i / 4294967296, ((i + 1 : Nat) : Int)) := by
        refine (condT (decide_eq_true (show (i : Int) < ((l.length : Nat) : Int) by omega))).trans ?_
        simp only [if_pos (Int.natCast_nonneg i), Int.toNat_natCast, g_some e, wrapNext i (by omega)]
        rw [wrapU' bx.1 (by omega), wrapU' q.1 (by omega), Int.tmod_eq_emod_of_nonneg q.1, Int.tdiv_eq_ediv_of_nonneg q.1, wrapI (by omega) (by omega), wrapU' (n := g l i * g l i / 4294967296) (by omega) (by omega), wrapU' (by omega) (by omega), wrapU' (by omega) (by omega)]
      rw [hs]
      obtain ⟨a', b', r1, r2, r3⟩ := ih (i + 1) _ _ _ (by omega) (by omega) (show 0 ≤ s + g l i by omega) (by omega) (show 0 ≤ a + g l i * g l i % 4294967296 by omega) (by omega) (show 0 ≤ b + g l i * g l i / 4294967296 by omega) (by omega)
      refine ⟨a', b', ?_, ?_, r3⟩
      · rw [r1, List.drop_eq_getElem_cons e, g_get e]
        show K (s + g l i + sumF one (l.drop (i + 1)), a', b') = K (s + (g l i + sumF one (l.drop (i + 1))), a', b')
        rw [Int.add_assoc]
      · rw [r2, List.drop_eq_getElem_cons e, g_get e]
        show _ = a + b * 4294967296 + (g l i * g l i + sumF sq (l.drop (i + 1)))
        omega
    · obtain rfl : i = l.length := by omega
      refine ⟨a, b, ?_, ?_, a0, by omega, b0, by omega⟩
      · rw [List.drop_eq_nil_of_le (Nat.le_refl _)]
        refine (condF (decide_eq_false (Int.lt_irrefl _))).trans ?_
        show K (s, a, b) = K (s + 0, a, b)
        rw [Int.add_zero]
      · rw [List.drop_eq_nil_of_le (Nat.le_refl _)]
        show _ = _ + 0; omega
theorem sums_run {l : List Int} (hn : l.length ≤ 12) (hb : ∀ x ∈ l, 0 ≤ x ∧ x ≤ 2147483647) : ∃ hi lo : Int, p20 FUEL l = some (sumF one l, hi, lo) ∧ hi * 4294967296 + lo = sumF sq l ∧ 0 ≤ lo ∧ lo < 4294967296 := by
  obtain ⟨a, b, r1, r2, r3, r4, r5, r6⟩ := sums_loop (R := Int × Int × Int) hn hb (fun (x12, x13, x14) => let v15 := (IntKind.wrap .u64 (x14 + (IntKind.wrap .u64 (Int.tdiv x13 4294967296)))); (some (x12, v15, (Int.tmod x13 4294967296)))) FUEL 0 0 0 0 (by have := big; omega) (Nat.zero_le _) (by omega) (by omega) (by omega) (by omega) (by omega) (by omega)
  refine ⟨b + a / 4294967296, a % 4294967296, ?_, ?_, by omega, by omega⟩
  · refine Eq.trans r1 ?_
    simp only [List.drop_zero, Int.zero_add]
    rw [Int.tmod_eq_emod_of_nonneg r3, Int.tdiv_eq_ediv_of_nonneg r3, wrapU' (n := a / 4294967296) (by omega) (by omega), wrapU' (by omega) (by omega)]
  · rw [List.drop_zero] at r2; omega
theorem sums_b (f : Nat) (l : List Int) : p20b f l = p20 f l := by kernel_rfl
theorem most_b (f : Nat) (l : List Int) : p21b f l = p21 f l := by kernel_rfl

theorem most_loop {l : List Int} (hn : l.length ≤ 12) : ∀ (n i : Nat) (m : Int), l.length - i < n → i ≤ l.length → 0 ≤ m → (∀ j, j < i → g l j ≤ m) → (m = 0 ∨ m ∈ l) →
    ∃ m', l21_0 FUEL (fun x6 => some x6) n (l, m, (i : Int)) = some m' ∧ 0 ≤ m' ∧ (∀ x ∈ l, x ≤ m') ∧ (m' = 0 ∨ m' ∈ l) := by
  intro n
  induction n with
  | zero => intro i m h; omega
  | succ n ih =>
    intro i m h hi m0 a b
    by_cases e : i < l.length
    · have hs : l21_0 FUEL (fun x6 => some x6) (n + 1) (l, m, (i : Int)) = l21_0 FUEL (fun x6 => some x6) n (l, (if m < g l i then g l i else m), ((i + 1 : Nat) : Int)) := by
        refine (condT (decide_eq_true (show (i : Int) < ((l.length : Nat) : Int) by omega))).trans ?_
        simp only [if_pos (Int.natCast_nonneg i), Int.toNat_natCast, g_some e, wrapNext i (by omega)]
      rw [hs]
      refine ih (i + 1) _ (by omega) (by omega) (by split <;> omega) (fun j hj => ?_) ?_
      · by_cases c : j = i
        · subst c; split <;> omega
        · have := a j (by omega); split <;> omega
      · split
        · exact .inr (g_mem e)
        · exact b
    · obtain rfl : i = l.length := by omega
      exact ⟨m, condF (decide_eq_false (Int.lt_irrefl _)), m0, fun x hx => by obtain ⟨j, hj, e⟩ := mem_g hx; rw [← e]; exact a j hj, b⟩
theorem most_run {l : List Int} (hn : l.length ≤ 12) : ∃ m, p21 FUEL l = some m ∧ 0 ≤ m ∧ (∀ x ∈ l, x ≤ m) ∧ (m = 0 ∨ m ∈ l) := by
  obtain ⟨m, r⟩ := most_loop hn FUEL 0 0 (by have := big; omega) (Nat.zero_le _) (Int.le_refl _) (fun j hj => absurd hj (Nat.not_lt_zero _)) (.inl rfl)
  exact ⟨m, r⟩
end Go.Am.Ytbbbdckbcicmbaa
