/- In whatever order they come (QuorumOrder): the law. -/
import Derived.Test.YtiecnmmffplgcaaQuorumF
namespace Go.Am.Ytiecnmmffplgcaa

theorem inner_run {a : List An} (ga : ∀ y ∈ a, goodA y) (ha : a.length = 4) (x : Int) (one two : List Int) (h1 : one.length = 4) (h2 : two.length = 4) {R : Type}
    (K : (Int × List An × List Int × List Int × Int × Int × List (Int × An) × List Nat × Nat × Int × Int × List (Int × An) × List Nat × Nat) → Option R) :
    ∀ (k i n : Nat) (m1 : List (Int × An)) (b1 : List Nat) (c1 : Nat) (m2 : List (Int × An)) (b2 : List Nat) (c2 : Nat), i + k = 4 → k < n → Part a m1 b1 c1 → Part a m2 b2 c2 →
      (x = 1 → ∀ j : Nat, j < i → hd m1 j = full a j ∧ hd m2 (3 - j) = full a (3 - j)) →
      ∃ m1' b1' c1' m2' b2' c2', Part a m1' b1' c1' ∧ Part a m2' b2' c2' ∧ (x = 1 → ∀ j : Nat, j < 4 → hd m1' j = full a j ∧ hd m2' (3 - j) = full a (3 - j)) ∧
        l4_4 FUEL K n (x, (i : Int), a, one, two, 5, 9, m1, b1, c1, 5, 9, m2, b2, c2) = K (x, a, one, two, 5, 9, m1', b1', c1', 5, 9, m2', b2', c2') := by
  intro k
  induction k with
  | zero =>
    intro i n m1 b1 c1 m2 b2 c2 hi hn p1 p2 hd
    obtain ⟨n, rfl⟩ : ∃ q, n = q + 1 := ⟨n - 1, by omega⟩
    obtain rfl : i = 4 := by omega
    exact ⟨m1, b1, c1, m2, b2, c2, p1, p2, hd, rfl⟩
  | succ k ih =>
    intro i n m1 b1 c1 m2 b2 c2 hi hn p1 p2 hdone
    obtain ⟨n, rfl⟩ : ∃ q, n = q + 1 := ⟨n - 1, by omega⟩
    have hlt : i < 4 := by omega
    have step : ∀ (F : (Int × Int × List An × List Int × List Int × Int × Int × List (Int × An) × List Nat × Nat × Int × Int × List (Int × An) × List Nat × Nat) → Option R),
        s4_4 FUEL F K (x, (i : Int), a, one, two, 5, 9, m1, b1, c1, 5, 9, m2, b2, c2) =
        (bif decide (x = 1) then j4_3 FUEL (fun (x209, x210, x211, x212, x213, x214, x215, x216, x217, x218, x219, x220, x221, x222, x223) => (F (x209, (IntKind.wrap .i64 (x210 + (1 : Int))), x211, x212, x213, x214, x215, x216, x217, x218, x219, x220, x221, x222, x223))) (x, i, i, IntKind.wrap .i64 (3 - (i : Int)), a, one, two, 5, 9, m1, b1, c1, 5, 9, m2, b2, c2)
          else j4_3 FUEL (fun (x224, x225, x226, x227, x228, x229, x230, x231, x232, x233, x234, x235, x236, x237, x238) => (F (x224, (IntKind.wrap .i64 (x225 + (1 : Int))), x226, x227, x228, x229, x230, x231, x232, x233, x234, x235, x236, x237, x238))) (x, i, one[i]'(by omega), two[i]'(by omega), a, one, two, 5, 9, m1, b1, c1, 5, 9, m2, b2, c2)) := by
      intro F
      refine (condT (decide_eq_true (show ((i : Nat) : Int) < 4 by omega))).trans ?_
      rw [if_pos (by omega), Int.toNat_natCast, List.getElem?_eq_getElem (show i < one.length by omega)]
      simp only
      rw [if_pos (by omega), List.getElem?_eq_getElem (show i < two.length by omega)]
    have go : ∀ (z w : Int), (x = 1 → z = i ∧ w = 3 - (i : Int)) → ∃ m1' b1' c1' m2' b2' c2', Part a m1' b1' c1' ∧ Part a m2' b2' c2' ∧ (x = 1 → ∀ j : Nat, j < 4 → hd m1' j = full a j ∧ hd m2' (3 - j) = full a (3 - j)) ∧
        j4_3 FUEL (fun (x209, x210, x211, x212, x213, x214, x215, x216, x217, x218, x219, x220, x221, x222, x223) => (l4_4 FUEL K n (x209, (IntKind.wrap .i64 (x210 + (1 : Int))), x211, x212, x213, x214, x215, x216, x217, x218, x219, x220, x221, x222, x223))) (x, i, z, w, a, one, two, 5, 9, m1, b1, c1, 5, 9, m2, b2, c2) = K (x, a, one, two, 5, 9, m1', b1', c1', 5, 9, m2', b2', c2') := by
      intro z w hzw
      obtain ⟨n1, d1, e1, n2, d2, e2, q1, q2, q3, q4, q5, q6, q7⟩ := both_add ga ha p1 p2 x i z w one two (fun (x209, x210, x211, x212, x213, x214, x215, x216, x217, x218, x219, x220, x221, x222, x223) => (l4_4 FUEL K n (x209, (IntKind.wrap .i64 (x210 + (1 : Int))), x211, x212, x213, x214, x215, x216, x217, x218, x219, x220, x221, x222, x223)))
      obtain ⟨m1', b1', c1', m2', b2', c2', r1, r2, r3, r4⟩ := ih (i + 1) n n1 d1 e1 n2 d2 e2 (by omega) (by omega) q1 q2 (fun hx j hj => by
        obtain ⟨hz, hw⟩ := hzw hx
        by_cases hji : j < i
        · exact ⟨q3 _ (hdone hx j hji).1, q4 _ (hdone hx j hji).2⟩
        · obtain rfl : j = i := by omega
          have a1 := q5 (by omega)
          have a2 := q6 (by omega)
          rw [hz] at a1
          rw [hw] at a2
          exact ⟨a1, a2⟩)
      refine ⟨m1', b1', c1', m2', b2', c2', r1, r2, r3, q7.trans ?_⟩
      simp only [wrapNext i (by omega)]
      exact r4
    by_cases hx : x = 1
    · obtain ⟨m1', b1', c1', m2', b2', c2', r1, r2, r3, r4⟩ := go i (IntKind.wrap .i64 (3 - (i : Int))) (fun _ => ⟨rfl, wrapI (by omega) (by omega)⟩)
      refine ⟨m1', b1', c1', m2', b2', c2', r1, r2, r3, (step _).trans ((condT (decide_eq_true hx)).trans r4)⟩
    · obtain ⟨m1', b1', c1', m2', b2', c2', r1, r2, r3, r4⟩ := go (one[i]'(by omega)) (two[i]'(by omega)) (fun h => absurd h hx)
      refine ⟨m1', b1', c1', m2', b2', c2', r1, r2, r3, (step _).trans ((condF (decide_eq_false hx)).trans r4)⟩

theorem part_nil (a : List An) : Part a [] [] 0 := ⟨Ok.nil, fun _ => .inl rfl⟩

theorem outer_step {R : Type} (K : (Int × Int × List (Int × An) × List Nat × Nat × Int × Int × List (Int × An) × List Nat × Nat) → Option R) (n : Nat) (t : Int) (ht : t < 2) (a : List An) (one two : List Int) (b r : Int) (m1 : List (Int × An)) (b1 : List Nat) (c1 : Nat) (b' r' : Int) (m2 : List (Int × An)) (b2 : List Nat) (c2 : Nat) :
    l4_5 FUEL K (n + 1) (t, a, one, two, b, r, m1, b1, c1, b', r', m2, b2, c2) = l4_4 FUEL (fun (x239, x240, x241, x242, x243, x244, x245, x246, x247, x248, x249, x250, x251, x252) => (l4_5 FUEL K n ((IntKind.wrap .i64 (x239 + (1 : Int))), x240, x241, x242, x243, x244, x245, x246, x247, x248, x249, x250, x251, x252))) FUEL (t, 0, a, one, two, b, r, m1, b1, c1, b', r', m2, b2, c2) :=
  condT (decide_eq_true ht)
theorem outer_end {R : Type} (K : (Int × Int × List (Int × An) × List Nat × Nat × Int × Int × List (Int × An) × List Nat × Nat) → Option R) (n : Nat) (a : List An) (one two : List Int) (b r : Int) (m1 : List (Int × An)) (b1 : List Nat) (c1 : Nat) (b' r' : Int) (m2 : List (Int × An)) (b2 : List Nat) (c2 : Nat) :
    l4_5 FUEL K (n + 1) (2, a, one, two, b, r, m1, b1, c1, b', r', m2, b2, c2) = K (b, r, m1, b1, c1, b', r', m2, b2, c2) := rfl

theorem outer_run {a : List An} (ga : ∀ y ∈ a, goodA y) (ha : a.length = 4) (one two : List Int) (h1 : one.length = 4) (h2 : two.length = 4) {R : Type}
    (K : (Int × Int × List (Int × An) × List Nat × Nat × Int × Int × List (Int × An) × List Nat × Nat) → Option R) (n : Nat) (hn : 3 ≤ n) :
    ∃ m1' b1' c1' m2' b2' c2', Ok m1' b1' c1' ∧ Ok m2' b2' c2' ∧ hd m1' = full a ∧ hd m2' = full a ∧ l4_5 FUEL K n (0, a, one, two, 5, 9, [], [], 0, 5, 9, [], [], 0) = K (5, 9, m1', b1', c1', 5, 9, m2', b2', c2') := by
  obtain ⟨n, rfl⟩ : ∃ q, n = q + 3 := ⟨n - 3, by omega⟩
  have hF : 4 < FUEL := by unfold FUEL; decide
  obtain ⟨m1, b1, c1, m2, b2, c2, p1, p2, _, e1⟩ := inner_run ga ha 0 one two h1 h2 (fun (x239, x240, x241, x242, x243, x244, x245, x246, x247, x248, x249, x250, x251, x252) => (l4_5 FUEL K (n + 2) ((IntKind.wrap .i64 (x239 + (1 : Int))), x240, x241, x242, x243, x244, x245, x246, x247, x248, x249, x250, x251, x252))) 4 0 FUEL [] [] 0 [] [] 0 rfl hF (part_nil a) (part_nil a) (fun h => by cases h)
  obtain ⟨m1', b1', c1', m2', b2', c2', q1, q2, q3, e2⟩ := inner_run ga ha 1 one two h1 h2 (fun (x239, x240, x241, x242, x243, x244, x245, x246, x247, x248, x249, x250, x251, x252) => (l4_5 FUEL K (n + 1) ((IntKind.wrap .i64 (x239 + (1 : Int))), x240, x241, x242, x243, x244, x245, x246, x247, x248, x249, x250, x251, x252))) 4 0 FUEL m1 b1 c1 m2 b2 c2 rfl hF p1 p2 (fun _ j hj => by omega)
  have e0 : ((0 : Nat) : Int) = 0 := rfl
  rw [e0] at e1 e2
  have all : ∀ {m : List (Int × An)} {bs : List Nat} {clk : Nat}, Ok m bs clk → (∀ j : Nat, j < 4 → hd m j = full a j) → hd m = full a := fun o h => by
    funext k
    by_cases hk : 0 ≤ k ∧ k < 4
    · obtain ⟨j, rfl⟩ : ∃ j : Nat, k = j := ⟨k.toNat, by omega⟩
      exact h j (by omega)
    · rw [out_none o hk]; unfold full; rw [if_neg hk]
  refine ⟨m1', b1', c1', m2', b2', c2', q1.ok, q2.ok, all q1.ok fun j hj => (q3 rfl j hj).1, all q2.ok fun j hj => ?_, ?_⟩
  · have := (q3 rfl (3 - j) (by omega)).2
    rw [show (3 - ((3 - j : Nat) : Int)) = j by omega] at this
    exact this
  · rw [outer_step K (n + 2) 0 (by decide), e1]
    simp only
    rw [show IntKind.wrap .i64 ((0 : Int) + 1) = 1 from rfl, outer_step K (n + 1) 1 (by decide), e2]
    simp only
    rw [show IntKind.wrap .i64 ((1 : Int) + 1) = 2 from rfl, outer_end]

/-- What is heard decides what is said. -/
theorem same_results {m1 m2 : List (Int × An)} {b1 b2 : List Nat} {c1 c2 : Nat} (o1 : Ok m1 b1 c1) (o2 : Ok m2 b2 c2) (h : hd m1 = hd m2) (b r : Int) : ∃ (t : Int) (v : Int) (l : List Int) (e : Int) (d : LE),
    p11 FUEL (b, r, m1, b1, c1) = some (t, v, false, l, e, b, r, m1, b1, c1, d) ∧ p11 FUEL (b, r, m2, b2, c2) = some (t, v, false, l, e, b, r, m2, b2, c2, d) ∧ d.length < 9223372036854775807 := by
  have hl : m1.length = m2.length := by rw [o1.len, o2.len, h]
  by_cases hc : m1.length < 3
  · exact ⟨_, _, _, _, _, few_run hc b r, few_run (by omega) b r, by decide⟩
  · have e1 := result_run o1 (by omega) b r
    have e2 := result_run o2 (by omega) b r
    rw [← h] at e2
    refine ⟨_, _, _, _, _, e1, e2, ?_⟩
    obtain ⟨k, l, a, h1, h2, h3, h4, _⟩ := first_there o1 (by omega)
    have hdata : dataOf (hd m1) = a.2.2.2 := by unfold dataOf; rw [h1]; simp only; rw [h2]
    rw [hdata]
    have := h4.2
    omega

theorem wr_goodA {y : An} (h : Ty.wr VT y) : goodA y := wr_good (y := ((0 : Int), y)) ⟨(by rfl : Ty.wr (.int .i64) 0), h⟩

theorem order_fin {a : List An} (ga : ∀ y ∈ a, goodA y) (ha : a.length = 4) {one two : List Int} (h1 : one.length = 4) (h2 : two.length = 4)
    {K : (Int × Int × List (Int × An) × List Nat × Nat × Int × Int × List (Int × An) × List Nat × Nat) → Option Bool}
    (hK : ∀ m1 b1 c1 m2 b2 c2, Ok m1 b1 c1 → Ok m2 b2 c2 → hd m1 = full a → hd m2 = full a → K (5, 9, m1, b1, c1, 5, 9, m2, b2, c2) = some true) :
    l4_5 FUEL K FUEL (0, a, one, two, 5, 9, [], [], 0, 5, 9, [], [], 0) = some true := by
  obtain ⟨m1, b1, c1, m2, b2, c2, o1, o2, f1, f2, e⟩ := outer_run ga ha one two h1 h2 K FUEL (by unfold FUEL; decide)
  rw [e]
  exact hK _ _ _ _ _ _ o1 o2 f1 f2

theorem quorumOrder (x0 : List An) (w0 : Ty.wr (.arr 4 VT) x0) (x1 : List Int) (w1 : Ty.wr (.arr 4 (.int .i64)) x1) (x2 : List Int) (w2 : Ty.wr (.arr 4 (.int .i64)) x2) : p4 FUEL (x0, x1, x2) = some true := by
  unfold p4
  simp only
  rw [new_run (by decide)]
  simp only [alive_run, Bool.not_true, cond_false, decide_true]
  refine order_fin (fun y hy => wr_goodA (w0.2 y hy)) w0.1 w1.1 w2.1 fun m1 b1 c1 m2 b2 c2 o1 o2 f1 f2 => ?_
  obtain ⟨t, v, l, ee, d, q1, q2, q3⟩ := same_results o1 o2 (f1.trans f2.symm) 5 9
  simp only
  rw [q1]; simp only
  rw [q2]; simp only
  rw [item_self _ (by simp)]; simp only
  rw [entries_self d q3]; simp only
  rw [missing_run]; simp only
  rw [missing_run]; simp only
  rw [f1, f2, ints_self _ (which_len _)]
  simp only [decide_true, cond_true]
end Go.Am.Ytiecnmmffplgcaa
