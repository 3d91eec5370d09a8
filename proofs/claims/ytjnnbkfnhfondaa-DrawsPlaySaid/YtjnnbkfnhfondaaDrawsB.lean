/- Plain laws of the printed functions of draws: numbers below a bound; orders; picks. -/
import Derived.Test.YtjnnbkfnhfondaaDrawsA
namespace Go.Am.Ytjnnbkfnhfondaa
theorem andU (a : Nat) (ha : a < 18446744073709551616) : bitsOp .and .u64 (a : Int) (4294967295 : Int) = ((a % 4294967296 : Nat) : Int) := by
  show IntKind.wrap .u64 ((BitVec.ofInt 64 _ &&& BitVec.ofInt 64 (4294967295 : Int)).toNat : Int) = _
  have e : a &&& 4294967295 = a % 4294967296 := Nat.and_two_pow_sub_one_eq_mod a 32
  rw [BitVec.ofInt_natCast, show BitVec.ofInt 64 (4294967295 : Int) = BitVec.ofNat 64 4294967295 from rfl, BitVec.toNat_and, BitVec.toNat_ofNat, BitVec.toNat_ofNat, Nat.mod_eq_of_lt (show a < 2 ^ 64 from ha), show 4294967295 % 2 ^ 64 = 4294967295 from rfl, e, wrapU (by omega)]
theorem half (a : Nat) : Int.fdiv (a : Int) (2 ^ 32) = ((a / 4294967296 : Nat) : Int) := fdivP a 32
theorem mul32 (a b : Nat) (ha : a < 4294967296) (hb : b < 4294967296) : a * b ≤ 18446744065119617025 := Nat.mul_le_mul (show a ≤ 4294967295 by omega) (show b ≤ 4294967295 by omega)
theorem wmul (a b : Nat) (ha : a < 4294967296) (hb : b < 4294967296) : IntKind.wrap .u64 ((a : Int) * (b : Int)) = ((a * b : Nat) : Int) := by
  have := mul32 a b ha hb
  rw [← Int.natCast_mul, wrapU (by omega)]
theorem mul64 (a b c d : Nat) (ha : a < 4294967296) (hb : b < 4294967296) (hc : c < 4294967296) (hd : d < 4294967296) :
    a * c + (a * d + b * d / 4294967296) / 4294967296 + ((a * d + b * d / 4294967296) % 4294967296 + b * c) / 4294967296 = (a * 4294967296 + b) * (c * 4294967296 + d) / 18446744073709551616 := by
  have e : (a * 4294967296 + b) * (c * 4294967296 + d) = a * c * 18446744073709551616 + (a * d + b * c) * 4294967296 + b * d := by
    rw [Nat.add_mul, Nat.mul_add, Nat.mul_add]
    have e1 : a * 4294967296 * (c * 4294967296) = a * c * 18446744073709551616 := by
      rw [Nat.mul_assoc, Nat.mul_left_comm 4294967296, ← Nat.mul_assoc]
    have e2 : a * 4294967296 * d = a * d * 4294967296 := Nat.mul_right_comm _ _ _
    have e3 : b * (c * 4294967296) = b * c * 4294967296 := (Nat.mul_assoc _ _ _).symm
    rw [e1, e2, e3]
    omega
  rw [e]
  generalize a * c = P
  generalize a * d = Q
  generalize b * c = S
  generalize b * d = T
  omega
theorem p30_eq (fuel : Nat) (x y : Nat) (hx : x < 18446744073709551616) (hy : y < 18446744073709551616) : p30 fuel ((x : Int), (y : Int)) = some (((x * y / 18446744073709551616 : Nat) : Int), IntKind.wrap .u64 ((x : Int) * (y : Int))) := by
  simp only [p30, andU x hx, andU y hy, half]
  have ha : x / 4294967296 < 4294967296 := by omega
  have hb : x % 4294967296 < 4294967296 := by omega
  have hc : y / 4294967296 < 4294967296 := by omega
  have hd : y % 4294967296 < 4294967296 := by omega
  have hm := mul64 _ _ _ _ ha hb hc hd
  rw [show x / 4294967296 * 4294967296 + x % 4294967296 = x by omega, show y / 4294967296 * 4294967296 + y % 4294967296 = y by omega] at hm
  rw [← hm]
  have m1 := mul32 _ _ ha hc
  have m2 := mul32 _ _ ha hd
  have m3 := mul32 _ _ hb hc
  have m4 := mul32 _ _ hb hd
  rw [wmul _ _ hb hd, wmul _ _ ha hd, wmul _ _ hb hc, wmul _ _ ha hc]
  generalize x / 4294967296 * (y / 4294967296) = P at *
  generalize x / 4294967296 * (y % 4294967296) = Q at *
  generalize x % 4294967296 * (y / 4294967296) = S at *
  generalize x % 4294967296 * (y % 4294967296) = T at *
  rw [half, ← Int.natCast_add, wrapU (n := Q + T / 4294967296) (by omega), andU _ (by omega), half, ← Int.natCast_add, wrapU (n := P + (Q + T / 4294967296) / 4294967296) (by omega), ← Int.natCast_add,
    wrapU (n := (Q + T / 4294967296) % 4294967296 + S) (by omega), half, ← Int.natCast_add, wrapU (by omega)]
def belowN (n s : Nat) : Nat := mixN (stepN s) * n / 18446744073709551616
theorem belowN_lt (n s : Nat) (h : 0 < n) : belowN n s < n := by
  unfold belowN
  have := mixN_lt (stepN s)
  rw [Nat.div_lt_iff_lt_mul (by decide), Nat.mul_comm n]
  exact (Nat.mul_lt_mul_right h).2 this
theorem p23_eq (fuel : Nat) (n s : Nat) (hn : n < 18446744073709551616) : p23 fuel ((n : Int), (s : Int)) = some (((belowN n s : Nat) : Int), ((stepN s : Nat) : Int)) := by
  simp only [p23, p9_eq]
  rw [p30_eq fuel _ n (mixN_lt _) hn]
  rfl
theorem p23_some (fuel : Nat) (n s : Nat) (h : 0 < n) (hn : n < 18446744073709551616) : ∃ j s' : Nat, j < n ∧ p23 fuel ((n : Int), (s : Int)) = some ((j : Int), (s' : Int)) := ⟨_, _, belowN_lt n s h, p23_eq fuel n s hn⟩
theorem big : 2000 ≤ FUEL := by unfold FUEL; omega
def ints (n : Nat) : List Int := (List.range n).map fun (i : Nat) => (i : Int)
theorem ints_succ (n : Nat) : ints (n + 1) = ints n ++ [(n : Int)] := by simp [ints, List.range_succ]
theorem ints_len (n : Nat) : (ints n).length = n := by simp [ints]
section
variable (fuel : Nat) {R : Type}
theorem l12_0_run (k : (Int × Int × List Int) → Option R) (n : Nat) (hn : n ≤ 1000) (s : Int) : ∀ (m i : Nat), i ≤ n → n - i < m →
    l12_0 fuel k m ((n : Int), (n : Int), (i : Int), s, ints i ++ List.replicate (n - i) 0) = k ((n : Int), s, ints n) := by
  intro m
  induction m with
  | zero => intro i _ h; omega
  | succ m ih =>
    intro i hi hm
    show s12_0 fuel (l12_0 fuel k m) k _ = _
    have hlen : (ints i ++ List.replicate (n - i) (0 : Int)).length = n := by rw [List.length_append, ints_len, List.length_replicate]; omega
    simp only [s12_0, hlen]
    by_cases e : i < n
    · have hi' : 0 ≤ (i : Int) ∧ (i : Int) < (n : Int) := by omega
      rw [decide_eq_true hi'.2, wrapNext i (by omega)]
      simp only [cond_true, if_pos hi', Int.toNat_natCast]
      rw [List.getElem?_eq_getElem (by omega)]
      simp only
      have hset : (ints i ++ List.replicate (n - i) (0 : Int)).set i (i : Int) = ints (i + 1) ++ List.replicate (n - (i + 1)) 0 := by
        rw [List.set_append_right _ _ (by rw [ints_len]; exact Nat.le_refl i), ints_len, Nat.sub_self, show n - i = (n - (i + 1)) + 1 by omega, List.replicate_succ, List.set_cons_zero, ints_succ, List.append_assoc]
        rfl
      rw [hset]
      exact ih (i + 1) (by omega) (by omega)
    · obtain rfl : i = n := by omega
      rw [decide_eq_false (by omega), Nat.sub_self]
      simp only [cond_false, List.replicate_zero, List.append_nil]
theorem l12_1_run (k : (Int × List Int) → Option R) (n : Nat) (hn : n ≤ 1000) : ∀ (m i s : Nat) (l : List Int), i < n → i < m → l.Perm (ints n) →
    ∃ (s' : Nat) (l' : List Int), l'.Perm (ints n) ∧ l12_1 fuel k m ((i : Int), (s : Int), l) = k ((s' : Int), l') := by
  intro m
  induction m with
  | zero => intro i _ _ _ h; omega
  | succ m ih =>
    intro i s l hi hm hl
    show ∃ (s' : Nat) (l' : List Int), l'.Perm (ints n) ∧ s12_1 fuel (l12_1 fuel k m) k _ = k ((s' : Int), l')
    have hlen : l.length = n := by rw [hl.length_eq, ints_len]
    simp only [s12_1]
    by_cases e : 0 < i
    · rw [decide_eq_true (show (0 : Int) < (i : Int) by omega), wrapU (n := i) (by omega), show (i : Int) + 1 = ((i + 1 : Nat) : Int) by omega, wrapU (n := i + 1) (by omega)]
      obtain ⟨j, t, hb, hp⟩ := p23_some fuel (i + 1) s (by omega) (by omega)
      rw [hp]
      have hj' : 0 ≤ ((j : Nat) : Int) ∧ ((j : Nat) : Int) < ((l.length : Nat) : Int) := by omega
      have hi' : 0 ≤ ((i : Nat) : Int) ∧ ((i : Nat) : Int) < ((l.length : Nat) : Int) := by omega
      have hjl : j < l.length := by omega
      have hil : i < l.length := by omega
      simp only [cond_true, List.length_set, if_pos hj', if_pos hi', Int.toNat_natCast, List.getElem?_eq_getElem hjl, List.getElem?_eq_getElem hil]
      rw [List.getElem?_eq_getElem (by rw [List.length_set]; exact hjl)]
      simp only
      rw [wrapI (n := (i : Int) - 1) (by omega) (by omega), show (i : Int) - 1 = ((i - 1 : Nat) : Int) by omega]
      exact ih (i - 1) _ _ (by omega) (by omega) ((List.set_set_perm hil hjl).trans hl)
    · rw [decide_eq_false (show ¬ (0 : Int) < (i : Int) by omega)]
      exact ⟨s, l, hl, rfl⟩
end
theorem l12_1_none (fuel : Nat) {R : Type} (k : (Int × List Int) → Option R) (m : Nat) (hm : 0 < m) (i : Int) (hi : ¬ 0 < i) (s : Int) (l : List Int) : l12_1 fuel k m (i, s, l) = k (s, l) := by
  obtain ⟨m, rfl⟩ : ∃ n, m = n + 1 := ⟨m - 1, by omega⟩
  show s12_1 fuel (l12_1 fuel k m) k _ = _
  simp only [s12_1]
  rw [decide_eq_false hi]; rfl
theorem p12_out (n : Int) (s : Int) (h : ¬ (0 ≤ n ∧ n ≤ 1000)) : p12 FUEL (n, s) = some (1, s, []) := by
  simp only [p12]
  by_cases h0 : n < 0
  · rw [decide_eq_true h0]; rfl
  · rw [decide_eq_false h0, decide_eq_true (by omega)]; rfl
theorem p12_in (n s : Nat) (h : n ≤ 1000) : ∃ (s' : Nat) (l : List Int), l.Perm (ints n) ∧ p12 FUEL ((n : Int), (s : Int)) = some (0, (s' : Int), l) := by
  have hf := big
  have run : ∀ k : (Int × List Int) → Option (Int × Int × List Int), ∃ (s' : Nat) (l : List Int), l.Perm (ints n) ∧ l12_1 FUEL k FUEL (IntKind.wrap .i64 ((n : Int) - 1), (s : Int), ints n) = k ((s' : Int), l) := fun k => by
    rw [wrapI (n := (n : Int) - 1) (by omega) (by omega)]
    by_cases h0 : 0 < n
    · rw [show (n : Int) - 1 = ((n - 1 : Nat) : Int) by omega]
      exact l12_1_run FUEL k n h FUEL (n - 1) s _ (by omega) (by omega) (List.Perm.refl _)
    · exact ⟨s, ints n, List.Perm.refl _, l12_1_none FUEL k FUEL (by omega) _ (by omega) _ _⟩
  obtain ⟨s', l, hl, e⟩ := run (fun (x20, x21) => (some ((0 : Int), x20, x21)))
  refine ⟨s', l, hl, ?_⟩
  simp only [p12]
  rw [decide_eq_false (show ¬ (n : Int) < 0 by omega), decide_eq_false (show ¬ (1000 : Int) < (n : Int) by omega)]
  simp only [cond_false, List.length_replicate, Int.toNat_natCast]
  rw [if_pos (by omega)]
  have h0 := fun k => l12_0_run (R := Int × Int × List Int) FUEL k n h (s : Int) FUEL 0 (by omega) (by omega)
  exact (h0 _).trans e
theorem p13_out (n s : Int) (h : n < 1) : p13 FUEL (n, s) = some (0, 1, s) := by
  simp only [p13]
  rw [decide_eq_true h]; rfl
theorem p13_in (n s : Nat) (h : 1 ≤ n) (h1 : n < 9223372036854775808) : ∃ j s' : Nat, j < n ∧ p13 FUEL ((n : Int), (s : Int)) = some ((j : Int), 0, (s' : Int)) := by
  obtain ⟨j, t, hb, hp⟩ := p23_some FUEL n s (by omega) (by omega)
  refine ⟨j, t, hb, ?_⟩
  simp only [p13]
  rw [decide_eq_false (by omega), wrapU (n := n) (by omega)]
  simp only [cond_false, hp]
  rw [wrapI (by omega) (by omega)]
section
variable {R : Type}
theorem l14_1_run (k0 : (Int × Int × Int) → Option R) (k1 : Int → Option R) (w : List Int) (hw : ∀ x ∈ w, 0 ≤ x ∧ x ≤ 2147483647) (hl : w.length ≤ 1000) (s : Int) : ∀ (m i : Nat) (v : Int), 0 ≤ v → v < 18446744073709551616 → i ≤ w.length → w.length - i < m →
    l14_1 FUEL k0 k1 m (v, w, ((w.length : Nat) : Int), (i : Int), s) = k1 s ∨ ∃ j : Nat, j < w.length ∧ 0 < w[j]?.getD 0 ∧ l14_1 FUEL k0 k1 m (v, w, ((w.length : Nat) : Int), (i : Int), s) = k0 ((j : Int), 0, s) := by
  intro m
  induction m with
  | zero => intro i _ _ _ _ h; omega
  | succ m ih =>
    intro i v hv0 hv1 hi hm
    show s14_1 FUEL (l14_1 FUEL k0 k1 m) k0 k1 _ = _ ∨ ∃ j : Nat, j < w.length ∧ 0 < w[j]?.getD 0 ∧ s14_1 FUEL (l14_1 FUEL k0 k1 m) k0 k1 _ = _
    simp only [s14_1]
    by_cases e : i < w.length
    · have hx := hw _ (List.getElem_mem e)
      rw [decide_eq_true (show (i : Int) < ((w.length : Nat) : Int) by omega), if_pos (by omega), Int.toNat_natCast, List.getElem?_eq_getElem e, wrapNext i (by omega)]
      simp only [cond_true]
      rw [wrapU' (n := w[i]) (by omega) (by omega)]
      by_cases g : v < w[i]
      · rw [decide_eq_true g]
        exact Or.inr ⟨i, e, by rw [List.getElem?_eq_getElem e]; simp only [Option.getD_some]; omega, rfl⟩
      · rw [decide_eq_false g, wrapU' (n := v - w[i]) (by omega) (by omega)]
        exact ih (i + 1) _ (by omega) (by omega) (by omega) (by omega)
    · obtain rfl : i = w.length := by omega
      rw [decide_eq_false (by omega)]
      exact Or.inl rfl
theorem l14_0_run (k0 : (Int × Int × Int) → Option R) (k1 : (List Int × Int × Int) → Option R) (w : List Int) (hl : w.length ≤ 1000) (s : Int) : ∀ (m i : Nat) (v : Nat), v ≤ i * 2147483647 → i ≤ w.length → w.length - i < m → (∀ x ∈ w.take i, 0 ≤ x ∧ x ≤ 2147483647) →
    l14_0 FUEL k0 k1 m (w, (v : Int), w, ((w.length : Nat) : Int), (i : Int), s) = k0 (0, 1, s) ∨ ((∀ x ∈ w, 0 ≤ x ∧ x ≤ 2147483647) ∧ ∃ v' : Nat, v' < 18446744073709551616 ∧ l14_0 FUEL k0 k1 m (w, (v : Int), w, ((w.length : Nat) : Int), (i : Int), s) = k1 (w, (v' : Int), s)) := by
  intro m
  induction m with
  | zero => intro i _ _ _ h; omega
  | succ m ih =>
    intro i v hv hi hm hb
    show s14_0 FUEL (l14_0 FUEL k0 k1 m) k0 k1 _ = _ ∨ (_ ∧ ∃ v' : Nat, _ ∧ s14_0 FUEL (l14_0 FUEL k0 k1 m) k0 k1 _ = _)
    simp only [s14_0]
    by_cases e : i < w.length
    · rw [decide_eq_true (show (i : Int) < ((w.length : Nat) : Int) by omega), if_pos (by omega), Int.toNat_natCast, List.getElem?_eq_getElem e, wrapNext i (by omega)]
      simp only [cond_true]
      by_cases g1 : w[i] < 0
      · rw [decide_eq_true g1]; exact Or.inl rfl
      rw [decide_eq_false g1]
      by_cases g2 : 2147483647 < w[i]
      · rw [decide_eq_true g2]; exact Or.inl rfl
      rw [decide_eq_false g2, wrapU' (n := w[i]) (by omega) (by omega), wrapU' (n := (v : Int) + w[i]) (by omega) (by omega), show (v : Int) + w[i] = ((v + w[i].toNat : Nat) : Int) by omega]
      refine ih (i + 1) _ (by omega) (by omega) (by omega) fun x hx => ?_
      rw [List.take_succ_eq_append_getElem e] at hx
      rcases List.mem_append.1 hx with hx | hx
      · exact hb x hx
      · rw [List.mem_singleton.1 hx]; omega
    · obtain rfl : i = w.length := by omega
      rw [decide_eq_false (by omega)]
      refine Or.inr ⟨by rw [List.take_length] at hb; exact hb, v, by omega, rfl⟩
end
theorem p14_some (w : List Int) (s : Nat) : ∃ (i e s' : Int), p14 FUEL (w, (s : Int)) = some (i, e, s') ∧ (e = 0 → 0 ≤ i ∧ i < ((w.length : Nat) : Int) ∧ 0 < w[i.toNat]?.getD 0) := by
  have hf := big
  simp only [p14]
  by_cases h : w.length ≤ 1000
  · rw [decide_eq_false (by omega)]
    simp only [cond_false]
    have h0 := fun (k0 : (Int × Int × Int) → Option (Int × Int × Int)) k1 => l14_0_run k0 k1 w h (s : Int) FUEL 0 0 (by omega) (by omega) (by omega) (fun x hx => by simp at hx)
    rcases h0 (fun (x10, x11, x12) => (some (x10, x11, x12))) (fun (x13, x14, x15) => (bif (decide (x14 = (0 : Int))) then (some ((0 : Int), (1 : Int), x15)) else (match p23 FUEL (x14, x15) with | some z16 => (l14_1 FUEL (fun (x23, x24, x25) => (some (x23, x24, x25))) (fun x26 => (some ((0 : Int), (1 : Int), x26))) FUEL (z16.1, x13, ((List.length x13 : Nat) : Int), (0 : Int), z16.2)) | none => none))) with g | ⟨hw, v, hv, g⟩
    · exact ⟨0, 1, s, g, fun e => by cases e⟩
    · by_cases hz : v = 0
      · refine ⟨0, 1, s, g.trans ?_, fun e => by cases e⟩
        subst hz; rfl
      · obtain ⟨j0, t, hb, hp23⟩ := p23_some FUEL v s (by omega) hv
        have h1 := fun (k0 : (Int × Int × Int) → Option (Int × Int × Int)) k1 => l14_1_run k0 k1 w hw h (t : Int) FUEL 0 (j0 : Int) (by omega) (by omega) (by omega) (by omega)
        have e1 : decide ((v : Int) = 0) = false := decide_eq_false (by omega)
        rcases h1 (fun (x23, x24, x25) => (some (x23, x24, x25))) (fun x26 => (some ((0 : Int), (1 : Int), x26))) with q | ⟨j, hj, hp, q⟩
        · refine ⟨0, 1, (t : Int), g.trans ?_, fun e => by cases e⟩
          simp only [e1, cond_false, hp23]
          exact q
        · refine ⟨(j : Int), 0, (t : Int), g.trans ?_, fun _ => ⟨by omega, by omega, by rw [Int.toNat_natCast]; exact hp⟩⟩
          simp only [e1, cond_false, hp23]
          exact q
  · rw [decide_eq_true (by omega)]
    exact ⟨0, 1, s, rfl, fun e => by cases e⟩
def seenB (g : List Bool) (i : Nat) : Bool := g[i]?.getD false
theorem ints_mem (n : Nat) (x : Int) (h : x ∈ ints n) : 0 ≤ x ∧ x < (n : Int) := by
  simp only [ints, List.mem_map, List.mem_range] at h
  obtain ⟨i, hi, rfl⟩ := h
  omega
theorem ints_nodup (n : Nat) : (ints n).Nodup := by
  unfold ints
  rw [List.Nodup, List.pairwise_map]
  exact List.Pairwise.imp (fun h e => h (by omega)) (List.nodup_range (n := n))
section
variable {R : Type} (k0 : Bool → Option R) (k1 : (Int × List Int × Bool × Int × Int) → Option R) (n : Nat) (w : List Int) (a : Bool) (b c : Int) (l : List Int) (hl : l.Perm (ints n)) (hn : n ≤ 1000)
include hl hn
theorem l4_0_run : ∀ (m i : Nat) (g : List Bool), g.length = n → i ≤ n → n - i < m → (∀ j : Nat, j < n → (seenB g j = true ↔ (j : Int) ∈ l.take i)) →
    l4_0 FUEL k0 k1 m ((n : Int), w, a, b, (i : Int), c, l, g) = k1 ((n : Int), w, a, b, c) := by
  have hlen : l.length = n := by rw [hl.length_eq, ints_len]
  have hnd : l.Nodup := (hl.nodup_iff).2 (ints_nodup n)
  intro m
  induction m with
  | zero => intro i _ _ _ h; omega
  | succ m ih =>
    intro i g hg hi hm hb
    show s4_0 FUEL (l4_0 FUEL k0 k1 m) k0 k1 _ = _
    simp only [s4_0, hlen]
    by_cases e : i < n
    · have el : i < l.length := by omega
      have hx := ints_mem n l[i] ((hl.mem_iff).1 (List.getElem_mem el))
      have hi' : 0 ≤ (i : Int) ∧ (i : Int) < (n : Int) := by omega
      have hx' : 0 ≤ l[i] ∧ l[i] < ((g.length : Nat) : Int) := by omega
      have hno : seenB g l[i].toNat = false := by
        cases q : seenB g l[i].toNat
        · rfl
        · have := (hb l[i].toNat (by omega)).1 q
          rw [show ((l[i].toNat : Nat) : Int) = l[i] by omega] at this
          obtain ⟨j, hj, ej⟩ := List.getElem_of_mem this
          rw [List.length_take] at hj
          rw [List.getElem_take] at ej
          have := (List.getElem_inj hnd).1 ej
          omega
      have hget : g[l[i].toNat]? = some false := by
        rw [List.getElem?_eq_getElem (show l[i].toNat < g.length by omega)]
        unfold seenB at hno
        rw [List.getElem?_eq_getElem (show l[i].toNat < g.length by omega)] at hno
        exact congrArg some hno
      rw [decide_eq_true hi'.2, wrapNext i (by omega)]
      simp only [cond_true, if_pos hi', Int.toNat_natCast, List.getElem?_eq_getElem el, decide_eq_false (show ¬ l[i] < 0 by omega), decide_eq_false (show ¬ (n : Int) ≤ l[i] by omega), cond_false, if_pos hx', hget]
      refine ih (i + 1) _ (by rw [List.length_set]; exact hg) (by omega) (by omega) fun j hj => ?_
      rw [List.take_succ_eq_append_getElem el, List.mem_append, List.mem_singleton, ← hb j hj]
      unfold seenB
      by_cases q : j = l[i].toNat
      · rw [q, List.getElem?_set_self (by omega)]
        simp only [Option.getD_some, true_iff]
        exact Or.inr (by omega)
      · rw [List.getElem?_set_ne (fun h => q h.symm)]
        constructor
        · exact Or.inl
        · rintro (h | h)
          · exact h
          · omega
    · obtain rfl : i = n := by omega
      rw [decide_eq_false (by omega)]
      rfl
end
theorem j4_2_eq (n : Int) (hn : n < 9223372036854775808) (w : List Int) (e1 : Int) (s : Nat) (he : e1 = if 0 ≤ n ∧ n ≤ 1000 then 0 else 1) : j4_2 FUEL some (n, w, true, e1, (s : Int)) = some true := by
  have fin : ∀ e2 : Int, (e2 = if 1 ≤ n then 0 else 1) → j4_1 FUEL some (n, true, e1, e2) = some true := fun e2 h2 => by
    simp only [j4_1, cond_true]
    subst he
    subst h2
    by_cases c1 : 1 ≤ n
    · rw [if_pos c1, decide_eq_true c1, decide_eq_true (show 0 ≤ n by omega)]
      by_cases c2 : n ≤ 1000
      · rw [if_pos ⟨by omega, c2⟩, decide_eq_true c2]; rfl
      · rw [if_neg (fun h => c2 h.2), decide_eq_false c2]; rfl
    · rw [if_neg c1, decide_eq_false c1]
      by_cases c0 : 0 ≤ n
      · rw [if_pos ⟨c0, by omega⟩, decide_eq_true c0, decide_eq_true (show n ≤ 1000 by omega)]; rfl
      · rw [if_neg (fun h => c0 h.1), decide_eq_false c0]; rfl
  have pick : ∀ (i e s' : Int) (r : Option Bool) (e2 : Int), (e2 = if 1 ≤ n then 0 else 1) → (e = 0 → 0 ≤ i ∧ i < ((w.length : Nat) : Int) ∧ 0 < w[i.toNat]?.getD 0) →
      (bif (decide (e = (0 : Int))) then (bif (decide (i < (0 : Int))) then some false else (bif (decide (((List.length w : Nat) : Int) ≤ i)) then some false else (if 0 ≤ i then (match (w)[Int.toNat i]? with | some y34 => (bif (decide (y34 ≤ (0 : Int))) then some false else (j4_1 FUEL some (n, true, e1, e2))) | none => none) else none))) else (j4_1 FUEL some (n, true, e1, e2))) = some true := fun i e s' r e2 h2 h => by
    rw [fin e2 h2]
    by_cases he : e = 0
    · obtain ⟨g1, g2, g3⟩ := h he
      rw [decide_eq_true he, decide_eq_false (show ¬ i < 0 by omega), decide_eq_false (show ¬ ((w.length : Nat) : Int) ≤ i by omega)]
      simp only [cond_true, cond_false, if_pos g1]
      have hl : i.toNat < w.length := by omega
      rw [List.getElem?_eq_getElem hl] at g3 ⊢
      simp only [Option.getD_some] at g3
      simp only
      rw [decide_eq_false (by omega)]; rfl
    · rw [decide_eq_false he]; rfl
  simp only [j4_2]
  by_cases c : n < 1
  · rw [p13_out n s c]
    obtain ⟨i, e, s', hp, hq⟩ := p14_some w s
    simp only [hp, show decide ((1 : Int) = 0) = false from rfl, cond_false]
    exact pick i e s' none 1 (by rw [if_neg (by omega)]) hq
  · obtain ⟨m, rfl⟩ : ∃ m : Nat, n = (m : Int) := ⟨n.toNat, by omega⟩
    obtain ⟨j, t, hb, hp13⟩ := p13_in m s (by omega) (by omega)
    rw [hp13]
    obtain ⟨i, e, s', hp, hq⟩ := p14_some w t
    simp only [hp, decide_true, cond_true]
    rw [decide_eq_false (show ¬ (j : Int) < 0 by omega), decide_eq_false (show ¬ (m : Int) ≤ (j : Int) by omega)]
    simp only [cond_false]
    exact pick i e s' none 0 (by rw [if_pos (by omega)]) hq
theorem pure4 (a : Int) (wa : Ty.wf (.int .u64) a) (n : Int) (wn : Ty.wf (.int .i64) n) (w : List Int) (_ : Ty.wf (.slice (.int .i64)) w) : p4 FUEL (a, n, w) = some true := by
  have ha := wf_u64 wa
  have hn := wf_i64 wn
  have hf := big
  obtain ⟨s, rfl⟩ : ∃ s : Nat, a = (s : Int) := ⟨a.toNat, by omega⟩
  simp only [p4, p7_eq, p8]
  by_cases h : 0 ≤ n ∧ n ≤ 1000
  · obtain ⟨m, rfl⟩ : ∃ m : Nat, n = (m : Int) := ⟨n.toNat, by omega⟩
    obtain ⟨s', l, hl, hp⟩ := p12_in m s (by omega)
    have hlen : l.length = m := by rw [hl.length_eq, ints_len]
    simp only [hp, decide_true, cond_true, hlen, Bool.not_true, cond_false]
    rw [if_pos (by omega)]
    refine (l4_0_run _ _ m w true 0 (s' : Int) l hl (by omega) FUEL 0 _ (by simp) (by omega) (by omega) fun j hj => ?_).trans ?_
    · simp [seenB, List.getElem?_replicate, hj]
    · exact j4_2_eq (m : Int) (by omega) w 0 s' (by rw [if_pos h])
  · rw [p12_out n s h]
    simp only [show decide ((1 : Int) = 0) = false from rfl, cond_false]
    exact j4_2_eq n (by omega) w 1 s (by rw [if_neg h])
end Go.Am.Ytjnnbkfnhfondaa
