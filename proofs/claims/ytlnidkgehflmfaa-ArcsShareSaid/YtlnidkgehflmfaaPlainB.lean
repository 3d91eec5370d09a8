/- Plain laws of the printed functions of arcs: which places an arc has, whether two share one. -/
import Derived.Test.YtlnidkgehflmfaaWalk
import Derived.Test.YtlnidkgehflmfaaAmZF
namespace Go.Am.Ytlnidkgehflmfaa
def rightB (a : Int × Int) : Bool := decide (0 ≤ a.1) && decide (a.1 < 64) && decide (0 ≤ a.2) && decide (a.2 ≤ 64)
theorem rightB_iff {a : Int × Int} : rightB a = true ↔ 0 ≤ a.1 ∧ a.1 < 64 ∧ 0 ≤ a.2 ∧ a.2 ≤ 64 := by
  simp [rightB, and_assoc]
theorem p18_eq (fuel : Nat) (a : Int × Int) : p18 fuel ((a, ()), ()) = some (rightB a, ()) := by
  cases h1 : decide ((0 : Int) ≤ a.1) <;> cases h2 : decide (a.1 < (64 : Int)) <;> cases h3 : decide ((0 : Int) ≤ a.2) <;> simp [p18, rightB, h1, h2, h3]
theorem p19_eq (fuel : Nat) (a : Int × Int) : p19 fuel ((a, ()), ()) = some (rightB a, ()) := p18_eq fuel a
theorem p14_eq : p14 FUEL ((), ()) = some (true, ()) := by kernel_rfl

/-- The first i places of an arc. -/
def pl (a : Int × Int) (i : Nat) : List Int := (List.range i).map fun (j : Nat) => (a.1 + (j : Int)) % 64
theorem pl_len (a : Int × Int) (i : Nat) : (pl a i).length = i := by simp [pl]
theorem pl_succ (a : Int × Int) (i : Nat) : pl a (i + 1) = pl a i ++ [(a.1 + (i : Int)) % 64] := by simp [pl, List.range_succ]
def places (a : Int × Int) : List Int := if rightB a then pl a a.2.toNat else []
theorem mem_pl {a : Int × Int} (h : 0 ≤ a.1 ∧ a.1 < 64) {n : Nat} (hn : n ≤ 64) {k : Int} : k ∈ pl a n ↔ (0 ≤ k ∧ k < 64 ∧ (k - a.1 + 64) % 64 < n) := by
  unfold pl
  rw [List.mem_map]
  constructor
  · rintro ⟨j, hj, rfl⟩
    have := List.mem_range.1 hj
    omega
  · rintro ⟨h1, h2, h3⟩
    exact ⟨((k - a.1 + 64) % 64).toNat, List.mem_range.2 (by omega), by omega⟩

theorem step15 (a : Int × Int) (h : 0 ≤ a.1 ∧ a.1 < 64) (i : Nat) (hi : i < 64) : Int.tmod (IntKind.wrap .i64 (a.1 + (i : Int))) 64 = (a.1 + (i : Int)) % 64 := by
  rw [wrapI (by omega) (by omega), tmod_pos (by omega)]

section
variable (fuel : Nat) {R : Type} (k0 : ((Unit × Unit) × ((List Int) × Unit)) → Option R)
theorem loop15 (a : Int × Int) (h : rightB a = true) : ∀ (n i : Nat), i ≤ a.2.toNat → a.2.toNat < n + i → l15_0 fuel k0 n (((), ((), (a.2, (((i : Nat) : Int), ())))), (a, (pl a i, ()))) = k0 (((), ()), (pl a a.2.toNat, ())) := by
  obtain ⟨h1, h2, h3, h4⟩ := rightB_iff.1 h
  intro n
  induction n with
  | zero => intro i hi hn; omega
  | succ n ih =>
    intro i hi hn
    show s15_0 fuel (l15_0 fuel k0 n) k0 _ = _
    simp only [s15_0]
    rcases Nat.lt_or_ge i a.2.toNat with hlt | hge
    · rw [decide_eq_true (show (i : Int) < a.2 by omega), cond_true, if_pos (by rw [pl_len]; simp; omega), wrapNext i (by omega), step15 a ⟨h1, h2⟩ i (by omega), ← pl_succ]
      exact ih (i + 1) (by omega) (by omega)
    · obtain rfl : i = a.2.toNat := by omega
      rw [decide_eq_false (show ¬ ((a.2.toNat : Nat) : Int) < a.2 by omega), cond_false]
theorem loop17 (a : Int × Int) (h : rightB a = true) : ∀ (n i : Nat), i ≤ a.2.toNat → a.2.toNat < n + i → l17_0 fuel k0 n (((), ((), (true, (((i : Nat) : Int), ())))), (a, (pl a i, ()))) = k0 (((), ()), (pl a a.2.toNat, ())) := by
  obtain ⟨h1, h2, h3, h4⟩ := rightB_iff.1 h
  intro n
  induction n with
  | zero => intro i hi hn; omega
  | succ n ih =>
    intro i hi hn
    show s17_0 fuel (l17_0 fuel k0 n) k0 _ = _
    simp only [s17_0, cond_true]
    rcases Nat.lt_or_ge i a.2.toNat with hlt | hge
    · rw [decide_eq_true (show (i : Int) < a.2 by omega), cond_true, if_pos (by rw [pl_len]; simp; omega), wrapNext i (by omega), step15 a ⟨h1, h2⟩ i (by omega), ← pl_succ]
      exact ih (i + 1) (by omega) (by omega)
    · obtain rfl : i = a.2.toNat := by omega
      rw [decide_eq_false (show ¬ ((a.2.toNat : Nat) : Int) < a.2 by omega), cond_false]
end
theorem p15_eq (fuel : Nat) (hf : 100 ≤ fuel) (a : Int × Int) : p15 fuel ((a, ()), ()) = some ((), (places a, ())) := by
  simp only [p15, p18_eq, places]
  cases h : rightB a with
  | false => rfl
  | true =>
    have h4 := rightB_iff.1 h
    simp only [Bool.not_true, cond_false, if_true]
    exact loop15 fuel (fun ((_, _), (x7, _)) => (some ((), (x7, ())))) a h fuel 0 (by omega) (by omega)
theorem p17_eq (fuel : Nat) (hf : 100 ≤ fuel) (a : Int × Int) : p17 fuel ((a, ()), ()) = some ((), (places a, ())) := by
  simp only [p17, p19_eq, places]
  cases h : rightB a with
  | false =>
    obtain ⟨n, rfl⟩ : ∃ n, fuel = n + 1 := ⟨fuel - 1, by omega⟩
    rfl
  | true =>
    have h4 := rightB_iff.1 h
    simp only [if_true]
    exact loop17 fuel (fun ((_, _), (x7, _)) => (some ((), (x7, ())))) a h fuel 0 (by omega) (by omega)
theorem places_len (a : Int × Int) : (places a).length ≤ 64 := by
  unfold places
  split
  · rename_i h; rw [pl_len]; have := rightB_iff.1 h; omega
  · simp

section
variable (fuel : Nat) {R : Type} (k0 : ((Bool × Unit) × Unit) → Option R) (k1 : (Unit × Unit) → Option R)
theorem loop16 (xs : List Int) : ∀ (n i : Nat), i ≤ xs.length → xs.length < n + i → xs.length < 1000000 → l16_0 fuel k0 k1 n ((xs, (xs, (((i : Nat) : Int), ()))), ()) = k1 ((), ()) := by
  intro n
  induction n with
  | zero => intro i hi hn; omega
  | succ n ih =>
    intro i hi hn hl
    show s16_0 fuel (l16_0 fuel k0 k1 n) k0 k1 _ = _
    simp only [s16_0]
    rcases Nat.lt_or_ge i xs.length with hlt | hge
    · rw [decide_eq_true (show (i : Int) < ((xs.length : Nat) : Int) by omega), cond_true, if_pos (by omega), Int.toNat_natCast, List.getElem?_eq_getElem hlt]
      simp only
      rw [if_pos (by omega), decide_eq_true (show True from trivial), Bool.not_true, cond_false, wrapNext i (by omega)]
      exact ih (i + 1) (by omega) (by omega) hl
    · rw [decide_eq_false (by omega)]; rfl
theorem loop21 (k : Int) (xs : List Int) : ∀ (n i : Nat), i ≤ xs.length → xs.length < n + i → xs.length < 1000000 →
    l21_0 fuel k0 k1 n ((k, ((), (((i : Nat) : Int), ()))), (xs, ())) = bif decide (k ∈ xs.drop i) then k0 ((true, ()), ()) else k1 ((), ()) := by
  intro n
  induction n with
  | zero => intro i hi hn; omega
  | succ n ih =>
    intro i hi hn hl
    show s21_0 fuel (l21_0 fuel k0 k1 n) k0 k1 _ = _
    simp only [s21_0]
    rcases Nat.lt_or_ge i xs.length with hlt | hge
    · rw [decide_eq_true (show (i : Int) < ((xs.length : Nat) : Int) by omega), cond_true, if_pos ⟨by omega, by omega⟩, Int.toNat_natCast, List.getElem?_eq_getElem hlt]
      simp only
      rw [List.drop_eq_getElem_cons hlt]
      by_cases h : xs[i] = k
      · rw [decide_eq_true h, decide_eq_true (by simp [h])]; rfl
      · rw [decide_eq_false h, cond_false, wrapNext i (by omega), ih (i + 1) (by omega) (by omega) hl]
        congr 1
        simp only [List.mem_cons, Bool.decide_or, decide_eq_false (fun e => h (Eq.symm e)), Bool.false_or]
    · rw [decide_eq_false (by omega), List.drop_eq_nil_of_le hge]; rfl
end
theorem p16_eq (fuel : Nat) (hf : 100 ≤ fuel) (a : Int × Int) : p16 fuel ((places a, (places a, ())), ()) = some (true, ()) := by
  have hl := places_len a
  simp only [p16, decide_true, Bool.not_true, cond_false]
  exact loop16 fuel _ _ (places a) fuel 0 (by omega) (by omega) (by omega)

def hasB (a : Int × Int) (k : Int) : Bool := decide (k ∈ places a)
theorem p21_eq (fuel : Nat) (hf : 100 ≤ fuel) (a : Int × Int) (k : Int) : p21 fuel ((a, (k, ())), ()) = some (hasB a k, ()) := by
  have hl := places_len a
  simp only [p21, p17_eq fuel hf]
  have := loop21 fuel (fun ((x8, _), _) => (some (x8, ()))) (fun (_, _) => (some (false, ()))) k (places a) fuel 0 (by omega) (by omega) (by omega)
  rw [show (0 : Int) = ((0 : Nat) : Int) from rfl, this, List.drop_zero]
  unfold hasB
  cases decide (k ∈ places a) <;> rfl
theorem hasB_eq (a : Int × Int) (k : Int) : hasB a k = (rightB a && (decide (0 ≤ k) && (decide (k < 64) && decide ((k - a.1 + 64) % 64 < a.2)))) := by
  unfold hasB places
  cases h : rightB a with
  | false => simp
  | true =>
    have h4 := rightB_iff.1 h
    rw [if_pos rfl, Bool.true_and, ← Bool.decide_and, ← Bool.decide_and]
    congr 1
    rw [mem_pl ⟨h4.1, h4.2.1⟩ (by omega)]
    apply propext
    constructor <;> (intro ⟨g1, g2, g3⟩; exact ⟨g1, g2, by omega⟩)
theorem p20_eq (fuel : Nat) (a : Int × Int) (k : Int) : p20 fuel ((a, (k, ())), ()) = some (hasB a k, ()) := by
  simp only [p20, p18_eq, hasB_eq]
  cases h : rightB a with
  | false => rfl
  | true =>
    have h4 := rightB_iff.1 h
    by_cases h1 : 0 ≤ k
    · by_cases h2 : k < 64
      · rw [decide_eq_true h1, decide_eq_true h2]
        simp only [cond_true, Bool.true_and]
        rw [wrapI (n := k - a.1) (by omega) (by omega), wrapI (by omega) (by omega), tmod_pos (by omega)]
      · rw [decide_eq_true h1, decide_eq_false h2]; rfl
    · rw [decide_eq_false h1]; rfl

def overB (a b : Int × Int) : Bool := (places a).any (hasB b)
section
variable (fuel : Nat) {R : Type} (k0 : ((Bool × Unit) × Unit) → Option R) (k1 : (Unit × Unit) → Option R)
theorem loop23 (hf : 100 ≤ fuel) (b : Int × Int) (xs : List Int) : ∀ (n i : Nat), i ≤ xs.length → xs.length < n + i → xs.length < 1000000 →
    l23_0 fuel k0 k1 n (((), ((), (((i : Nat) : Int), ()))), (b, (xs, ()))) = bif (xs.drop i).any (hasB b) then k0 ((true, ()), ()) else k1 ((), ()) := by
  intro n
  induction n with
  | zero => intro i hi hn; omega
  | succ n ih =>
    intro i hi hn hl
    show s23_0 fuel (l23_0 fuel k0 k1 n) k0 k1 _ = _
    simp only [s23_0]
    rcases Nat.lt_or_ge i xs.length with hlt | hge
    · rw [decide_eq_true (show (i : Int) < ((xs.length : Nat) : Int) by omega), cond_true, if_pos ⟨by omega, by omega⟩, Int.toNat_natCast, List.getElem?_eq_getElem hlt]
      simp only [p21_eq fuel hf]
      rw [List.drop_eq_getElem_cons hlt, List.any_cons]
      cases hasB b xs[i] with
      | true => rfl
      | false =>
        rw [cond_false, wrapNext i (by omega), ih (i + 1) (by omega) (by omega) hl, Bool.false_or]
    · rw [decide_eq_false (by omega), List.drop_eq_nil_of_le hge]; rfl
end
theorem p23_eq (fuel : Nat) (hf : 100 ≤ fuel) (a b : Int × Int) : p23 fuel ((a, (b, ())), ()) = some (overB a b, ()) := by
  have hl := places_len a
  simp only [p23, p17_eq fuel hf]
  have := loop23 fuel (fun ((x9, _), _) => (some (x9, ()))) (fun (_, _) => (some (false, ()))) hf b (places a) fuel 0 (by omega) (by omega) (by omega)
  rw [show (0 : Int) = ((0 : Nat) : Int) from rfl, this, List.drop_zero]
  unfold overB
  cases (places a).any (hasB b) <;> rfl
theorem mem_places {a : Int × Int} {k : Int} : k ∈ places a ↔ hasB a k = true := by simp [hasB]
theorem hasB_iff {a : Int × Int} {k : Int} : hasB a k = true ↔ rightB a = true ∧ 0 ≤ k ∧ k < 64 ∧ (k - a.1 + 64) % 64 < a.2 := by
  rw [hasB_eq]; simp [and_assoc]
/-- Two arcs share a place just if one has the other's first. -/
theorem overB_eq (a b : Int × Int) : overB a b = (decide (0 < a.2) && (decide (0 < b.2) && (rightB a && (rightB b && (hasB a b.1 || hasB b a.1))))) := by
  rw [Bool.eq_iff_iff]
  simp only [overB, List.any_eq_true, Bool.and_eq_true, Bool.or_eq_true, decide_eq_true_eq, mem_places, hasB_iff, rightB_iff]
  constructor
  · rintro ⟨k, ⟨ha, h1, h2, h3⟩, hb, _, _, h4⟩
    refine ⟨by omega, by omega, ha, hb, ?_⟩
    omega
  · rintro ⟨h1, h2, ha, hb, h | h⟩
    · exact ⟨b.1, ⟨ha, by omega, by omega, h.2.2.2⟩, hb, by omega, by omega, by omega⟩
    · exact ⟨a.1, ⟨ha, by omega, by omega, by omega⟩, hb, by omega, by omega, h.2.2.2⟩
theorem p22_eq (fuel : Nat) (a b : Int × Int) : p22 fuel ((a, (b, ())), ()) = some (overB a b, ()) := by
  rw [overB_eq]
  simp only [p22, p18_eq, p20_eq]
  cases decide (0 < a.2) <;> cases decide (0 < b.2) <;> cases rightB a <;> cases rightB b <;> cases hasB a b.1 <;> rfl

section
variable (fuel : Nat) {R : Type}
theorem loop4 (k0 : ((Int × (Unit × (Unit × (Bool × Unit)))) × ((Int × Int) × ((Int × Int) × Unit))) → Option R) (k : Int) (e : Bool) (a b : Int × Int) : ∀ (n i : Nat) (xs : List Int), i ≤ xs.length → xs.length < n + i → xs.length < 1000000 →
    l4_0 fuel k0 n ((k, ((), ((), ((), (e, (((i : Nat) : Int), ())))))), (a, (b, (xs, ())))) = k0 ((k, ((), ((), (e, ())))), (a, (b, ()))) := by
  intro n
  induction n with
  | zero => intro i xs hi hn; omega
  | succ n ih =>
    intro i xs hi hn hl
    show s4_0 fuel (l4_0 fuel k0 n) k0 _ = _
    simp only [s4_0]
    rcases Nat.lt_or_ge i xs.length with hlt | hge
    · rw [decide_eq_true (show (i : Int) < ((xs.length : Nat) : Int) by omega), cond_true, if_pos ⟨by omega, by omega⟩, Int.toNat_natCast, List.getElem?_eq_getElem hlt]
      simp only
      rw [wrapNext i (by omega)]
      exact ih (i + 1) (xs.set i (-1)) (by simp; omega) (by simp; omega) (by simpa using hl)
    · rw [decide_eq_false (by omega)]; rfl
end
theorem pure4 (a : Int × Int) (_ : Ty.wf (.pair (.int .i64) (.int .i64)) a) (b : Int × Int) (_ : Ty.wf (.pair (.int .i64) (.int .i64)) b) (k : Int) (_ : Ty.wf (.int .i64) k) : p4 FUEL ((a, (b, (k, ()))), ()) = some (true, ()) := by
  have hf : 100 ≤ FUEL := fuel_big (by omega)
  have hl := places_len a
  simp only [p4, p15_eq FUEL hf, p17_eq FUEL hf, p16_eq FUEL hf]
  rw [show (0 : Int) = ((0 : Nat) : Int) from rfl, loop4 FUEL _ k true a b FUEL 0 (places a) (by omega) (Nat.lt_of_le_of_lt hl (fuel_big (by omega))) (by omega)]
  simp only [p14_eq, p15_eq FUEL hf, p17_eq FUEL hf, p16_eq FUEL hf, p18_eq, p19_eq, p20_eq, p21_eq FUEL hf, p22_eq, p23_eq FUEL hf, BEq.rfl, cond_true]
end Go.Am.Ytlnidkgehflmfaa
