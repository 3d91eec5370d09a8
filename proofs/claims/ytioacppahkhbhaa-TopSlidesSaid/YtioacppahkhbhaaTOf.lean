/- The printed functions that tell rows of bools as runs: both tell 'runs'. -/
import Derived.Test.YtioacppahkhbhaaWalk
import Derived.Test.YtioacppahkhbhaaRuns
namespace Go.Am.Ytioacppahkhbhaa
open Runs
def bit (x : List Bool) (i : Nat) : Bool := x[i]?.getD false
theorem bit_get {x : List Bool} {i : Nat} (h : i < x.length) : x[i]? = some (bit x i) := by
  rw [bit, List.getElem?_eq_getElem h]; rfl
theorem last_get {α : Type} (l : List α) (z : α) : (l ++ [z])[l.length]? = some z := by simp
theorem last_set {α : Type} (l : List α) (z y : α) : (l ++ [z]).set l.length y = l ++ [y] := by simp
theorem last_at {α : Type} (l : List α) (z : α) (h : l.length < 100) : IntKind.wrap .i64 ((((l ++ [z]).length : Nat) : Int) - 1) = ((l.length : Nat) : Int) := by
  rw [List.length_append, List.length_singleton, wrapI (by omega) (by omega)]; omega

section
variable (fuel : Nat) {R : Type} (k : (List Bool × List (Int × Int)) → Option R) (x : List Bool) (hx : x.length = 64)
include hx
omit hx in
theorem j35_0_true (k : (List Bool × Int × List Bool × List (Int × Int)) → Option R) (i : Nat) (hi : i < 64) (h0 : 0 < i) (h1 : bit x (i - 1) = true) (h : bit x i = true) :
    j35_0 fuel k ((i : Int), x, (i : Int), true, x, lin (bit x) i) = k (x, (i : Int), x, lin (bit x) (i + 1)) := by
  obtain ⟨l, s, hs, e1, e2⟩ := lin_on (bit x) i h0 h1 h
  have hl : l.length < 100 := by
    have := lin_len (bit x) i
    rw [e1] at this
    simp only [List.length_append, List.length_singleton] at this
    omega
  rw [e1, e2]
  simp only [j35_0, cond_true, last_at l _ hl]
  have hb : 0 ≤ ((l.length : Nat) : Int) ∧ ((l.length : Nat) : Int) < (((l ++ [((s : Int), ((i - s : Nat) : Int))]).length : Nat) : Int) := by
    rw [List.length_append, List.length_singleton]; omega
  simp only [if_pos hb, Int.toNat_natCast, last_get, last_set]
  rw [wrapI (n := ((i - s : Nat) : Int) + 1) (by omega) (by omega)]
  rfl
omit hx in
theorem j35_0_false (k : (List Bool × Int × List Bool × List (Int × Int)) → Option R) (i : Nat) (hi : i < 64) (h1 : i = 0 ∨ bit x (i - 1) = false) (h : bit x i = true) :
    j35_0 fuel k ((i : Int), x, (i : Int), false, x, lin (bit x) i) = k (x, (i : Int), x, lin (bit x) (i + 1)) := by
  have := lin_len (bit x) i
  simp only [j35_0, cond_false]
  rw [if_pos (by simp only [List.length_singleton]; omega), lin_new (bit x) i h h1]
theorem l35_1_run : ∀ (n i : Nat), i ≤ 64 → 64 - i < n → l35_1 fuel k n (x, (i : Int), x, lin (bit x) i) = k (x, lin (bit x) 64) := by
  intro n
  induction n with
  | zero => intro j _ h; omega
  | succ n ih =>
    intro i hi hn
    show s35_1 fuel (l35_1 fuel k n) k _ = _
    simp only [s35_1]
    by_cases e : i < 64
    · rw [decide_eq_true (show (i : Int) < 64 by omega), if_pos (by omega), Int.toNat_natCast, bit_get (by omega)]
      simp only [cond_true]
      cases g : bit x i
      · simp only [Bool.not_false, cond_true]
        rw [wrapNext i (by omega), ← lin_off (bit x) i g]
        exact ih (i + 1) (by omega) (by omega)
      · simp only [Bool.not_true, cond_false]
        by_cases h0 : 0 < i
        · rw [decide_eq_true (show (0 : Int) < (i : Int) by omega), wrapI (n := (i : Int) - 1) (by omega) (by omega), if_pos (by omega), show ((i : Int) - 1).toNat = i - 1 by omega, bit_get (by omega)]
          simp only [cond_true]
          cases h1 : bit x (i - 1)
          · rw [j35_0_false fuel x _ i e (Or.inr h1) g]
            simp only
            rw [wrapNext i (by omega)]
            exact ih (i + 1) (by omega) (by omega)
          · rw [j35_0_true fuel x _ i e h0 h1 g]
            simp only
            rw [wrapNext i (by omega)]
            exact ih (i + 1) (by omega) (by omega)
        · rw [decide_eq_false (show ¬ (0 : Int) < (i : Int) by omega)]
          simp only [cond_false]
          rw [j35_0_false fuel x _ i e (Or.inl (by omega)) g]
          simp only
          rw [wrapNext i (by omega)]
          exact ih (i + 1) (by omega) (by omega)
    · obtain rfl : i = 64 := by omega
      rw [decide_eq_false (by omega)]
      rfl
end
theorem j35_2_true (fuel : Nat) (l : List (Int × Int)) (h1 : 1 < l.length) (h2 : l.length ≤ 64) (hb : ∀ z ∈ l, 0 ≤ z.2 ∧ z.2 ≤ 64) :
    j35_2 fuel some (Int.toNat (IntKind.wrap .i64 (((List.length l : Nat) : Int) - 1)), true, l) = some (merge l) := by
  obtain ⟨a, r, rfl⟩ : ∃ a r, l = a :: r := by
    cases l with
    | nil => simp at h1
    | cons a r => exact ⟨a, r, rfl⟩
  obtain ⟨m, z, rfl⟩ : ∃ m z, r = m ++ [z] := by
    have hr : r ≠ [] := by rintro rfl; simp at h1
    exact ⟨r.dropLast, r.getLast hr, (List.dropLast_concat_getLast hr).symm⟩
  have hl : (a :: m).length < 100 := by simp only [List.length_cons, List.length_append, List.length_singleton] at h2 ⊢; omega
  have e : a :: (m ++ [z]) = (a :: m) ++ [z] := rfl
  have ha := hb a List.mem_cons_self
  have hz := hb z (by simp)
  simp only [j35_2, cond_true]
  rw [e, last_at (a :: m) z hl, Int.toNat_natCast]
  simp only [last_get, last_set]
  have hg : (a :: m ++ [z])[Int.toNat 0]? = some a := rfl
  rw [if_pos (by simp only [List.cons_append, List.length_cons]; omega), hg]
  simp only
  rw [wrapI (n := z.2 + a.2) (by omega) (by omega), if_pos (by simp only [List.cons_append, List.length_cons]; omega), List.take_length]
  simp [merge]
theorem of_eq (x : List Bool) (hx : x.length = 64) : p35 FUEL x = some (runs (bit x)) := by
  simp only [p35]
  by_cases h0 : x = List.replicate 64 false
  · rw [h0]
    have e1 : Ty.eqB (.arr 64 (.bool)) (List.replicate 64 false) (List.replicate 64 false) = true := by decide
    rw [e1, ← h0]
    subst h0
    have e2 : runs (bit (List.replicate 64 false)) = [] := by decide +kernel
    rw [e2]; rfl
  · have e1 : Ty.eqB (.arr 64 (.bool)) x (List.replicate 64 false) = false := by
      rw [eqB_arr_bool]; exact decide_eq_false h0
    rw [e1]
    simp only [cond_false]
    rw [show (0 : Int) = ((0 : Nat) : Int) from rfl, show ([] : List (Int × Int)) = lin (bit x) 0 from rfl, l35_1_run FUEL _ x hx FUEL 0 (by omega) (by unfold FUEL; omega)]
    have hne : lin (bit x) 64 ≠ [] := fun e => h0 (by
      have hz := lin_none (bit x) 64 e
      refine List.ext_getElem (by rw [hx, List.length_replicate]) fun i h1 h2 => ?_
      have := hz i (by omega)
      rw [bit, List.getElem?_eq_getElem h1] at this
      rw [List.getElem_replicate]
      exact this)
    have hlen := lin_len (bit x) 64
    have hpos : 0 < (lin (bit x) 64).length := List.length_pos_iff.2 hne
    simp only
    rw [if_pos (by rw [wrapI (by omega) (by omega)]; omega), bit_get (i := 0) (by omega), bit_get (i := 63) (by omega)]
    have hoff : ∀ n, j35_2 FUEL (fun x36 => some x36) (n, false, lin (bit x) 64) = some (lin (bit x) 64) := fun n => rfl
    simp only [hoff]
    by_cases hall : R (bit x) 64 0 = 64
    · rw [lin_all _ hall, runs, if_pos hall]
      rfl
    · rw [runs, if_neg hall]
      obtain ⟨j, hj, hn⟩ : ∃ j, j < 64 ∧ bit x j = false := Classical.byContradiction fun g => hall ((R_all _ 64 0).2 fun i h1 h2 => by
        cases e : bit x i
        · exact absurd ⟨i, by omega, e⟩ g
        · rfl)
      cases b0 : bit x 0
      · rw [circ_lin (bit x) (by rw [b0]; rfl)]
        simp only [cond_false]
        cases decide ((1 : Int) < (((lin (bit x) 64).length : Nat) : Int)) <;> rfl
      · cases b63 : bit x 63
        · rw [circ_lin (bit x) (by rw [b63]; exact Bool.and_false _)]
          simp only [hoff, cond_true]
          cases decide ((1 : Int) < (((lin (bit x) 64).length : Nat) : Int)) <;> rfl
        · obtain ⟨e, h1⟩ := circ_merge (bit x) b0 b63 j hj hn
          rw [decide_eq_true (show ((1 : Int) < (((lin (bit x) 64).length : Nat) : Int)) by omega)]
          simp only [cond_true]
          rw [e]
          exact j35_2_true FUEL _ h1 hlen (lin_bound _ _)

theorem runs_len (b : Nat → Bool) : (runs b).length ≤ 64 := by
  unfold runs
  split
  · simp
  · exact circ_len b 64
end Go.Am.Ytioacppahkhbhaa
