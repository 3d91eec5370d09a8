/- Helps for plain laws: numbers that are wrapped, equality of data. -/
import Derived.Test.YtiecnmmffplgcaaAmZE
namespace Go.Am
theorem wrapU {n : Nat} (h : n < 18446744073709551616) : IntKind.wrap .u64 (n : Int) = n := by
  unfold IntKind.wrap
  simp only [IntKind.bits, IntKind.signed, Bool.false_and, Bool.false_eq_true, if_false]
  omega
theorem wrapU' {n : Int} (h0 : 0 ≤ n) (h : n < 18446744073709551616) : IntKind.wrap .u64 n = n := by
  unfold IntKind.wrap
  simp only [IntKind.bits, IntKind.signed, Bool.false_and, Bool.false_eq_true, if_false]
  omega
theorem wrapU_mod (n : Int) : IntKind.wrap .u64 n = n % 18446744073709551616 := rfl
theorem wrapU32_mod (n : Int) : IntKind.wrap .u32 n = n % 4294967296 := rfl
theorem wrapU32 {n : Int} (h0 : 0 ≤ n) (h : n < 4294967296) : IntKind.wrap .u32 n = n := by rw [wrapU32_mod]; omega
theorem wrapI {n : Int} (h1 : -9223372036854775808 ≤ n) (h2 : n < 9223372036854775808) : IntKind.wrap .i64 n = n := by
  show (if decide (n % (2 ^ 64 : Int) ≥ (2 ^ 63 : Int)) = true then n % (2 ^ 64 : Int) - (2 ^ 64 : Int) else n % (2 ^ 64 : Int)) = n
  by_cases h : n % (2 ^ 64 : Int) ≥ (2 ^ 63 : Int)
  · rw [if_pos (decide_eq_true h)]; omega
  · rw [if_neg (fun e => h (of_decide_eq_true e))]; omega
/-- A count goes on. -/
theorem wrapNext (i : Nat) (h : i < 9223372036854775807) : IntKind.wrap .i64 ((i : Int) + 1) = ((i + 1 : Nat) : Int) := by
  rw [wrapI (by omega) (by omega)]; omega
theorem tmod_pos {a b : Int} (h : 0 ≤ a) : Int.tmod a b = a % b := Int.tmod_eq_emod_of_nonneg h
theorem tdiv_pos {a b : Int} (h : 0 ≤ a) : Int.tdiv a b = a / b := Int.tdiv_eq_ediv_of_nonneg h

theorem wf_i64 {n : Int} (h : Ty.wf (.int .i64) n) : -9223372036854775808 ≤ n ∧ n < 9223372036854775808 := by
  have h : (Lit.int .i64 n).wf = true := h
  have : -9223372036854775808 ≤ n ∧ n ≤ 9223372036854775807 := by simpa [Lit.wf, IntKind.min, IntKind.max, IntKind.signed, IntKind.bits] using h
  omega
theorem wf_u64 {n : Int} (h : Ty.wf (.int .u64) n) : 0 ≤ n ∧ n < 18446744073709551616 := by
  have h : (Lit.int .u64 n).wf = true := h
  have : 0 ≤ n ∧ n ≤ 18446744073709551615 := by simpa [Lit.wf, IntKind.min, IntKind.max, IntKind.signed, IntKind.bits] using h
  omega
theorem wf_u32 {n : Int} (h : Ty.wf (.int .u32) n) : 0 ≤ n ∧ n < 4294967296 := by
  have h : (Lit.int .u32 n).wf = true := h
  have : 0 ≤ n ∧ n ≤ 4294967295 := by simpa [Lit.wf, IntKind.min, IntKind.max, IntKind.signed, IntKind.bits] using h
  omega

theorem eqB_int {k : IntKind} (x y : Int) : Ty.eqB (.int k) x y = decide (x = y) := rfl
theorem eqB_pair2 {k l : IntKind} (x y : Int × Int) : Ty.eqB (.pair (.int k) (.int l)) x y = decide (x = y) := by
  obtain ⟨a, b⟩ := x; obtain ⟨c, d⟩ := y
  simp only [Ty.eqB, Prod.mk.injEq, Bool.decide_and]
theorem eqList_int : ∀ (xs ys : List Int), eqList (fun a b : Int => decide (a = b)) xs ys = decide (xs = ys)
  | [], [] => rfl
  | [], _ :: _ => by simp [eqList]
  | _ :: _, [] => by simp [eqList]
  | x :: xs, y :: ys => by simp [eqList, eqList_int xs ys]
theorem eqB_arr_int {n : Nat} {k : IntKind} (xs ys : List Int) : Ty.eqB (.arr n (.int k)) xs ys = decide (xs = ys) := eqList_int xs ys
theorem eqList_bool : ∀ (xs ys : List Bool), eqList (fun a b : Bool => a == b) xs ys = decide (xs = ys)
  | [], [] => rfl
  | [], _ :: _ => by simp [eqList]
  | _ :: _, [] => by simp [eqList]
  | x :: xs, y :: ys => by
    simp only [eqList, eqList_bool xs ys, List.cons.injEq, Bool.decide_and]
    cases x <;> cases y <;> simp
theorem eqB_arr_bool {n : Nat} (xs ys : List Bool) : Ty.eqB (.arr n .bool) xs ys = decide (xs = ys) := eqList_bool xs ys
/-- Is it data without slices? -/
def Ty.flat : Ty → Bool
  | .slice _ => false
  | .one t | .arr _ t => t.flat
  | .pair a b => a.flat && b.flat
  | _ => true
theorem eqList_self {α : Type} {f : α → α → Bool} (h : ∀ x, f x x = true) : ∀ xs : List α, eqList f xs xs = true
  | [] => rfl
  | x :: xs => by simp only [eqList, h x, eqList_self h xs, Bool.and_self]
theorem eqB_self : ∀ t : Ty, t.flat = true → ∀ x, Ty.eqB t x x = true
  | .int _, _, _ => decide_eq_true rfl
  | .bool, _, x => by simp [Ty.eqB]
  | .str, _, x => by simp [Ty.eqB]
  | .unit, _, _ => rfl
  | .one t, h, x => eqB_self t h x
  | .pair a b, h, x => by
    have h : (a.flat && b.flat) = true := h
    rw [Bool.and_eq_true] at h
    simp only [Ty.eqB, eqB_self a h.1, eqB_self b h.2, Bool.and_self]
  | .arr _ t, h, x => eqList_self (eqB_self t h) x
/-- How many rounds a loop may make. -/
def FUEL : Nat := 2 ^ 70
theorem fuel_big {n : Nat} (h : n ≤ 1180591620717411303424) : n ≤ FUEL := h
end Go.Am
