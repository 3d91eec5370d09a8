/- Plain laws of the printed functions of arcs: two arcs overlap just if they share a place. -/
import Derived.Test.YtlnidkgehflmfaaPlainB
namespace Go.Am.Ytlnidkgehflmfaa
def cnt (a : Int × Int) (i : Nat) : Nat := (List.range i).countP fun (j : Nat) => hasB a (j : Int)
def bothB (a b : Int × Int) (i : Nat) : Bool := (List.range i).any fun (j : Nat) => hasB a (j : Int) && hasB b (j : Int)
theorem cnt_succ (a : Int × Int) (i : Nat) : cnt a (i + 1) = if hasB a (i : Int) then cnt a i + 1 else cnt a i := by
  unfold cnt; rw [List.range_succ, List.countP_append]
  cases h : hasB a (i : Int) <;> simp [h]
theorem both_succ (a b : Int × Int) (i : Nat) : bothB a b (i + 1) = (bothB a b i || hasB a (i : Int) && hasB b (i : Int)) := by
  unfold bothB; rw [List.range_succ, List.any_append]; simp
theorem cnt_le (a : Int × Int) (i : Nat) : cnt a i ≤ i := by
  unfold cnt; have := List.countP_le_length (p := fun (j : Nat) => hasB a (j : Int)) (l := List.range i); simpa using this
theorem j5_0_eq (fuel : Nat) {R : Type} (k0 : ((Unit × (Unit × (Int × (Bool × (Int × Unit))))) × ((Int × Int) × ((Int × Int) × Unit))) → Option R) (n : Int) (both : Bool) (p : Int) (x y : Bool) (a b : Int × Int) :
    j5_0 fuel k0 (((), ((), (n, (both, (p, (x, (y, ()))))))), (a, (b, ()))) = k0 (((), ((), (n, ((both || x && y), (p, ()))))), (a, (b, ()))) := by
  cases both <;> cases x <;> rfl
theorem loop5 (fuel : Nat) {R : Type} (k0 : ((Unit × (Unit × (Int × (Bool × Unit)))) × ((Int × Int) × ((Int × Int) × Unit))) → Option R) (a b : Int × Int) : ∀ (n i : Nat), i ≤ 64 → 64 < n + i →
    l5_1 fuel k0 n (((), ((), (((cnt a i : Nat) : Int), (bothB a b i, (((i : Nat) : Int), ()))))), (a, (b, ()))) = k0 (((), ((), (((cnt a 64 : Nat) : Int), (bothB a b 64, ())))), (a, (b, ()))) := by
  intro n
  induction n with
  | zero => intro i h1 h2; omega
  | succ n ih =>
    intro i h1 h2
    show s5_1 fuel (l5_1 fuel k0 n) k0 _ = _
    simp only [s5_1, p20_eq, j5_0_eq]
    rcases Nat.lt_or_ge i 64 with hlt | hge
    · rw [decide_eq_true (show (i : Int) < 64 by omega), cond_true]
      have hc := cnt_le a i
      have h := ih (i + 1) (by omega) (by omega)
      rw [cnt_succ, both_succ] at h
      rw [wrapNext i (by omega)]
      cases hx : hasB a (i : Int) with
      | true =>
        rw [hx, if_pos rfl] at h
        rw [cond_true, wrapNext (cnt a i) (by omega)]
        exact h
      | false =>
        rw [hx, if_neg (by decide)] at h
        rw [cond_false]
        exact h
    · obtain rfl : i = 64 := by omega
      rw [decide_eq_false (by omega)]; rfl
theorem count_all : ∀ f, f < 64 → ∀ s, s < 65 → (List.range 64).countP (fun p => Nat.blt ((p + (64 - f)) % 64) s) = s := by decide +kernel
theorem cnt_right (a : Int × Int) (h : rightB a = true) : cnt a 64 = a.2.toNat := by
  obtain ⟨h1, h2, h3, h4⟩ := rightB_iff.1 h
  have e := count_all a.1.toNat (by omega) a.2.toNat (by omega)
  unfold cnt
  refine Eq.trans (List.countP_congr fun p hp => ?_) e
  have hp := List.mem_range.1 hp
  rw [hasB_iff]
  simp only [Nat.blt_eq, h, true_and]
  omega
theorem cnt_wrong (a : Int × Int) (h : rightB a = false) : cnt a 64 = 0 := by
  unfold cnt
  rw [List.countP_eq_zero]
  intro p _
  rw [hasB_eq, h]; simp
theorem both_over (a b : Int × Int) : bothB a b 64 = overB a b := by
  rw [Bool.eq_iff_iff]
  simp only [bothB, overB, List.any_eq_true, Bool.and_eq_true, List.mem_range, mem_places]
  constructor
  · rintro ⟨p, hp, h1, h2⟩; exact ⟨p, h1, h2⟩
  · rintro ⟨k, h1, h2⟩
    have := hasB_iff.1 h1
    have e : ((k.toNat : Nat) : Int) = k := by omega
    exact ⟨k.toNat, by omega, by rw [e]; exact h1, by rw [e]; exact h2⟩
theorem both_comm (a b : Int × Int) : bothB a b 64 = bothB b a 64 := by
  unfold bothB
  congr 1
  funext j
  exact Bool.and_comm _ _
theorem pure5 (a : Int × Int) (_ : Ty.wf (.pair (.int .i64) (.int .i64)) a) (b : Int × Int) (_ : Ty.wf (.pair (.int .i64) (.int .i64)) b) : p5 FUEL ((a, (b, ())), ()) = some (true, ()) := by
  have hf : 100 ≤ FUEL := fuel_big (by omega)
  have hb : overB b a = bothB a b 64 := by rw [both_comm, both_over]
  have hl := loop5 FUEL (fun ((_, (_, (x27, (x28, _)))), (x29, (x30, _))) => (match p18 FUEL ((x29, ()), ()) with | some z31 => (bif z31.1 then (j5_2 FUEL (fun ((x41, _), _) => (some (x41, ()))) (((), ((), (x27, (x28, (x29.2, ()))))), (x29, (x30, ())))) else (j5_2 FUEL (fun ((x42, _), _) => (some (x42, ()))) (((), ((), (x27, (x28, ((0 : Int), ()))))), (x29, (x30, ()))))) | none => none)) a b FUEL 0 (by omega) (fuel_big (by omega))
  refine Eq.trans hl ?_
  simp only [p18_eq, j5_2, p14_eq, p15_eq FUEL hf, p22_eq, cond_true, hb, both_over, BEq.rfl]
  cases h : rightB a with
  | true =>
    have h4 := rightB_iff.1 h
    have hp : (places a).length = a.2.toNat := by unfold places; rw [if_pos h, pl_len]
    rw [cnt_right a h, hp, decide_eq_true (show ((a.2.toNat : Nat) : Int) = a.2 by omega)]
    rfl
  | false =>
    have hp : (places a).length = 0 := by unfold places; rw [h]; rfl
    rw [cnt_wrong a h, hp]
    rfl
end Go.Am.Ytlnidkgehflmfaa
