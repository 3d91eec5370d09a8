/- Plain law of the printed functions of draws: at each step both answer alike. -/
import Derived.Test.YtjnnbkfnhfondaaDrawsF
namespace Go.Am.Ytjnnbkfnhfondaa
abbrev Op := Int × (Int × (Int × List Int))
theorem wrapU_some (n : Int) : ∃ t : Nat, t < 18446744073709551616 ∧ IntKind.wrap .u64 n = (t : Int) :=
  ⟨(n % 18446744073709551616).toNat, by omega, by rw [wrapU_mod]; omega⟩
theorem flip (t : Nat) (h : t < 18446744073709551616) : bitsOp .xor .u64 (if IntKind.signed .u64 then -1 else IntKind.max .u64) (t : Int) = ((18446744073709551615 - t : Nat) : Int) := by
  show IntKind.wrap .u64 ((BitVec.allOnes 64 ^^^ BitVec.ofInt 64 (t : Int)).toNat : Int) = _
  rw [BitVec.allOnes_xor, BitVec.ofInt_natCast, BitVec.toNat_not, BitVec.toNat_ofNat, Nat.mod_eq_of_lt (show t < 2 ^ 64 from h), wrapU (by omega)]
theorem fork_both (y : Int) (s : Nat) : ∃ t : Nat, t < 18446744073709551616 ∧ p20 FUEL (y, (s : Int)) = some ((s : Int), (t : Int)) ∧ p21 FUEL (y, (s : Int)) = some ((s : Int), (t : Int)) := by
  obtain ⟨u, hu, eu⟩ := wrapU_some ((s : Int) + IntKind.wrap .u64 (y * (11400714819323198485 : Int)))
  have hm : 18446744073709551615 - u < 18446744073709551616 := by omega
  obtain ⟨t, ht⟩ : ∃ t, t = mixN (18446744073709551615 - u) := ⟨_, rfl⟩
  have hlt := mixN_lt (18446744073709551615 - u)
  rw [← ht] at hlt
  refine ⟨t, hlt, ?_, ?_⟩
  · simp only [p20, eu, flip u hu, p22_eq FUEL _ hm, p8, ← ht]
  · simp only [p21, p16, eu, show (18446744073709551615 : Int) - (u : Int) = ((18446744073709551615 - u : Nat) : Int) by omega, wrapU hm, p24_eq FUEL _ hm, ← ht]
theorem below_both (n : Int) (h : 1 ≤ n) (h1 : n < 9223372036854775808) (s : Nat) : ∃ j t : Nat, t < 18446744073709551616 ∧ p13 FUEL (n, (s : Int)) = some ((j : Int), 0, (t : Int)) ∧ p17 FUEL (IntKind.wrap .u64 n, (s : Int)) = some ((j : Int), (t : Int)) ∧ IntKind.wrap .i64 (j : Int) = (j : Int) := by
  obtain ⟨B, T, hB⟩ := both FUEL
  obtain ⟨m, rfl⟩ : ∃ m : Nat, n = (m : Int) := ⟨n.toNat, by omega⟩
  obtain ⟨b1, b2, b3, b4⟩ := hB m s (by omega) (by omega)
  have hw : IntKind.wrap .i64 ((B m s : Nat) : Int) = ((B m s : Nat) : Int) := wrapI (by omega) (by omega)
  refine ⟨B m s, T s, b2, ?_, ?_, hw⟩
  · simp only [p13]
    rw [decide_eq_false (by omega), wrapU (n := m) (by omega)]
    simp only [cond_false, b3, hw]
  · rw [wrapU (n := m) (by omega)]; exact b4
theorem next_both (s : Nat) : ∃ x t : Nat, t < 18446744073709551616 ∧ p9 FUEL (s : Int) = some ((x : Int), (t : Int)) ∧ p15 FUEL (s : Int) = some ((x : Int), (t : Int)) :=
  ⟨_, _, stepN_lt s, p9_eq FUEL s, p15_eq FUEL s⟩
theorem skip_both (x : Int) (s : Nat) : ∃ t : Nat, t < 18446744073709551616 ∧ p10 FUEL (x, (s : Int)) = some (t : Int) ∧ ∃ c : Int, p16 FUEL () = some c ∧ IntKind.wrap .u64 ((s : Int) + IntKind.wrap .u64 (x * c)) = (t : Int) := by
  obtain ⟨t, ht, e⟩ := wrapU_some ((s : Int) + IntKind.wrap .u64 (x * (11400714819323198485 : Int)))
  exact ⟨t, ht, by simp only [p10, e], _, rfl, e⟩
theorem condT {α : Type} {b : Bool} (h : b = true) {x y : α} : (bif b then x else y) = x := by rw [h]; rfl
theorem condF {α : Type} {b : Bool} (h : b = false) {x y : α} : (bif b then x else y) = y := by rw [h]; rfl
theorem l5_run {R : Type} (k0 : Bool → Option R) (k1 : Unit → Option R) (l : List Op) (hl : ∀ o ∈ l, (-9223372036854775808 ≤ o.2.1 ∧ o.2.1 < 9223372036854775808) ∧ (o.2.2.2.length + 1) * 8 ≤ 140737488355328) : ∀ (n i s : Nat), s < 18446744073709551616 → i ≤ 200 → 200 - i < n →
    l5_1 FUEL k0 k1 n (l, (i : Int), (s : Int), (s : Int)) = k1 () := by
  intro n
  induction n with
  | zero => intro i _ _ _ h; omega
  | succ n ih =>
    intro i s hs hi hn
    show s5_1 FUEL (l5_1 FUEL k0 k1 n) k0 k1 _ = _
    have F9 := next_both s
    have F10 := fun (x : Int) => skip_both x s
    have F13 := fun (nn : Int) (h : nn < 1) => p13_out nn s h
    have F13b := fun (nn : Int) (h : 1 ≤ nn) (h1 : nn < 9223372036854775808) => below_both nn h h1 s
    have F18 := fun (w : List Int) (hr : (w.length + 1) * 8 ≤ 140737488355328) => p18_eq w hr s hs
    have F19 := fun (nn : Int) => p19_eq nn s hs
    have F20 := fun (y : Int) => fork_both y s
    simp only [s5_1]
    generalize l5_1 FUEL k0 k1 n = L at ih ⊢
    generalize p9 FUEL = f9 at F9 ⊢
    generalize p15 FUEL = f15 at F9 ⊢
    generalize p10 FUEL = f10 at F10 ⊢
    generalize p16 FUEL = f16 at F10 ⊢
    generalize p13 FUEL = f13 at F13 F13b ⊢
    generalize p17 FUEL = f17 at F13b ⊢
    generalize p18 FUEL = f18 at F18 ⊢
    generalize p19 FUEL = f19 at F19 ⊢
    generalize p20 FUEL = f20 at F20 ⊢
    generalize p21 FUEL = f21 at F20 ⊢
    by_cases e : i < l.length
    · rw [decide_eq_true (show (i : Int) < ((l.length : Nat) : Int) by omega)]
      by_cases g : i < 200
      · have ho := hl _ (List.getElem_mem e)
        have hi0 : 0 ≤ (i : Int) := by omega
        rw [decide_eq_true (show (i : Int) < 200 by omega)]
        simp only [cond_true, if_pos hi0, Int.toNat_natCast, List.getElem?_eq_getElem e]
        generalize l[i] = o at ho
        obtain ⟨kd, nn, x, w⟩ := o
        simp only at ho
        have go : ∀ t : Nat, t < 18446744073709551616 → ∀ (kf : Bool → Option R) (kk : (List Op × Int × Int × Int) → Option R), (∀ a b, kk (l, (i : Int), a, b) = L (l, IntKind.wrap .i64 ((i : Int) + 1), a, b)) → j5_0 FUEL kf kk (l, (i : Int), true, (t : Int), (t : Int)) = k1 () := fun t ht kf kk hk => by
          simp only [j5_0, p11, Bool.not_true, cond_false, decide_true]
          rw [hk, wrapNext i (by omega)]
          exact ih (i + 1) t ht (by omega) (by omega)
        simp only
        by_cases k1' : kd = 1
        · obtain ⟨y, t, ht, e1, e2⟩ := F9
          refine (condT (decide_eq_true k1')).trans ?_
          simp only [cond_true, e1, e2, decide_true]
          exact go t ht _ _ fun _ _ => rfl
        refine (condF (decide_eq_false k1')).trans ?_
        by_cases k2 : kd = 2
        · obtain ⟨t, ht, e1, c, e2, e3⟩ := F10 x
          refine (condT (decide_eq_true k2)).trans ?_
          simp only [cond_true, cond_false, e1, e2, e3, decide_true]
          exact go t ht _ _ fun _ _ => rfl
        refine (condF (decide_eq_false k2)).trans ?_
        by_cases k3 : kd = 3
        · refine (condT (decide_eq_true k3)).trans ?_
          by_cases h1 : nn < 1
          · simp only [F13 nn h1, decide_eq_true h1, decide_true, cond_true]
            exact go s hs _ _ fun _ _ => rfl
          · obtain ⟨j, t, ht, e1, e2, e3⟩ := F13b nn (by omega) ho.1.2
            simp only [e1, e2, e3, decide_eq_false h1, decide_true, cond_true, cond_false]
            exact go t ht _ _ fun _ _ => rfl
        refine (condF (decide_eq_false k3)).trans ?_
        by_cases k4 : kd = 4
        · obtain ⟨t, ht, e1⟩ := F18 w ho.2
          refine (condT (decide_eq_true k4)).trans ?_
          simp only [cond_true, cond_false, e1]
          exact go t ht _ _ fun _ _ => rfl
        refine (condF (decide_eq_false k4)).trans ?_
        by_cases k5 : kd = 5
        · obtain ⟨t, ht, e1⟩ := F19 nn
          refine (condT (decide_eq_true k5)).trans ?_
          simp only [cond_true, cond_false, e1]
          exact go t ht _ _ fun _ _ => rfl
        refine (condF (decide_eq_false k5)).trans ?_
        by_cases k6 : kd = 6
        · obtain ⟨t, ht, e1, e2⟩ := F20 x
          obtain ⟨y, t', _, e3, _⟩ := F9
          refine (condT (decide_eq_true k6)).trans ?_
          simp only [cond_true, cond_false, e1, e2, e3]
          exact go t ht _ _ fun _ _ => rfl
        refine (condF (decide_eq_false k6)).trans ?_
        exact go s hs _ _ fun _ _ => rfl
      · rw [decide_eq_false (show ¬ (i : Int) < 200 by omega)]; rfl
    · rw [decide_eq_false (show ¬ (i : Int) < ((l.length : Nat) : Int) by omega)]; rfl
theorem play (a : Int) (wa : Ty.wf (.int .u64) a) (l : List Op) (hl : ∀ o ∈ l, (-9223372036854775808 ≤ o.2.1 ∧ o.2.1 < 9223372036854775808) ∧ (o.2.2.2.length + 1) * 8 ≤ 140737488355328) : p5 FUEL (a, l) = some true := by
  have ha := wf_u64 wa
  have hf := big
  obtain ⟨s, rfl⟩ : ∃ s : Nat, a = (s : Int) := ⟨a.toNat, by omega⟩
  simp only [p5, p7_eq, p8, Bool.not_true, cond_false]
  exact l5_run _ _ l hl FUEL 0 s (by omega) (by omega) (by omega)
end Go.Am.Ytjnnbkfnhfondaa
