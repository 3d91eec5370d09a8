/- Plain laws of the printed functions of arcs: between. -/
import Derived.Test.YtlnidkgehflmfaaWalk
import Derived.Test.YtlnidkgehflmfaaAmZF
namespace Go.Am.Ytlnidkgehflmfaa
theorem p14_eq' : p14 FUEL ((), ()) = some (true, ()) := by kernel_rfl
def cmpI (a b : Int) : Int := if a < b then -1 else if b < a then 1 else 0
theorem p32_eq (fuel : Nat) (a b : Int) : p32 fuel ((a, (b, ())), ()) = some (cmpI a b, ()) := by
  unfold cmpI
  simp only [p32, p33, decide_true, Bool.not_true, cond_false]
  by_cases h1 : a < b
  · rw [decide_eq_true h1, if_pos h1]; rfl
  · rw [decide_eq_false h1, if_neg h1]
    by_cases h2 : b < a
    · rw [decide_eq_true h2, if_pos h2]; rfl
    · rw [decide_eq_false h2, if_neg h2]; rfl
def orI (a b : Int) : Int := if a = 0 then b else a
theorem p31_eq (fuel : Nat) (hf : 10 ≤ fuel) (a b : Int) : p31 fuel (([a, b], ()), ()) = some (orI a b, ()) := by
  obtain ⟨n, rfl⟩ : ∃ n, fuel = n + 3 := ⟨fuel - 3, by omega⟩
  unfold orI
  simp only [p31, List.length_cons, List.length_nil]
  show s31_0 (n + 3) (l31_0 (n + 3) _ _ (n + 2)) _ _ _ = _
  simp only [s31_0]
  rw [decide_eq_true (by omega), cond_true, if_pos (by omega)]
  simp only [Int.toNat_zero, List.getElem?_cons_zero]
  by_cases h : a = 0
  · rw [decide_eq_true h, if_pos h, Bool.not_true, cond_false]
    show s31_0 (n + 3) (l31_0 (n + 3) _ _ (n + 1)) _ _ _ = _
    simp only [s31_0]
    rw [show IntKind.wrap .i64 ((0 : Int) + 1) = 1 from rfl, decide_eq_true (by omega), cond_true, if_pos (by omega)]
    simp only [show Int.toNat 1 = 1 from rfl, List.getElem?_cons_succ, List.getElem?_cons_zero]
    by_cases h2 : b = 0
    · rw [decide_eq_true h2, Bool.not_true, cond_false]
      show s31_0 (n + 3) (l31_0 (n + 3) _ _ n) _ _ _ = _
      simp only [s31_0]
      rw [show IntKind.wrap .i64 ((1 : Int) + 1) = 2 from rfl, decide_eq_false (by omega), cond_false, h2]
    · rw [decide_eq_false h2, Bool.not_false, cond_true]
  · rw [decide_eq_false h, if_neg h, Bool.not_false, cond_true]
/-- How two positions stand. -/
def cmpP (a b : Int × Int) : Int := orI (cmpI a.1 b.1) (cmpI a.2 b.2)
theorem p29_eq (fuel : Nat) (hf : 10 ≤ fuel) (a b : Int × Int) : p29 fuel ((a, (b, ())), ()) = some (cmpP a b, ()) := by
  simp only [p29, p32_eq, p31_eq fuel hf]; rfl
theorem cmpP_lt {a b : Int × Int} : cmpP a b < 0 ↔ (a.1 < b.1 ∨ a.1 = b.1 ∧ a.2 < b.2) := by
  unfold cmpP orI cmpI; split <;> split <;> (try split) <;> (try split) <;> (try split) <;> omega
theorem cmpP_le {a b : Int × Int} : cmpP a b ≤ 0 ↔ (a.1 < b.1 ∨ a.1 = b.1 ∧ a.2 ≤ b.2) := by
  unfold cmpP orI cmpI; split <;> split <;> (try split) <;> (try split) <;> (try split) <;> omega
theorem cmpP_one {a b : Int × Int} : cmpP a b = -1 ∨ cmpP a b = 0 ∨ cmpP a b = 1 := by
  unfold cmpP orI cmpI; split <;> split <;> (try split) <;> (try split) <;> (try split) <;> omega
theorem cmpP_eq {a b : Int × Int} : cmpP a b = 0 ↔ a = b := by
  obtain ⟨a1, a2⟩ := a; obtain ⟨b1, b2⟩ := b
  unfold cmpP orI cmpI
  simp only [Prod.mk.injEq]
  split <;> split <;> (try split) <;> (try split) <;> (try split) <;> omega
theorem p30_eq (fuel : Nat) (a b : Int × Int) : p30 fuel ((a, (b, ())), ()) = some (cmpP a b, ()) := by
  obtain ⟨a1, a2⟩ := a; obtain ⟨b1, b2⟩ := b
  simp only [p30, j30_0, eqB_pair2, Prod.mk.injEq, cmpP, orI, cmpI]
  by_cases h1 : a1 < b1
  · rw [decide_eq_true h1, if_pos h1]; rfl
  · rw [decide_eq_false h1, if_neg h1]
    by_cases h2 : a1 = b1
    · subst h2
      rw [decide_eq_true (show a1 = a1 from rfl), if_neg (Int.lt_irrefl a1), if_pos rfl]
      simp only [cond_false, cond_true, true_and]
      by_cases h3 : a2 < b2
      · rw [decide_eq_true h3, if_pos h3]; rfl
      · rw [decide_eq_false h3, if_neg h3]
        by_cases h4 : a2 = b2
        · subst h4; rw [decide_eq_true rfl, if_neg h3]; rfl
        · rw [decide_eq_false h4, if_pos (by omega)]; rfl
    · rw [decide_eq_false h2, if_pos (show b1 < a1 by omega), decide_eq_false (fun h => h2 h.1)]; rfl
def betB (a x b : Int × Int) : Bool := bif decide (a = b) then true else bif decide (cmpP a b < 0) then decide (cmpP a x < 0) && decide (cmpP x b ≤ 0) else decide (cmpP a x < 0) || decide (cmpP x b ≤ 0)
theorem p27_eq (fuel : Nat) (hf : 10 ≤ fuel) (a x b : Int × Int) : p27 fuel ((a, (x, (b, ()))), ()) = some (betB a x b, ()) := by
  simp only [p27, p29_eq fuel hf, eqB_pair2, betB]
  cases decide (a = b) <;> cases decide (cmpP a b < 0) <;> cases decide (cmpP a x < 0) <;> rfl
theorem p28_eq (fuel : Nat) (a x b : Int × Int) : p28 fuel ((a, (x, (b, ()))), ()) = some (betB a x b, ()) := by
  simp only [p28, p30_eq, betB]
  have hne : ∀ c : Int, cmpP a b = c → c ≠ 0 → ¬ a = b := fun c hc h0 e => h0 (hc.symm.trans (cmpP_eq.2 e))
  rcases @cmpP_one a b with h | h | h
  · rw [decide_eq_true h, decide_eq_false (hne _ h (by decide)), decide_eq_true (show cmpP a b < 0 by omega)]
    cases decide (cmpP a x < 0) <;> rfl
  · rw [decide_eq_true (cmpP_eq.1 h), decide_eq_false (show ¬ cmpP a b = -1 by omega), decide_eq_false (show ¬ cmpP a b = 1 by omega)]; rfl
  · rw [decide_eq_false (show ¬ cmpP a b = -1 by omega), decide_eq_false (hne _ h (by decide)), decide_eq_false (show ¬ cmpP a b < 0 by omega), decide_eq_true h]
    cases decide (cmpP a x < 0) <;> rfl
theorem pure8 (a : Int × Int) (_ : Ty.wf (.pair (.int .u64) (.int .u64)) a) (x : Int × Int) (_ : Ty.wf (.pair (.int .u64) (.int .u64)) x) (b : Int × Int) (_ : Ty.wf (.pair (.int .u64) (.int .u64)) b) : p8 FUEL ((a, (x, (b, ()))), ()) = some (true, ()) := by
  have hf : 10 ≤ FUEL := fuel_big (by omega)
  simp only [p8, p14_eq', p27_eq FUEL hf, p28_eq, cond_true, BEq.rfl]
theorem pure9 (a : Int × Int) (_ : Ty.wf (.pair (.int .u64) (.int .u64)) a) (x : Int × Int) (_ : Ty.wf (.pair (.int .u64) (.int .u64)) x) (b : Int × Int) (_ : Ty.wf (.pair (.int .u64) (.int .u64)) b) : p9 FUEL ((a, (x, (b, ()))), ()) = some (true, ()) := by
  have hf : 10 ≤ FUEL := fuel_big (by omega)
  simp only [p9, p14_eq', p27_eq FUEL hf, cond_true, eqB_pair2]
  by_cases h : a = b
  · subst h
    have e : ∀ y, betB a y a = true := fun y => by unfold betB; rw [decide_eq_true rfl]; rfl
    simp only [e, decide_true, cond_true]
  · have hb : ¬ b = a := fun e => h e.symm
    have h1 : betB a b b = true := by
      unfold betB
      rw [decide_eq_false h, cond_false, decide_eq_true (show cmpP b b ≤ 0 by rw [cmpP_eq.2 rfl]; omega)]
      cases decide (cmpP a b < 0) <;> rfl
    have h2 : betB a a b = false := by
      unfold betB
      rw [decide_eq_false h, cond_false, decide_eq_false (show ¬ cmpP a a < 0 by rw [cmpP_eq.2 rfl]; omega)]
      by_cases hc : cmpP a b < 0
      · rw [decide_eq_true hc]; rfl
      · rw [decide_eq_false hc, decide_eq_false (show ¬ cmpP a b ≤ 0 from fun e => by
          rcases @cmpP_one a b with h' | h' | h'
          · omega
          · exact h (cmpP_eq.1 h')
          · omega)]; rfl
    have h3 : (!(betB a x b == betB b x a)) = true := by
      have hne : ¬ (a.1 = b.1 ∧ a.2 = b.2) := fun e => h (Prod.ext e.1 e.2)
      unfold betB
      rw [decide_eq_false h, decide_eq_false hb, cond_false, cond_false]
      have c1 := @cmpP_lt a b; have c2 := @cmpP_lt b a; have c3 := @cmpP_lt a x; have c4 := @cmpP_lt b x; have c5 := @cmpP_le x b; have c6 := @cmpP_le x a
      by_cases d1 : cmpP a b < 0 <;> by_cases d2 : cmpP b a < 0 <;> by_cases d3 : cmpP a x < 0 <;> by_cases d4 : cmpP b x < 0 <;> by_cases d5 : cmpP x b ≤ 0 <;> by_cases d6 : cmpP x a ≤ 0 <;>
        first
        | (simp only [d1, d2, d3, d4, d5, d6, decide_true, decide_false, cond_true, cond_false]; rfl)
        | (exfalso; simp only [d1, d2, d3, d4, d5, d6, true_iff, false_iff] at c1 c2 c3 c4 c5 c6; omega)
    rw [decide_eq_false h, h1, h2, h3]
    rfl
end Go.Am.Ytlnidkgehflmfaa
