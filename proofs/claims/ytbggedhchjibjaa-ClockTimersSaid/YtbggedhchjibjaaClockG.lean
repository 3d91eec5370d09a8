/- Plain law of the printed functions of the clock: ClockTimers. -/
import Derived.Test.YtbggedhchjibjaaClockF
import Derived.Test.YtbggedhchjibjaaAmZI
namespace Go.Am.Ytbggedhchjibjaa
theorem awake_run : p7 FUEL () = some true := by kernel_rfl
theorem start_run : p9 FUEL (1000, 0) = some (.inr (0, 1000, 0, 0, [], [], 0)) := by kernel_rfl

theorem timers_head (f : Nat) (dues passes : List Int) (N : Nat) (hN : N ≤ 256) (hNe : (if (256 : Int) < ((List.length dues : Nat) : Int) then (256 : Int) else ((List.length dues : Nat) : Int)) = (N : Int)) (A : p7 f () = some true) (B : p9 f (1000, 0) = some (.inr (0, 1000, 0, 0, [], [], 0)))
    (C : ∀ K1 : _ → Option Bool, (∀ (h : List TM) (m : MM) (D : List Int), Sets N D h m → K1 (passes, (N : Int), 1000, 0, (N : Int), h, m.1, m.2.1, m.2.2, D) = some true) → l4_0 f (fun x23 => some x23) K1 f (dues, passes, (N : Int), 0, 1000, 0, 0, [], [], [], 0, []) = some true)
    (E : ∀ (h : List TM) (m : MM) (D : List Int), Sets N D h m → ∀ K1 : _ → Option Bool, (∀ (many c : Int) (h : List TM) (m : MM), many + (h.length : Int) = (N : Int) → 0 ≤ many → (600 ≤ passes.length ∨ h = []) → K1 (passes, (N : Int), many, 1000, 1000 * c, (N : Int), h, m.1, m.2.1, m.2.2) = some true) →
      l4_5 f (fun x233 => some x233) K1 f (passes, (N : Int), 0, 0, 1000, 0, (N : Int), h, m.1, m.2.1, m.2.2, D, List.replicate N false) = some true) : p4 f (dues, passes) = some true := by
  simp only [p4, A, B, Bool.not_true, cond_false, decide_true, hNe]
  refine C _ fun h m D S => ?_
  simp only
  rw [if_pos (show (0 : Int) ≤ (N : Int) ∧ (N : Int) ≤ (N : Int) ∧ (N : Int) * ((1 : Nat) : Int) ≤ 140737488355328 by omega), Int.toNat_natCast]
  refine E h m D S _ fun many c h' m' hc y0 hl => ?_
  simp only [p14]
  have hw : IntKind.wrap .i64 (many + ((h'.length : Nat) : Int)) = (N : Int) := by rw [hc]; exact wrapI (by omega) (by omega)
  rw [hw, decide_eq_true rfl, cond_true]
  by_cases b : 600 ≤ passes.length
  · rw [decide_eq_true (show (600 : Int) ≤ ((passes.length : Nat) : Int) by omega)]; rfl
  · rw [decide_eq_false (show ¬ (600 : Int) ≤ ((passes.length : Nat) : Int) by omega)]
    have hh := hl.resolve_left b
    rw [hh] at hc
    simp only [cond_false]
    rw [decide_eq_true (show many = (N : Int) by simpa using hc)]

theorem timers (x0 : List Int) (w0 : Ty.wr (.slice (.int .i64)) x0) (x1 : List Int) (w1 : Ty.wr (.slice (.int .i64)) x1) : p4 FUEL (x0, x1) = some true := by
  have b0 : ∀ x ∈ x0, -9223372036854775808 ≤ x ∧ x < 9223372036854775808 := fun x hx => wf_i64 (Ty.wr.wf (.int .i64) (w0.2 x hx))
  have b1 : ∀ x ∈ x1, -9223372036854775808 ≤ x ∧ x < 9223372036854775808 := fun x hx => wf_i64 (Ty.wr.wf (.int .i64) (w1.2 x hx))
  have h1 : x1.length * 8 ≤ 140737488351232 := w1.1.2
  refine timers_head FUEL x0 x1 (min 256 x0.length) (by omega) (by split <;> omega) awake_run start_run (fun K1 hK => ?_) (fun h m D S K1 hK => ?_)
  · have S0 : Sets 0 [] [] ([], [], 0) := by
      refine ⟨⟨(by intro j _ hj; simp at hj), ⟨⟨whole_nil, List.nodup_nil⟩, fun id v => ?_⟩⟩, rfl, (by intro d hd; cases hd), fun t => ?_, rfl⟩
      · constructor
        · intro e; cases e
        · rintro ⟨i, hi, _⟩; simp at hi
      · constructor
        · intro e; cases e
        · rintro ⟨j, hj, _⟩; omega
    obtain ⟨D, h, m, r1, r2⟩ := sets_loop (K0 := fun x23 => some x23) (K1 := K1) x0 x1 b0 (min 256 x0.length) (by omega) (by omega) 1000 0 FUEL 0 [] [] ([], [], 0) (by have := big; omega) (Nat.zero_le _) S0
    exact r1.trans (hK h m D r2)
  · refine asks_loop (K0 := fun x233 => some x233) (K1 := K1) x1 (by omega) b1 (min 256 x0.length) (by omega) _ D hK FUEL 0 0 0 _ h m (by have := big; omega) (by omega) (by omega) (Int.le_refl _) (by omega) (fun _ => by omega) (fun x => by omega) (Int.le_refl _) ⟨S.tidy, S.len, S.small, by simp, fun t => ?_, by rw [S.few]; omega⟩
    rw [S.mem]
    constructor
    · rintro ⟨j, hj, e⟩
      exact ⟨j, hj, by rw [List.getD_eq_getElem?_getD, List.getElem?_replicate, if_pos hj]; rfl, e⟩
    · rintro ⟨j, hj, _, e⟩
      exact ⟨j, hj, e⟩
end Go.Am.Ytbggedhchjibjaa
