/- Plain law of the printed functions of balance: the next move, and the loads behind any move (BalancePlans). -/
import Derived.Test.YtbbbdckbcicmbaaBalanceI
namespace Go.Am.Ytbbbdckbcicmbaa
theorem mv_self (m : MV) : Ty.eqB (.pair (.int .i64) (.pair (.int .i64) (.pair (.int .i64) (.int .i64)))) m m = true := eqB_self (.pair (.int .i64) (.pair (.int .i64) (.pair (.int .i64) (.int .i64)))) rfl m

theorem spoil_run {R : Type} {K : _ → Option R} (l : List Int) (h : Bool) (a b : Nat) (is : Bool) (e f : Int) (is' : Bool) (e' f' : Int) (same : Bool) (own : List Int) (m : MV) (q0 : List Int) (hq : q0.length ≤ 12) (m' : MV) :
    ∃ q : List Int, q.length ≤ 12 ∧ l5_0 FUEL K FUEL (l, h, a, b, is, e, f, is', e', f', same, 0, own, m, q0, m') = K (l, h, a, b, is, e, f, is', e', f', same, own, m, q, m') := by
  have key := for_loop (S := List Int) (L := fun n y => l5_0 FUEL K n y) (step := fun F => s5_0 FUEL F K) (fun n x => rfl)
    (fun i q => (l, h, a, b, is, e, f, is', e', f', same, (i : Int), own, m, q, m')) q0.length (fun _ q => q.length = q0.length) (fun i q => .inr (List.set q i (-1))) (fun q => K (l, h, a, b, is, e, f, is', e', f', same, own, m, q, m'))
    (fun F i q hi hs => by
      refine (condT (decide_eq_true (show (i : Int) < ((q.length : Nat) : Int) by omega))).trans ?_
      simp only [if_pos (show (0 : Int) ≤ (i : Int) ∧ (i : Int) < ((q.length : Nat) : Int) by omega), Int.toNat_natCast, g_some (show i < q.length by omega), wrapNext i (by omega)])
    (fun F q hs => condF (decide_eq_false (by omega))) (fun i q q' _ hs he => by
      have he := Sum.inr.inj he
      rw [← he, List.length_set]; exact hs) q0.length 0 q0 FUEL (Nat.zero_add _) (by have := big; omega) rfl
  rw [forI_fold] at key
  refine ⟨_, ?_, key⟩
  have : ∀ (k i : Nat) (q : List Int), (foldI (fun i q => List.set q i (-1)) k i q).length = q.length := by
    intro k
    induction k with
    | zero => intro i q; rfl
    | succ k ih => intro i q; unfold foldI; rw [ih, List.length_set]
  rw [this]; exact hq

theorem plans (l : List Int) (w : Ty.wr (.slice (.int .i64)) l) (m : MV) (_ : Ty.wr (.pair (.int .i64) (.pair (.int .i64) (.pair (.int .i64) (.int .i64)))) m) : p5 FUEL (l, m) = some true := by
  have h1 : l.length * 8 ≤ 140737488351232 := w.1.2
  obtain ⟨y, y1, y2⟩ := plan_both l (by omega)
  obtain ⟨z, z1, z2, z3⟩ := apply_both l (by omega) m
  simp only [p5, p7_eq, p10_eq l (by omega), take_own, y1, y2, z1, z2, same_run z.2 z3]
  obtain ⟨q, q1, q2⟩ := spoil_run (R := Bool) (K := fun (x27, x28, x29, x30, x31, x32, x33, x34, x35, x36, x37, x38, x39, x40, x41) => (if (List.length x40 + List.length [(-1 : Int), (-1 : Int)]) * 8 ≤ 140737488355328 then (match p13 FUEL (x29, x30, x27, x38) with | some z42 => (bif x28 then (bif x37 then (bif z42.1 then let v43 := (Ty.eqB (.pair (.int .i64) (.pair (.int .i64) (.pair (.int .i64) (.int .i64)))) x39 x41); (bif v43 then (bif (x31 == x34) then (bif (decide (x32 = x35)) then (some (decide (x33 = x36))) else (some false)) else (some false)) else (some false)) else (some false)) else (some false)) else (some false)) | none => none) else none)) l true 0 l.length y.2.1 y.2.2 z.1 y.2.1 y.2.2 z.1 true (l ++ [77]) y.1 z.2 z3 y.1
  refine q2.trans ?_
  simp only [p13_eq l (by omega), mv_self, decide_true, beq_self_eq_true, cond_true]
  rw [if_pos (by simp; omega)]
end Go.Am.Ytbbbdckbcicmbaa
