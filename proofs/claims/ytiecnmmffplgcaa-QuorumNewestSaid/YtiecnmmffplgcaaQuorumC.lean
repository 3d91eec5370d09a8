/- Likeness of lists; the live question; no reader (QuorumNil). -/
import Derived.Test.YtiecnmmffplgcaaQuorumB
namespace Go.Am.Ytiecnmmffplgcaa

theorem bytes_self (x : ByteArray × ByteArray) : Ty.eqB (.pair .str .str) x x = true := eqB_self (.pair .str .str) rfl x

theorem entries_self (x : LE) (hx : x.length < 9223372036854775807) : p13 FUEL (x, x) = some true := by
  have key := list_loop (R := Bool) (L := fun n y => l13_0 FUEL (fun x9 => (some x9)) (fun _ => (some true)) n y) (step := fun F => s13_0 FUEL F (fun x9 => (some x9)) (fun _ => (some true))) (fun n x => rfl)
    x (fun i (_ : Unit) => (x, x, (i : Int))) (fun _ => True) (fun _ _ => .inr ()) (fun _ => some true)
    (fun F i s h _ => by
      refine (condT (decide_eq_true (show ((i : Nat) : Int) < (x.length : Nat) by omega))).trans ?_
      rw [if_pos (by omega), Int.toNat_natCast, List.getElem?_eq_getElem h]
      simp only
      rw [if_pos (by omega)]
      simp only [bytes_self, Bool.not_true, cond_false, wrapNext i (by omega)])
    (fun F s _ => by
      refine (condF (decide_eq_false (show ¬ ((x.length : Nat) : Int) < (x.length : Nat) by omega))).trans rfl)
    (fun _ _ _ _ _ _ => trivial) () trivial FUEL (Nat.lt_trans hx (by unfold FUEL; decide))
  rw [forL_fold] at key
  refine (condF (show (!decide (((x.length : Nat) : Int) = ((x.length : Nat) : Int))) = false by simp)).trans key

theorem ints_self (x : List Int) (hx : x.length < 9223372036854775807) : p14 FUEL (x, x) = some true := by
  have key := list_loop (R := Bool) (L := fun n y => l14_0 FUEL (fun x9 => (some x9)) (fun _ => (some true)) n y) (step := fun F => s14_0 FUEL F (fun x9 => (some x9)) (fun _ => (some true))) (fun n x => rfl)
    x (fun i (_ : Unit) => (x, x, (i : Int))) (fun _ => True) (fun _ _ => .inr ()) (fun _ => some true)
    (fun F i s h _ => by
      refine (condT (decide_eq_true (show ((i : Nat) : Int) < (x.length : Nat) by omega))).trans ?_
      rw [if_pos (by omega), Int.toNat_natCast, List.getElem?_eq_getElem h]
      simp only
      rw [if_pos (by omega)]
      simp only [decide_true, Bool.not_true, cond_false, wrapNext i (by omega)])
    (fun F s _ => by
      refine (condF (decide_eq_false (show ¬ ((x.length : Nat) : Int) < (x.length : Nat) by omega))).trans rfl)
    (fun _ _ _ _ _ _ => trivial) () trivial FUEL (Nat.lt_trans hx (by unfold FUEL; decide))
  rw [forL_fold] at key
  refine (condF (show (!decide (((x.length : Nat) : Int) = ((x.length : Nat) : Int))) = false by simp)).trans key

theorem item_self (i : Int × (Int × (Bool × (LE × List Int)))) (h : i.2.2.2.1.length < 9223372036854775807) : p12 FUEL (i, i) = some true := by
  unfold p12
  simp only [entries_self _ h, decide_true, cond_true, beq_self_eq_true]
  rw [eqB_arr_int, decide_eq_true rfl]

/-! ### The live question -/
def none4 : Int → Option An := fun _ => none

theorem new_run {b r : Int} (h : 0 ≤ b ∧ b < 64 ∧ r ≠ 0) : p8 FUEL (b, r) = some (.inr (0, b, r, [], [], 0)) := by
  show (bif (decide (b < 0)) then _ else (bif (decide ((64 : Int) ≤ b)) then _ else (bif (decide (r = 0)) then _ else _))) = _
  rw [decide_eq_false (by omega), decide_eq_false (by omega), decide_eq_false h.2.2]; rfl
theorem new_no {b r : Int} (h : ¬ (0 ≤ b ∧ b < 64 ∧ r ≠ 0)) : p8 FUEL (b, r) = some (.inl 1) := by
  show (bif (decide (b < 0)) then _ else (bif (decide ((64 : Int) ≤ b)) then _ else (bif (decide (r = 0)) then _ else _))) = _
  by_cases h1 : b < 0
  · rw [decide_eq_true h1]; rfl
  by_cases h2 : 64 ≤ b
  · rw [decide_eq_false h1, decide_eq_true h2]; rfl
  by_cases h3 : r = 0
  · rw [decide_eq_false h1, decide_eq_false h2, decide_eq_true h3]; rfl
  · exact absurd ⟨by omega, by omega, h3⟩ h

theorem alive_run : p9 FUEL () = some true := by
  have g : ∀ (i v : Int), 0 ≤ v → goodA (7, (i, (v, []))) := fun i v hv => ⟨hv, by simp⟩
  obtain ⟨m1, b1, c1, e1, o1, h1⟩ := add_run Ok.nil 3 7 0 (g 1 5 (by decide))
  obtain ⟨m2, b2, c2, e2, o2, h2⟩ := add_run o1 3 7 0 (g 1 5 (by decide))
  obtain ⟨m3, b3, c3, e3, o3, h3⟩ := add_run o2 3 7 2 (g 1 4 (by decide))
  obtain ⟨m4, b4, c4, e4, o4, h4⟩ := add_run o3 3 7 3 (g 2 5 (by decide))
  have h0 : hd [] = none4 := rfl
  rw [h0] at e1 h1
  rw [h1] at e2 h2
  rw [h2] at e3 h3
  rw [h3] at e4 h4
  have l3 : m3.length = 2 := by rw [o3.len, h3]; rfl
  have l4 : m4.length = 3 := by rw [o4.len, h4]; rfl
  have q3 := few_run (m := m3) (bs := b3) (clk := c3) (by omega) 3 7
  have q4 := result_run o4 (by omega) 3 7
  rw [h4] at q4
  unfold p9
  rw [new_run (by decide)]
  simp only [decide_true, Bool.not_true, cond_false]
  rw [e1]; simp only
  rw [e2]; simp only
  rw [e3]; simp only
  rw [q3]; simp only
  rw [e4]; simp only
  rw [q4]; simp only
  rfl

/-- QuorumNil. -/
theorem quorumNil (x0 : Int) (_ : Ty.wr (.int .i64) x0) (x1 : An) (_ : Ty.wr VT x1) : p6 FUEL (x0, x1) = some true := by
  unfold p6
  simp only [p11b, alive_run, p10d, cond_true, decide_true]
  rw [item_self _ (by simp)]
  rfl
end Go.Am.Ytiecnmmffplgcaa
