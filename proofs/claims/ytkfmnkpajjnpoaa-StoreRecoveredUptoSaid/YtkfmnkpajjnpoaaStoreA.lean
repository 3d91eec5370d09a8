/- Plain laws of the printed functions of the store: copies, votes, locks. -/
import Derived.Test.YtkfmnkpajjnpoaaWalk
import Derived.Test.YtkfmnkpajjnpoaaAmZI
namespace Go.Am.Ytkfmnkpajjnpoaa
theorem condT {α : Type} {b : Bool} (h : b = true) {x y : α} : (bif b then x else y) = x := by rw [h]; rfl
theorem condF {α : Type} {b : Bool} (h : b = false) {x y : α} : (bif b then x else y) = y := by rw [h]; rfl
theorem big : 1180591620717411303424 ≤ FUEL := Nat.le_refl _

abbrev En := ByteArray × ByteArray
/-- An item: bucket, version, whether it is written, entries, incarnations. -/
abbrev IT := Int × (Int × (Bool × (List En × List Int)))
/-- A lock: transaction, managers, item. -/
abbrev LK := Int × (List Int × IT)
/-- A replica: state, incarnation, version, fences, entries, locks, votes. -/
abbrev RW := Int × Int × Int × List Int × List En × List LK × List (Int × Int)

theorem clone_run (x : List En) (h : x.length * 32 ≤ 140737488355328) : p38 FUEL x = some x := by
  have e : j38_0 FUEL (fun x => some x) x = some x := by
    simp only [j38_0, List.length_nil, Nat.zero_add, List.nil_append]
    rw [if_pos h]
  simp only [p38, e, cond_true, cond_false]
  cases x with
  | nil => exact fork_self _
  | cons a l => rfl
theorem clone_run2 (x : List En) (h : x.length * 32 ≤ 140737488355328) : p38b FUEL x = some x := by
  have e : j38b_0 FUEL (fun x => some x) x = some x := by
    simp only [j38b_0, List.length_nil, Nat.zero_add, List.nil_append]
    rw [if_pos h]
  simp only [p38b, e, cond_true, cond_false]
  cases x with
  | nil => exact fork_self _
  | cons a l => rfl
theorem own_run (l : LK) (h : l.2.2.2.2.2.1.length * 32 ≤ 140737488355328) : p46 FUEL l = some l := by
  simp only [p46, clone_run _ h]

/-- The vote that was given on a transaction; 0: none. -/
def voted (vs : List (Int × Int)) (tx : Int) : Int := match vs.find? (fun v => decide (v.1 = tx)) with
  | some v => v.2
  | none => 0

theorem find_vote {R : Type} (vs : List (Int × Int)) (tx : Int) (hl : vs.length < 9223372036854775807) (K0 : (Int × Int) → Option R) (K1 : Int → Option R) : ∀ (n i : Nat), vs.length - i < n → i ≤ vs.length →
    ∃ r : Option Nat, l66_0 FUEL K0 K1 n (vs, (vs.length : Int), (i : Int), tx) = (match r with | some j => K0 ((j : Int), tx) | none => K1 tx) ∧
      (vs.drop i).find? (fun v => decide (v.1 = tx)) = (match r with | some j => vs[j]? | none => none) ∧ ∀ j, r = some j → j < vs.length := by
  intro n
  induction n with
  | zero => intro i h; omega
  | succ n ih =>
    intro i h hi
    by_cases e : i < vs.length
    · have hs : l66_0 FUEL K0 K1 (n + 1) (vs, (vs.length : Int), (i : Int), tx) = if vs[i].1 = tx then K0 ((i : Int), tx) else l66_0 FUEL K0 K1 n (vs, (vs.length : Int), ((i + 1 : Nat) : Int), tx) := by
        refine (condT (decide_eq_true (show (i : Int) < ((vs.length : Nat) : Int) by omega))).trans ?_
        rw [if_pos (show (0 : Int) ≤ (i : Int) by omega), Int.toNat_natCast, List.getElem?_eq_getElem e]
        simp only [p67, wrapNext i (by omega)]
        by_cases h1 : vs[i].1 = tx
        · rw [decide_eq_true h1, if_pos h1]; rfl
        · rw [decide_eq_false h1, if_neg h1]; rfl
      rw [hs, List.drop_eq_getElem_cons e, List.find?_cons]
      by_cases h1 : vs[i].1 = tx
      · rw [if_pos h1, decide_eq_true h1]
        exact ⟨some i, rfl, (List.getElem?_eq_getElem e).symm, fun j hj => by cases hj; exact e⟩
      · rw [if_neg h1, decide_eq_false h1]
        exact ih (i + 1) (by omega) (by omega)
    · refine ⟨none, ?_, ?_, fun j hj => by cases hj⟩
      · exact condF (decide_eq_false (show ¬ (i : Int) < ((vs.length : Nat) : Int) by omega))
      · rw [List.drop_eq_nil_of_le (by omega)]; rfl

theorem voted_run (tx s inc ver : Int) (f : List Int) (d : List En) (ls : List LK) (vs : List (Int × Int)) (hl : vs.length < 9223372036854775807) :
    p41 FUEL (tx, s, inc, ver, f, d, ls, vs) = some (voted vs tx, s, inc, ver, f, d, ls, vs) := by
  obtain ⟨r, h1, h2, h3⟩ := find_vote vs tx hl (fun (x9, x10) => some (x9, x10)) (fun x11 => some ((-1 : Int), x11)) FUEL 0 (by have := big; omega) (Nat.zero_le _)
  simp only [p41, p66, show ((0 : Nat) : Int) = 0 from rfl] at h1 ⊢
  rw [h1]
  rw [List.drop_zero] at h2
  cases r with
  | none =>
    simp only at h2 ⊢
    rw [decide_eq_false (by decide), cond_false, voted, h2]
  | some j =>
    simp only at h2 ⊢
    have hj := h3 j rfl
    rw [decide_eq_true (by omega), cond_true, if_pos (by omega), Int.toNat_natCast, List.getElem?_eq_getElem hj]
    rw [List.getElem?_eq_getElem hj] at h2
    simp only [voted, h2]

/-- Is a lock there at odds with an item? -/
def odds (ls : List LK) (w : Bool) : Bool := ls.any fun l => l.2.2.2.2.1 || w

theorem find_odds {R : Type} (ls : List LK) (l : LK) (hl : ls.length < 9223372036854775807) (K0 : (Int × LK) → Option R) (K1 : LK → Option R) : ∀ (n i : Nat), ls.length - i < n → i ≤ ls.length →
    ∃ r : Option Nat, l65_0 FUEL K0 K1 n (ls, (ls.length : Int), (i : Int), l) = (match r with | some j => K0 ((j : Int), l) | none => K1 l) ∧ (ls.drop i).any (fun x => x.2.2.2.2.1 || l.2.2.2.2.1) = r.isSome := by
  intro n
  induction n with
  | zero => intro i h; omega
  | succ n ih =>
    intro i h hi
    by_cases e : i < ls.length
    · have hs : l65_0 FUEL K0 K1 (n + 1) (ls, (ls.length : Int), (i : Int), l) = if (ls[i].2.2.2.2.1 || l.2.2.2.2.1) = true then K0 ((i : Int), l) else l65_0 FUEL K0 K1 n (ls, (ls.length : Int), ((i + 1 : Nat) : Int), l) := by
        refine (condT (decide_eq_true (show (i : Int) < ((ls.length : Nat) : Int) by omega))).trans ?_
        rw [if_pos (show (0 : Int) ≤ (i : Int) by omega), Int.toNat_natCast, List.getElem?_eq_getElem e]
        simp only [p69, wrapNext i (by omega)]
        cases ls[i].2.2.2.2.1 <;> cases l.2.2.2.2.1 <;> rfl
      rw [hs, List.drop_eq_getElem_cons e, List.any_cons]
      by_cases h1 : (ls[i].2.2.2.2.1 || l.2.2.2.2.1) = true
      · rw [if_pos h1, h1]
        exact ⟨some i, rfl, rfl⟩
      · rw [if_neg h1, Bool.eq_false_iff.2 h1, Bool.false_or]
        exact ih (i + 1) (by omega) (by omega)
    · refine ⟨none, ?_, ?_⟩
      · exact condF (decide_eq_false (show ¬ (i : Int) < ((ls.length : Nat) : Int) by omega))
      · rw [List.drop_eq_nil_of_le (by omega)]; rfl

theorem odds_run (s inc ver : Int) (f : List Int) (d : List En) (ls : List LK) (vs : List (Int × Int)) (l : LK) (hl : ls.length < 9223372036854775807) :
    p45 FUEL (s, inc, ver, f, d, ls, vs, l) = some (odds ls l.2.2.2.2.1, s, inc, ver, f, d, ls, vs, l) := by
  obtain ⟨r, h1, h2⟩ := find_odds ls l hl (fun (x9, x10) => some (x9, x10)) (fun x11 => some ((-1 : Int), x11)) FUEL 0 (by have := big; omega) (Nat.zero_le _)
  simp only [p45, p68, p65, show ((0 : Nat) : Int) = 0 from rfl] at h1 ⊢
  rw [h1]
  rw [List.drop_zero] at h2
  unfold odds
  rw [h2]
  cases r with
  | none => rfl
  | some j => simp only [Option.isSome_some]; rw [decide_eq_true (show (0 : Int) ≤ (j : Int) by omega)]

/-- Is an item behind the fences? -/
def stale (rep : Int) (f is : List Int) : Bool := (List.range 4).any fun k => !decide ((k : Int) = rep) && (!decide (is.getD k 0 = 0) && decide (is.getD k 0 < f.getD k 0))

theorem stale_run (rep s inc ver : Int) (f : List Int) (hf : f.length = 4) (d : List En) (ls : List LK) (vs : List (Int × Int)) (l : LK) (hi : l.2.2.2.2.2.2.length = 4) :
    p44 FUEL (rep, s, inc, ver, f, d, ls, vs, l) = some (stale rep f l.2.2.2.2.2.2, s, inc, ver, f, d, ls, vs, l) := by
  have key := for_loop (S := Unit) (L := fun n y => l44_0 FUEL (fun (x24, x25, x26, x27, x28, x29, x30, x31, x32) => some (x24, x25, x26, x27, x28, x29, x30, x31, x32)) (fun (x33, x34, x35, x36, x37, x38, x39, x40) => some (false, x33, x34, x35, x36, x37, x38, x39, x40)) n y)
    (step := fun F => s44_0 FUEL F (fun (x24, x25, x26, x27, x28, x29, x30, x31, x32) => some (x24, x25, x26, x27, x28, x29, x30, x31, x32)) (fun (x33, x34, x35, x36, x37, x38, x39, x40) => some (false, x33, x34, x35, x36, x37, x38, x39, x40))) (fun n x => rfl)
    (fun k _ => (rep, f, (k : Int), s, inc, ver, f, d, ls, vs, l)) 4 (fun _ _ => True)
    (fun k _ => if (!decide ((k : Int) = rep) && (!decide (l.2.2.2.2.2.2.getD k 0 = 0) && decide (l.2.2.2.2.2.2.getD k 0 < f.getD k 0))) = true then .inl (some (true, s, inc, ver, f, d, ls, vs, l)) else .inr ()) (fun _ => some (false, s, inc, ver, f, d, ls, vs, l))
    (fun F k _ hk _ => by
      have hck : (0 : Int) ≤ k ∧ (k : Int) < ((4 : Nat) : Int) := by omega
      refine (condT (decide_eq_true (show ((k : Nat) : Int) < 4 by omega))).trans ?_
      have e1 : f[k]? = some (f.getD k 0) := by rw [List.getD_eq_getElem?_getD, List.getElem?_eq_getElem (by omega)]; rfl
      have e2 : l.2.2.2.2.2.2[k]? = some (l.2.2.2.2.2.2.getD k 0) := by rw [List.getD_eq_getElem?_getD, List.getElem?_eq_getElem (by omega)]; rfl
      simp only [if_pos hck, Int.toNat_natCast, e1, e2, wrapNext k (by omega)]
      by_cases h1 : (k : Int) = rep
      · simp only [decide_eq_true h1]; rfl
      · simp only [decide_eq_false h1, Bool.not_false, cond_true, Bool.true_and]
        by_cases h2 : l.2.2.2.2.2.2.getD k 0 = 0
        · simp only [decide_eq_true h2]; rfl
        · simp only [decide_eq_false h2, Bool.not_false, cond_true, Bool.true_and]
          by_cases h3 : l.2.2.2.2.2.2.getD k 0 < f.getD k 0
          · simp only [decide_eq_true h3]; rfl
          · simp only [decide_eq_false h3]; rfl)
    (fun F _ _ => rfl) (fun _ _ _ _ _ _ => trivial) 4 0 () FUEL rfl (by have := big; omega) trivial
  simp only [show ((0 : Nat) : Int) = 0 from rfl] at key
  simp only [p44]
  rw [key]
  unfold stale
  simp only [forI, List.range, List.range.loop, List.any_cons, List.any_nil, Bool.or_false]
  rw [show ((0 : Nat) : Int) = 0 from rfl, show ((0 + 1 : Nat) : Int) = ((1 : Nat) : Int) from rfl, show ((0 + 1 + 1 : Nat) : Int) = ((2 : Nat) : Int) from rfl, show ((0 + 1 + 1 + 1 : Nat) : Int) = ((3 : Nat) : Int) from rfl]
  generalize (!decide ((0 : Int) = rep) && (!decide (l.2.2.2.2.2.2.getD 0 0 = 0) && decide (l.2.2.2.2.2.2.getD 0 0 < f.getD 0 0))) = b0
  generalize (!decide (((1 : Nat) : Int) = rep) && (!decide (l.2.2.2.2.2.2.getD 1 0 = 0) && decide (l.2.2.2.2.2.2.getD 1 0 < f.getD 1 0))) = b1
  generalize (!decide (((2 : Nat) : Int) = rep) && (!decide (l.2.2.2.2.2.2.getD 2 0 = 0) && decide (l.2.2.2.2.2.2.getD 2 0 < f.getD 2 0))) = b2
  generalize (!decide (((3 : Nat) : Int) = rep) && (!decide (l.2.2.2.2.2.2.getD 3 0 = 0) && decide (l.2.2.2.2.2.2.getD 3 0 < f.getD 3 0))) = b3
  cases b0 <;> cases b1 <;> cases b2 <;> cases b3 <;> rfl

theorem keep_run (tx v s inc ver : Int) (f : List Int) (d : List En) (ls : List LK) (vs : List (Int × Int)) :
    p42 FUEL (tx, v, s, inc, ver, f, d, ls, vs) = some (decide (vs.length < 64), s, inc, ver, f, d, ls, if vs.length < 64 then vs ++ [(tx, v)] else vs) := by
  simp only [p42]
  by_cases h : vs.length < 64
  · rw [decide_eq_false (show ¬ (64 : Int) ≤ ((vs.length : Nat) : Int) by omega), cond_false, if_pos (by simp; omega), if_pos h, decide_eq_true h]
  · rw [decide_eq_true (show (64 : Int) ≤ ((vs.length : Nat) : Int) by omega), cond_true, if_neg h, decide_eq_false h]
end Go.Am.Ytkfmnkpajjnpoaa
