/- Plain laws of the printed functions of the clock: a timer is set, stopped; what is due. -/
import Derived.Test.YtbggedhchjibjaaPC
namespace Go.Am.Ytbggedhchjibjaa
/-- A heap whose timers have their places. -/
structure Tidy (h : List TM) (m : MM) : Prop where
  heap : Heap h
  placed : Placed h m

theorem H_append {h : List TM} {t : TM} {j : Nat} : H (h ++ [t]) j = if j < h.length then H h j else if j = h.length then t else (0, (0, 0)) := by
  unfold H
  rw [List.getD_eq_getElem?_getD]
  by_cases a : j < h.length
  · rw [if_pos a, List.getElem?_append_left a, List.getD_eq_getElem?_getD]
  · rw [if_neg a]
    by_cases b : j = h.length
    · subst b; rw [if_pos rfl]; simp
    · rw [if_neg b, List.getElem?_eq_none (by simp; omega)]; rfl

/-- A new timer. -/
theorem set_new {h : List TM} {m : MM} (w : Tidy h m) (hl : h.length < 256) {id due : Int} (d0 : 0 ≤ due) (d1 : due ≤ 1099511627776) (hid : at_ m id = none) {r mi s : Int} (s0 : 0 ≤ s) (s1 : s < 4294967296) :
    ∃ (h' : List TM) (m' : MM), p12 FUEL (id, due, r, mi, s, h, m.1, m.2.1, m.2.2) = some (0, r, mi, s + 1, h', m'.1, m'.2.1, m'.2.2) ∧ Tidy h' m' ∧ h'.Perm (h ++ [(id, (due, s))]) := by
  have hlen : (h ++ [((0, (0, 0)) : TM)]).length = h.length + 1 := by simp
  have hset : (h ++ [((0, (0, 0)) : TM)]).set h.length (id, (due, s)) = h ++ [(id, (due, s))] := by
    rw [List.set_append_right _ _ (Nat.le_refl _), Nat.sub_self]; rfl
  have hlen2 : (h ++ [(id, (due, s))]).length = h.length + 1 := by simp
  have pl : Placed (h ++ [(id, (due, s))]) (mput UT IT id (h.length : Int) m) := by
    refine ⟨sound_put w.placed.sound _ _, fun k v => ?_⟩
    rw [at_put, hlen2]
    by_cases a : k = id
    · rw [if_pos a]
      constructor
      · intro e
        exact ⟨h.length, by omega, (Option.some.inj e).symm, by rw [H_append, if_neg (Nat.lt_irrefl _), if_pos rfl]; exact a.symm⟩
      · rintro ⟨j, hj, rfl, e⟩
        rw [H_append] at e
        by_cases b : j < h.length
        · rw [if_pos b] at e
          have := (w.placed.at_iff k j).2 ⟨j, b, rfl, e⟩
          rw [a, hid] at this; cases this
        · have : j = h.length := by omega
          rw [this]
    · rw [if_neg a, w.placed.at_iff]
      constructor
      · rintro ⟨j, hj, rfl, e⟩
        exact ⟨j, by omega, rfl, by rw [H_append, if_pos hj]; exact e⟩
      · rintro ⟨j, hj, rfl, e⟩
        rw [H_append] at e
        by_cases b : j < h.length
        · rw [if_pos b] at e; exact ⟨j, b, rfl, e⟩
        · rw [if_neg b, if_pos (by omega)] at e
          exact absurd e.symm a
  have al : Almost (h ++ [(id, (due, s))]) h.length := by
    refine ⟨fun j j0 jl jn jp => ?_, fun j j0 jl jp i0 => ?_⟩
    · rw [hlen2] at jl
      have hp := par_lt j0
      rw [H_append, H_append, if_pos (show par j < h.length by omega), if_pos (show j < h.length by omega)]
      exact w.heap j j0 (by omega)
    · rw [hlen2] at jl
      have hp := par_lt j0
      omega
  obtain ⟨h', m', e1, e2, e3, e4⟩ := settle_run (i := h.length) (by rw [hlen2]; omega) (by rw [hlen2]; omega) al pl r mi (s + 1)
  refine ⟨h', m', ?_, ⟨e2, e3⟩, e4⟩
  have hid' : mfind (.int .u64) (.int .i64) id m.1 = none := hid
  simp only [p12, hid', Option.isSome_none, Bool.not_false, cond_true, j12_0]
  rw [decide_eq_false (show ¬ due < 0 by omega), decide_eq_false (show ¬ (1099511627776 : Int) < due by omega), decide_eq_false (show ¬ ((h.length : Nat) : Int) = 256 by omega)]
  simp only [cond_false]
  rw [if_pos (by simp; omega), hlen, if_pos (show (0 : Int) ≤ ((h.length : Nat) : Int) ∧ ((h.length : Nat) : Int) < ((h.length + 1 : Nat) : Int) by omega), Int.toNat_natCast, hset, wrapU' (n := s + 1) (by omega) (by omega)]
  rw [show (h ++ [((0, (0, 0)) : TM)])[h.length]? = some (0, (0, 0)) by simp]
  simp only
  have e1' : p23 FUEL (((h.length : Nat) : Int), r, mi, s + 1, h ++ [(id, (due, s))], (mput (.int .u64) (.int .i64) id ((h.length : Nat) : Int) (m.1, m.2.1, m.2.2)).1, (mput (.int .u64) (.int .i64) id ((h.length : Nat) : Int) (m.1, m.2.1, m.2.2)).2.1, (mput (.int .u64) (.int .i64) id ((h.length : Nat) : Int) (m.1, m.2.1, m.2.2)).2.2) = _ := e1
  rw [e1']

/-- What is left where the timer i is taken away. -/
def cutL (h : List TM) (i : Nat) : List TM := (swapL h i (h.length - 1)).take (h.length - 1)
theorem cut_len {h : List TM} {i : Nat} (hi : i < h.length) : (cutL h i).length = h.length - 1 := by
  unfold cutL; rw [List.length_take, swap_len]; omega
theorem cut_H {h : List TM} {i j : Nat} (hi : i < h.length) (hj : j < h.length - 1) : H (cutL h i) j = if j = i then H h (h.length - 1) else H h j := by
  have e : H (cutL h i) j = H (swapL h i (h.length - 1)) j := by
    unfold cutL H
    rw [List.getD_eq_getElem?_getD, List.getElem?_take, if_pos hj, List.getD_eq_getElem?_getD]
  rw [e, swap_H hi (by omega), if_neg (show ¬ j = h.length - 1 by omega)]
theorem cut_perm {h : List TM} {i : Nat} (hi : i < h.length) : h.Perm (H h i :: cutL h i) := by
  have hk : h.length - 1 < h.length := by omega
  refine (swap_perm hi hk).symm.trans ?_
  have hlen := swap_len h i (h.length - 1)
  have e : swapL h i (h.length - 1) = cutL h i ++ [H h i] := by
    have h1 := List.take_append_drop (h.length - 1) (swapL h i (h.length - 1))
    have h2 : (swapL h i (h.length - 1)).drop (h.length - 1) = [H h i] := by
      rw [List.drop_eq_getElem_cons (by omega), H_get (by omega), swap_H hi hk, if_pos rfl, List.drop_eq_nil_of_le (by omega)]
    rw [h2] at h1
    exact h1.symm
  rw [e]
  exact List.perm_append_comm

theorem cut_placed {h : List TM} {m : MM} (p : Placed h m) {i : Nat} (hi : i < h.length) : Placed (cutL h i) (mdel UT IT (H h i).1 (swapM h i (h.length - 1) m)) := by
  have hk : h.length - 1 < h.length := by omega
  have sp := swap_placed p hi hk
  have hsl := swap_len h i (h.length - 1)
  have hat : at_ (swapM h i (h.length - 1) m) (H h i).1 = some ((h.length - 1 : Nat) : Int) :=
    (sp.at_iff _ _).2 ⟨h.length - 1, by omega, rfl, by rw [swap_H hi hk, if_pos rfl]⟩
  obtain ⟨d1, d2⟩ := del_spec sp.sound hat
  have hH : ∀ j, j < h.length - 1 → H (cutL h i) j = H (swapL h i (h.length - 1)) j := fun j hj => by
    rw [cut_H hi hj, swap_H hi hk, if_neg (show ¬ j = h.length - 1 by omega)]
  refine ⟨d1, fun k v => ?_⟩
  rw [d2, cut_len hi]
  by_cases a : k = (H h i).1
  · rw [if_pos a]
    constructor
    · intro e; cases e
    · rintro ⟨j, hj, rfl, e⟩
      rw [hH j hj] at e
      have := (sp.at_iff k j).2 ⟨j, by omega, rfl, e⟩
      rw [a, hat] at this
      have := Option.some.inj this; omega
  · rw [if_neg a, sp.at_iff]
    constructor
    · rintro ⟨j, hj, rfl, e⟩
      have : j ≠ h.length - 1 := by
        intro x
        rw [x, swap_H hi hk, if_pos rfl] at e
        exact a e.symm
      exact ⟨j, by omega, rfl, by rw [hH j (by omega)]; exact e⟩
    · rintro ⟨j, hj, rfl, e⟩
      rw [hH j hj] at e
      exact ⟨j, by omega, rfl, e⟩
theorem cut_almost {h : List TM} (hp : Heap h) {i : Nat} (hi : i < h.length) : Almost (cutL h i) i := by
  refine ⟨fun j j0 jl jn jp => ?_, fun j j0 jl jp i0 => ?_⟩
  · rw [cut_len hi] at jl
    have hl := par_lt j0
    rw [cut_H hi jl, cut_H hi (show par j < h.length - 1 by omega), if_neg jn, if_neg jp]
    exact hp j j0 (by omega)
  · rw [cut_len hi] at jl
    have hl := par_lt j0
    have hl2 := par_lt i0
    rw [cut_H hi jl, cut_H hi (show par i < h.length - 1 by omega), if_neg (show ¬ j = i by omega), if_neg (show ¬ par i = i by omega)]
    have h1 := hp j j0 (by omega)
    rw [jp] at h1
    exact le_trans (hp i i0 hi) h1

/-- The timer i is stopped. -/
theorem stop_at {h : List TM} {m : MM} (w : Tidy h m) (hl : h.length ≤ 256) {i : Nat} (hi : i < h.length) (r mi s : Int) :
    ∃ (h' : List TM) (m' : MM), p21 FUEL ((H h i).1, r, mi, s, h, m.1, m.2.1, m.2.2) = some (true, r, mi, s, h', m'.1, m'.2.1, m'.2.2) ∧ Tidy h' m' ∧ h.Perm (H h i :: h') := by
  have hk : h.length - 1 < h.length := by omega
  have hat : mfind (.int .u64) (.int .i64) (H h i).1 m.1 = some (i : Int) := (w.placed.at_iff _ _).2 ⟨i, hi, rfl, rfl⟩
  have el : IntKind.wrap .i64 (((h.length : Nat) : Int) - 1) = ((h.length - 1 : Nat) : Int) := by
    rw [wrapI (by omega) (by omega)]; omega
  have pc := cut_placed w.placed hi
  have cl := cut_len hi
  have ecut : List.drop 0 (List.take (h.length - 1) (swapL h i (h.length - 1))) = cutL h i := rfl
  simp only [p21, hat, Option.isSome_some, Bool.not_true, cond_false, Option.getD_some, el, swap_run hi hk r mi s w.placed, swap_len, Int.toNat_natCast, ecut]
  rw [if_pos (show (0 : Int) ≤ ((h.length - 1 : Nat) : Int) ∧ ((h.length - 1 : Nat) : Int) ≤ ((h.length : Nat) : Int) by omega)]
  by_cases a : i < h.length - 1
  · rw [decide_eq_true (show (i : Int) < ((h.length - 1 : Nat) : Int) by omega), cond_true]
    obtain ⟨h', m', e1, e2, e3, e4⟩ := settle_run (i := i) (by rw [cl]; exact a) (by rw [cl]; omega) (cut_almost w.heap hi) pc r mi s
    have e1' : p23 FUEL ((i : Int), r, mi, s, cutL h i, (mdel (.int .u64) (.int .i64) (H h i).1 ((swapM h i (h.length - 1) m).1, (swapM h i (h.length - 1) m).2.1, (swapM h i (h.length - 1) m).2.2)).1, (mdel (.int .u64) (.int .i64) (H h i).1 ((swapM h i (h.length - 1) m).1, (swapM h i (h.length - 1) m).2.1, (swapM h i (h.length - 1) m).2.2)).2.1, (mdel (.int .u64) (.int .i64) (H h i).1 ((swapM h i (h.length - 1) m).1, (swapM h i (h.length - 1) m).2.1, (swapM h i (h.length - 1) m).2.2)).2.2) = _ := e1
    rw [e1']
    exact ⟨h', m', rfl, ⟨e2, e3⟩, (cut_perm hi).trans (List.Perm.cons _ e4.symm)⟩
  · rw [decide_eq_false (show ¬ (i : Int) < ((h.length - 1 : Nat) : Int) by omega), cond_false]
    refine ⟨cutL h i, _, rfl, ⟨?_, pc⟩, cut_perm hi⟩
    intro j j0 jl
    have hl := par_lt j0
    rw [cl] at jl
    rw [cut_H hi jl, cut_H hi (show par j < h.length - 1 by omega), if_neg (show ¬ j = i by omega), if_neg (show ¬ par j = i by omega)]
    exact w.heap j j0 (by omega)
end Go.Am.Ytbggedhchjibjaa
