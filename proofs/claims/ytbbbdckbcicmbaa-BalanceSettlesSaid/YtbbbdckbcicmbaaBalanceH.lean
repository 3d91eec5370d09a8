/- Plain laws of the printed functions of balance: the loads behind a move. -/
import Derived.Test.YtbbbdckbcicmbaaBalanceG
namespace Go.Am.Ytbbbdckbcicmbaa
/-- Does a move go, of fair loads? -/
def inS (l : List Int) (m : MV) : Bool :=
  !decide (m.2.1 < 0) && (!decide (((l.length : Nat) : Int) ≤ m.2.1) && (!decide (m.2.2.1 < 0) && (!decide (((l.length : Nat) : Int) ≤ m.2.2.1) && (!decide (m.2.1 = m.2.2.1) && (!decide (m.2.2.2 < 1) && !decide (g l (Int.toNat m.2.1) < m.2.2.2))))))
def roomS (l : List Int) (k : Int) (t : Nat) (c : Int) (near : Bool) : Bool :=
  bif decide (k = 1) then near && decide (c ≤ 2147483647 - g l t)
  else bif decide (k = 2) then !near && decide (g l t ≤ 2147483647 - g l (nxt l.length t)) else false
def mayS (l : List Int) (m : MV) : Bool := inS l m && roomS l m.1 (Int.toNat m.2.2.1) m.2.2.2 (besideS l.length (Int.toNat m.2.1) (Int.toNat m.2.2.1))

def slideS (l : List Int) (f t : Nat) (c : Int) : List Int := (l.set f (g l f - c)).set t (g l t + c)
def bumpS (l : List Int) (f t : Nat) (c : Int) : List Int := (l.set f (g l f - c)).set (nxt l.length t) (g l (nxt l.length t) + g l t)
/-- The numbers from i on: c comes ahead of number f, number t goes. -/
def build (f t : Nat) (c : Int) : List Int → Nat → List Int
  | [], _ => []
  | y :: v, i => (bif decide (i = t) then [] else (bif decide (i = f) then [c, y] else [y])) ++ build f t c v (i + 1)
def jumpS (l : List Int) (f t : Nat) (c : Int) : List Int := build f t c (bumpS l f t c) 0
def doneS (l : List Int) (m : MV) : List Int := bif decide (m.1 = 1) then slideS l (Int.toNat m.2.1) (Int.toNat m.2.2.1) m.2.2.2 else jumpS l (Int.toNat m.2.1) (Int.toNat m.2.2.1) m.2.2.2
def applyS (l : List Int) (m : MV) : Int × List Int := bif mayS l m then (0, doneS l m) else (172, [])

theorem inS_inv {l : List Int} {m : MV} (h : inS l m = true) : ∃ f t : Nat, m.2.1 = (f : Int) ∧ m.2.2.1 = (t : Int) ∧ f < l.length ∧ t < l.length ∧ f ≠ t ∧ 1 ≤ m.2.2.2 ∧ m.2.2.2 ≤ g l f := by
  simp only [inS, Bool.and_eq_true, Bool.not_eq_true', decide_eq_false_iff_not] at h
  obtain ⟨h1, h2, h3, h4, h5, h6, h7⟩ := h
  refine ⟨Int.toNat m.2.1, Int.toNat m.2.2.1, by omega, by omega, by omega, by omega, by omega, by omega, by omega⟩

/-! ### Building -/
def ins (k : Nat) (c : Int) (v : List Int) : List Int := v.take k ++ [c] ++ v.drop k
theorem build_past (f t : Nat) (c : Int) : ∀ (v : List Int) (i : Nat), f < i → t < i → build f t c v i = v
  | [], _, _, _ => rfl
  | y :: v, i, h1, h2 => by
    unfold build
    rw [decide_eq_false (show ¬ i = t by omega), decide_eq_false (show ¬ i = f by omega), build_past f t c v (i + 1) (by omega) (by omega)]; rfl
theorem build_erase (f t : Nat) (c : Int) : ∀ (v : List Int) (i : Nat), f < i → i ≤ t → build f t c v i = v.eraseIdx (t - i)
  | [], i, _, _ => by rw [List.eraseIdx_nil]; rfl
  | y :: v, i, h1, h2 => by
    unfold build
    by_cases e : i = t
    · rw [decide_eq_true e, build_past f t c v (i + 1) (by omega) (by omega), show t - i = 0 by omega]; rfl
    · rw [decide_eq_false e, decide_eq_false (show ¬ i = f by omega), build_erase f t c v (i + 1) (by omega) (by omega), show t - i = (t - (i + 1)) + 1 by omega]; rfl
theorem build_ins (f t : Nat) (c : Int) : ∀ (v : List Int) (i : Nat), t < i → i ≤ f → f < i + v.length → build f t c v i = ins (f - i) c v
  | [], i, _, h2, h3 => by simp at h3; omega
  | y :: v, i, h1, h2, h3 => by
    unfold build
    rw [List.length_cons] at h3
    by_cases e : i = f
    · rw [decide_eq_true e, decide_eq_false (show ¬ i = t by omega), build_past f t c v (i + 1) (by omega) (by omega), show f - i = 0 by omega]; rfl
    · rw [decide_eq_false e, decide_eq_false (show ¬ i = t by omega), build_ins f t c v (i + 1) (by omega) (by omega) (by omega), show f - i = (f - (i + 1)) + 1 by omega]; rfl
theorem build_back (f t : Nat) (c : Int) : ∀ (v : List Int) (i : Nat), i ≤ f → f < t → f < i + v.length → build f t c v i = (ins (f - i) c v).eraseIdx (t + 1 - i)
  | [], i, h1, h2, h3 => by simp at h3; omega
  | y :: v, i, h1, h2, h3 => by
    unfold build
    rw [List.length_cons] at h3
    by_cases e : i = f
    · rw [decide_eq_true e, decide_eq_false (show ¬ i = t by omega), build_erase f t c v (i + 1) (by omega) (by omega), show f - i = 0 by omega, show t + 1 - i = (t - (i + 1)) + 1 + 1 by omega]; rfl
    · rw [decide_eq_false e, decide_eq_false (show ¬ i = t by omega), build_back f t c v (i + 1) (by omega) h2 (by omega), show f - i = (f - (i + 1)) + 1 by omega, show t + 1 - i = (t + 1 - (i + 1)) + 1 by omega]; rfl
theorem build_front (f t : Nat) (c : Int) : ∀ (v : List Int) (i : Nat), i ≤ t → t < f → f < i + v.length → build f t c v i = (ins (f - i) c v).eraseIdx (t - i)
  | [], i, h1, h2, h3 => by simp at h3; omega
  | y :: v, i, h1, h2, h3 => by
    unfold build
    rw [List.length_cons] at h3
    by_cases e : i = t
    · rw [decide_eq_true e, build_ins f t c v (i + 1) (by omega) (by omega) (by omega), show f - i = (f - (i + 1)) + 1 by omega, show t - i = 0 by omega]; rfl
    · rw [decide_eq_false e, decide_eq_false (show ¬ i = f by omega), build_front f t c v (i + 1) (by omega) h2 (by omega), show f - i = (f - (i + 1)) + 1 by omega, show t - i = (t - (i + 1)) + 1 by omega]; rfl
theorem build_eq (f t : Nat) (c : Int) (v : List Int) (h : f ≠ t) (hf : f < v.length) : build f t c v 0 = (ins f c v).eraseIdx (bif decide (f < t) then t + 1 else t) := by
  by_cases e : f < t
  · rw [decide_eq_true e, build_back f t c v 0 (Nat.zero_le _) e (by omega)]; rfl
  · rw [decide_eq_false e, build_front f t c v 0 (Nat.zero_le _) (by omega) (by omega)]; rfl
theorem ins_length (k : Nat) (c : Int) (v : List Int) : (ins k c v).length = v.length + 1 := by
  unfold ins; rw [List.length_append, List.length_append, List.length_take, List.length_drop]; simp; omega
theorem build_length (f t : Nat) (c : Int) (v : List Int) (h : f ≠ t) (hf : f < v.length) (ht : t < v.length) : (build f t c v 0).length = v.length := by
  rw [build_eq f t c v h hf, List.length_eraseIdx, ins_length, if_pos (by cases decide (f < t) <;> simp <;> omega)]; omega
theorem build_mem (f t : Nat) (c : Int) : ∀ (v : List Int) (i j : Nat) (y : Int), v[j]? = some y → i + j ≠ t → y ∈ build f t c v i
  | [], _, _, _, h, _ => by simp at h
  | z :: v, i, 0, y, h, hj => by
    obtain rfl : z = y := by simpa using h
    unfold build
    rw [decide_eq_false (show ¬ i = t by omega)]
    cases decide (i = f) <;> simp
  | z :: v, i, j + 1, y, h, hj => by
    unfold build
    exact List.mem_append_right _ (build_mem f t c v (i + 1) j y (by simpa using h) (by omega))
theorem mem_build (f t : Nat) (c : Int) : ∀ (v : List Int) (i : Nat) (y : Int), y ∈ build f t c v i → y = c ∨ ∃ j : Nat, v[j]? = some y ∧ i + j ≠ t
  | [], _, _, h => by simp [build] at h
  | z :: v, i, y, h => by
    unfold build at h
    rcases List.mem_append.1 h with h | h
    · by_cases e : i = t
      · rw [decide_eq_true e] at h; cases h
      · rw [decide_eq_false e] at h
        by_cases d : i = f
        · rw [decide_eq_true d] at h
          simp at h
          rcases h with h | h
          · exact .inl h
          · exact .inr ⟨0, by simp [h], by omega⟩
        · rw [decide_eq_false d] at h
          simp at h
          exact .inr ⟨0, by simp [h], by omega⟩
    · rcases mem_build f t c v (i + 1) y h with h | ⟨j, hj, hk⟩
      · exact .inl h
      · exact .inr ⟨j + 1, by simpa using hj, by omega⟩

/-! ### The program's -/
theorem clone_run (l : List Int) (h : l.length ≤ 12) : p29 FUEL l = some l := by
  have e : j29_0 FUEL (fun x => some x) l = some l := by
    simp only [j29_0, List.length_nil, Nat.zero_add, List.nil_append]
    rw [if_pos (by omega)]
  simp only [p29]
  rw [e]
  cases l with
  | nil => exact fork_self _
  | cons a l => rfl

theorem delete_run (v : List Int) (k : Nat) (hk : k < v.length) (hv : v.length ≤ 13) : p30 FUEL ((k : Int), ((k + 1 : Nat) : Int), v) = some (v.eraseIdx k) := by
  simp only [p30, Int.toNat_natCast, Nat.sub_zero, Nat.zero_add, List.drop_zero]
  have h1 : (List.take (v.length - (k + 1)) (List.drop (k + 1) v)) = v.drop (k + 1) := List.take_of_length_le (by rw [List.length_drop]; omega)
  rw [h1]
  have h2 : (v.drop (k + 1)).length = v.length - (k + 1) := List.length_drop
  rw [h2]
  have h3 : k + (v.length - (k + 1)) = v.length - 1 := by omega
  rw [h3]
  have h4 : (List.take k v ++ List.drop (k + 1) v ++ List.drop (v.length - 1) v).length = v.length := by
    rw [List.length_append, List.length_append, List.length_take, List.length_drop, List.length_drop]; omega
  have c1 : (0 : Int) ≤ ((v.length : Nat) : Int) ∧ ((v.length : Nat) : Int) ≤ ((v.length : Nat) : Int) := by omega
  have c2 : (0 : Int) ≤ ((k + 1 : Nat) : Int) ∧ ((k + 1 : Nat) : Int) ≤ ((v.length : Nat) : Int) := by omega
  have c3 : (0 : Int) ≤ ((k : Nat) : Int) ∧ ((k : Nat) : Int) ≤ ((k + 1 : Nat) : Int) := by omega
  have c5 : (0 : Int) ≤ ((k : Nat) : Int) ∧ ((k : Nat) : Int) ≤ ((v.length : Nat) : Int) := by omega
  have c7 : v.length - 1 ≤ v.length := by omega
  have c9 : (0 : Int) ≤ ((v.length - 1 : Nat) : Int) ∧ ((v.length - 1 : Nat) : Int) ≤ ((v.length : Nat) : Int) := by omega
  rw [h4, if_pos c1, if_pos c2, if_pos c3, if_pos trivial, decide_eq_false (show ¬ (k : Int) = ((k + 1 : Nat) : Int) by omega), cond_false, if_pos c5, if_pos c7, if_pos c9]
  have h5 : (List.take (v.length - 1) (List.take k v ++ List.drop (k + 1) v ++ List.drop (v.length - 1) v)) = v.eraseIdx k := by
    rw [List.eraseIdx_eq_take_drop_succ, List.take_append_of_le_length (by rw [List.length_append, List.length_take, List.length_drop]; omega), List.take_of_length_le (by rw [List.length_append, List.length_take, List.length_drop]; omega)]
  rw [h5]
  have h6 : (v.eraseIdx k).length = v.length - 1 := by rw [List.length_eraseIdx, if_pos hk]
  have h7 : (List.take (v.length - 1) (v.eraseIdx k ++ List.replicate (v.length - (v.length - 1)) 0 ++ List.drop (v.length - 1 + (v.length - (v.length - 1))) (List.take k v ++ List.drop (k + 1) v ++ List.drop (v.length - 1) v))) = v.eraseIdx k := by
    rw [List.append_assoc, List.take_append_of_le_length (by omega), List.take_of_length_le (by omega)]
  rw [h7, List.length_append, List.length_append, h6, List.length_replicate, show Nat.blt 0 (v.length - 1 + (v.length - (v.length - 1)) + (List.drop (v.length - 1 + (v.length - (v.length - 1))) (List.take k v ++ List.drop (k + 1) v ++ List.drop (v.length - 1) v)).length) = true from Nat.blt_eq ▸ (by omega), if_pos c2, if_pos c1]
  rfl

section
variable {l : List Int} (hn : l.length ≤ 12) (hb : ∀ x ∈ l, 0 ≤ x ∧ x ≤ 2147483647)
include hn hb
theorem may_run (m : MV) : p28 FUEL (l, m) = some (mayS l m) := by
  unfold mayS
  cases hi : inS l m with
  | false =>
    rw [Bool.false_and]
    simp only [p28]
    by_cases a1 : m.2.1 < 0
    · rw [decide_eq_true a1]; rfl
    by_cases a2 : ((l.length : Nat) : Int) ≤ m.2.1
    · rw [decide_eq_false a1, decide_eq_true a2]; rfl
    by_cases a3 : m.2.2.1 < 0
    · rw [decide_eq_false a1, decide_eq_false a2, decide_eq_true a3]; rfl
    by_cases a4 : ((l.length : Nat) : Int) ≤ m.2.2.1
    · rw [decide_eq_false a1, decide_eq_false a2, decide_eq_false a3, decide_eq_true a4]; rfl
    by_cases a5 : m.2.1 = m.2.2.1
    · rw [decide_eq_false a1, decide_eq_false a2, decide_eq_false a3, decide_eq_false a4, decide_eq_true a5]; rfl
    by_cases a6 : m.2.2.2 < 1
    · rw [decide_eq_false a1, decide_eq_false a2, decide_eq_false a3, decide_eq_false a4, decide_eq_false a5, decide_eq_true a6]; rfl
    have hlt : Int.toNat m.2.1 < l.length := by omega
    by_cases a7 : g l (Int.toNat m.2.1) < m.2.2.2
    · rw [decide_eq_false a1, decide_eq_false a2, decide_eq_false a3, decide_eq_false a4, decide_eq_false a5, decide_eq_false a6]
      simp only [cond_false, if_pos (show (0 : Int) ≤ m.2.1 by omega), g_some hlt]
      rw [decide_eq_true a7]; rfl
    · exfalso
      have : inS l m = true := by
        unfold inS
        rw [decide_eq_false a1, decide_eq_false a2, decide_eq_false a3, decide_eq_false a4, decide_eq_false a5, decide_eq_false a6, decide_eq_false a7]; rfl
      rw [this] at hi; cases hi
  | true =>
    obtain ⟨f, t, e1, e2, hf, ht, hne, hc1, hc2⟩ := inS_inv hi
    obtain ⟨k, f', t', c⟩ := m
    simp only at e1 e2 hc1 hc2
    subst e1 e2
    have hx := nxt_lt ht
    have b1 := g_bound hb ht
    have b2 := g_bound hb hx
    simp only [p28, Bool.true_and, Int.toNat_natCast, if_pos (Int.natCast_nonneg f), if_pos (Int.natCast_nonneg t), if_pos (Int.natCast_nonneg (nxt l.length t)), g_some hf, g_some ht, g_some hx, p27_run hf ht hn, tmod_nxt ht hn, if_neg (show ¬ ((l.length : Nat) : Int) = 0 by omega)]
    rw [decide_eq_false (show ¬ (f : Int) < 0 by omega), decide_eq_false (show ¬ ((l.length : Nat) : Int) ≤ (f : Int) by omega), decide_eq_false (show ¬ (t : Int) < 0 by omega), decide_eq_false (show ¬ ((l.length : Nat) : Int) ≤ (t : Int) by omega), decide_eq_false (show ¬ (f : Int) = (t : Int) by omega), decide_eq_false (show ¬ c < 1 by omega), decide_eq_false (show ¬ g l f < c by omega), wrapI (n := 2147483647 - g l t) (by omega) (by omega), wrapI (n := 2147483647 - g l (nxt l.length t)) (by omega) (by omega)]
    unfold roomS
    simp only [cond_false]
    cases decide (k = 1) <;> cases decide (k = 2) <;> cases besideS l.length f t <;> rfl

theorem apply15 (h1 : 1 ≤ l.length) (m : MV) (fr : fair l 1 12 = true) : p15 FUEL (l, m) = some (applyS l m) := by
  simp only [p15, p22_eq l (by omega), fr, may_run hn hb m, applyS]
  cases hm : mayS l m with
  | false => rfl
  | true =>
    unfold mayS at hm
    rw [Bool.and_eq_true] at hm
    obtain ⟨f, t, e1, e2, hf, ht, hne, hc1, hc2⟩ := inS_inv hm.1
    obtain ⟨k, f', t', c⟩ := m
    simp only at e1 e2 hc1 hc2 hm
    subst e1 e2
    have hx := nxt_lt ht
    have b0 := g_bound hb hf
    have b1 := g_bound hb ht
    have b2 := g_bound hb hx
    have l1 : (l.set f (g l f - c)).length = l.length := List.length_set
    have gt : (l.set f (g l f - c))[t]? = some (g l t) := by rw [List.getElem?_set_ne hne, g_some ht]
    simp only [Bool.not_true, cond_false, cond_true, clone_run l hn, Int.toNat_natCast, if_pos (show (0 : Int) ≤ (f : Int) ∧ (f : Int) < ((l.length : Nat) : Int) by omega), g_some hf, doneS]
    rw [wrapI (n := g l f - c) (by omega) (by omega)]
    simp only [l1, if_pos (show (0 : Int) ≤ (t : Int) ∧ (t : Int) < ((l.length : Nat) : Int) by omega), gt, tmod_nxt ht hn, if_neg (show ¬ ((l.length : Nat) : Int) = 0 by omega)]
    by_cases hk : k = 1
    · rw [decide_eq_true hk]
      simp only [cond_true]
      have hr : c ≤ 2147483647 - g l t := by
        have h := hm.2
        simp only [roomS, decide_eq_true hk, cond_true, Bool.and_eq_true, decide_eq_true_eq, Int.toNat_natCast] at h
        exact h.2
      rw [wrapI (n := g l t + c) (by omega) (by omega)]; rfl
    · rw [decide_eq_false hk]
      have hk2 : k = 2 := by
        have h := hm.2
        simp only [roomS, decide_eq_false hk, cond_false] at h
        by_cases e : k = 2
        · exact e
        · rw [decide_eq_false e] at h; cases h
      have hr := hm.2
      simp only [roomS, decide_eq_false hk, cond_false, decide_eq_true hk2, cond_true, Bool.and_eq_true, decide_eq_true_eq, Int.toNat_natCast, Bool.not_eq_true'] at hr
      have hnf : f ≠ nxt l.length t := by
        intro e
        have h := hr.1
        unfold besideS at h
        rw [decide_eq_false hne, decide_eq_true e.symm] at h
        rw [Bool.or_true] at h; cases h
      have gx : (l.set f (g l f - c))[nxt l.length t]? = some (g l (nxt l.length t)) := by rw [List.getElem?_set_ne hnf, g_some hx]
      simp only [cond_false, Int.toNat_natCast, if_pos (show (0 : Int) ≤ (nxt l.length t : Int) ∧ (nxt l.length t : Int) < ((l.length : Nat) : Int) by omega), gx]
      rw [wrapI (n := g l (nxt l.length t) + g l t) (by omega) (by omega)]
      have hv : (l.set f (g l f - c)).set (nxt l.length t) (g l (nxt l.length t) + g l t) = bumpS l f t c := rfl
      rw [hv]
      have lv : (bumpS l f t c).length = l.length := by unfold bumpS; rw [List.length_set, List.length_set]
      have hins : List.take (f - 0) (List.drop 0 (bumpS l f t c)) ++ [c] ++ List.take ((bumpS l f t c).length - f) (List.drop f (bumpS l f t c)) = ins f c (bumpS l f t c) := by
        unfold ins
        rw [List.drop_zero, Nat.sub_zero, List.take_of_length_le (l := List.drop f (bumpS l f t c)) (Nat.le_of_eq List.length_drop)]
      have li := ins_length f c (bumpS l f t c)
      rw [lv] at li
      have lt0 : (List.take (f - 0) (List.drop 0 (bumpS l f t c)) ++ [c]).length = f + 1 := by rw [List.drop_zero, List.length_append, List.length_take, lv]; simp; omega
      have lt1 : (List.take ((bumpS l f t c).length - f) (List.drop f (bumpS l f t c))).length = l.length - f := by rw [List.length_take, List.length_drop, lv]; omega
      rw [lt0, lt1, hins, lv, if_pos (by omega), if_pos (by omega), if_pos trivial, if_pos ⟨.inl (by simp), by simp; omega⟩, if_pos (by omega), if_pos (by omega)]
      simp only [j15_0]
      have hb2 : build f t c (bumpS l f t c) 0 = (ins f c (bumpS l f t c)).eraseIdx (bif decide (f < t) then t + 1 else t) := build_eq f t c _ hne (by omega)
      by_cases e : f < t
      · rw [decide_eq_true (show (f : Int) < (t : Int) by omega)]
        simp only [cond_true, wrapNext t (by omega), wrapNext (t + 1) (by omega)]
        rw [delete_run _ (t + 1) (by omega) (by omega)]
        rw [decide_eq_true e, cond_true] at hb2
        unfold jumpS
        rw [hb2]
      · rw [decide_eq_false (show ¬ (f : Int) < (t : Int) by omega)]
        simp only [cond_false, wrapNext t (by omega)]
        rw [delete_run _ t (by omega) (by omega)]
        rw [decide_eq_false e, cond_false] at hb2
        unfold jumpS
        rw [hb2]
end
end Go.Am.Ytbbbdckbcicmbaa
