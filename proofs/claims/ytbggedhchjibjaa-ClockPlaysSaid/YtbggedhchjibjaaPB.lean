/- Plain laws of the printed functions of the clock: the heap of timers and the map of their places. -/
import Derived.Test.YtbggedhchjibjaaPWalk
import Derived.Test.YtbggedhchjibjaaAmZI
namespace Go.Am.Ytbggedhchjibjaa
theorem condT {α : Type} {b : Bool} (h : b = true) {x y : α} : (bif b then x else y) = x := by rw [h]; rfl
theorem condF {α : Type} {b : Bool} (h : b = false) {x y : α} : (bif b then x else y) = y := by rw [h]; rfl
theorem big : 1180591620717411303424 ≤ FUEL := Nat.le_refl _
/-- A timer: its name, when it is due, when it was set. -/
abbrev TM := Int × (Int × Int)
abbrev MM := List (Int × Int) × List Nat × Nat
abbrev UT : Ty := .int .u64
abbrev IT : Ty := .int .i64
def H (h : List TM) (i : Nat) : TM := h.getD i (0, (0, 0))
theorem H_some {h : List TM} {i : Nat} (hi : i < h.length) : h[i]? = some (H h i) := by
  unfold H; rw [List.getD_eq_getElem?_getD, List.getElem?_eq_getElem hi]; rfl
theorem H_get {h : List TM} {i : Nat} (hi : i < h.length) : h[i] = H h i := by
  have := H_some hi; rw [List.getElem?_eq_getElem hi] at this; exact Option.some.inj this
theorem H_mem {h : List TM} {i : Nat} (hi : i < h.length) : H h i ∈ h := List.mem_of_getElem? (H_some hi)
theorem mem_H {h : List TM} {x : TM} (hx : x ∈ h) : ∃ i, i < h.length ∧ H h i = x := by
  obtain ⟨i, hi, e⟩ := List.mem_iff_getElem.1 hx
  exact ⟨i, hi, by rw [← H_get hi]; exact e⟩

/-- The order of timers. -/
def le (a b : TM) : Prop := a.2.1 < b.2.1 ∨ (a.2.1 = b.2.1 ∧ a.2.2 ≤ b.2.2)
def befo (a b : TM) : Bool := decide (a.2.1 < b.2.1) || (decide (a.2.1 = b.2.1) && decide (a.2.2 < b.2.2))
theorem le_refl (a : TM) : le a a := .inr ⟨rfl, Int.le_refl _⟩
theorem le_trans {a b c : TM} (h1 : le a b) (h2 : le b c) : le a c := by unfold le at *; omega
theorem befo_le {a b : TM} (h : befo a b = true) : le a b := by
  unfold befo at h; unfold le
  simp only [Bool.or_eq_true, Bool.and_eq_true, decide_eq_true_eq] at h; omega
theorem not_befo {a b : TM} (h : befo a b = false) : le b a := by
  unfold befo at h; unfold le
  simp only [Bool.or_eq_false_iff, Bool.and_eq_false_iff, decide_eq_false_iff_not] at h; omega

/-! ### Places -/
structure Sound (m : MM) : Prop where
  whole : Whole (K := UT) (V := IT) m
  keys : (m.1.map (·.1)).Nodup
def at_ (m : MM) (id : Int) : Option Int := mfind UT IT id m.1
structure Placed (h : List TM) (m : MM) : Prop where
  sound : Sound m
  at_iff : ∀ (id v : Int), at_ m id = some v ↔ ∃ i : Nat, i < h.length ∧ v = (i : Int) ∧ (H h i).1 = id

theorem at_put (m : MM) (k k' v : Int) : at_ (mput UT IT k v m) k' = if k' = k then some v else at_ m k' := mfind_mput (K := UT) (V := IT) (fun _ _ => rfl) k k' v m
theorem sound_put {m : MM} (h : Sound m) (k v : Int) : Sound (mput UT IT k v m) := by
  refine ⟨whole_mput (K := UT) (V := IT) k v m h.whole, ?_⟩
  have e := keys_mput (K := UT) (V := IT) (fun _ _ => rfl) k v m
  rw [e]
  unfold kadd
  split
  · exact h.keys
  · rename_i hn
    exact List.nodup_append.2 ⟨h.keys, by simp, fun a ha b hb => by
      simp at hb; subst hb
      intro e; subst e; exact hn ha⟩
theorem find_none : ∀ (l : List (Int × Int)) (k : Int), k ∉ l.map (·.1) → mfind UT IT k l = none
  | [], _, _ => rfl
  | e :: l, k, h => by
    simp only [List.map_cons, List.mem_cons, not_or] at h
    show (bif decide (k = e.1) then some e.2 else mfind UT IT k l) = none
    rw [decide_eq_false h.1]
    exact find_none l k h.2
theorem find_erase : ∀ (l : List (Int × Int)) (i : Nat) (k k' : Int), (l.map (·.1)).Nodup → midx UT IT k l = some i → mfind UT IT k' (l.eraseIdx i) = (if k' = k then none else mfind UT IT k' l) ∧ ((l.eraseIdx i).map (·.1)).Nodup ∧ i < l.length
  | [], i, k, k', _, h => by cases h
  | e :: l, i, k, k', hn, h => by
    simp only [List.map_cons, List.nodup_cons] at hn
    have hm : midx UT IT k (e :: l) = (bif decide (k = e.1) then some 0 else (match midx UT IT k l with | some j => some (j + 1) | none => none)) := rfl
    rw [hm] at h
    by_cases c : k = e.1
    · rw [decide_eq_true c] at h
      cases h
      refine ⟨?_, hn.2, by simp⟩
      show mfind UT IT k' l = _
      by_cases d : k' = k
      · rw [if_pos d]
        exact find_none l k' (by rw [d, c]; exact hn.1)
      · rw [if_neg d]
        show _ = (bif decide (k' = e.1) then some e.2 else mfind UT IT k' l)
        rw [decide_eq_false (by rw [← c]; exact d)]; rfl
    · rw [decide_eq_false c] at h
      simp only [cond_false] at h
      cases hj : midx UT IT k l with
      | none => rw [hj] at h; cases h
      | some j =>
        rw [hj] at h
        cases h
        obtain ⟨r1, r2, r3⟩ := find_erase l j k k' hn.2 hj
        refine ⟨?_, ?_, by simp; exact r3⟩
        · show (bif decide (k' = e.1) then some e.2 else mfind UT IT k' (l.eraseIdx j)) = if k' = k then none else (bif decide (k' = e.1) then some e.2 else mfind UT IT k' l)
          by_cases d : k' = e.1
          · rw [decide_eq_true d, if_neg (show ¬ k' = k from fun x => c (x.symm.trans d))]; rfl
          · rw [decide_eq_false d, r1]; rfl
        · rw [List.eraseIdx_cons_succ, List.map_cons, List.nodup_cons]
          refine ⟨fun hx => hn.1 ?_, r2⟩
          obtain ⟨y, hy, e⟩ := List.mem_map.1 hx
          exact List.mem_map.2 ⟨y, List.mem_of_mem_eraseIdx hy, e⟩
theorem nodup_erase {l : List Nat} (h : l.Nodup) (i : Nat) : (l.eraseIdx i).Nodup := h.sublist (List.eraseIdx_sublist l i)
theorem del_spec {m : MM} (s : Sound m) {k v : Int} (hk : at_ m k = some v) : Sound (mdel UT IT k m) ∧ ∀ k', at_ (mdel UT IT k m) k' = if k' = k then none else at_ m k' := by
  obtain ⟨l, bs, clk⟩ := m
  have hk : mfind UT IT k l = some v := hk
  rw [mfind_idx] at hk
  cases hi : midx UT IT k l with
  | none => rw [hi] at hk; cases hk
  | some i =>
    have e : mdel UT IT k (l, bs, clk) = (l.eraseIdx i, bs.eraseIdx i, clk) := by unfold mdel; simp only [hi]
    rw [e]
    obtain ⟨_, r2, r3⟩ := find_erase l i k k s.keys hi
    have hlen : bs.length = l.length := s.whole.len
    refine ⟨⟨⟨?_, nodup_erase s.whole.nodup i, fun b hb => s.whole.below b (List.mem_of_mem_eraseIdx hb)⟩, r2⟩, fun k' => (find_erase l i k k' s.keys hi).1⟩
    show (bs.eraseIdx i).length = (l.eraseIdx i).length
    rw [List.length_eraseIdx, List.length_eraseIdx, hlen]

theorem Placed.inj {h : List TM} {m : MM} (p : Placed h m) {i j : Nat} (hi : i < h.length) (hj : j < h.length) (e : (H h i).1 = (H h j).1) : i = j := by
  have a := (p.at_iff (H h i).1 i).2 ⟨i, hi, rfl, rfl⟩
  have b := (p.at_iff (H h i).1 j).2 ⟨j, hj, rfl, e.symm⟩
  rw [a] at b
  have := Option.some.inj b; omega

/-! ### Swapping -/
def swapL (h : List TM) (i k : Nat) : List TM := (h.set i (H h k)).set k (H h i)
def swapM (h : List TM) (i k : Nat) (m : MM) : MM := mput UT IT (H h i).1 (k : Int) (mput UT IT (H h k).1 (i : Int) m)
theorem swap_len (h : List TM) (i k : Nat) : (swapL h i k).length = h.length := by unfold swapL; rw [List.length_set, List.length_set]
theorem swap_H {h : List TM} {i k : Nat} (hi : i < h.length) (hk : k < h.length) (j : Nat) : H (swapL h i k) j = if j = k then H h i else if j = i then H h k else H h j := by
  unfold swapL H
  rw [List.getD_eq_getElem?_getD, List.getElem?_set, List.getElem?_set]
  by_cases a : k = j
  · rw [if_pos a, if_pos a.symm, if_pos (by rw [List.length_set]; exact hk)]; rfl
  · rw [if_neg a, if_neg (show ¬ j = k from fun e => a e.symm)]
    by_cases b : i = j
    · rw [if_pos b, if_pos b.symm, if_pos hi]; rfl
    · rw [if_neg b, if_neg (show ¬ j = i from fun e => b e.symm), List.getD_eq_getElem?_getD]
theorem swap_perm {h : List TM} {i k : Nat} (hi : i < h.length) (hk : k < h.length) : (swapL h i k).Perm h := by
  have := List.set_set_perm hi hk
  rw [H_get hi, H_get hk] at this
  exact this
theorem swap_placed {h : List TM} {m : MM} (p : Placed h m) {i k : Nat} (hi : i < h.length) (hk : k < h.length) : Placed (swapL h i k) (swapM h i k m) := by
  refine ⟨sound_put (sound_put p.sound _ _) _ _, fun id v => ?_⟩
  unfold swapM
  rw [at_put, at_put, swap_len]
  by_cases a : id = (H h i).1
  · rw [if_pos a]
    constructor
    · intro e
      exact ⟨k, hk, (Option.some.inj e).symm, by rw [swap_H hi hk, if_pos rfl]; exact a.symm⟩
    · rintro ⟨j, hj, rfl, e⟩
      rw [swap_H hi hk] at e
      by_cases c : j = k
      · rw [c]
      · rw [if_neg c] at e
        by_cases d : j = i
        · rw [if_pos d] at e
          have := p.inj hk hi (e.trans a); omega
        · rw [if_neg d] at e
          exact absurd (p.inj hj hi (e.trans a)) d
  · rw [if_neg a]
    by_cases b : id = (H h k).1
    · rw [if_pos b]
      constructor
      · intro e
        have hne : i ≠ k := by intro x; subst x; exact a b
        exact ⟨i, hi, (Option.some.inj e).symm, by rw [swap_H hi hk, if_neg hne, if_pos rfl]; exact b.symm⟩
      · rintro ⟨j, hj, rfl, e⟩
        rw [swap_H hi hk] at e
        by_cases c : j = k
        · rw [if_pos c] at e; exact absurd e.symm a
        · rw [if_neg c] at e
          by_cases d : j = i
          · rw [d]
          · rw [if_neg d] at e
            exact absurd (p.inj hj hk (e.trans b)) c
    · rw [if_neg b, p.at_iff]
      constructor
      · rintro ⟨j, hj, rfl, e⟩
        refine ⟨j, hj, rfl, ?_⟩
        rw [swap_H hi hk, if_neg (fun x => b (by rw [← x]; exact e.symm)), if_neg (fun x => a (by rw [← x]; exact e.symm))]; exact e
      · rintro ⟨j, hj, rfl, e⟩
        rw [swap_H hi hk] at e
        by_cases c : j = k
        · rw [if_pos c] at e; exact absurd e.symm a
        · rw [if_neg c] at e
          by_cases d : j = i
          · rw [if_pos d] at e; exact absurd e.symm b
          · rw [if_neg d] at e; exact ⟨j, hj, rfl, e⟩

theorem put_run {m : MM} (s : Sound m) (k v : Int) : mstore UT IT (ment UT IT k 0 m).1.2 v ((ment UT IT k 0 m).2.1, (ment UT IT k 0 m).2.2.1, (ment UT IT k 0 m).2.2.2) = some (mput UT IT k v m) :=
  bump_eq (K := UT) (V := IT) (fun _ _ e => of_decide_eq_true e) k 0 v m s.whole

theorem before_run {h : List TM} {i k : Nat} (hi : i < h.length) (hk : k < h.length) (r mi s : Int) (m : MM) : p30 FUEL ((i : Int), (k : Int), r, mi, s, h, m.1, m.2.1, m.2.2) = some (befo (H h i) (H h k), r, mi, s, h, m.1, m.2.1, m.2.2) := by
  simp only [p30, if_pos (show (0 : Int) ≤ (i : Int) ∧ (i : Int) < ((h.length : Nat) : Int) by omega), if_pos (show (0 : Int) ≤ (k : Int) ∧ (k : Int) < ((h.length : Nat) : Int) by omega), Int.toNat_natCast, H_some hi, H_some hk]
  unfold befo
  cases decide ((H h i).2.1 < (H h k).2.1) <;> cases decide ((H h i).2.1 = (H h k).2.1) <;> rfl
theorem swap_run {h : List TM} {i k : Nat} (hi : i < h.length) (hk : k < h.length) (r mi s : Int) {m : MM} (p : Placed h m) : p29 FUEL ((i : Int), (k : Int), r, mi, s, h, m.1, m.2.1, m.2.2) = some (r, mi, s, swapL h i k, (swapM h i k m).1, (swapM h i k m).2.1, (swapM h i k m).2.2) := by
  have l1 : (h.set i (H h k)).length = h.length := List.length_set
  have hs := swap_len h i k
  have e1 : (h.set i (H h k))[k]? = some (if k = i then H h k else H h k) := by
    rw [List.getElem?_set]
    by_cases a : i = k
    · subst a; rw [if_pos rfl, if_pos hi, if_pos rfl]
    · rw [if_neg a, H_some hk, if_neg (fun e => a e.symm)]
  have e2 : (swapL h i k)[i]? = some (H h k) := by
    rw [H_some (by rw [hs]; exact hi), swap_H hi hk]
    by_cases a : i = k
    · subst a; rw [if_pos rfl]
    · rw [if_neg a, if_pos rfl]
  have e3 : (swapL h i k)[k]? = some (H h i) := by
    rw [H_some (by rw [hs]; exact hk), swap_H hi hk, if_pos rfl]
  have hsw : (h.set i (H h k)).set k (H h i) = swapL h i k := rfl
  have s1 := sound_put p.sound (H h k).1 (i : Int)
  simp only [p29, if_pos (show (0 : Int) ≤ (i : Int) ∧ (i : Int) < ((h.length : Nat) : Int) by omega), if_pos (show (0 : Int) ≤ (k : Int) ∧ (k : Int) < ((h.length : Nat) : Int) by omega), Int.toNat_natCast, H_some hi, H_some hk, l1, e1, hsw, hs, e2, e3]
  have a1 := put_run p.sound (H h k).1 (i : Int)
  have a2 := put_run s1 (H h i).1 (k : Int)
  rw [show ((m.1, m.2.1, m.2.2) : MM) = m from rfl, a1]
  simp only
  rw [show (((mput UT IT (H h k).1 (i : Int) m).1, (mput UT IT (H h k).1 (i : Int) m).2.1, (mput UT IT (H h k).1 (i : Int) m).2.2) : MM) = mput UT IT (H h k).1 (i : Int) m from rfl, a2]
  rfl
end Go.Am.Ytbggedhchjibjaa
