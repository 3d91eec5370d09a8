/- Plain laws of the printed functions of the audit: the document's form, makers, what is ahead. -/
import Derived.Test.YtmilfdplgemnfaaAuditF
namespace Go.Am.Ytmilfdplgemnfaa
theorem forI_all {R : Type} (p : Nat → Bool) (no yes : Option R) : ∀ (k i : Nat), forI (fun i (_ : Unit) => bif p i then .inr () else .inl no) (fun _ => yes) k i () = bif (List.range' i k).all p then yes else no
  | 0, _ => rfl
  | k + 1, i => by
    unfold forI
    rw [List.range'_succ, List.all_cons]
    cases p i
    · rfl
    · exact forI_all p no yes k (i + 1)
theorem all_fresh {α : Type} (key : α → Int) (Q : α → Bool) (d : α) (l : List α) : (List.range' 0 l.length).all (fun a => Q (l.getD a d) && !(l.take a).any (fun y => decide (key y = key (l.getD a d)))) = (l.all Q && decide (l.map key).Nodup) := by
  have get : ∀ a, (h : a < l.length) → l.getD a d = l[a] := fun a h => by rw [List.getD_eq_getElem?_getD, List.getElem?_eq_getElem h]; rfl
  rw [Bool.eq_iff_iff, List.all_eq_true, Bool.and_eq_true, List.all_eq_true, decide_eq_true_eq, List.nodup_iff_pairwise_ne, List.pairwise_iff_getElem]
  constructor
  · intro h
    refine ⟨fun x hx => ?_, fun i j hi hj hij e => ?_⟩
    · obtain ⟨a, ha, rfl⟩ := List.getElem_of_mem hx
      have := h a (by simp [ha])
      rw [get a ha, Bool.and_eq_true] at this
      exact this.1
    · rw [List.length_map] at hi hj
      have := h j (by simp [hj])
      rw [get j hj, Bool.and_eq_true, Bool.not_eq_true', List.any_eq_false] at this
      have h2 := this.2 l[i] (by rw [List.mem_take_iff_getElem]; exact ⟨i, by omega, rfl⟩)
      simp only [List.getElem_map] at e
      simp [e] at h2
  · rintro ⟨h1, h2⟩ a ha
    have ha : a < l.length := by simpa using ha
    rw [get a ha, Bool.and_eq_true, Bool.not_eq_true', List.any_eq_false]
    refine ⟨h1 _ (List.getElem_mem ha), fun y hy => ?_⟩
    rw [List.mem_take_iff_getElem] at hy
    obtain ⟨i, hi, rfl⟩ := hy
    have := h2 i a (by rw [List.length_map]; omega) (by rw [List.length_map]; exact ha) (by omega)
    simpa using this
theorem l20_1_run {R : Type} (k0 : Bool → Option R) (k1 : ((List Done) × Int × (List Item) × Int) → Option R) (h : List Done) (i : Int) (l : List Item) (hl : l.length < 9223372036854775807) {a : Nat} (ha : a < l.length) :
    l20_1 FUEL k0 k1 FUEL (h, i, l, (a : Int), 0) = bif (l.take a).any (fun y => decide (y.1 = l[a].1)) then k0 false else k1 (h, i, l, (a : Int)) := by
  have hb := big
  have htl : (l.take a).length = a := by rw [List.length_take]; omega
  refine (list_loop (L := l20_1 FUEL k0 k1) (step := fun F => s20_1 FUEL F k0 k1) (fun _ _ => rfl) (l.take a) (fun (k : Nat) (_ : Unit) => (h, i, l, (a : Int), (k : Int))) (fun _ => True)
    (fun _ y => bif decide (y.1 = l[a].1) then .inl (k0 false) else .inr ()) (fun _ => k1 (h, i, l, (a : Int))) (fun F k _ hk _ => ?_) (fun F _ _ => ?_) (fun _ _ _ _ _ _ => trivial) () trivial FUEL (by omega)).trans (forL_any _ _ _ _)
  · have hk' : k < a := by omega
    simp only [s20_1]
    rw [decide_eq_true (show (k : Int) < (a : Int) by omega), cond_true, if_pos (show (0 : Int) ≤ (k : Int) by omega)]
    simp only [Int.toNat_natCast, List.getElem?_eq_getElem (show k < l.length by omega), List.getElem?_eq_getElem ha, if_pos (show (0 : Int) ≤ (a : Int) by omega), List.getElem_take]
    rw [wrapNext k (by omega)]
    cases decide (l[k].1 = l[a].1) <;> rfl
  · rw [htl]
    simp only [s20_1]
    rw [decide_eq_false (show ¬ (a : Int) < (a : Int) by omega), cond_false]
theorem l20_2_run {R : Type} (k0 : Bool → Option R) (k1 : ((List Done) × Int) → Option R) (h : List Done) (i : Int) (l : List Item) (hl : l.length < 9223372036854775807) :
    l20_2 FUEL k0 k1 FUEL (h, i, l, 0) = bif l.all inRange && decide (l.map (·.1)).Nodup then k1 (h, i) else k0 false := by
  have hb := big
  rw [← all_fresh (·.1) inRange (0, 0, false, [], []) l]
  refine (for_loop (L := l20_2 FUEL k0 k1) (step := fun F => s20_2 FUEL F k0 k1) (fun _ _ => rfl) (fun (a : Nat) (_ : Unit) => (h, i, l, (a : Int))) l.length (fun _ _ => True)
    (fun a _ => bif inRange (l.getD a (0, 0, false, [], [])) && !(l.take a).any (fun y => decide (y.1 = (l.getD a (0, 0, false, [], [])).1)) then .inr () else .inl (k0 false)) (fun _ => k1 (h, i)) (fun F a _ ha _ => ?_) (fun F _ _ => ?_) (fun _ _ _ _ _ _ => trivial) l.length 0 () FUEL (by omega) (by omega) trivial).trans (forI_all _ _ _ _ _)
  · have get : l.getD a (0, 0, false, [], []) = l[a] := by rw [List.getD_eq_getElem?_getD, List.getElem?_eq_getElem ha]; rfl
    simp only [s20_2, get]
    rw [decide_eq_true (show (a : Int) < ((l.length : Nat) : Int) by omega), cond_true, if_pos (show (0 : Int) ≤ (a : Int) by omega)]
    simp only [Int.toNat_natCast, List.getElem?_eq_getElem ha, if_pos (show (0 : Int) ≤ (a : Int) by omega), l20_1_run _ _ h i l hl ha]
    rw [wrapNext a (by omega)]
    generalize hq : (l.take a).any (fun y => decide (y.1 = l[a].1)) = q
    generalize l[a] = x
    unfold inRange
    rw [show decide (64 ≤ x.1) = decide (63 < x.1) from decide_eq_decide.2 (by omega)]
    cases decide (x.1 < 0) <;> cases decide (63 < x.1) <;> cases decide (2147483647 ≤ x.2.1) <;> cases q <;> rfl
  · simp only [s20_2]
    rw [decide_eq_false (show ¬ ((l.length : Nat) : Int) < ((l.length : Nat) : Int) by omega), cond_false]
theorem l20_0_run {R : Type} (k0 : Bool → Option R) (k1 : ((List Done) × Int) → Option R) (h : List Done) (hh : h.length < 9223372036854775807) {i : Nat} (hi : i < h.length) :
    l20_0 FUEL k0 k1 FUEL (h, (i : Int), 0) = bif (h.take i).any (fun y => decide (y.1 = h[i].1)) then k0 false else k1 (h, (i : Int)) := by
  have hb := big
  have htl : (h.take i).length = i := by rw [List.length_take]; omega
  refine (list_loop (L := l20_0 FUEL k0 k1) (step := fun F => s20_0 FUEL F k0 k1) (fun _ _ => rfl) (h.take i) (fun (k : Nat) (_ : Unit) => (h, (i : Int), (k : Int))) (fun _ => True)
    (fun _ y => bif decide (y.1 = h[i].1) then .inl (k0 false) else .inr ()) (fun _ => k1 (h, (i : Int))) (fun F k _ hk _ => ?_) (fun F _ _ => ?_) (fun _ _ _ _ _ _ => trivial) () trivial FUEL (by omega)).trans (forL_any _ _ _ _)
  · have hk' : k < i := by omega
    simp only [s20_0]
    rw [decide_eq_true (show (k : Int) < (i : Int) by omega), cond_true, if_pos (show (0 : Int) ≤ (k : Int) by omega)]
    simp only [Int.toNat_natCast, List.getElem?_eq_getElem (show k < h.length by omega), List.getElem?_eq_getElem hi, if_pos (show (0 : Int) ≤ (i : Int) by omega), List.getElem_take]
    rw [wrapNext k (by omega)]
    cases decide (h[k].1 = h[i].1) <;> rfl
  · rw [htl]
    simp only [s20_0]
    rw [decide_eq_false (show ¬ (i : Int) < (i : Int) by omega), cond_false]
theorem p20_eq (h : List Done) (hh : h.length < 9223372036854775807) (hi : ∀ d ∈ h, d.2.2.2.length < 9223372036854775807) : p20 FUEL h = some (formB h) := by
  have hb := big
  have e0 : formB h = (h.all okD && decide (h.map (·.1)).Nodup) := rfl
  rw [e0, ← all_fresh (·.1) okD (0, 0, 0, []) h]
  simp only [p20]
  refine (for_loop (L := l20_4 FUEL _ _) (step := fun F => s20_4 FUEL F _ _) (fun _ _ => rfl) (fun (a : Nat) (_ : Unit) => (h, (a : Int))) h.length (fun _ _ => True)
    (fun a _ => bif okD (h.getD a (0, 0, 0, [])) && !(h.take a).any (fun y => decide (y.1 = (h.getD a (0, 0, 0, [])).1)) then .inr () else .inl (some false)) (fun _ => some true) (fun F a _ ha _ => ?_) (fun F _ _ => ?_) (fun _ _ _ _ _ _ => trivial) h.length 0 () FUEL (by omega) (by omega) trivial).trans ((forI_all _ _ _ _ _).trans ?_)
  · have get : h.getD a (0, 0, 0, []) = h[a] := getD_of ha
    have hm := hi _ (List.getElem_mem ha)
    simp only [s20_4, get]
    rw [decide_eq_true (show (a : Int) < ((h.length : Nat) : Int) by omega), cond_true, l20_0_run _ _ h hh ha]
    simp only [Int.toNat_natCast, List.getElem?_eq_getElem ha, if_pos (show (0 : Int) ≤ (a : Int) by omega), j20_3]
    simp only [l20_2_run _ _ h (a : Int) h[a].2.2.2 hm]
    rw [wrapNext a (by omega)]
    generalize (h.take a).any (fun y => decide (y.1 = h[a].1)) = q
    generalize h[a] = d
    unfold okD
    cases q <;> cases decide (d.2.2.1 = 0) <;> cases decide (d.2.2.1 < d.2.1) <;> cases d.2.2.2.all inRange <;> cases decide (d.2.2.2.map (·.1)).Nodup <;> rfl
  · simp only [s20_4]
    rw [decide_eq_false (show ¬ ((h.length : Nat) : Int) < ((h.length : Nat) : Int) by omega), cond_false]
  · cases (List.range' 0 h.length).all _ <;> rfl
end Go.Am.Ytmilfdplgemnfaa
