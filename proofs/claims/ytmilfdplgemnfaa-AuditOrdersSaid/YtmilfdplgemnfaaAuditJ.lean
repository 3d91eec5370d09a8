/- Plain laws of the printed functions of the audit: the document's order. -/
import Derived.Test.YtmilfdplgemnfaaAuditI
namespace Go.Am.Ytmilfdplgemnfaa
theorem cnt_append (l1 l2 : List Item) (k : Int × Int) : cnt (l1 ++ l2) k = cnt l1 k + cnt l2 k := by simp [cnt]
theorem cnt_le (l : List Item) (k : Int × Int) : cnt l k ≤ l.length := List.countP_le_length
theorem l21_0_run {R : Type} (k0 : ((List Done) × Int × Int × Int × Int) → Option R) (h : List Done) (b v n0 : Int) (h0 : 0 ≤ n0) {i : Nat} (hi : i < h.length) (hl : n0 + (h[i].2.2.2.length : Int) < 9223372036854775807) : ∀ m k, h[i].2.2.2.length - k < m → k ≤ h[i].2.2.2.length →
    l21_0 FUEL k0 m (h, b, v, n0 + (cnt (h[i].2.2.2.take k) (b, v) : Int), (i : Int), (k : Int)) = k0 (h, b, v, n0 + (cnt h[i].2.2.2 (b, v) : Int), (i : Int)) := by
  intro m
  induction m with
  | zero => intro k h; omega
  | succ m ih =>
    intro k hm hk
    show s21_0 FUEL (l21_0 FUEL _ m) _ _ = _
    simp only [s21_0, if_pos (show (0 : Int) ≤ (i : Int) by omega), Int.toNat_natCast, List.getElem?_eq_getElem hi]
    by_cases e : k < h[i].2.2.2.length
    · have ih := ih (k + 1) (by omega) (by omega)
      have hle := cnt_le (h[i].2.2.2.take k) (b, v)
      rw [List.length_take] at hle
      rw [List.take_succ_eq_append_getElem e, cnt_append] at ih
      rw [decide_eq_true (show (k : Int) < ((h[i].2.2.2.length : Nat) : Int) by omega), cond_true, if_pos (show (0 : Int) ≤ (k : Int) by omega)]
      simp only [List.getElem?_eq_getElem e]
      rw [wrapNext k (by omega), wrapI (n := n0 + (cnt (h[i].2.2.2.take k) (b, v) : Int) + 1) (by omega) (by omega)]
      refine Eq.trans ?_ ih
      generalize h[i].2.2.2[k] = y
      have c1 : cnt [y] (b, v) = if (y.2.2.1 && (decide (y.1 = b) && decide (IntKind.wrap .u32 (y.2.1 + 1) = v))) = true then 1 else 0 := by
        unfold cnt mk
        rw [List.countP_singleton]
        congr 1
        rw [eq_iff_iff, Bool.and_eq_true, Bool.and_eq_true, Bool.and_eq_true, decide_eq_true_eq, decide_eq_true_eq, decide_eq_true_eq, Prod.mk.injEq]
      rw [c1]
      cases y.2.2.1
      · simp
      · cases decide (y.1 = b)
        · simp
        · cases decide (IntKind.wrap .u32 (y.2.1 + 1) = v)
          · simp
          · simp only [cond_true, Bool.and_self, if_true, Int.natCast_add]
            rw [← Int.add_assoc]; rfl
    · rw [decide_eq_false (show ¬ (k : Int) < ((h[i].2.2.2.length : Nat) : Int) by omega), cond_false, List.take_of_length_le (by omega)]
theorem all_take (h : List Done) {i : Nat} (hi : i < h.length) : allItems (h.take (i + 1)) = allItems (h.take i) ++ h[i].2.2.2 := by
  unfold allItems
  rw [List.take_succ_eq_append_getElem hi, List.flatMap_append, List.flatMap_singleton]
theorem l21_1_run {R : Type} (k0 : Int → Option R) (h : List Done) (hh : h.length ≤ 60) (hi : ∀ d ∈ h, d.2.2.2.length ≤ 3000000000000) (b v : Int) : ∀ m i, h.length - i < m → i ≤ h.length →
    l21_1 FUEL k0 m (h, b, v, (cnt (allItems (h.take i)) (b, v) : Int), (i : Int)) = k0 (cnt (allItems h) (b, v) : Int) := by
  have hb := big
  intro m
  induction m with
  | zero => intro i h; omega
  | succ m ih =>
    intro i hm hi'
    show s21_1 FUEL (l21_1 FUEL _ m) _ _ = _
    simp only [s21_1]
    by_cases e : i < h.length
    · have ih := ih (i + 1) (by omega) (by omega)
      have h1 := cnt_le (allItems (h.take i)) (b, v)
      have h2 := all_len (h.take i) fun d hd => hi d (List.mem_of_mem_take hd)
      rw [List.length_take] at h2
      have h3 := hi _ (List.getElem_mem e)
      have run := fun k0 => l21_0_run (R := R) k0 h b v (cnt (allItems (h.take i)) (b, v) : Int) (by omega) e (by omega) FUEL 0 (by omega) (by omega)
      rw [all_take h e, cnt_append] at ih
      have e0 : (cnt (h[i].2.2.2.take 0) (b, v) : Int) = 0 := by simp [cnt]
      simp only [e0, Int.add_zero, show ((0 : Nat) : Int) = 0 from rfl] at run
      rw [decide_eq_true (show (i : Int) < ((h.length : Nat) : Int) by omega), cond_true, run, wrapNext i (by omega)]
      exact ih
    · rw [decide_eq_false (show ¬ (i : Int) < ((h.length : Nat) : Int) by omega), cond_false, List.take_of_length_le (by omega)]
theorem p21_eq (h : List Done) (hh : h.length ≤ 60) (hi : ∀ d ∈ h, d.2.2.2.length ≤ 3000000000000) (b v : Int) : p21 FUEL (h, b, v) = some (cnt (allItems h) (b, v) : Int) := by
  have hb := big
  exact l21_1_run (fun x => some x) h hh hi b v FUEL 0 (by omega) (by omega)
theorem l22_0_run {R : Type} (k0 : Bool → Option R) (k1 : (Int × Done × Done) → Option R) (a b : Done) (hb' : b.2.2.2.length < 9223372036854775807) {i : Nat} (hi : i < a.2.2.2.length) :
    l22_0 FUEL k0 k1 FUEL ((i : Int), 0, a, b) = bif b.2.2.2.any (fun y => decide (a.2.2.2[i].1 = y.1) && pair a.2.2.2[i] y) then k0 true else k1 ((i : Int), a, b) := by
  have hb := big
  refine (list_loop (L := l22_0 FUEL k0 k1) (step := fun F => s22_0 FUEL F k0 k1) (fun _ _ => rfl) b.2.2.2 (fun (k : Nat) (_ : Unit) => ((i : Int), (k : Int), a, b)) (fun _ => True)
    (fun _ y => bif decide (a.2.2.2[i].1 = y.1) && pair a.2.2.2[i] y then .inl (k0 true) else .inr ()) (fun _ => k1 ((i : Int), a, b)) (fun F k _ hk _ => ?_) (fun F _ _ => ?_) (fun _ _ _ _ _ _ => trivial) () trivial FUEL (by omega)).trans (forL_any _ _ _ _)
  · simp only [s22_0]
    rw [decide_eq_true (show (k : Int) < ((b.2.2.2.length : Nat) : Int) by omega), cond_true, if_pos (show (0 : Int) ≤ (i : Int) by omega)]
    simp only [Int.toNat_natCast, List.getElem?_eq_getElem hi, List.getElem?_eq_getElem hk, if_pos (show (0 : Int) ≤ (k : Int) by omega)]
    rw [wrapNext k (by omega)]
    generalize a.2.2.2[i] = x
    generalize b.2.2.2[k] = y
    unfold pair
    cases decide (x.1 = y.1) <;> cases x.2.2.1 <;> cases y.2.2.1 <;> cases decide (x.2.1 < y.2.1) <;> cases decide (x.2.1 ≤ y.2.1) <;> rfl
  · simp only [s22_0]
    rw [decide_eq_false (show ¬ ((b.2.2.2.length : Nat) : Int) < ((b.2.2.2.length : Nat) : Int) by omega), cond_false]
theorem hit_any {b : Done} (hn : (b.2.2.2.map (·.1)).Nodup) (x : Item) : b.2.2.2.any (fun y => decide (x.1 = y.1) && pair x y) = hit b x := by
  rw [Bool.eq_iff_iff, List.any_eq_true]
  constructor
  · rintro ⟨y, hy, h⟩
    rw [Bool.and_eq_true, decide_eq_true_eq] at h
    exact hit_of hy hn h.1.symm h.2
  · intro h
    unfold hit at h
    cases hf : b.2.2.2.find? (fun y => decide (y.1 = x.1)) with
    | none => rw [hf] at h; cases h
    | some y =>
      rw [hf] at h
      have h : pair x y = true := h
      have e : y.1 = x.1 := by simpa using List.find?_some hf
      exact ⟨y, List.mem_of_find?_eq_some hf, by rw [decide_eq_true e.symm, h]; rfl⟩
theorem p22_eq (a b : Done) (ha : a.2.2.2.length < 9223372036854775807) (hb' : b.2.2.2.length < 9223372036854775807) (hn : (b.2.2.2.map (·.1)).Nodup) : p22 FUEL (a, b) = some (ahP a b) := by
  have hb := big
  have run : ∀ {R : Type} (k0 : Bool → Option R) (k1 : Unit → Option R), l22_1 FUEL k0 k1 FUEL (0, a, b) = bif a.2.2.2.any (hit b) then k0 true else k1 () := by
    intro R k0 k1
    refine (list_loop (L := l22_1 FUEL k0 k1) (step := fun F => s22_1 FUEL F k0 k1) (fun _ _ => rfl) a.2.2.2 (fun (k : Nat) (_ : Unit) => ((k : Int), a, b)) (fun _ => True)
      (fun _ x => bif hit b x then .inl (k0 true) else .inr ()) (fun _ => k1 ()) (fun F k _ hk _ => ?_) (fun F _ _ => ?_) (fun _ _ _ _ _ _ => trivial) () trivial FUEL (by omega)).trans (forL_any _ _ _ _)
    · simp only [s22_1]
      rw [decide_eq_true (show (k : Int) < ((a.2.2.2.length : Nat) : Int) by omega), cond_true, l22_0_run _ _ a b hb' hk, hit_any hn, wrapNext k (by omega)]
      cases hit b a.2.2.2[k] <;> rfl
    · simp only [s22_1]
      rw [decide_eq_false (show ¬ ((a.2.2.2.length : Nat) : Int) < ((a.2.2.2.length : Nat) : Int) by omega), cond_false]
  simp only [p22, j22_2, run, ahP]
  cases decide (a.2.2.1 = 0) <;> cases decide (a.2.2.1 < b.2.1) <;> cases a.2.2.2.any (hit b) <;> rfl
end Go.Am.Ytmilfdplgemnfaa
