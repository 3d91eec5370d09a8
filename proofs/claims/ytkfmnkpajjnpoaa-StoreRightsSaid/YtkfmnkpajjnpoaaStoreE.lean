/- Plain laws of the printed functions of the store: which items may be (StoreRights). -/
import Derived.Test.YtkfmnkpajjnpoaaStoreC
import Derived.Test.YtkfmnkpajjnpoaaAmZH
namespace Go.Am.Ytkfmnkpajjnpoaa
theorem key_run2 (s : ByteArray) : p61 FUEL s = some (goodKey s) := key_run s
theorem val_run2 (s : ByteArray) : p62 FUEL s = some (goodVal s) := val_run s

theorem entries_run2 (b : Int) (l : List En) : p34 FUEL (b, l) = some (rightAll b l && decide (l.length ≤ 8)) := by
  by_cases h8 : l.length ≤ 8
  · have key := for_loop (S := Unit) (L := fun n y => l34_0 FUEL (fun x15 => some x15) (fun _ => some true) n y) (step := fun F => s34_0 FUEL F (fun x15 => some x15) (fun _ => some true)) (fun n x => rfl)
      (fun i _ => (b, l, (i : Int))) l.length (fun _ _ => True) (fun i _ => bif okAt b l i then .inr () else .inl (some false)) (fun _ => some true)
      (fun F i _ hi _ => by
        refine (condT (decide_eq_true (show ((i : Nat) : Int) < ((l.length : Nat) : Int) by omega))).trans ?_
        have hb := bucket_run2 (enAt l i).1
        cases hp : p64 FUEL (enAt l i).1 with
        | none => rw [hp] at hb; cases hb
        | some q =>
          rw [hp] at hb
          simp only [if_pos (show (0 : Int) ≤ (i : Int) by omega), Int.toNat_natCast, enAt_get hi, key_run2, val_run2, okAt, wrapNext i (by omega), hp, hb]
          cases goodKey (enAt l i).1 with
          | false => rfl
          | true =>
            cases goodVal (enAt l i).2 with
            | false => rfl
            | true =>
              simp only [Bool.not_true, cond_false, Bool.true_and]
              by_cases h1 : bucketOf (enAt l i).1 = b
              · rw [decide_eq_true h1]
                simp only [Bool.not_true, cond_false, Bool.true_and]
                by_cases h0 : i = 0
                · subst h0
                  rfl
                · rw [decide_eq_true (show (0 : Int) < (i : Int) by omega), decide_eq_false h0, wrapI (by omega) (by omega), cond_true, if_pos (by omega), show ((i : Int) - 1).toNat = i - 1 by omega, enAt_get (show i - 1 < l.length by omega), Bool.false_or]
                  simp only
                  cases strLess (enAt l (i - 1)).1 (enAt l i).1 <;> rfl
              · rw [decide_eq_false h1]; rfl)
      (fun F _ _ => condF (decide_eq_false (Int.lt_irrefl _))) (fun _ _ _ _ _ _ => trivial) l.length 0 () FUEL (Nat.zero_add _) (by have := big; omega) trivial
    simp only [show ((0 : Nat) : Int) = 0 from rfl] at key
    simp only [p34]
    rw [decide_eq_false (show ¬ (8 : Int) < ((l.length : Nat) : Int) by omega), cond_false, key, forI_all, decide_eq_true h8]
    unfold rightAll
    cases (List.range' 0 l.length).all (okAt b l) <;> rfl
  · simp only [p34]
    rw [decide_eq_true (show (8 : Int) < ((l.length : Nat) : Int) by omega), decide_eq_false h8, Bool.and_false]
    rfl

theorem ones_loop {R : Type} (i : IT) (hi : i.2.2.2.2.length = 4) (K : (Int × IT) → Option R) : l15_0 FUEL K FUEL (0, 0, i) = K (((4 - zeros i.2.2.2.2 : Nat) : Int), i) := by
  obtain ⟨a, b, c, d, e⟩ : ∃ a b c d, i.2.2.2.2 = [a, b, c, d] := by
    match h : i.2.2.2.2, hi with
    | [a, b, c, d], _ => exact ⟨a, b, c, d, rfl⟩
  have key := for_loop (S := Nat) (R := R) (L := fun n y => l15_0 FUEL K n y) (step := fun F => s15_0 FUEL F K) (fun n x => rfl)
    (fun k s => (((s : Nat) : Int), (k : Int), i)) 4 (fun k s => s ≤ k) (fun k s => .inr (if i.2.2.2.2.getD k 0 = 0 then s else s + 1)) (fun s => K (((s : Nat) : Int), i))
    (fun F k s hk hs => by
      have hck : (0 : Int) ≤ k ∧ (k : Int) < ((4 : Nat) : Int) := by omega
      refine (condT (decide_eq_true (show ((k : Nat) : Int) < 4 by omega))).trans ?_
      have e1 : i.2.2.2.2[k]? = some (i.2.2.2.2.getD k 0) := by rw [List.getD_eq_getElem?_getD, List.getElem?_eq_getElem (by omega)]; rfl
      simp only [if_pos hck, Int.toNat_natCast, e1, wrapNext k (by omega), wrapNext s (by omega)]
      by_cases h : i.2.2.2.2.getD k 0 = 0
      · rw [decide_eq_true h, if_pos h]; rfl
      · rw [decide_eq_false h, if_neg h]; rfl)
    (fun F s _ => rfl) (fun k s s' hk hs e => by
      simp only [Sum.inr.injEq] at e
      subst e
      split <;> omega) 4 0 0 FUEL rfl (by have := big; omega) (Nat.le_refl _)
  simp only [show ((0 : Nat) : Int) = 0 from rfl] at key
  rw [key]
  rw [e]
  simp only [forI, zeros, List.getD_cons_zero, List.getD_cons_succ, List.filter]
  by_cases ha : a = 0 <;> by_cases hb : b = 0 <;> by_cases hc : c = 0 <;> by_cases hd : d = 0 <;> simp [ha, hb, hc, hd]

theorem zeros_le (is : List Int) (h : is.length = 4) : zeros is ≤ 4 := by unfold zeros; rw [← h]; exact List.length_filter_le _ _

theorem right_run2 (i : IT) (hi : i.2.2.2.2.length = 4) : p15 FUEL i = some (right i) := by
  have ent := entries_run2 i.1 i.2.2.2.1
  have hz := zeros_le _ hi
  simp only [p15]
  rw [ones_loop i hi]
  simp only [right, ent]
  by_cases h1 : i.1 < 0
  · rw [decide_eq_true h1, decide_eq_false (show ¬ 0 ≤ i.1 by omega)]; rfl
  · rw [decide_eq_false h1, decide_eq_true (show 0 ≤ i.1 by omega)]
    by_cases h2 : 64 ≤ i.1
    · rw [decide_eq_true h2, decide_eq_false (show ¬ i.1 < 64 by omega)]; rfl
    · rw [decide_eq_false h2, decide_eq_true (show i.1 < 64 by omega)]
      by_cases h3 : 2147483647 ≤ i.2.1
      · rw [decide_eq_true h3, decide_eq_false (show ¬ i.2.1 < 2147483647 by omega)]; rfl
      · rw [decide_eq_false h3, decide_eq_true (show i.2.1 < 2147483647 by omega)]
        by_cases h4 : 1 < zeros i.2.2.2.2
        · rw [decide_eq_true h4, decide_eq_false (show ¬ (3 : Int) ≤ ((4 - zeros i.2.2.2.2 : Nat) : Int) by omega)]; rfl
        · rw [decide_eq_false h4, decide_eq_true (show (3 : Int) ≤ ((4 - zeros i.2.2.2.2 : Nat) : Int) by omega)]
          cases i.2.2.1 with
          | true => cases rightAll i.1 i.2.2.2.1 && decide (i.2.2.2.1.length ≤ 8) <;> rfl
          | false =>
            by_cases h5 : i.2.2.2.1.length = 0
            · rw [decide_eq_true h5, decide_eq_true (show ((i.2.2.2.1.length : Nat) : Int) = 0 by omega)]; rfl
            · rw [decide_eq_false h5, decide_eq_false (show ¬ ((i.2.2.2.1.length : Nat) : Int) = 0 by omega)]; rfl

theorem storeRights (x0 : IT) (w0 : Ty.wr (.pair (.int .i64) (.pair (.int .u32) (.pair .bool (.pair (.slice (.pair .str .str)) (.arr 4 (.int .u32)))))) x0) : p3 FUEL x0 = some true := by
  have hi : x0.2.2.2.2.length = 4 := w0.2.2.2.2.1
  have hd : x0.2.2.2.1.length * Ty.lo (.pair .str .str) ≤ reachBytes := w0.2.2.2.1.1.2
  have hd : x0.2.2.2.1.length * 32 ≤ reachBytes := hd
  unfold reachBytes at hd
  simp only [p3, alive_run, cond_true, right_run2 x0 hi]
  rw [right_run x0 hi (by omega)]
  simp
end Go.Am.Ytkfmnkpajjnpoaa
