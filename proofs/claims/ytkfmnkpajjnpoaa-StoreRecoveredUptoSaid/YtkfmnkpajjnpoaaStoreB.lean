/- Plain laws of the printed functions of the store: which items may be; votes. -/
import Derived.Test.YtkfmnkpajjnpoaaStoreA
import Derived.Test.YtkfmnkpajjnpoaaStoreK
namespace Go.Am.Ytkfmnkpajjnpoaa

/-- The bucket of a key. -/
def bucketOf (s : ByteArray) : Int := ((hiN s 8 / 288230376151711744 : Nat) : Int)
theorem hi8_lt (s : ByteArray) : hiN s 8 < 18446744073709551616 := acc_lt _ (bN_lt s) 8
theorem bucket_run (s : ByteArray) : p60 FUEL s = some (bucketOf s) := by
  have h := hi8_lt s
  simp only [p60, p10_eq FUEL (by have := big; omega) s, p84]
  rw [show ((2 : Int) ^ 58) = ((288230376151711744 : Nat) : Int) by decide, show Int.fdiv ((hiN s 8 : Nat) : Int) ((288230376151711744 : Nat) : Int) = ((hiN s 8 / 288230376151711744 : Nat) : Int) by rw [Int.fdiv_eq_ediv_of_nonneg _ (by omega)]; rfl, wrapI (by omega) (by omega)]
  rfl
theorem bucket_run2 (s : ByteArray) : (match p64 FUEL s with | some z11 => p63 FUEL z11 | none => none) = some (bucketOf s) := by
  have h := hi8_lt s
  simp only [p16_eq FUEL (by have := big; omega) s, p63]
  rw [show Int.tdiv ((hiN s 8 : Nat) : Int) 288230376151711744 = ((hiN s 8 / 288230376151711744 : Nat) : Int) from rfl, wrapU (by omega), wrapI (by omega) (by omega)]
  rfl

theorem forI_all {R : Type} (p : Nat → Bool) (no yes : Option R) : ∀ (k i : Nat), forI (fun i (_ : Unit) => bif p i then .inr () else .inl no) (fun _ => yes) k i () = bif (List.range' i k).all p then yes else no
  | 0, i => rfl
  | k + 1, i => by
    simp only [forI, List.range'_succ, List.all_cons]
    cases p i with
    | true => simp only [cond_true, Bool.true_and]; exact forI_all p no yes k (i + 1)
    | false => rfl

def goodKey (s : ByteArray) : Bool := decide (1 ≤ s.size) && decide (s.size ≤ 32)
def goodVal (s : ByteArray) : Bool := decide (s.size ≤ 64)
theorem key_run (s : ByteArray) : p58 FUEL s = some (goodKey s) := by
  simp only [p58, goodKey]
  by_cases h : 1 ≤ s.size
  · rw [decide_eq_true h, decide_eq_true (show (1 : Int) ≤ ((s.size : Nat) : Int) by omega)]
    by_cases g : s.size ≤ 32
    · rw [decide_eq_true g, decide_eq_true (show ((s.size : Nat) : Int) ≤ 32 by omega)]; rfl
    · rw [decide_eq_false g, decide_eq_false (show ¬ ((s.size : Nat) : Int) ≤ 32 by omega)]; rfl
  · rw [decide_eq_false h, decide_eq_false (show ¬ (1 : Int) ≤ ((s.size : Nat) : Int) by omega)]; rfl
theorem val_run (s : ByteArray) : p59 FUEL s = some (goodVal s) := by
  simp only [p59, goodVal]
  by_cases g : s.size ≤ 64
  · rw [decide_eq_true g, decide_eq_true (show ((s.size : Nat) : Int) ≤ 64 by omega)]
  · rw [decide_eq_false g, decide_eq_false (show ¬ ((s.size : Nat) : Int) ≤ 64 by omega)]

def zE : En := (ByteArray.empty, ByteArray.empty)
def enAt (l : List En) (i : Nat) : En := l.getD i zE
theorem enAt_get {l : List En} {i : Nat} (h : i < l.length) : l[i]? = some (enAt l i) := by
  unfold enAt; rw [List.getD_eq_getElem?_getD, List.getElem?_eq_getElem h]; rfl
/-- Is the i-th entry right for a bucket, and behind the one ahead of it? -/
def okAt (b : Int) (l : List En) (i : Nat) : Bool := goodKey (enAt l i).1 && (goodVal (enAt l i).2 && (decide (bucketOf (enAt l i).1 = b) && (decide (i = 0) || strLess (enAt l (i - 1)).1 (enAt l i).1)))
def rightAll (b : Int) (l : List En) : Bool := (List.range' 0 l.length).all (okAt b l)

theorem entries_run (b : Int) (l : List En) (hl : l.length < 9223372036854775807) : p33 FUEL (b, l) = some (rightAll b l && decide (l.length ≤ 8)) := by
  have key := for_loop (S := Unit) (L := fun n y => l33_0 FUEL (fun x13 => some x13) (fun x14 => some (decide (((List.length x14 : Nat) : Int) ≤ (8 : Int)))) n y)
    (step := fun F => s33_0 FUEL F (fun x13 => some x13) (fun x14 => some (decide (((List.length x14 : Nat) : Int) ≤ (8 : Int))))) (fun n x => rfl)
    (fun i _ => (b, l, l, ((l.length : Nat) : Int), (i : Int))) l.length (fun _ _ => True)
    (fun i _ => bif okAt b l i then .inr () else .inl (some false)) (fun _ => some (decide (((l.length : Nat) : Int) ≤ (8 : Int))))
    (fun F i _ hi _ => by
      refine (condT (decide_eq_true (show ((i : Nat) : Int) < ((l.length : Nat) : Int) by omega))).trans ?_
      rw [if_pos (show (0 : Int) ≤ (i : Int) by omega), Int.toNat_natCast, enAt_get hi]
      simp only [key_run, val_run, bucket_run, okAt, wrapNext i (by omega)]
      cases goodKey (enAt l i).1 with
      | false => rfl
      | true =>
        cases goodVal (enAt l i).2 with
        | false => rfl
        | true =>
          simp only [Bool.not_true, cond_false, Bool.true_and]
          by_cases h1 : bucketOf (enAt l i).1 = b
          · rw [decide_eq_true h1]
            simp only [Bool.not_true, cond_false, Bool.true_and]
            by_cases h0 : i = 0
            · subst h0
              rfl
            · rw [decide_eq_true (show (0 : Int) < (i : Int) by omega), decide_eq_false h0, wrapI (by omega) (by omega), cond_true, if_pos (by omega), show ((i : Int) - 1).toNat = i - 1 by omega, enAt_get (show i - 1 < l.length by omega), Bool.false_or]
              simp only
              cases strLess (enAt l (i - 1)).1 (enAt l i).1 <;> rfl
          · rw [decide_eq_false h1]; rfl)
    (fun F _ _ => condF (decide_eq_false (Int.lt_irrefl _))) (fun _ _ _ _ _ _ => trivial) l.length 0 () FUEL (Nat.zero_add _) (by have := big; omega) trivial
  simp only [show ((0 : Nat) : Int) = 0 from rfl] at key
  simp only [p33]
  rw [key, forI_all]
  unfold rightAll
  cases (List.range' 0 l.length).all (okAt b l) with
  | false => rfl
  | true =>
    by_cases h : l.length ≤ 8
    · rw [decide_eq_true h, decide_eq_true (show ((l.length : Nat) : Int) ≤ 8 by omega)]; rfl
    · rw [decide_eq_false h, decide_eq_false (show ¬ ((l.length : Nat) : Int) ≤ 8 by omega)]; rfl

/-- How many of four numbers are 0. -/
def zeros (is : List Int) : Nat := (is.filter (fun x => decide (x = 0))).length
/-- May an item be? -/
def right (i : IT) : Bool :=
  !decide (i.1 < 0) && (!decide (64 ≤ i.1) && (!decide (2147483647 ≤ i.2.1) && (!decide (1 < zeros i.2.2.2.2) && (bif i.2.2.1 then rightAll i.1 i.2.2.2.1 && decide (i.2.2.2.1.length ≤ 8) else decide (i.2.2.2.1.length = 0)))))

theorem zeros_loop {R : Type} (i : IT) (hi : i.2.2.2.2.length = 4) (K : (Int × IT) → Option R) : l14_0 FUEL K FUEL (0, i.2.2.2.2, 0, i) = K (((zeros i.2.2.2.2 : Nat) : Int), i) := by
  obtain ⟨a, b, c, d, e⟩ : ∃ a b c d, i.2.2.2.2 = [a, b, c, d] := by
    match h : i.2.2.2.2, hi with
    | [a, b, c, d], _ => exact ⟨a, b, c, d, rfl⟩
  have key := for_loop (S := Nat) (R := R) (L := fun n y => l14_0 FUEL K n y) (step := fun F => s14_0 FUEL F K) (fun n x => rfl)
    (fun k s => (((s : Nat) : Int), i.2.2.2.2, (k : Int), i)) 4 (fun k s => s ≤ k) (fun k s => .inr (if i.2.2.2.2.getD k 0 = 0 then s + 1 else s)) (fun s => K (((s : Nat) : Int), i))
    (fun F k s hk hs => by
      have hck : (0 : Int) ≤ k ∧ (k : Int) < ((4 : Nat) : Int) := by omega
      refine (condT (decide_eq_true (show ((k : Nat) : Int) < 4 by omega))).trans ?_
      have e1 : i.2.2.2.2[k]? = some (i.2.2.2.2.getD k 0) := by rw [List.getD_eq_getElem?_getD, List.getElem?_eq_getElem (by omega)]; rfl
      simp only [if_pos hck, Int.toNat_natCast, e1, wrapNext k (by omega), wrapNext s (by omega)]
      by_cases h : i.2.2.2.2.getD k 0 = 0
      · rw [decide_eq_true h, if_pos h]; rfl
      · rw [decide_eq_false h, if_neg h]; rfl)
    (fun F s _ => rfl) (fun k s s' hk hs e => by
      simp only [Sum.inr.injEq] at e
      subst e
      split <;> omega) 4 0 0 FUEL rfl (by have := big; omega) (Nat.le_refl _)
  simp only [show ((0 : Nat) : Int) = 0 from rfl] at key
  rw [key]
  rw [e]
  simp only [forI, zeros, List.getD_cons_zero, List.getD_cons_succ, List.filter]
  by_cases ha : a = 0 <;> by_cases hb : b = 0 <;> by_cases hc : c = 0 <;> by_cases hd : d = 0 <;> simp [ha, hb, hc, hd]

theorem right_run (i : IT) (hi : i.2.2.2.2.length = 4) (hd : i.2.2.2.1.length < 9223372036854775807) : p14 FUEL i = some (right i) := by
  have ent := entries_run i.1 i.2.2.2.1 hd
  simp only [p14]
  rw [zeros_loop i hi]
  simp only [right, j14_1, j14_2, ent]
  by_cases h1 : i.1 < 0
  · rw [decide_eq_true h1]; rfl
  · rw [decide_eq_false h1]
    by_cases h2 : 64 ≤ i.1
    · rw [decide_eq_true h2]; rfl
    · rw [decide_eq_false h2]
      by_cases h3 : 2147483647 ≤ i.2.1
      · rw [decide_eq_true h3]; rfl
      · rw [decide_eq_false h3]
        by_cases h4 : 1 < zeros i.2.2.2.2
        · rw [decide_eq_true h4, decide_eq_true (show (1 : Int) < ((zeros i.2.2.2.2 : Nat) : Int) by omega)]; rfl
        · rw [decide_eq_false h4, decide_eq_false (show ¬ (1 : Int) < ((zeros i.2.2.2.2 : Nat) : Int) by omega)]
          simp only [cond_false, Bool.not_false, Bool.true_and]
          cases i.2.2.1 with
          | true => rfl
          | false =>
            simp only [cond_false]
            by_cases h5 : i.2.2.2.1.length = 0
            · rw [decide_eq_true h5, decide_eq_true (show ((i.2.2.2.1.length : Nat) : Int) = 0 by omega)]
            · rw [decide_eq_false h5, decide_eq_false (show ¬ ((i.2.2.2.1.length : Nat) : Int) = 0 by omega)]

theorem right_inv {i : IT} (h : right i = true) : 0 ≤ i.1 ∧ i.1 < 64 ∧ i.2.1 < 2147483647 ∧ i.2.2.2.1.length ≤ 8 := by
  simp only [right, Bool.and_eq_true, Bool.not_eq_true', decide_eq_false_iff_not] at h
  obtain ⟨h1, h2, h3, h4, h5⟩ := h
  refine ⟨by omega, by omega, by omega, ?_⟩
  cases hw : i.2.2.1 with
  | true => rw [hw, cond_true, Bool.and_eq_true] at h5; exact of_decide_eq_true h5.2
  | false => rw [hw, cond_false] at h5; have := of_decide_eq_true h5; omega
end Go.Am.Ytkfmnkpajjnpoaa
