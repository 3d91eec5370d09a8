/- The document's reader, told plainly. -/
import Derived.Test.YtiecnmmffplgcaaQuorumC
namespace Go.Am.Ytiecnmmffplgcaa

abbrev RS := Int × (Int × (List Bool × List An))
def zA : An := (0, (0, (0, [])))
/-- The document's reader that has heard h. -/
def W (b r : Int) (h : Int → Option An) : RS := (b, (r, (ks4.map fun k => (h k).isSome, ks4.map fun k => (h k).getD zA)))

theorem W_is (b r : Int) (h : Int → Option An) {i : Nat} (hi : i < 4) : (W b r h).2.2.1[i]? = some (h i).isSome := by
  have : i = 0 ∨ i = 1 ∨ i = 2 ∨ i = 3 := by omega
  rcases this with rfl | rfl | rfl | rfl <;> rfl
theorem W_at (b r : Int) (h : Int → Option An) {i : Nat} (hi : i < 4) : (W b r h).2.2.2[i]? = some ((h i).getD zA) := by
  have : i = 0 ∨ i = 1 ∨ i = 2 ∨ i = 3 := by omega
  rcases this with rfl | rfl | rfl | rfl <;> rfl

theorem W_put (b r : Int) (h : Int → Option An) {i : Nat} (hi : i < 4) (a : An) : ((W b r h).1, ((W b r h).2.1, ((W b r h).2.2.1.set i true, (W b r h).2.2.2.set i a))) = W b r (put h i a) := by
  have : i = 0 ∨ i = 1 ∨ i = 2 ∨ i = 3 := by omega
  rcases this with rfl | rfl | rfl | rfl <;> rfl

theorem radd_run (b r : Int) (h : Int → Option An) (k : Int) {a : An} (ha : goodA a) : p16 FUEL (k, a, W b r h) = some (addE h r k a, W b r (addH h r k a)) := by
  have one : k < 0 ∨ 4 ≤ k ∨ a.2.1 = 0 → addE h r k a = 1 := fun h => if_pos h
  have no1 : ∀ {n : Int}, addE h r k a = n → n ≠ 0 → addH h r k a = h := fun e hn => by unfold addH; rw [if_neg (by rw [e]; exact hn)]
  unfold p16
  simp only
  by_cases h1 : k < 0
  · have e := one (.inl h1)
    rw [decide_eq_true h1, e, no1 e (by decide)]; rfl
  by_cases h2 : 4 ≤ k
  · have e := one (.inr (.inl h2))
    rw [decide_eq_false h1, decide_eq_true (show 3 < k by omega), e, no1 e (by decide)]; rfl
  by_cases h3 : a.2.1 = 0
  · have e := one (.inr (.inr h3))
    rw [decide_eq_false h1, decide_eq_false (show ¬ 3 < k by omega), decide_eq_true h3, e, no1 e (by decide)]; rfl
  have hno : ¬ (k < 0 ∨ 4 ≤ k ∨ a.2.1 = 0) := fun h => h.elim h1 fun h => h.elim h2 h3
  rw [decide_eq_false h1, decide_eq_false (show ¬ 3 < k by omega), decide_eq_false h3]
  have hr : (W b r h).2.1 = r := rfl
  rw [hr]
  by_cases h4 : a.1 = r
  · rw [decide_eq_true h4]
    obtain ⟨i, rfl⟩ : ∃ i : Nat, k = i := ⟨k.toNat, by omega⟩
    have hi : i < 4 := by omega
    have hlt : (0 : Int) ≤ i ∧ (i : Int) < ((4 : Nat) : Int) := by omega
    simp only [cond_false, Bool.not_true, hlt, and_self, if_true, Int.toNat_natCast, W_is b r h hi, W_at b r h hi]
    cases h5 : h i with
    | some a' =>
      have e : addE h r i a = 162 := by unfold addE; rw [if_neg hno, if_neg (fun h => h h4), h5]; rfl
      rw [e, no1 e (by decide)]; rfl
    | none =>
      have e : addE h r i a = 0 := by unfold addE; rw [if_neg hno, if_neg (fun h => h h4), h5]; rfl
      have e2 : addH h r i a = put h i a := by unfold addH; rw [if_pos e]
      rw [e, e2, ← W_put b r h hi a]
      simp only [Option.isSome_none, cond_false]
      rw [if_pos ha.2]; rfl
  · have e : addE h r k a = 161 := by unfold addE; rw [if_neg hno, if_pos h4]
    rw [decide_eq_false h4, e, no1 e (by decide)]; rfl

theorem rtop_run (b r : Int) (h : Int → Option An) : p26 FUEL (W b r h) = some (top h, ((count h : Nat) : Int), W b r h) := by
  have key := for_loop (S := Int × Int) (R := Int × Int × RS) (L := fun n y => l26_0 FUEL (fun (x8, x9, x10) => (some (x8, x9, x10))) n y) (step := fun F => s26_0 FUEL F (fun (x8, x9, x10) => (some (x8, x9, x10)))) (fun n x => rfl)
    (fun i s => (s.1, s.2, (i : Int), W b r h)) 4 (fun i s => 0 ≤ s.2 ∧ s.2 ≤ i) (fun i s => .inr (match h i with | some a => (topF s.1 ((i : Int), a), s.2 + 1) | none => s)) (fun s => some (s.1, s.2, W b r h))
    (fun F i s hi hs => by
      obtain ⟨v, n⟩ := s
      refine (condT (decide_eq_true (show ((i : Nat) : Int) < 4 by omega))).trans ?_
      have hlt : (0 : Int) ≤ i ∧ (i : Int) < ((4 : Nat) : Int) := by omega
      simp only [hlt, and_self, if_true, Int.toNat_natCast, W_is b r h hi, W_at b r h hi, wrapNext i (by omega)]
      cases h i with
      | none => rfl
      | some a =>
        simp only at hs
        simp only [Option.isSome_some, cond_true, Option.getD_some]
        rw [wrapI (by omega) (by omega)]; rfl)
    (fun F s hs => rfl)
    (fun i s s' hi hs e => by
      simp only [Sum.inr.injEq] at e
      subst e
      cases h i with
      | none => exact ⟨hs.1, by show s.2 ≤ ((i + 1 : Nat) : Int); omega⟩
      | some a => exact ⟨by show 0 ≤ s.2 + 1; omega, by show s.2 + 1 ≤ ((i + 1 : Nat) : Int); omega⟩) 4 0 (0, 0) FUEL rfl (by unfold FUEL; decide) ⟨Int.le_refl _, Int.le_refl _⟩
  rw [forI_fold] at key
  refine Eq.trans key ?_
  simp only [foldI, top, ks4, List.foldl, count, List.filterMap]
  have e0 : ((0 : Nat) : Int) = 0 := rfl
  have e1 : ((0 + 1 : Nat) : Int) = 1 := rfl
  have e2 : ((0 + 1 + 1 : Nat) : Int) = 2 := rfl
  have e3 : ((0 + 1 + 1 + 1 : Nat) : Int) = 3 := rfl
  rw [e0, e1, e2, e3]
  cases h 0 <;> cases h 1 <;> cases h 2 <;> cases h 3 <;> rfl

theorem rmissing_run (b r : Int) (h : Int → Option An) : p18 FUEL (W b r h) = some (W b r h, whichOf (gap h)) := by
  have key := for_loop (S := List Int) (R := RS × List Int) (L := fun n y => l18_0 FUEL (fun (x6, x7) => (some (x6, x7))) n y) (step := fun F => s18_0 FUEL F (fun (x6, x7) => (some (x6, x7)))) (fun n x => rfl)
    (fun i s => ((i : Int), W b r h, s)) 4 (fun i s => s.length ≤ i) (fun i s => .inr (bif gap h (i : Int) then s ++ [(i : Int)] else s)) (fun s => some (W b r h, s))
    (fun F i s hi hs => by
      refine (condT (decide_eq_true (show ((i : Nat) : Int) < 4 by omega))).trans ?_
      have hlt : (0 : Int) ≤ i ∧ (i : Int) < ((4 : Nat) : Int) := by omega
      simp only [hlt, and_self, if_true, Int.toNat_natCast, W_is b r h hi, wrapNext i (by omega), gap]
      cases h i with
      | some a => rfl
      | none =>
        simp only [Option.isSome_none, Bool.not_false, cond_true, Option.isNone_none, List.length_singleton]
        rw [if_pos (by omega)])
    (fun F s hs => rfl)
    (fun i s s' hi hs e => by
      simp only [Sum.inr.injEq] at e
      subst e
      cases gap h (i : Int)
      · exact Nat.le_succ_of_le hs
      · simp; omega) 4 0 [] FUEL rfl (by unfold FUEL; decide) (Nat.le_refl 0)
  rw [forI_fold, ks4_filter] at key
  exact key

theorem rstale_run (b r : Int) (h : Int → Option An) : p20 FUEL (W b r h) = some (W b r h, whichOf (behind h (top h))) := by
  have key := for_loop (S := List Int) (R := RS × List Int) (L := fun n y => l20_1 FUEL (fun (x22, x23) => (some (x22, x23))) n y) (step := fun F => s20_1 FUEL F (fun (x22, x23) => (some (x22, x23)))) (fun n x => rfl)
    (fun i s => (top h, (i : Int), W b r h, s)) 4 (fun i s => s.length ≤ i) (fun i s => .inr (bif behind h (top h) (i : Int) then s ++ [(i : Int)] else s)) (fun s => some (W b r h, s))
    (fun F i s hi hs => by
      refine (condT (decide_eq_true (show ((i : Nat) : Int) < 4 by omega))).trans ?_
      have hlt : (0 : Int) ≤ i ∧ (i : Int) < ((4 : Nat) : Int) := by omega
      simp only [hlt, and_self, if_true, Int.toNat_natCast, W_is b r h hi, W_at b r h hi, j20_0, wrapNext i (by omega), behind]
      cases h i with
      | none => rfl
      | some a =>
        simp only [Option.isSome_some, cond_true, Option.getD_some]
        cases decide (a.2.2.1 < top h) with
        | false => rfl
        | true =>
          simp only [cond_true, List.length_singleton]
          rw [if_pos (by omega)])
    (fun F s hs => rfl)
    (fun i s s' hi hs e => by
      simp only [Sum.inr.injEq] at e
      subst e
      cases behind h (top h) (i : Int)
      · exact Nat.le_succ_of_le hs
      · simp; omega) 4 0 [] FUEL rfl (by unfold FUEL; decide) (Nat.le_refl 0)
  rw [forI_fold, ks4_filter] at key
  unfold p20
  rw [rtop_run]
  exact key

def dat (h : Int → Option An) (k : Int) : LE := match h k with | some a => a.2.2.2 | none => []
theorem dataOf_eq (h : Int → Option An) : dataOf h = match whichOf (firstly h (top h)) with | k :: _ => dat h k | [] => [] := rfl

/-- A step of the document's Result. -/
def resG (h : Int → Option An) (i : Nat) (s : Bool × List Int × LE) : Bool × List Int × LE :=
  match h i with
  | some a => (s.1 || firstly h (top h) i, s.2.1.set i a.2.1, bif firstly h (top h) i && !s.1 then s.2.2 ++ dat h i else s.2.2)
  | none => s

theorem resG_all (h : Int → Option An) : (foldI (resG h) 4 0 (false, [0, 0, 0, 0], [])).2 = (incs h, dataOf h) := by
  rw [dataOf_eq]
  generalize hp : firstly h (top h) = p
  have g : ∀ i : Nat, ∀ s, resG h i s = match h i with
    | some a => (s.1 || p i, s.2.1.set i a.2.1, bif p i && !s.1 then s.2.2 ++ dat h i else s.2.2)
    | none => s := fun i s => by unfold resG; rw [hp]
  have q : ∀ k, h k = none → p k = false := fun k hk => by rw [← hp]; unfold firstly; rw [hk]
  generalize hd : dat h = d
  rw [hd] at g
  have e0 : ((0 : Nat) : Int) = 0 := rfl
  have e1 : ((0 + 1 : Nat) : Int) = 1 := rfl
  have e2 : ((0 + 1 + 1 : Nat) : Int) = 2 := rfl
  have e3 : ((0 + 1 + 1 + 1 : Nat) : Int) = 3 := rfl
  simp only [foldI, g, whichOf, ks4, List.filter, incs, List.map]
  rw [e0, e1, e2, e3]
  have q0 := q 0
  have q1 := q 1
  have q2 := q 2
  have q3 := q 3
  cases h0 : h 0 <;> cases h1 : h 1 <;> cases h2 : h 2 <;> cases h3 : h 3 <;> simp only [h0, h1, h2, h3, forall_const, reduceCtorEq, false_implies] at q0 q1 q2 q3 <;>
    (try rw [q0]) <;> (try rw [q1]) <;> (try rw [q2]) <;> (try rw [q3]) <;>
    cases p 0 <;> cases p 1 <;> cases p 2 <;> cases p 3 <;> (try rfl) <;> (try simp)

theorem rresult_few (b r : Int) (h : Int → Option An) (hc : count h < 3) : p17 FUEL (W b r h) = some (0, 0, false, [0, 0, 0, 0], 163, W b r h, []) := by
  unfold p17
  rw [rtop_run]
  simp only
  exact condT (decide_eq_true (show ((count h : Nat) : Int) < 3 by omega))

theorem rresult_run (b r : Int) (h : Int → Option An) (hg : ∀ k a, h k = some a → goodA a) (hc : 3 ≤ count h) : p17 FUEL (W b r h) = some (b, top h, false, incs h, 0, W b r h, dataOf h) := by
  have key := for_loop (S := Bool × List Int × LE) (R := Int × Int × Bool × List Int × Int × RS × LE) (L := fun n y => l17_1 FUEL (fun (x61, x62, x63, x64, x65, x66, x67, x68, x69, x70) => (some (x66, x67, x68, x69, (0 : Int), x61, x70))) n y)
    (step := fun F => s17_1 FUEL F (fun (x61, x62, x63, x64, x65, x66, x67, x68, x69, x70) => (some (x66, x67, x68, x69, (0 : Int), x61, x70)))) (fun n x => rfl)
    (fun i s => (top h, s.1, (i : Int), W b r h, 0, 0, false, [0, 0, 0, 0], b, top h, false, s.2.1, s.2.2)) 4 (fun i s => s.2.1.length = 4 ∧ (s.1 = false → s.2.2 = [])) (fun i s => .inr (resG h i s)) (fun s => some (b, top h, false, s.2.1, 0, W b r h, s.2.2))
    (fun F i s hi hs => by
      obtain ⟨f, l, d⟩ := s
      obtain ⟨hs1, hs2⟩ := hs
      simp only at hs1 hs2
      refine (condT (decide_eq_true (show ((i : Nat) : Int) < 4 by omega))).trans ?_
      have hlt : (0 : Int) ≤ i ∧ (i : Int) < ((4 : Nat) : Int) := by omega
      have hl : l[i]? = some (l[i]'(by omega)) := List.getElem?_eq_getElem (by omega)
      simp only [hlt, and_self, if_true, Int.toNat_natCast, W_is b r h hi, W_at b r h hi, hl, j17_0, wrapNext i (by omega), resG, firstly, dat]
      cases hh : h i with
      | none => rfl
      | some a =>
        simp only [Option.isSome_some, Bool.not_true, cond_false, Option.getD_some]
        cases hv : decide (a.2.2.1 = top h) with
        | false => simp
        | true =>
          cases f with
          | true => simp
          | false =>
            obtain rfl := hs2 rfl
            simp only [Bool.not_false, cond_true, Bool.false_or, Bool.and_self]
            rw [if_pos (by have := (hg _ _ hh).2; simpa using this)])
    (fun F s hs => rfl)
    (fun i s s' hi hs e => by
      simp only [Sum.inr.injEq] at e
      subst e
      unfold resG
      cases h i with
      | none => exact hs
      | some a =>
        refine ⟨by simpa using hs.1, fun e => ?_⟩
        simp only [Bool.or_eq_false_iff] at e
        simp only [e.2, Bool.false_and, cond_false]
        exact hs.2 e.1) 4 0 (false, [0, 0, 0, 0], []) FUEL rfl (by unfold FUEL; decide) ⟨rfl, fun _ => rfl⟩
  rw [forI_fold, show ((0 : Nat) : Int) = 0 from rfl] at key
  unfold p17
  rw [rtop_run]
  simp only
  refine (condF (decide_eq_false (show ¬ ((count h : Nat) : Int) < 3 by omega))).trans (Eq.trans key ?_)
  rw [resG_all]
end Go.Am.Ytiecnmmffplgcaa
