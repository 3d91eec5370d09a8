/- Plain laws of the printed functions of routing: the document's next step; fingers that are learnt. -/
import Derived.Test.YtbamjkhnnlekpaaRouteB
namespace Go.Am.Ytbamjkhnnlekpaa

theorem backL_snoc {α : Type} (l : List α) (a : α) : backL (l ++ [a]) = ((l.length : Int), a) :: backL l := by
  unfold backL
  simp [List.zipIdx_append]

/-- The last one that is so. -/
def lastI {α : Type} (q : α → Bool) (l : List α) : Int := match (backL l).find? (fun z => q z.2) with
  | some z => z.1
  | none => -1
theorem lastI_snoc {α : Type} (q : α → Bool) (l : List α) (a : α) : lastI q (l ++ [a]) = bif q a then (l.length : Int) else lastI q l := by
  unfold lastI
  rw [backL_snoc, List.find?_cons]
  cases q a <;> rfl
theorem backL_mem {α : Type} {l : List α} {z : Int × α} (h : z ∈ backL l) : ∃ i : Nat, z.1 = i ∧ l[i]? = some z.2 := by
  unfold backL at h
  rw [List.mem_reverse, List.mem_map] at h
  obtain ⟨p, hp, rfl⟩ := h
  have := List.mem_zipIdx' hp
  exact ⟨p.2, rfl, by rw [List.getElem?_eq_getElem this.1]; exact congrArg some this.2.symm⟩
theorem foldI_last {α : Type} (q : α → Bool) (d : α) (l : List α) : ∀ (k i : Nat), i + k = l.length → foldI (fun i (s : Int) => bif q (l.getD i d) then (i : Int) else s) k i (lastI q (l.take i)) = lastI q l
  | 0, i, h => by
    rw [List.take_of_length_le (by omega)]; rfl
  | k + 1, i, h => by
    have hi : i < l.length := by omega
    show foldI _ k (i + 1) _ = _
    have e : (bif q (l.getD i d) then (i : Int) else lastI q (l.take i)) = lastI q (l.take (i + 1)) := by
      rw [List.take_succ_eq_append_getElem hi, lastI_snoc, List.getD_eq_getElem?_getD, List.getElem?_eq_getElem hi]
      simp only [Option.getD_some, List.length_take, Nat.min_eq_left (Nat.le_of_lt hi)]
    simp only [e]
    exact foldI_last q d l k (i + 1) (by omega)

theorem l28_1_eq {R : Type} (k0 : (Int × Peer × Peer × Peer × List Peer × Peer) → Option R) (t : Tab) (x : Int × Int) (a : Peer) (hl : t.2.2.2.length ≤ 4) :
    l28_1 FUEL k0 FUEL ((-1 : Int), 0, t.1, t.2.1, t.2.2.1, t.2.2.2, x, a) = k0 (lastI (ahead t x) t.2.2.2, t.1, t.2.1, t.2.2.1, t.2.2.2, a) := by
  have key := for_loop (S := Int) (L := fun n y => l28_1 FUEL k0 n y) (step := fun F => s28_1 FUEL F k0) (fun n x => rfl)
    (fun i s => (s, (i : Int), t.1, t.2.1, t.2.2.1, t.2.2.2, x, a)) t.2.2.2.length (fun _ _ => True)
    (fun i s => .inr (bif ahead t x (t.2.2.2.getD i (0, (0, 0))) then (i : Int) else s)) (fun s => k0 (s, t.1, t.2.1, t.2.2.1, t.2.2.2, a))
    (fun F i s hi _ => by
      simp only [s28_1]
      refine (condT (decide_eq_true (show ((i : Nat) : Int) < (t.2.2.2.length : Int) by omega))).trans ?_
      rw [if_pos (by omega)]
      simp only [Int.toNat_natCast, List.getElem?_eq_getElem hi, p37_eq, ahead, List.getD_eq_getElem?_getD, Option.getD_some, wrapNext i (by omega)]
      cases bt t.1.2 t.2.2.2[i].2 x <;> rfl)
    (fun F s _ => by
      simp only [s28_1]
      exact condF (decide_eq_false (by omega)))
    (fun _ _ _ _ _ _ => trivial) t.2.2.2.length 0 (-1) FUEL (by omega) (fuel_big (by omega)) trivial
  refine key.trans ?_
  rw [forI_fold (g := fun i s => bif ahead t x (t.2.2.2.getD i (0, (0, 0))) then (i : Int) else s)]
  have := foldI_last (ahead t x) (0, (0, 0)) t.2.2.2 t.2.2.2.length 0 (by omega)
  rw [show (List.take 0 t.2.2.2) = [] from rfl] at this
  rw [show lastI (ahead t x) [] = -1 from rfl] at this
  rw [this]

def far (t : Tab) (x : Int × Int) : Peer × Bool × Int := match (backL t.2.2.2).find? (fun z => ahead t x z.2) with
  | some z => (z.2, false, 0)
  | none => ((0, (0, 0)), false, 131)

theorem j28_eq (t : Tab) (x : Int × Int) (hl : t.2.2.2.length ≤ 4) (b : Bool) : j28_0 FUEL (fun (x15, x16, x17, x18, x19, x20, x21) => (some (x21, x15, x16, x17, x18, x19, x20))) (fun (x22, x23, x24, x25, x26, x27) => (j28_2 FUEL (fun (x64, x65, x66, x67, x68, x69, x70) => (some (x70, x64, x65, x66, x67, x68, x69))) (x22, x23, x24, x25, x26, x27))) (b, t.1, t.2.1, t.2.2.1, t.2.2.2, x, (0, (0, 0))) =
    (some ((bif b then (t.2.2.1, true, 0) else far t x).1, (bif b then (t.2.2.1, true, 0) else far t x).2.1, (bif b then (t.2.2.1, true, 0) else far t x).2.2, t.1, t.2.1, t.2.2.1, t.2.2.2) : Option (Peer × Bool × Int × Peer × Peer × Peer × List Peer)) := by
  cases b with
  | true => rfl
  | false =>
    simp only [j28_0, cond_false, j28_2]
    rw [l28_1_eq _ t x _ hl]
    simp only [far]
    cases hz : (backL t.2.2.2).find? (fun z => ahead t x z.2) with
    | none =>
      have e : lastI (ahead t x) t.2.2.2 = -1 := by unfold lastI; rw [hz]
      rw [e]; rfl
    | some z =>
      obtain ⟨i, h1, h2⟩ := backL_mem (List.mem_of_find?_eq_some hz)
      have hi := (List.getElem?_eq_some_iff.1 h2).1
      have e : lastI (ahead t x) t.2.2.2 = (i : Int) := by unfold lastI; rw [hz]; exact h1
      rw [e]
      refine (condF (decide_eq_false (by omega))).trans ?_
      rw [if_pos (by omega)]
      simp only [Int.toNat_natCast, h2]

theorem p28_eq (x : Int × Int) (t : Tab) (hl : t.2.2.2.length ≤ 4) : p28 FUEL (x, t.1, t.2.1, t.2.2.1, t.2.2.2) = some ((next t x).1, (next t x).2.1, (next t x).2.2, t.1, t.2.1, t.2.2.1, t.2.2.2) := by
  have key := j28_eq t x hl
  obtain ⟨s, p, q, f⟩ := t
  simp only [p28, p31_eq, eqB_eq, next]
  cases own (s, p, q, f) x with
  | true => rfl
  | false =>
    simp only [cond_false, p37_eq]
    cases eq x q.2 with
    | true => exact key true
    | false => simp only [cond_false, Bool.false_or]; exact key _

/-- All of the ring. -/
def allOk (l : List Peer) : Bool := l.all fun p => okN p.1
theorem p36_eq (p : Peer) : p36 FUEL p = some (!okN p.1) := by simp only [p36, p24_eq]

theorem forI_find {α : Type} (q : α → Bool) (d : α) (l : List α) : ∀ (k i : Nat), i + k = l.length → ∃ z : Int, forI (R := Int) (fun i (_ : Unit) => bif q (l.getD i d) then .inl (some (i : Int)) else .inr ()) (fun _ => some (-1)) k i () = some z ∧ decide (0 ≤ z) = (l.drop i).any q
  | 0, i, h => ⟨-1, rfl, by rw [List.drop_eq_nil_of_le (by omega)]; rfl⟩
  | k + 1, i, h => by
    have hi : i < l.length := by omega
    rw [List.drop_eq_getElem_cons hi, List.any_cons]
    unfold forI
    have e : l.getD i d = l[i] := by rw [List.getD_eq_getElem?_getD, List.getElem?_eq_getElem hi]; rfl
    simp only [e]
    cases hq : q l[i] with
    | true => exact ⟨i, rfl, by simp⟩
    | false =>
      obtain ⟨z, h1, h2⟩ := forI_find q d l k (i + 1) (by omega)
      exact ⟨z, h1, by rw [h2]; simp⟩

theorem p35_eq (l : List Peer) (hl : l.length ≤ 140737488355328) : p35 FUEL l = some (!allOk l) := by
  have key := for_loop (S := Unit) (L := fun n y => l43_0 FUEL (fun x7 => (some x7)) (fun _ => (some (-1 : Int))) n y) (step := fun F => s43_0 FUEL F (fun x7 => (some x7)) (fun _ => (some (-1 : Int)))) (fun n x => rfl)
    (fun i _ => (l, (l.length : Int), (i : Int))) l.length (fun _ _ => True)
    (fun i _ => bif !okN (l.getD i (0, (0, 0))).1 then .inl (some (i : Int)) else .inr ()) (fun _ => some (-1))
    (fun F i s hi _ => by
      simp only [s43_0]
      refine (condT (decide_eq_true (show ((i : Nat) : Int) < (l.length : Int) by omega))).trans ?_
      rw [if_pos (by omega)]
      simp only [Int.toNat_natCast, List.getElem?_eq_getElem hi, p36_eq, List.getD_eq_getElem?_getD, Option.getD_some, wrapNext i (by omega)]
      cases okN l[i].1 <;> rfl)
    (fun F s _ => by
      simp only [s43_0]
      exact condF (decide_eq_false (by omega)))
    (fun _ _ _ _ _ _ => trivial) l.length 0 () FUEL (by omega) (fuel_big (by omega)) trivial
  obtain ⟨z, h1, h2⟩ := forI_find (fun p : Peer => !okN p.1) (0, (0, 0)) l l.length 0 (by omega)
  have e : p43 FUEL l = some z := by
    simp only [p43]
    exact key.trans h1
  simp only [p35, e, h2]
  simp [allOk, List.all_eq_not_any_not]

theorem p32_eq (l : List Peer) (hl : l.length ≤ 1000) : p32 FUEL l = some l := by
  have key : j32_0 FUEL (fun x3 => some x3) l = some l := by
    simp only [j32_0]
    rw [if_pos (by simp; omega)]
    rfl
  simp only [p32]
  cases h : List.isEmpty l with
  | true =>
    have : l = [] := List.isEmpty_iff.1 h
    subst this
    rw [key]; exact fork_self _
  | false => exact key

/-- What is learnt. -/
def learn (i : Int) (l : List Peer) (t : Tab) : Int × Tab :=
  bif decide (i < 1) || (decide (4 ≤ i) || (decide ((t.2.2.2.length : Int) < i) || (decide (4 < (l.length : Int)) || !allOk l))) then (1, t) else
    (0, (t.1, (t.2.1, (t.2.2.1, t.2.2.2.take i.toNat ++ (match (t.2.2.2[i.toNat - 1]?), l[i.toNat - 1]? with
      | some a, some b => bif bt a.2 b.2 t.1.2 then [b] else []
      | _, _ => [])))))
theorem learn_len (i : Int) (l : List Peer) (t : Tab) (h : t.2.2.2.length ≤ 4) : (learn i l t).2.2.2.2.length ≤ 4 := by
  unfold learn
  by_cases h1 : (decide (i < 1) || (decide (4 ≤ i) || (decide ((t.2.2.2.length : Int) < i) || (decide (4 < (l.length : Int)) || !allOk l)))) = true
  · rw [condT h1]; exact h
  · have h1 : (decide (i < 1) || (decide (4 ≤ i) || (decide ((t.2.2.2.length : Int) < i) || (decide (4 < (l.length : Int)) || !allOk l)))) = false := by simpa using h1
    rw [condF h1]
    simp only [Bool.or_eq_false_iff, decide_eq_false_iff_not] at h1
    have : (match (t.2.2.2[i.toNat - 1]?), l[i.toNat - 1]? with
      | some a, some b => bif bt a.2 b.2 t.1.2 then [b] else []
      | _, _ => ([] : List Peer)).length ≤ 1 := by
      split
      · rename_i a b _ _
        cases bt a.2 b.2 t.1.2 <;> simp
      · simp
    simp only [List.length_append, List.length_take]
    omega

theorem p20_eq (i : Int) (l : List Peer) (t : Tab) (hl : l.length ≤ 140737488355328) (ht : t.2.2.2.length ≤ 4) : p20 FUEL (i, l, t) = some (learn i l t) := by
  simp only [p20, learn, p35_eq l hl]
  by_cases h1 : i < 1
  · simp only [decide_eq_true h1, cond_true, Bool.true_or]
  by_cases h2 : 4 ≤ i
  · simp only [decide_eq_false h1, decide_eq_true h2, cond_true, cond_false, Bool.true_or, Bool.or_true]
  by_cases h3 : (t.2.2.2.length : Int) < i
  · simp only [decide_eq_false h1, decide_eq_false h2, decide_eq_true h3, cond_true, cond_false, Bool.true_or, Bool.or_true]
  by_cases h4 : 4 < (l.length : Int)
  · simp only [decide_eq_false h1, decide_eq_false h2, decide_eq_false h3, decide_eq_true h4, cond_true, cond_false, Bool.true_or, Bool.or_true]
  simp only [decide_eq_false h1, decide_eq_false h2, decide_eq_false h3, decide_eq_false h4, cond_false, Bool.false_or]
  cases h5 : allOk l with
  | false => rfl
  | true =>
    simp only [Bool.not_true, cond_false]
    obtain ⟨n, rfl⟩ : ∃ n : Nat, i = ((n + 1 : Nat) : Int) := ⟨i.toNat - 1, by omega⟩
    have hw : IntKind.wrap .i64 (((n + 1 : Nat) : Int) - 1) = (n : Int) := by rw [wrapI (by omega) (by omega)]; omega
    rw [if_pos (by omega), List.drop_zero, p32_eq _ (by rw [List.length_take]; omega)]
    simp only [hw, Int.toNat_natCast, Nat.add_sub_cancel]
    have hn : n < t.2.2.2.length := by omega
    have hlt : (List.take (n + 1) t.2.2.2).length = n + 1 := by rw [List.length_take]; omega
    have hge : (List.take (n + 1) t.2.2.2)[n]? = t.2.2.2[n]? := List.getElem?_take_of_lt (by omega)
    have hj : ∀ b : Bool, ∀ c : Peer, l[n]? = some c ∨ b = false → j20_0 FUEL (fun (x17, x18, x19, x20) => (some ((0 : Int), (x17, (x18, (x19, x20)))))) (((n + 1 : Nat) : Int), l, b, t.1, t.2.1, t.2.2.1, List.take (n + 1) t.2.2.2) = some (0, (t.1, (t.2.1, (t.2.2.1, List.take (n + 1) t.2.2.2 ++ bif b then [c] else [])))) := by
      intro b c hb
      simp only [j20_0, hw, Int.toNat_natCast]
      cases b with
      | true =>
        have hb := hb.resolve_right (by simp)
        have h24 : (List.length (List.take (n + 1) t.2.2.2) + List.length [c]) * 24 ≤ 140737488355328 := by
          rw [hlt]
          have : n + 1 ≤ 3 := by omega
          have : List.length [c] = 1 := rfl
          omega
        simp only [cond_true, hb]
        rw [if_pos (by omega)]
        exact if_pos h24
      | false => simp only [cond_false, List.append_nil]
    by_cases h6 : ((n + 1 : Nat) : Int) ≤ (l.length : Int)
    · have hnl : n < l.length := by omega
      refine (condT (decide_eq_true h6)).trans ?_
      rw [if_pos (by rw [hlt]; omega), hge, List.getElem?_eq_getElem hn, List.getElem?_eq_getElem hnl]
      simp only [p33_eq]
      rw [if_pos (by omega)]
      exact hj _ _ (.inl (List.getElem?_eq_getElem hnl))
    · refine (condF (decide_eq_false h6)).trans ?_
      rw [List.getElem?_eq_getElem hn, List.getElem?_eq_none (show l.length ≤ n by omega)]
      exact hj false (0, (0, 0)) (.inr rfl)
end Go.Am.Ytbamjkhnnlekpaa
