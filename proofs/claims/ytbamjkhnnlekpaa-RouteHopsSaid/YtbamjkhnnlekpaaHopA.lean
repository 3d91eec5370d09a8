/- Plain laws of the printed functions of routing, for walks and lookups (printed by hops.py). -/
import Derived.Test.YtbamjkhnnlekpaaWalkH
import Derived.Test.YtbamjkhnnlekpaaAmZI
namespace Go.Am.Ytbamjkhnnlekpaa
abbrev Peer := Int × (Int × Int)
theorem condT {α : Type} {b : Bool} {x y : α} (h : b = true) : (bif b then x else y) = x := by rw [h]; rfl
theorem condF {α : Type} {b : Bool} {x y : α} (h : b = false) : (bif b then x else y) = y := by rw [h]; rfl

def lt (x y : Int × Int) : Bool := decide (x.1 < y.1 ∨ x.1 = y.1 ∧ x.2 < y.2)
def eq (x y : Int × Int) : Bool := decide (x.1 = y.1 ∧ x.2 = y.2)
theorem eqB_eq (x y : Int × Int) : Ty.eqB (.pair (.int .u64) (.int .u64)) x y = eq x y := by
  rw [eqB_pair2, eq]
  obtain ⟨a, b⟩ := x
  obtain ⟨c, d⟩ := y
  simp
theorem p41_eq (x y : Int × Int) : p41 FUEL (x, y) = some (lt x y) := by
  simp only [p41, lt]
  by_cases h : x.1 < y.1
  · rw [decide_eq_true h, decide_eq_true (Or.inl h : x.1 < y.1 ∨ x.1 = y.1 ∧ x.2 < y.2)]; rfl
  · by_cases g : x.1 = y.1
    · rw [decide_eq_false h, decide_eq_true g]
      simp only [cond_false, cond_true, g, true_and, false_or, Int.lt_irrefl]
    · rw [decide_eq_false h, decide_eq_false g, decide_eq_false (show ¬ (x.1 < y.1 ∨ x.1 = y.1 ∧ x.2 < y.2) by omega)]; rfl
theorem p22_eq (x y : Int × Int) : p22 FUEL (x, y) = some (lt x y) := by
  simp only [p22, lt]
  by_cases g : x.1 = y.1
  · rw [decide_eq_true g]
    simp only [Bool.not_true, cond_false, g, true_and, false_or, Int.lt_irrefl]
  · rw [decide_eq_false g]
    simp only [Bool.not_false, cond_true, g, false_and, or_false]
theorem lt_t {x y : Int × Int} (h : lt x y = true) : x.1 < y.1 ∨ x.1 = y.1 ∧ x.2 < y.2 := by simpa [lt] using h
theorem lt_f {x y : Int × Int} (h : lt x y = false) : ¬ (x.1 < y.1 ∨ x.1 = y.1 ∧ x.2 < y.2) := by simpa only [lt, decide_eq_false_iff_not] using h
theorem eq_t {x y : Int × Int} (h : eq x y = true) : x.1 = y.1 ∧ x.2 = y.2 := by simpa [eq] using h
theorem eq_f {x y : Int × Int} (h : eq x y = false) : ¬ (x.1 = y.1 ∧ x.2 = y.2) := by simpa only [eq, decide_eq_false_iff_not] using h
/-- Three positions stand one behind the other in one way. -/
inductive Way (x y : Int × Int) : Prop
  | less (h : lt x y = true) (h2 : lt y x = false) (h3 : eq x y = false) (h4 : eq y x = false)
  | same (h : lt x y = false) (h2 : lt y x = false) (h3 : eq x y = true) (h4 : eq y x = true)
  | more (h : lt x y = false) (h2 : lt y x = true) (h3 : eq x y = false) (h4 : eq y x = false)
theorem way (x y : Int × Int) : Way x y := by
  by_cases h : x.1 < y.1 ∨ x.1 = y.1 ∧ x.2 < y.2
  · exact .less (decide_eq_true h) (decide_eq_false (by omega)) (decide_eq_false (by omega)) (decide_eq_false (by omega))
  · by_cases g : x.1 = y.1 ∧ x.2 = y.2
    · exact .same (decide_eq_false h) (decide_eq_false (by omega)) (decide_eq_true g) (decide_eq_true (by omega))
    · exact .more (decide_eq_false h) (decide_eq_true (by omega)) (decide_eq_false g) (decide_eq_false (by omega))
def bt (a x b : Int × Int) : Bool := bif lt a b then lt a x && lt x b else !eq x a && (!eq x b && (lt a x || lt x b))
theorem p33_eq (a x b : Int × Int) : p33 FUEL (a, x, b) = some (bt a x b) := by
  simp only [p33, p41_eq, eqB_eq, bt]
  cases lt a b <;> cases lt a x <;> cases lt x b <;> cases eq x a <;> cases eq x b <;> rfl
def okN (n : Int) : Bool := decide (0 ≤ n ∧ n ≤ 255)
theorem p24_eq (n : Int) : p24 FUEL n = some (okN n) := by
  simp only [p24, okN]
  by_cases h : 0 ≤ n
  · simp [h]
  · simp [h]
abbrev Tab := Peer × (Peer × (Peer × List Peer))
def own (t : Tab) (x : Int × Int) : Bool := decide (t.2.2.1.1 = t.1.1) || (eq x t.1.2 || bt t.2.1.2 x t.1.2)
theorem p23_eq (x : Int × Int) (t : Tab) : p23 FUEL (x, t) = some (own t x, t) := by
  simp only [p23, p25b, p33_eq, eqB_eq, own]
  cases decide (t.2.2.1.1 = t.1.1) <;> cases eq x t.1.2 <;> rfl
/-- Who is asked next. -/
def ahead (t : Tab) (x : Int × Int) (f : Peer) : Bool := bt t.1.2 f.2 x
def next (t : Tab) (x : Int × Int) : Peer × Bool × Int :=
  bif own t x then (t.1, true, 0) else bif eq x t.2.2.1.2 || bt t.1.2 x t.2.2.1.2 then (t.2.2.1, true, 0) else
    match (backL t.2.2.2).find? (fun z => ahead t x z.2) with
    | some z => (z.2, false, 0)
    | none => ((0, (0, 0)), false, 131)

theorem l19_1_eq {R : Type} (k0 : (Tab × (Int × Int) × Peer × Bool × Int × Peer) → Option R) (k1 : (Tab × (Int × Int) × Peer × Bool × Int) → Option R) (t : Tab) (x : Int × Int) (a : Peer) (b : Bool) (c : Int) : ∀ l : List (Int × Peer), l19_1 FUEL k0 k1 l (t, x, a, b, c) = match l.find? (fun z => ahead t x z.2) with
    | some z => k0 (t, x, z.2, false, 0, z.2)
    | none => k1 (t, x, a, b, c) := by
  intro l
  induction l with
  | nil => rfl
  | cons z l ih =>
    show s19_1 FUEL (l19_1 FUEL k0 k1 l) k0 k1 z (t, x, a, b, c) = _
    simp only [s19_1, p33_eq, List.find?_cons, ahead]
    cases bt t.1.2 z.2.2 x with
    | true => rfl
    | false => exact ih
theorem p19_eq (x : Int × Int) (t : Tab) (hl : t.2.2.2.length ≤ 4) : p19 FUEL (x, t) = some ((next t x).1, (next t x).2.1, (next t x).2.2, t) := by
  simp only [p19, p23_eq, eqB_eq, next]
  cases own t x with
  | true => rfl
  | false =>
    simp only [cond_false, p33_eq]
    have key : ∀ b : Bool, j19_0 FUEL (fun (x11, x12, x13, x14) => (some (x12, x13, x14, x11))) (fun (x15, x16, x17, x18, x19) => (j19_2 FUEL (fun (x59, x60, x61, x62, x63, x64) => (some (x61, x62, x63, x59))) (fun (x65, x66, x67, x68) => (some (x66, x67, x68, x65))) (x15, x16, x17, x18, x19))) (b, t, x, (0, (0, 0)), false, 0) =
        some ((bif b then (t.2.2.1, true, 0) else match (backL t.2.2.2).find? (fun z => ahead t x z.2) with | some z => (z.2, false, 0) | none => (((0, (0, 0)), false, 131) : Peer × Bool × Int)).1, (bif b then (t.2.2.1, true, 0) else match (backL t.2.2.2).find? (fun z => ahead t x z.2) with | some z => (z.2, false, 0) | none => (((0, (0, 0)), false, 131) : Peer × Bool × Int)).2.1,
          (bif b then (t.2.2.1, true, 0) else match (backL t.2.2.2).find? (fun z => ahead t x z.2) with | some z => (z.2, false, 0) | none => (((0, (0, 0)), false, 131) : Peer × Bool × Int)).2.2, t) := by
      intro b
      cases b with
      | true => rfl
      | false =>
        simp only [j19_0, cond_false, j19_2, p34, j19_1]
        rw [if_pos (by omega), l19_1_eq]
        cases (backL t.2.2.2).find? (fun z => ahead t x z.2) <;> rfl
    cases eq x t.2.2.1.2 with
    | true => exact key true
    | false => simp only [cond_false, Bool.false_or]; exact key _
theorem backL_snoc {α : Type} (l : List α) (a : α) : backL (l ++ [a]) = ((l.length : Int), a) :: backL l := by
  unfold backL
  simp [List.zipIdx_append]

theorem backL_mem {α : Type} {l : List α} {z : Int × α} (h : z ∈ backL l) : ∃ i : Nat, z.1 = i ∧ l[i]? = some z.2 := by
  unfold backL at h
  rw [List.mem_reverse, List.mem_map] at h
  obtain ⟨p, hp, rfl⟩ := h
  have := List.mem_zipIdx' hp
  exact ⟨p.2, rfl, by rw [List.getElem?_eq_getElem this.1]; exact congrArg some this.2.symm⟩
/-- All of the ring. -/
def allOk (l : List Peer) : Bool := l.all fun p => okN p.1
theorem p36_eq (p : Peer) : p36 FUEL p = some (!okN p.1) := by simp only [p36, p24_eq]

theorem forI_find {α : Type} (q : α → Bool) (d : α) (l : List α) : ∀ (k i : Nat), i + k = l.length → ∃ z : Int, forI (R := Int) (fun i (_ : Unit) => bif q (l.getD i d) then .inl (some (i : Int)) else .inr ()) (fun _ => some (-1)) k i () = some z ∧ decide (0 ≤ z) = (l.drop i).any q
  | 0, i, h => ⟨-1, rfl, by rw [List.drop_eq_nil_of_le (by omega)]; rfl⟩
  | k + 1, i, h => by
    have hi : i < l.length := by omega
    rw [List.drop_eq_getElem_cons hi, List.any_cons]
    unfold forI
    have e : l.getD i d = l[i] := by rw [List.getD_eq_getElem?_getD, List.getElem?_eq_getElem hi]; rfl
    simp only [e]
    cases hq : q l[i] with
    | true => exact ⟨i, rfl, by simp⟩
    | false =>
      obtain ⟨z, h1, h2⟩ := forI_find q d l k (i + 1) (by omega)
      exact ⟨z, h1, by rw [h2]; simp⟩

theorem p35_eq (l : List Peer) (hl : l.length ≤ 140737488355328) : p35 FUEL l = some (!allOk l) := by
  have key := for_loop (S := Unit) (L := fun n y => l43_0 FUEL (fun x7 => (some x7)) (fun _ => (some (-1 : Int))) n y) (step := fun F => s43_0 FUEL F (fun x7 => (some x7)) (fun _ => (some (-1 : Int)))) (fun n x => rfl)
    (fun i _ => (l, (l.length : Int), (i : Int))) l.length (fun _ _ => True)
    (fun i _ => bif !okN (l.getD i (0, (0, 0))).1 then .inl (some (i : Int)) else .inr ()) (fun _ => some (-1))
    (fun F i s hi _ => by
      simp only [s43_0]
      refine (condT (decide_eq_true (show ((i : Nat) : Int) < (l.length : Int) by omega))).trans ?_
      rw [if_pos (by omega)]
      simp only [Int.toNat_natCast, List.getElem?_eq_getElem hi, p36_eq, List.getD_eq_getElem?_getD, Option.getD_some, wrapNext i (by omega)]
      cases okN l[i].1 <;> rfl)
    (fun F s _ => by
      simp only [s43_0]
      exact condF (decide_eq_false (by omega)))
    (fun _ _ _ _ _ _ => trivial) l.length 0 () FUEL (by omega) (fuel_big (by omega)) trivial
  obtain ⟨z, h1, h2⟩ := forI_find (fun p : Peer => !okN p.1) (0, (0, 0)) l l.length 0 (by omega)
  have e : p43 FUEL l = some z := by
    simp only [p43]
    exact key.trans h1
  simp only [p35, e, h2]
  simp [allOk, List.all_eq_not_any_not]

theorem p32_eq (l : List Peer) (hl : l.length ≤ 1000) : p32 FUEL l = some l := by
  have key : j32_0 FUEL (fun x3 => some x3) l = some l := by
    simp only [j32_0]
    rw [if_pos (by simp; omega)]
    rfl
  simp only [p32]
  cases h : List.isEmpty l with
  | true =>
    have : l = [] := List.isEmpty_iff.1 h
    subst this
    rw [key]; exact fork_self _
  | false => exact key

/-- What is learnt. -/
def learn (i : Int) (l : List Peer) (t : Tab) : Int × Tab :=
  bif decide (i < 1) || (decide (4 ≤ i) || (decide ((t.2.2.2.length : Int) < i) || (decide (4 < (l.length : Int)) || !allOk l))) then (1, t) else
    (0, (t.1, (t.2.1, (t.2.2.1, t.2.2.2.take i.toNat ++ (match (t.2.2.2[i.toNat - 1]?), l[i.toNat - 1]? with
      | some a, some b => bif bt a.2 b.2 t.1.2 then [b] else []
      | _, _ => [])))))
theorem learn_len (i : Int) (l : List Peer) (t : Tab) (h : t.2.2.2.length ≤ 4) : (learn i l t).2.2.2.2.length ≤ 4 := by
  unfold learn
  by_cases h1 : (decide (i < 1) || (decide (4 ≤ i) || (decide ((t.2.2.2.length : Int) < i) || (decide (4 < (l.length : Int)) || !allOk l)))) = true
  · rw [condT h1]; exact h
  · have h1 : (decide (i < 1) || (decide (4 ≤ i) || (decide ((t.2.2.2.length : Int) < i) || (decide (4 < (l.length : Int)) || !allOk l)))) = false := by simpa using h1
    rw [condF h1]
    simp only [Bool.or_eq_false_iff, decide_eq_false_iff_not] at h1
    have : (match (t.2.2.2[i.toNat - 1]?), l[i.toNat - 1]? with
      | some a, some b => bif bt a.2 b.2 t.1.2 then [b] else []
      | _, _ => ([] : List Peer)).length ≤ 1 := by
      split
      · rename_i a b _ _
        cases bt a.2 b.2 t.1.2 <;> simp
      · simp
    simp only [List.length_append, List.length_take]
    omega

theorem p20_eq (i : Int) (l : List Peer) (t : Tab) (hl : l.length ≤ 140737488355328) (ht : t.2.2.2.length ≤ 4) : p20 FUEL (i, l, t) = some (learn i l t) := by
  simp only [p20, learn, p35_eq l hl]
  by_cases h1 : i < 1
  · simp only [decide_eq_true h1, cond_true, Bool.true_or]
  by_cases h2 : 4 ≤ i
  · simp only [decide_eq_false h1, decide_eq_true h2, cond_true, cond_false, Bool.true_or, Bool.or_true]
  by_cases h3 : (t.2.2.2.length : Int) < i
  · simp only [decide_eq_false h1, decide_eq_false h2, decide_eq_true h3, cond_true, cond_false, Bool.true_or, Bool.or_true]
  by_cases h4 : 4 < (l.length : Int)
  · simp only [decide_eq_false h1, decide_eq_false h2, decide_eq_false h3, decide_eq_true h4, cond_true, cond_false, Bool.true_or, Bool.or_true]
  simp only [decide_eq_false h1, decide_eq_false h2, decide_eq_false h3, decide_eq_false h4, cond_false, Bool.false_or]
  cases h5 : allOk l with
  | false => rfl
  | true =>
    simp only [Bool.not_true, cond_false]
    obtain ⟨n, rfl⟩ : ∃ n : Nat, i = ((n + 1 : Nat) : Int) := ⟨i.toNat - 1, by omega⟩
    have hw : IntKind.wrap .i64 (((n + 1 : Nat) : Int) - 1) = (n : Int) := by rw [wrapI (by omega) (by omega)]; omega
    rw [if_pos (by omega), List.drop_zero, p32_eq _ (by rw [List.length_take]; omega)]
    simp only [hw, Int.toNat_natCast, Nat.add_sub_cancel]
    have hn : n < t.2.2.2.length := by omega
    have hlt : (List.take (n + 1) t.2.2.2).length = n + 1 := by rw [List.length_take]; omega
    have hge : (List.take (n + 1) t.2.2.2)[n]? = t.2.2.2[n]? := List.getElem?_take_of_lt (by omega)
    have hj : ∀ b : Bool, ∀ c : Peer, l[n]? = some c ∨ b = false → j20_0 FUEL (fun (x17, x18, x19, x20) => (some ((0 : Int), (x17, (x18, (x19, x20)))))) (((n + 1 : Nat) : Int), l, b, t.1, t.2.1, t.2.2.1, List.take (n + 1) t.2.2.2) = some (0, (t.1, (t.2.1, (t.2.2.1, List.take (n + 1) t.2.2.2 ++ bif b then [c] else [])))) := by
      intro b c hb
      simp only [j20_0, hw, Int.toNat_natCast]
      cases b with
      | true =>
        have hb := hb.resolve_right (by simp)
        have h24 : (List.length (List.take (n + 1) t.2.2.2) + List.length [c]) * 24 ≤ 140737488355328 := by
          rw [hlt]
          have : n + 1 ≤ 3 := by omega
          have : List.length [c] = 1 := rfl
          omega
        simp only [cond_true, hb]
        rw [if_pos (by omega)]
        exact if_pos h24
      | false => simp only [cond_false, List.append_nil]
    by_cases h6 : ((n + 1 : Nat) : Int) ≤ (l.length : Int)
    · have hnl : n < l.length := by omega
      refine (condT (decide_eq_true h6)).trans ?_
      rw [if_pos (by rw [hlt]; omega), hge, List.getElem?_eq_getElem hn, List.getElem?_eq_getElem hnl]
      simp only [p33_eq]
      rw [if_pos (by omega)]
      exact hj _ _ (.inl (List.getElem?_eq_getElem hnl))
    · refine (condF (decide_eq_false h6)).trans ?_
      rw [List.getElem?_eq_getElem hn, List.getElem?_eq_none (show l.length ≤ n by omega)]
      exact hj false (0, (0, 0)) (.inr rfl)
theorem p35b_eq (l : List Peer) (hl : l.length ≤ 140737488355328) : p35b FUEL l = some (!allOk l) := by
  have key := for_loop (S := Unit) (L := fun n y => l43b_0 FUEL (fun x7 => (some x7)) (fun _ => (some (-1 : Int))) n y) (step := fun F => s43b_0 FUEL F (fun x7 => (some x7)) (fun _ => (some (-1 : Int)))) (fun n x => rfl)
    (fun i _ => (l, (l.length : Int), (i : Int))) l.length (fun _ _ => True)
    (fun i _ => bif !okN (l.getD i (0, (0, 0))).1 then .inl (some (i : Int)) else .inr ()) (fun _ => some (-1))
    (fun F i s hi _ => by
      simp only [s43b_0]
      refine (condT (decide_eq_true (show ((i : Nat) : Int) < (l.length : Int) by omega))).trans ?_
      rw [if_pos (by omega)]
      simp only [Int.toNat_natCast, List.getElem?_eq_getElem hi, p36_eq, List.getD_eq_getElem?_getD, Option.getD_some, wrapNext i (by omega)]
      cases okN l[i].1 <;> rfl)
    (fun F s _ => by
      simp only [s43b_0]
      exact condF (decide_eq_false (by omega)))
    (fun _ _ _ _ _ _ => trivial) l.length 0 () FUEL (by omega) (fuel_big (by omega)) trivial
  obtain ⟨z, h1, h2⟩ := forI_find (fun p : Peer => !okN p.1) (0, (0, 0)) l l.length 0 (by omega)
  have e : p43b FUEL l = some z := by
    simp only [p43b]
    exact key.trans h1
  simp only [p35b, e, h2]
  simp [allOk, List.all_eq_not_any_not]

theorem p20b_eq (i : Int) (l : List Peer) (t : Tab) (hl : l.length ≤ 140737488355328) (ht : t.2.2.2.length ≤ 4) : p20b FUEL (i, l, t) = some (learn i l t) := by
  simp only [p20b, learn, p35b_eq l hl]
  by_cases h1 : i < 1
  · simp only [decide_eq_true h1, cond_true, Bool.true_or]
  by_cases h2 : 4 ≤ i
  · simp only [decide_eq_false h1, decide_eq_true h2, cond_true, cond_false, Bool.true_or, Bool.or_true]
  by_cases h3 : (t.2.2.2.length : Int) < i
  · simp only [decide_eq_false h1, decide_eq_false h2, decide_eq_true h3, cond_true, cond_false, Bool.true_or, Bool.or_true]
  by_cases h4 : 4 < (l.length : Int)
  · simp only [decide_eq_false h1, decide_eq_false h2, decide_eq_false h3, decide_eq_true h4, cond_true, cond_false, Bool.true_or, Bool.or_true]
  simp only [decide_eq_false h1, decide_eq_false h2, decide_eq_false h3, decide_eq_false h4, cond_false, Bool.false_or]
  cases h5 : allOk l with
  | false => rfl
  | true =>
    simp only [Bool.not_true, cond_false]
    obtain ⟨n, rfl⟩ : ∃ n : Nat, i = ((n + 1 : Nat) : Int) := ⟨i.toNat - 1, by omega⟩
    have hw : IntKind.wrap .i64 (((n + 1 : Nat) : Int) - 1) = (n : Int) := by rw [wrapI (by omega) (by omega)]; omega
    rw [if_pos (by omega), List.drop_zero, p32_eq _ (by rw [List.length_take]; omega)]
    simp only [hw, Int.toNat_natCast, Nat.add_sub_cancel]
    have hn : n < t.2.2.2.length := by omega
    have hlt : (List.take (n + 1) t.2.2.2).length = n + 1 := by rw [List.length_take]; omega
    have hge : (List.take (n + 1) t.2.2.2)[n]? = t.2.2.2[n]? := List.getElem?_take_of_lt (by omega)
    have hj : ∀ b : Bool, ∀ c : Peer, l[n]? = some c ∨ b = false → j20b_0 FUEL (fun (x17, x18, x19, x20) => (some ((0 : Int), (x17, (x18, (x19, x20)))))) (((n + 1 : Nat) : Int), l, b, t.1, t.2.1, t.2.2.1, List.take (n + 1) t.2.2.2) = some (0, (t.1, (t.2.1, (t.2.2.1, List.take (n + 1) t.2.2.2 ++ bif b then [c] else [])))) := by
      intro b c hb
      simp only [j20b_0, hw, Int.toNat_natCast]
      cases b with
      | true =>
        have hb := hb.resolve_right (by simp)
        have h24 : (List.length (List.take (n + 1) t.2.2.2) + List.length [c]) * 24 ≤ 140737488355328 := by
          rw [hlt]
          have : n + 1 ≤ 3 := by omega
          have : List.length [c] = 1 := rfl
          omega
        simp only [cond_true, hb]
        rw [if_pos (by omega)]
        exact if_pos h24
      | false => simp only [cond_false, List.append_nil]
    by_cases h6 : ((n + 1 : Nat) : Int) ≤ (l.length : Int)
    · have hnl : n < l.length := by omega
      refine (condT (decide_eq_true h6)).trans ?_
      rw [if_pos (by rw [hlt]; omega), hge, List.getElem?_eq_getElem hn, List.getElem?_eq_getElem hnl]
      simp only [p33_eq]
      rw [if_pos (by omega)]
      exact hj _ _ (.inl (List.getElem?_eq_getElem hnl))
    · refine (condF (decide_eq_false h6)).trans ?_
      rw [List.getElem?_eq_getElem hn, List.getElem?_eq_none (show l.length ≤ n by omega)]
      exact hj false (0, (0, 0)) (.inr rfl)
abbrev Ent := ByteArray × ByteArray
abbrev ItemT := Int × (Int × (Bool × (List Ent × List Int)))
abbrev LockT := Int × (List Int × ItemT)
abbrev CopyT := Int × (Int × (Int × (List Ent × (List LockT × (List Int × List (Int × Int))))))
abbrev TxT := Int × (Int × (List Int × List ItemT))
abbrev Msg := Int × (Int × (Int × ((Int × (Int × (Int × Int))) × ((Int × Int) × ((Bool × ((Int × Int) × ByteArray)) × (ByteArray × (TxT × (Int × (Int × (Int × (Int × (Int × (Int × (Int × (Int × ((Int × (Int × (Int × List Ent))) × (CopyT × ((Int × Int) × (List CopyT × ((Int × Int) × (Int × List Peer)))))))))))))))))))))

/-- What a lookup is answered: kind, from, to, id, position, hops, peers, error. -/
structure Ans where
  k : Int
  fr : Int
  to : Int
  id : Int
  pos : Int × Int
  hops : Int
  peers : List Peer
  err : Int
def Ans.no (e : Int) : Ans := ⟨0, 0, 0, 0, (0, 0), 0, [], e⟩
def answer (m : Msg) (t : Tab) : Ans :=
  bif !decide (m.1 = 21) then .no 133 else bif !decide (m.2.2.1 = t.1.1) then .no 133 else bif !okN m.2.1 then .no 133 else bif !okN m.2.2.2.2.2.2.2.2.2.2.2.2.2.2.2.2.2.2.2.2.2.1 then .no 133 else
    bif !decide ((next t m.2.2.2.2.2.2.2.2.2.2.2.2.2.2.2.2.2.2.2.2.1).2.2 = 0) then .no (next t m.2.2.2.2.2.2.2.2.2.2.2.2.2.2.2.2.2.2.2.2.1).2.2 else
      bif (next t m.2.2.2.2.2.2.2.2.2.2.2.2.2.2.2.2.2.2.2.2.1).2.1 then ⟨22, t.1.1, IntKind.wrap .i64 (Int.tmod m.2.2.2.2.2.2.2.2.1 256), m.2.2.2.2.2.2.2.2.1, m.2.2.2.2.2.2.2.2.2.2.2.2.2.2.2.2.2.2.2.2.1, m.2.2.2.2.2.2.2.2.2.2.2.2.2.2.2.2.2.2.2.2.2.1, [(next t m.2.2.2.2.2.2.2.2.2.2.2.2.2.2.2.2.2.2.2.2.1).1], 0⟩ else
        bif decide (8 ≤ m.2.2.2.2.2.2.2.2.2.2.2.2.2.2.2.2.2.2.2.2.2.1) then .no 132 else
          ⟨21, t.1.1, (next t m.2.2.2.2.2.2.2.2.2.2.2.2.2.2.2.2.2.2.2.2.1).1.1, m.2.2.2.2.2.2.2.2.1, m.2.2.2.2.2.2.2.2.2.2.2.2.2.2.2.2.2.2.2.2.1, IntKind.wrap .i64 (m.2.2.2.2.2.2.2.2.2.2.2.2.2.2.2.2.2.2.2.2.2.1 + 1), [], 0⟩
theorem p12_eq (m : Msg) (t : Tab) (ht : t.2.2.2.length ≤ 4) : p12 FUEL (m, t) = some ((answer m t).k, (answer m t).fr, (answer m t).to, (0, (0, (0, 0))), (0, 0), (false, ((0, 0), ByteArray.empty)), ByteArray.empty, 0, 0, [0, 0, 0], (answer m t).id, 0, 0, 0, 0, 0, 0, 0, 0, 0, 0, 0, 0, 0, [0, 0, 0, 0], (0, 0), (answer m t).pos, (answer m t).hops, (answer m t).err, t, (answer m t).peers) := by
  simp only [p12, p24_eq, p19_eq _ t ht, answer]
  cases decide (m.1 = 21) with
  | false => rfl
  | true =>
  cases decide (m.2.2.1 = t.1.1) with
  | false => rfl
  | true =>
  cases okN m.2.1 with
  | false => rfl
  | true =>
  cases okN m.2.2.2.2.2.2.2.2.2.2.2.2.2.2.2.2.2.2.2.2.2.1 with
  | false => rfl
  | true =>
  simp only [Bool.not_true, cond_false]
  cases decide ((next t m.2.2.2.2.2.2.2.2.2.2.2.2.2.2.2.2.2.2.2.2.1).2.2 = 0) with
  | false => rfl
  | true =>
  cases (next t m.2.2.2.2.2.2.2.2.2.2.2.2.2.2.2.2.2.2.2.2.1).2.1 with
  | true => rfl
  | false =>
  cases decide (8 ≤ m.2.2.2.2.2.2.2.2.2.2.2.2.2.2.2.2.2.2.2.2.2.1) with
  | true => rfl
  | false => rfl
theorem p17_eq (t : Tab) (ht : t.2.2.2.length ≤ 4) : p17 FUEL t = some (t.2.2.2, t) := by
  simp only [p17, p32_eq _ (show t.2.2.2.length ≤ 1000 by omega)]

def new (a b c : Peer) : Int ⊕ (Int × Tab) :=
  bif !okN a.1 || (!okN b.1 || !okN c.1) then .inl 1 else bif !(decide (b.1 = a.1) == decide (c.1 = a.1)) then .inl 133 else .inr (0, (a, (b, (c, bif decide (c.1 = a.1) then [] else [c]))))
theorem p14_eq (a b c : Peer) : p14 FUEL (a, b, c) = some (new a b c) := by
  simp only [p14, p24_eq, new]
  cases okN a.1 with
  | false => rfl
  | true =>
  cases okN b.1 with
  | false => rfl
  | true =>
  cases okN c.1 with
  | false => rfl
  | true =>
  simp only [Bool.not_true, cond_false, Bool.false_or, j14_0, j14_1, p25]
  cases decide (b.1 = a.1) <;> cases decide (c.1 = a.1) <;> rfl
set_option maxRecDepth 100000 in
theorem p7_eq : p7 FUEL () = some true := by kernel_rfl

theorem new_len (a b c : Peer) (z : Int × Tab) (h : new a b c = .inr z) : z.1 = 0 ∧ z.2.2.2.2.length ≤ 4 := by
  unfold new at h
  cases hb : (!okN a.1 || (!okN b.1 || !okN c.1)) with
  | true => rw [hb] at h; cases h
  | false =>
    rw [hb] at h
    cases hc : !(decide (b.1 = a.1) == decide (c.1 = a.1)) with
    | true => rw [hc] at h; cases h
    | false =>
      rw [hc] at h
      cases h
      refine ⟨rfl, ?_⟩
      cases decide (c.1 = a.1) <;> simp
theorem new_no (a b c : Peer) (e : Int) (h : new a b c = .inl e) : e ≠ 0 := by
  unfold new at h
  cases hb : (!okN a.1 || (!okN b.1 || !okN c.1)) with
  | true => rw [hb] at h; cases h; decide
  | false =>
    rw [hb] at h
    cases hc : !(decide (b.1 = a.1) == decide (c.1 = a.1)) with
    | true => rw [hc] at h; cases h; decide
    | false => rw [hc] at h; cases h

end Go.Am.Ytbamjkhnnlekpaa
