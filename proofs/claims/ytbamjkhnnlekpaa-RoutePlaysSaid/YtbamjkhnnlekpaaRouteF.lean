/- Plain laws of the printed functions of routing: a script. -/
import Derived.Test.YtbamjkhnnlekpaaRouteE
namespace Go.Am.Ytbamjkhnnlekpaa
abbrev OpT := Int × (Int × (List Peer × ((Int × Int) × Msg)))

/-- What is left of a table. -/
def after (y : OpT) (t : Tab) : Tab := bif decide (y.1 = 1) then (learn y.2.1 y.2.2.1 t).2 else t
theorem after_len (y : OpT) (t : Tab) (h : t.2.2.2.length ≤ 4) : (after y t).2.2.2.length ≤ 4 := by
  unfold after
  cases decide (y.1 = 1) with
  | true => exact learn_len _ _ _ h
  | false => exact h

theorem p16_eq (y : OpT) (t : Tab) (ht : t.2.2.2.length ≤ 4) (hy : y.2.2.1.length * 24 ≤ 140737488355328) :
    p16 FUEL (y, t, t.1, t.2.1, t.2.2.1, t.2.2.2) = some (true, after y t, (after y t).1, (after y t).2.1, (after y t).2.2.1, (after y t).2.2.2) := by
  simp only [p16, after]
  by_cases h1 : y.1 = 1
  · refine (condT (decide_eq_true h1)).trans ?_
    rw [condT (decide_eq_true h1)]
    rw [if_pos (by simpa using hy)]
    simp only [List.nil_append, p20_eq _ _ _ (show y.2.2.1.length ≤ 140737488355328 by omega) ht, p27_eq _ _ _ (show y.2.2.1.length ≤ 140737488355328 by omega) ht, p18_self _ (show y.2.2.1.length ≤ 140737488355328 by omega)]
    rw [l16_0_eq _ _ _ _ _ _ _ _ _ _ (show y.2.2.1.length ≤ 140737488355328 by omega)]
    simp only [decide_true, cond_true]
  rw [condF (b := decide (y.1 = 1)) (x := (learn y.2.1 y.2.2.1 t).2) (decide_eq_false h1)]
  refine (condF (decide_eq_false h1)).trans ?_
  by_cases h2 : y.1 = 2
  · refine (condT (decide_eq_true h2)).trans ?_
    simp only [p19_eq _ t ht, p28_eq _ t ht, eqPeer, cond_true, BEq.rfl, decide_true]
  refine (condF (decide_eq_false h2)).trans ?_
  by_cases h3 : y.1 = 3
  · refine (condT (decide_eq_true h3)).trans ?_
    simp only [p12_eq _ t ht, p29_eq _ t ht, decide_true, cond_true]
    have := p30_self (answer y.2.2.2.2 t).k (answer y.2.2.2.2 t).fr (answer y.2.2.2.2 t).to (answer y.2.2.2.2 t).id (answer y.2.2.2.2 t).pos (answer y.2.2.2.2 t).hops (answer y.2.2.2.2 t).peers (answer_peers _ t)
    unfold M at this
    rw [this]
  refine (condF (decide_eq_false h3)).trans ?_
  by_cases h4 : y.1 = 4
  · refine (condT (decide_eq_true h4)).trans ?_
    simp only [p11, p23_eq, p31_eq]
    cases own t y.2.2.2.1 with
    | true => simp only [cond_true, BEq.rfl, eqPeer]
    | false => simp only [cond_false, cond_true, BEq.rfl, eqPeer, Bool.not_false]
  · exact condF (decide_eq_false h4)

theorem p17_eq (t : Tab) (ht : t.2.2.2.length ≤ 4) : p17 FUEL t = some (t, t.2.2.2) := by
  simp only [p17, p32_eq _ (show t.2.2.2.length ≤ 1000 by omega)]

theorem l5_3_eq {R : Type} (k0 : (List OpT × Int × Bool × Bool × Tab × Peer × Peer × Peer × List Peer × List Peer) → Option R) (sc : List OpT) (j : Int) (b c : Bool) (t : Tab) (s p q : Peer) (f l : List Peer) (hl : l.length ≤ 1000) :
    ∃ l' : List Peer, l'.length = l.length ∧ l5_3 FUEL k0 FUEL (sc, j, b, c, 0, t, s, p, q, f, l) = k0 (sc, j, b, c, t, s, p, q, f, l') := by
  have key := for_loop (S := List Peer) (L := fun n y => l5_3 FUEL k0 n y) (step := fun F => s5_3 FUEL F k0) (fun n x => rfl)
    (fun i l' => (sc, j, b, c, (i : Int), t, s, p, q, f, l')) l.length (fun _ l' => l'.length = l.length) (fun i l' => .inr (spoil l' i)) (fun l' => k0 (sc, j, b, c, t, s, p, q, f, l'))
    (fun F i l' hj hl' => by
      simp only [s5_3]
      refine (condT (decide_eq_true (show ((i : Nat) : Int) < (l'.length : Int) by omega))).trans ?_
      rw [if_pos (by omega)]
      simp only [Int.toNat_natCast, List.getElem?_eq_getElem (show i < l'.length by omega), wrapNext i (by omega), spoil, List.getD_eq_getElem?_getD, Option.getD_some])
    (fun F l' hl' => by
      simp only [s5_3]
      exact condF (decide_eq_false (by omega)))
    (fun i l' l'' hj hl' e => by cases e; rw [spoil_len]; exact hl') l.length 0 l FUEL (by omega) (fuel_big (by omega)) rfl
  refine ⟨_, ?_, key.trans (forI_fold (fun (j : Nat) (l' : List Peer) => spoil l' j) (fun l' => k0 (sc, j, b, c, t, s, p, q, f, l')) _ _ _)⟩
  have : ∀ (k i : Nat) (l' : List Peer), (foldI (fun (j : Nat) (l' : List Peer) => spoil l' j) k i l').length = l'.length := by
    intro k
    induction k with
    | zero => intro i l'; rfl
    | succ k ih => intro i l'; exact (ih (i + 1) _).trans (spoil_len _ _)
  exact this _ _ _

def afterAt (sc : List OpT) (i : Nat) (t : Tab) : Tab := match sc[i]? with | some y => after y t | none => t
theorem afterAt_len (sc : List OpT) (i : Nat) (t : Tab) (h : t.2.2.2.length ≤ 4) : (afterAt sc i t).2.2.2.length ≤ 4 := by
  unfold afterAt
  split
  · exact after_len _ _ h
  · exact h
theorem afterAt_get (sc : List OpT) (i : Nat) (t : Tab) (hi : i < sc.length) : afterAt sc i t = after sc[i] t := by
  unfold afterAt
  rw [List.getElem?_eq_getElem hi]
theorem l5_4_eq {R : Type} (k0 : Bool → Option R) (k1 : Unit → Option R) (sc : List OpT) (hsc : ∀ y ∈ sc, y.2.2.1.length * 24 ≤ 140737488355328) (t : Tab) (ht : t.2.2.2.length ≤ 4) :
    l5_4 FUEL k0 k1 FUEL (sc, 0, t, t.1, t.2.1, t.2.2.1, t.2.2.2) = k1 () := by
  have key := for_loop (S := Tab) (L := fun n y => l5_4 FUEL k0 k1 n y) (step := fun F => s5_4 FUEL F k0 k1) (fun n x => rfl)
    (fun i t => (sc, (i : Int), t, t.1, t.2.1, t.2.2.1, t.2.2.2)) (min sc.length 200) (fun _ t => t.2.2.2.length ≤ 4) (fun i t => .inr (afterAt sc i t)) (fun _ => k1 ())
    (fun F i t hi ht => by
      simp only [s5_4]
      refine (condT (decide_eq_true (show ((i : Nat) : Int) < (sc.length : Int) by omega))).trans ?_
      refine (condT (decide_eq_true (show ((i : Nat) : Int) < 200 by omega))).trans ?_
      rw [if_pos (by omega)]
      have hil : i < sc.length := by omega
      simp only [Int.toNat_natCast, List.getElem?_eq_getElem hil, p16_eq _ t ht (hsc _ (List.getElem_mem hil)), p17_eq _ (after_len _ t ht), p18b_self _ (show (after sc[i] t).2.2.2.length ≤ 140737488355328 by have := after_len sc[i] t ht; omega)]
      have hlen := after_len sc[i] t ht
      obtain ⟨l', h1, h2⟩ := l5_3_eq (fun (x47, x48, x49, x50, x51, x52, x53, x54, x55, x56) => (if (List.length x56 + List.length [((-1 : Int), ((0 : Int), (0 : Int))), ((-1 : Int), ((0 : Int), (0 : Int)))]) * 24 ≤ 140737488355328 then (bif (!x49) then (k0 false) else (bif (!x50) then (k0 false) else (F (x47, (IntKind.wrap .i64 (x48 + 1)), x51, x52, x53, x54, x55)))) else none)) sc (i : Int) true true (after sc[i] t) (after sc[i] t).1 (after sc[i] t).2.1 (after sc[i] t).2.2.1 (after sc[i] t).2.2.2 (after sc[i] t).2.2.2 (by omega)
      refine h2.trans ?_
      have h24 : (List.length l' + List.length [((-1 : Int), ((0 : Int), (0 : Int))), ((-1 : Int), ((0 : Int), (0 : Int)))]) * 24 ≤ 140737488355328 := by
        have : List.length [((-1 : Int), ((0 : Int), (0 : Int))), ((-1 : Int), ((0 : Int), (0 : Int)))] = 2 := rfl
        omega
      refine (if_pos h24).trans ?_
      simp only [Bool.not_true, cond_false, wrapNext i (by omega), afterAt_get sc i t hil])
    (fun F t ht => by
      simp only [s5_4]
      by_cases h : sc.length ≤ 200
      · exact condF (decide_eq_false (by omega))
      · refine (condT (decide_eq_true (by omega))).trans ?_
        exact condF (decide_eq_false (by omega)))
    (fun i t t' hi ht e => by
      cases e
      exact afterAt_len _ _ _ ht) (min sc.length 200) 0 t FUEL (by omega) (fuel_big (by omega)) ht
  exact key.trans (forI_fold (afterAt sc) (fun _ => k1 ()) _ _ _)

def new (a b c : Peer) : Int ⊕ (Int × Tab) :=
  bif !okN a.1 || (!okN b.1 || !okN c.1) then .inl 1 else bif !(decide (b.1 = a.1) == decide (c.1 = a.1)) then .inl 133 else .inr (0, (a, (b, (c, bif decide (c.1 = a.1) then [] else [c]))))
theorem p14_eq (a b c : Peer) : p14 FUEL (a, b, c) = some (new a b c) := by
  simp only [p14, p24_eq, new]
  cases okN a.1 with
  | false => rfl
  | true =>
  cases okN b.1 with
  | false => rfl
  | true =>
  cases okN c.1 with
  | false => rfl
  | true =>
  simp only [Bool.not_true, cond_false, Bool.false_or, j14_0, j14_1, p25]
  cases decide (b.1 = a.1) <;> cases decide (c.1 = a.1) <;> rfl
theorem p15_eq (a b c : Peer) : p15 FUEL (a, b, c) = some (match new a b c with | .inl e => .inl e | .inr z => .inr (z.1, z.2.1, z.2.2.1, z.2.2.2.1, z.2.2.2.2)) := by
  simp only [p15, p26_eq, new]
  cases okN a.1 with
  | false => rfl
  | true =>
  cases okN b.1 with
  | false => rfl
  | true =>
  cases okN c.1 with
  | false => rfl
  | true =>
  simp only [Bool.not_true, cond_false, Bool.false_or, j15_0]
  cases decide (b.1 = a.1) <;> cases decide (c.1 = a.1) <;> rfl

set_option maxRecDepth 100000 in
theorem p7_eq : p7 FUEL () = some true := by kernel_rfl

theorem new_len (a b c : Peer) (z : Int × Tab) (h : new a b c = .inr z) : z.1 = 0 ∧ z.2.2.2.2.length ≤ 4 := by
  unfold new at h
  cases hb : (!okN a.1 || (!okN b.1 || !okN c.1)) with
  | true => rw [hb] at h; cases h
  | false =>
    rw [hb] at h
    cases hc : !(decide (b.1 = a.1) == decide (c.1 = a.1)) with
    | true => rw [hc] at h; cases h
    | false =>
      rw [hc] at h
      cases h
      refine ⟨rfl, ?_⟩
      cases decide (c.1 = a.1) <;> simp
theorem new_no (a b c : Peer) (e : Int) (h : new a b c = .inl e) : e ≠ 0 := by
  unfold new at h
  cases hb : (!okN a.1 || (!okN b.1 || !okN c.1)) with
  | true => rw [hb] at h; cases h; decide
  | false =>
    rw [hb] at h
    cases hc : !(decide (b.1 = a.1) == decide (c.1 = a.1)) with
    | true => rw [hc] at h; cases h; decide
    | false => rw [hc] at h; cases h

theorem plays0 (x0 : Peer × (Peer × Peer)) (sc : List OpT) (hsc : ∀ y ∈ sc, y.2.2.1.length * 24 ≤ 140737488355328) : p5 FUEL (x0, sc) = some true := by
  simp only [p5, p7_eq, p14_eq, p15_eq]
  cases hn : new x0.1 x0.2.1 x0.2.2 with
  | inl e =>
    have := new_no _ _ _ _ hn
    simp only [decide_true, Bool.not_true, cond_false, decide_eq_false this, BEq.rfl, Bool.not_false, cond_true]
  | inr z =>
    obtain ⟨h0, hl⟩ := new_len _ _ _ _ hn
    simp only [h0, decide_true, Bool.not_true, cond_false, BEq.rfl]
    exact l5_4_eq _ _ sc hsc z.2 hl
theorem plays (x0 : ((Int × (Int × Int)) × ((Int × (Int × Int)) × (Int × (Int × Int))))) (w0 : Ty.wr (.pair (.pair (.int .i64) (.pair (.int .u64) (.int .u64))) (.pair (.pair (.int .i64) (.pair (.int .u64) (.int .u64))) (.pair (.int .i64) (.pair (.int .u64) (.int .u64))))) x0) (x1 : (List (Int × (Int × ((List (Int × (Int × Int))) × ((Int × Int) × (Int × (Int × (Int × ((Int × (Int × (Int × Int))) × ((Int × Int) × ((Bool × ((Int × Int) × ByteArray)) × (ByteArray × ((Int × (Int × ((List Int) × (List (Int × (Int × (Bool × ((List (ByteArray × ByteArray)) × (List Int))))))))) × (Int × (Int × (Int × (Int × (Int × (Int × (Int × (Int × ((Int × (Int × (Int × (List (ByteArray × ByteArray))))) × ((Int × (Int × (Int × ((List (ByteArray × ByteArray)) × ((List (Int × ((List Int) × (Int × (Int × (Bool × ((List (ByteArray × ByteArray)) × (List Int)))))))) × ((List Int) × (List (Int × Int)))))))) × ((Int × Int) × ((List (Int × (Int × (Int × ((List (ByteArray × ByteArray)) × ((List (Int × ((List Int) × (Int × (Int × (Bool × ((List (ByteArray × ByteArray)) × (List Int)))))))) × ((List Int) × (List (Int × Int))))))))) × ((Int × Int) × (Int × (List (Int × (Int × Int))))))))))))))))))))))))))))))) (w1 : Ty.wr (.slice (.pair (.int .i64) (.pair (.int .i64) (.pair (.slice (.pair (.int .i64) (.pair (.int .u64) (.int .u64)))) (.pair (.pair (.int .u64) (.int .u64)) (.pair (.int .i64) (.pair (.int .i64) (.pair (.int .i64) (.pair (.pair (.int .u64) (.pair (.int .i64) (.pair (.int .i64) (.int .u32)))) (.pair (.pair (.int .u32) (.int .u8)) (.pair (.pair (.bool) (.pair (.pair (.int .u32) (.int .u8)) (.str))) (.pair (.str) (.pair (.pair (.int .u64) (.pair (.int .i64) (.pair (.arr 3 (.int .i64)) (.slice (.pair (.int .i64) (.pair (.int .u32) (.pair (.bool) (.pair (.slice (.pair (.str) (.str))) (.arr 4 (.int .u32)))))))))) (.pair (.int .u64) (.pair (.int .u32) (.pair (.int .u32) (.pair (.int .i64) (.pair (.int .i64) (.pair (.int .i64) (.pair (.int .u32) (.pair (.int .i64) (.pair (.pair (.int .u32) (.pair (.int .u32) (.pair (.int .u32) (.slice (.pair (.str) (.str)))))) (.pair (.pair (.int .i64) (.pair (.int .u32) (.pair (.int .u32) (.pair (.slice (.pair (.str) (.str))) (.pair (.slice (.pair (.int .u64) (.pair (.arr 3 (.int .i64)) (.pair (.int .i64) (.pair (.int .u32) (.pair (.bool) (.pair (.slice (.pair (.str) (.str))) (.arr 4 (.int .u32))))))))) (.pair (.arr 4 (.int .u32)) (.slice (.pair (.int .u64) (.int .i64))))))))) (.pair (.pair (.int .i64) (.int .i64)) (.pair (.slice (.pair (.int .i64) (.pair (.int .u32) (.pair (.int .u32) (.pair (.slice (.pair (.str) (.str))) (.pair (.slice (.pair (.int .u64) (.pair (.arr 3 (.int .i64)) (.pair (.int .i64) (.pair (.int .u32) (.pair (.bool) (.pair (.slice (.pair (.str) (.str))) (.arr 4 (.int .u32))))))))) (.pair (.arr 4 (.int .u32)) (.slice (.pair (.int .u64) (.int .i64)))))))))) (.pair (.pair (.int .u64) (.int .u64)) (.pair (.int .i64) (.slice (.pair (.int .i64) (.pair (.int .u64) (.int .u64))))))))))))))))))))))))))))))) x1) : p5 FUEL (x0, x1) = some true := by
  refine plays0 x0 x1 fun y hy => ?_
  have h := (w1.2 y hy).2.2.1.1.2
  have h : y.2.2.1.length * 24 ≤ reachBytes := h
  have e : reachBytes = 140737488351232 := rfl
  omega
end Go.Am.Ytbamjkhnnlekpaa
