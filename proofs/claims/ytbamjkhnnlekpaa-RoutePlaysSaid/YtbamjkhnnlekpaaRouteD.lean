/- Plain laws of the printed functions of routing: the document's table learns alike; rows that are alike. -/
import Derived.Test.YtbamjkhnnlekpaaRouteC
namespace Go.Am.Ytbamjkhnnlekpaa

def learnFin (t : Tab) (l : List Peer) (n : Nat) : Tab := (t.1, (t.2.1, (t.2.2.1, t.2.2.2.take (n + 1) ++ (match (t.2.2.2[n]?), l[n]? with
      | some a, some b => bif bt a.2 b.2 t.1.2 then [b] else []
      | _, _ => []))))

theorem l27_0_eq {R : Type} (k0 : (Int × Peer × Peer × Peer × List Peer) → Option R) (k1 : (Int × List Peer × Peer × Peer × Peer × List Peer) → Option R) (i : Int) (l : List Peer) (s p q : Peer) (f : List Peer) (hl : l.length ≤ 140737488355328) :
    l27_0 FUEL k0 k1 FUEL (i, l, 0, s, p, q, f) = bif allOk l then k1 (i, l, s, p, q, f) else k0 (1, s, p, q, f) := by
  have key := list_loop (S := Unit) (L := fun n y => l27_0 FUEL k0 k1 n y) (step := fun F => s27_0 FUEL F k0 k1) (fun n x => rfl) l
    (fun j _ => (i, l, (j : Int), s, p, q, f)) (fun _ => True) (fun _ x => bif okN x.1 then .inr () else .inl (k0 (1, s, p, q, f))) (fun _ => k1 (i, l, s, p, q, f))
    (fun F j _ hj _ => by
      simp only [s27_0]
      refine (condT (decide_eq_true (show ((j : Nat) : Int) < (l.length : Int) by omega))).trans ?_
      rw [if_pos (by omega)]
      simp only [Int.toNat_natCast, List.getElem?_eq_getElem hj, p26_eq, wrapNext j (by omega)]
      cases okN l[j].1 <;> rfl)
    (fun F _ _ => by
      simp only [s27_0]
      exact condF (decide_eq_false (by omega)))
    (fun _ _ _ _ _ _ => trivial) () trivial FUEL (fuel_big (by omega))
  refine key.trans ?_
  exact forL_all (fun x : Peer => okN x.1) (k0 (1, s, p, q, f)) (k1 (i, l, s, p, q, f)) l

theorem p27_eq (i : Int) (l : List Peer) (t : Tab) (hl : l.length ≤ 140737488355328) (ht : t.2.2.2.length ≤ 4) : p27 FUEL (i, l, t.1, t.2.1, t.2.2.1, t.2.2.2) = some ((learn i l t).1, (learn i l t).2.1, (learn i l t).2.2.1, (learn i l t).2.2.2.1, (learn i l t).2.2.2.2) := by
  obtain ⟨s, p, q, f⟩ := t
  simp only at ht
  simp only [p27, l27_0_eq _ _ _ _ _ _ _ _ hl]
  unfold learn
  simp only
  by_cases h1 : i < 1
  · simp only [decide_eq_true h1, cond_true, Bool.true_or]
  by_cases h2 : 4 ≤ i
  · rw [decide_eq_false h1, decide_eq_true (show 3 < i by omega), decide_eq_true h2]; rfl
  by_cases h3 : (f.length : Int) < i
  · simp only [decide_eq_false h1, decide_eq_false h2, decide_eq_false (show ¬ 3 < i by omega), decide_eq_true h3, cond_true, cond_false, Bool.true_or, Bool.or_true]
  by_cases h4 : 4 < (l.length : Int)
  · simp only [decide_eq_false h1, decide_eq_false h2, decide_eq_false (show ¬ 3 < i by omega), decide_eq_false h3, decide_eq_true h4, cond_true, cond_false, Bool.true_or, Bool.or_true]
  simp only [decide_eq_false h1, decide_eq_false h2, decide_eq_false (show ¬ 3 < i by omega), decide_eq_false h3, decide_eq_false h4, cond_false, Bool.false_or]
  cases h5 : allOk l with
  | false => rfl
  | true =>
    simp only [Bool.not_true, cond_false, cond_true]
    obtain ⟨n, rfl⟩ : ∃ n : Nat, i = ((n + 1 : Nat) : Int) := ⟨i.toNat - 1, by omega⟩
    have hw : IntKind.wrap .i64 (((n + 1 : Nat) : Int) - 1) = (n : Int) := by rw [wrapI (by omega) (by omega)]; omega
    have hn : n < f.length := by omega
    have hlt : (List.take (n + 1) f).length = n + 1 := by rw [List.length_take]; omega
    have hge : (List.take (n + 1) f)[n]? = f[n]? := List.getElem?_take_of_lt (by omega)
    have hle : n + 1 ≤ 3 := by omega
    rw [if_pos (by omega)]
    simp only [List.drop_zero, Int.toNat_natCast, Nat.sub_zero, hw, Nat.add_sub_cancel]
    have h24 : (List.take (n + 1) f).length * 24 ≤ 140737488355328 := by rw [hlt]; omega
    refine (if_pos h24).trans ?_
    have hj : ∀ (b : Bool) (c : Peer), l[n]? = some c ∨ b = false → j27_1 FUEL (fun (x39, x40, x41, x42, x43) => (j27_2 FUEL (fun (x54, x55, x56, x57, x58) => (some (x54, x55, x56, x57, x58))) (x39, x40, x41, x42, x43))) (((n + 1 : Nat) : Int), l, b, s, p, q, f, List.take (n + 1) f) = some (0, s, p, q, List.take (n + 1) f ++ bif b then [c] else []) := by
      intro b c hb
      simp only [j27_1, hw, Int.toNat_natCast]
      cases b with
      | true =>
        have hb := hb.resolve_right (by simp)
        have h24 : (List.length (List.take (n + 1) f) + List.length [c]) * 24 ≤ 140737488355328 := by
          rw [hlt]
          have : List.length [c] = 1 := rfl
          omega
        simp only [cond_true, hb]
        rw [if_pos (by omega)]
        exact if_pos h24
      | false => simp only [cond_false, List.append_nil]; rfl
    by_cases h6 : ((n + 1 : Nat) : Int) ≤ (l.length : Int)
    · have hnl : n < l.length := by omega
      refine (condT (decide_eq_true h6)).trans ?_
      rw [if_pos (by rw [hlt]; omega), hge, List.getElem?_eq_getElem hn, List.getElem?_eq_getElem hnl]
      simp only [p37_eq]
      rw [if_pos (by omega)]
      exact hj _ _ (.inl (List.getElem?_eq_getElem hnl))
    · refine (condF (decide_eq_false h6)).trans ?_
      rw [List.getElem?_eq_getElem hn, List.getElem?_eq_none (show l.length ≤ n by omega)]
      exact hj false (0, (0, 0)) (.inr rfl)

theorem eqPeer (a : Peer) : Ty.eqB (.pair (.int .i64) (.pair (.int .u64) (.int .u64))) a a = true := eqB_self (.pair (.int .i64) (.pair (.int .u64) (.int .u64))) rfl a

theorem p18_self (l : List Peer) (hl : l.length ≤ 140737488355328) : p18 FUEL (l, l) = some true := by
  have key := list_loop (S := Unit) (L := fun n y => l18_0 FUEL (fun x9 => (some x9)) (fun _ => (some true)) n y) (step := fun F => s18_0 FUEL F (fun x9 => (some x9)) (fun _ => (some true))) (fun n x => rfl) l
    (fun j _ => (l, l, (j : Int))) (fun _ => True) (fun _ x => .inr ()) (fun _ => some true)
    (fun F j _ hj _ => by
      simp only [s18_0]
      refine (condT (decide_eq_true (show ((j : Nat) : Int) < (l.length : Int) by omega))).trans ?_
      rw [if_pos (by omega)]
      simp only [Int.toNat_natCast, List.getElem?_eq_getElem hj, eqPeer, wrapNext j (by omega)]
      rw [if_pos (by omega)]; rfl)
    (fun F _ _ => by
      simp only [s18_0]
      exact condF (decide_eq_false (by omega)))
    (fun _ _ _ _ _ _ => trivial) () trivial FUEL (fuel_big (by omega))
  simp only [p18, decide_true, Bool.not_true, cond_false]
  exact key.trans (forL_fold (fun _ _ => ()) _ l ())
theorem p18b_self (l : List Peer) (hl : l.length ≤ 140737488355328) : p18b FUEL (l, l) = some true := by
  have key := list_loop (S := Unit) (L := fun n y => l18b_0 FUEL (fun x9 => (some x9)) (fun _ => (some true)) n y) (step := fun F => s18b_0 FUEL F (fun x9 => (some x9)) (fun _ => (some true))) (fun n x => rfl) l
    (fun j _ => (l, l, (j : Int))) (fun _ => True) (fun _ x => .inr ()) (fun _ => some true)
    (fun F j _ hj _ => by
      simp only [s18b_0]
      refine (condT (decide_eq_true (show ((j : Nat) : Int) < (l.length : Int) by omega))).trans ?_
      rw [if_pos (by omega)]
      simp only [Int.toNat_natCast, List.getElem?_eq_getElem hj, eqPeer, wrapNext j (by omega)]
      rw [if_pos (by omega)]; rfl)
    (fun F _ _ => by
      simp only [s18b_0]
      exact condF (decide_eq_false (by omega)))
    (fun _ _ _ _ _ _ => trivial) () trivial FUEL (fuel_big (by omega))
  simp only [p18b, decide_true, Bool.not_true, cond_false]
  exact key.trans (forL_fold (fun _ _ => ()) _ l ())

/-- A row is spoilt. -/
def spoil (l : List Peer) (i : Nat) : List Peer := l.set i ((-1 : Int), (l.getD i (0, (0, 0))).2)
theorem spoil_len (l : List Peer) (i : Nat) : (spoil l i).length = l.length := List.length_set

theorem l16_0_eq {R : Type} (k0 : (Int × Int × Bool × Tab × Peer × Peer × Peer × List Peer) → Option R) (a b : Int) (c : Bool) (t : Tab) (s p q : Peer) (f l : List Peer) (hl : l.length ≤ 140737488355328) :
    l16_0 FUEL k0 FUEL (a, b, c, 0, t, s, p, q, f, l) = k0 (a, b, c, t, s, p, q, f) := by
  have key := for_loop (S := List Peer) (L := fun n y => l16_0 FUEL k0 n y) (step := fun F => s16_0 FUEL F k0) (fun n x => rfl)
    (fun j l' => (a, b, c, (j : Int), t, s, p, q, f, l')) l.length (fun _ l' => l'.length = l.length) (fun j l' => .inr (spoil l' j)) (fun _ => k0 (a, b, c, t, s, p, q, f))
    (fun F j l' hj hl' => by
      simp only [s16_0]
      refine (condT (decide_eq_true (show ((j : Nat) : Int) < (l'.length : Int) by omega))).trans ?_
      rw [if_pos (by omega)]
      simp only [Int.toNat_natCast, List.getElem?_eq_getElem (show j < l'.length by omega), wrapNext j (by omega), spoil, List.getD_eq_getElem?_getD, Option.getD_some])
    (fun F l' hl' => by
      simp only [s16_0]
      exact condF (decide_eq_false (by omega)))
    (fun j l' l'' hj hl' e => by cases e; rw [spoil_len]; exact hl') l.length 0 l FUEL (by omega) (fuel_big (by omega)) rfl
  exact key.trans (forI_fold (fun (j : Nat) (l' : List Peer) => spoil l' j) (fun _ => k0 (a, b, c, t, s, p, q, f)) _ _ _)
end Go.Am.Ytbamjkhnnlekpaa
