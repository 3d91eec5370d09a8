/- Plain laws of the printed functions of routing: peers at rising positions. -/
import Derived.Test.YtbamjkhnnlekpaaHopA
namespace Go.Am.Ytbamjkhnnlekpaa
theorem lt_trans {a b c : Int × Int} (h : lt a b = true) (g : lt b c = true) : lt a c = true := by
  have h := lt_t h; have g := lt_t g
  exact decide_eq_true (by omega)
theorem lt_self (a : Int × Int) : lt a a = false := decide_eq_false (by omega)
theorem lt_asymm {a b : Int × Int} (h : lt a b = true) : lt b a = false := by
  have h := lt_t h
  exact decide_eq_false (by omega)

/-- Peers at rising positions. -/
def Rising (l : List Peer) : Prop := l.Pairwise fun a b => lt a.2 b.2 = true

/-- A peer of a row is looked at. -/
def look (p : Int × Int) (s : Bool × Bool × List Peer) (a : Peer) : Bool × Bool × List Peer :=
  (bif lt p a.2 && !s.1 then true else s.1, bif s.2.1 then true else eq a.2 p, (bif lt p a.2 && !s.1 then s.2.2 ++ [(0, p)] else s.2.2) ++ [a])

theorem j8_1_eq {R : Type} (k : List (Int × Int) × Int × Bool × Bool × Int × List Peer × List Peer → Option R) (raw : List (Int × Int)) (i : Int) (b c : Bool) (j : Nat) (l o : List Peer) (hj : j < l.length) (_ : l.length ≤ 100) (ho : o.length ≤ 300) :
    j8_1 FUEL k (raw, i, b, c, (j : Int), l, o) = k (raw, i, b, c, (j : Int), l, o ++ [l[j]]) := by
  simp only [j8_1]
  rw [if_pos (by omega)]
  simp only [Int.toNat_natCast, List.getElem?_eq_getElem hj]
  rw [if_pos (by simp; omega)]

theorem j8_2_eq {R : Type} (k : List (Int × Int) × Int × Bool × Bool × Int × List Peer × List Peer → Option R) (raw : List (Int × Int)) (i : Nat) (hi : i < raw.length) (b c : Bool) (j : Nat) (l o : List Peer) (hj : j < l.length) (hl : l.length ≤ 100) (ho : o.length ≤ 200) :
    j8_2 FUEL k (raw, (i : Int), b, c, (j : Int), l, o) = k (raw, (i : Int), bif lt raw[i] l[j].2 && !b then true else b, c, (j : Int), l, (bif lt raw[i] l[j].2 && !b then o ++ [(0, raw[i])] else o) ++ [l[j]]) := by
  simp only [j8_2]
  rw [if_pos (by omega)]
  simp only [Int.toNat_natCast, List.getElem?_eq_getElem hi]
  rw [if_pos (by omega)]
  simp only [List.getElem?_eq_getElem hj, p22_eq]
  cases lt raw[i] l[j].2 with
  | false =>
    simp only [cond_false, Bool.false_and, j8_0]
    exact j8_1_eq _ raw i b c j l o hj hl (by omega)
  | true =>
    simp only [cond_true, Bool.true_and, j8_0]
    cases b with
    | true =>
      simp only [Bool.not_true, cond_false]
      exact j8_1_eq _ raw i true c j l o hj hl (by omega)
    | false =>
      simp only [Bool.not_false, cond_true]
      rw [if_pos (by omega)]
      simp only [Int.toNat_natCast, List.getElem?_eq_getElem hi]
      rw [if_pos (by simp; omega)]
      exact j8_1_eq _ raw i true c j l _ hj hl (by simp; omega)

theorem look_len (p : Int × Int) : ∀ (l : List Peer) (s : Bool × Bool × List Peer), (l.foldl (look p) s).2.2.length ≤ s.2.2.length + 2 * l.length := by
  intro l
  induction l with
  | nil => intro s; simp
  | cons a l ih =>
    intro s
    have h1 := ih (look p s a)
    have h2 : (look p s a).2.2.length ≤ s.2.2.length + 2 := by
      unfold look
      cases lt p a.2 && !s.1 <;> simp
    simp only [List.foldl_cons, List.length_cons]
    omega

theorem l8_3_eq {R : Type} (k0 : List (Int × Int) × Int × Bool × Bool × List Peer × List Peer → Option R) (raw : List (Int × Int)) (i : Nat) (hi : i < raw.length) (l : List Peer) (hl : l.length ≤ 20) :
    l8_3 FUEL k0 FUEL (raw, (i : Int), false, false, 0, l, []) = k0 (raw, (i : Int), (l.foldl (look raw[i]) (false, false, [])).1, (l.foldl (look raw[i]) (false, false, [])).2.1, l, (l.foldl (look raw[i]) (false, false, [])).2.2) := by
  have key := for_loop (S := Bool × Bool × List Peer) (L := fun n y => l8_3 FUEL k0 n y) (step := fun F => s8_3 FUEL F k0) (fun n x => rfl)
    (fun j s => (raw, (i : Int), s.1, s.2.1, (j : Int), l, s.2.2)) l.length (fun j s => s.2.2.length ≤ 2 * j)
    (fun j s => .inr (look raw[i] s (l.getD j (0, (0, 0))))) (fun s => k0 (raw, (i : Int), s.1, s.2.1, l, s.2.2))
    (fun F j s hj hs => by
      simp only [s8_3]
      refine (condT (decide_eq_true (show ((j : Nat) : Int) < (l.length : Int) by omega))).trans ?_
      have e : l.getD j (0, (0, 0)) = l[j] := by rw [List.getD_eq_getElem?_getD, List.getElem?_eq_getElem hj]; rfl
      rw [e]
      cases hc : s.2.1 with
      | true =>
        simp only [cond_true]
        rw [j8_2_eq _ raw i hi s.1 true j l s.2.2 hj (by omega) (by omega)]
        simp only [wrapNext j (by omega), look, hc, cond_true]
      | false =>
        simp only [cond_false]
        rw [if_pos (by omega)]
        simp only [Int.toNat_natCast, List.getElem?_eq_getElem hj]
        rw [if_pos (by omega)]
        simp only [List.getElem?_eq_getElem hi, eqB_eq]
        rw [j8_2_eq _ raw i hi s.1 _ j l s.2.2 hj (by omega) (by omega)]
        simp only [wrapNext j (by omega), look, hc, cond_false])
    (fun F s _ => by
      simp only [s8_3]
      exact condF (decide_eq_false (by omega)))
    (fun j s s' hj hs h => by
      cases h
      unfold look
      cases lt raw[i] (l.getD j (0, (0, 0))).2 && !s.1 <;> simp <;> omega) l.length 0 (false, false, []) FUEL (by omega) (fuel_big (by omega)) (by simp)
  refine key.trans ?_
  rw [forI_fold, foldI_list l (look raw[i]) (0, (0, 0)) l.length 0 _ (by omega)]
  rfl

/-- A position is put into its place, unless it is there. -/
def ins (p : Int × Int) (l : List Peer) : List Peer := bif l.any fun a => eq a.2 p then l else l.filter (fun a => !lt p a.2) ++ (0, p) :: l.filter fun a => lt p a.2

theorem look_all (p : Int × Int) : ∀ (r q : List Peer), Rising (q ++ r) → r.foldl (look p) (q.any fun a => lt p a.2, q.any fun a => eq a.2 p, q.filter (fun a => !lt p a.2) ++ (bif q.any fun a => lt p a.2 then [(0, p)] else []) ++ q.filter fun a => lt p a.2) =
    ((q ++ r).any fun a => lt p a.2, (q ++ r).any fun a => eq a.2 p, (q ++ r).filter (fun a => !lt p a.2) ++ (bif (q ++ r).any fun a => lt p a.2 then [(0, p)] else []) ++ (q ++ r).filter fun a => lt p a.2) := by
  intro r
  induction r with
  | nil => intro q _; simp
  | cons a r ih =>
    intro q hr
    have e : q ++ a :: r = (q ++ [a]) ++ r := by simp
    rw [e] at hr ⊢
    rw [List.foldl_cons, ← ih (q ++ [a]) hr]
    congr 1
    have hq : Rising (q ++ [a]) := (List.pairwise_append.1 hr).1
    have hqa : ∀ b ∈ q, lt b.2 a.2 = true := fun b hb => (List.pairwise_append.1 hq).2.2 b hb a (by simp)
    unfold look
    simp only [List.any_append, List.any_cons, List.any_nil, Bool.or_false, List.filter_append]
    cases hl : lt p a.2 with
    | true =>
      have f1 : List.filter (fun a => !lt p a.2) [a] = [] := by simp [hl]
      have f2 : List.filter (fun a => lt p a.2) [a] = [a] := by simp [hl]
      rw [f1, f2]
      cases hin : q.any fun a => lt p a.2 with
      | true =>
        simp only [Bool.true_and, Bool.not_true, cond_false, Bool.or_true, cond_true, List.append_nil, List.append_assoc]
        cases (q.any fun a => eq a.2 p) <;> rfl
      | false =>
        have hnone : q.filter (fun a => lt p a.2) = [] := by
          rw [List.filter_eq_nil_iff]
          intro b hb hb2
          have := List.any_eq_false.1 hin b hb
          exact this hb2
        rw [hnone]
        simp only [Bool.true_and, Bool.not_false, cond_true, Bool.or_true, cond_false, List.append_nil, List.append_assoc, List.nil_append]
        cases (q.any fun a => eq a.2 p) <;> rfl
    | false =>
      have f1 : List.filter (fun a => !lt p a.2) [a] = [a] := by simp [hl]
      have f2 : List.filter (fun a => lt p a.2) [a] = [] := by simp [hl]
      rw [f1, f2]
      have hin : (q.any fun a => lt p a.2) = false := by
        rw [List.any_eq_false]
        intro b hb hb2
        have := lt_trans hb2 (hqa b hb)
        rw [hl] at this; cases this
      have hnone : q.filter (fun a => lt p a.2) = [] := by
        rw [List.filter_eq_nil_iff]
        intro b hb hb2
        exact List.any_eq_false.1 hin b hb hb2
      rw [hin, hnone]
      simp only [Bool.false_and, cond_false, Bool.or_false, List.append_nil]
      cases (q.any fun a => eq a.2 p) <;> rfl

theorem look_eq (p : Int × Int) (l : List Peer) (h : Rising l) : l.foldl (look p) (false, false, []) = (l.any fun a => lt p a.2, l.any fun a => eq a.2 p, l.filter (fun a => !lt p a.2) ++ (bif l.any fun a => lt p a.2 then [(0, p)] else []) ++ l.filter fun a => lt p a.2) :=
  look_all p l [] h

theorem ins_rising (p : Int × Int) (l : List Peer) (h : Rising l) : Rising (ins p l) := by
  unfold ins
  cases he : l.any fun a => eq a.2 p with
  | true => exact h
  | false =>
    have hne : ∀ a ∈ l, eq a.2 p = false := fun a ha => by simpa using List.any_eq_false.1 he a ha
    simp only [cond_false]
    unfold Rising
    rw [List.pairwise_append]
    refine ⟨List.Pairwise.filter _ h, List.pairwise_cons.2 ⟨fun b hb => ?_, List.Pairwise.filter _ h⟩, fun a ha b hb => ?_⟩
    · exact (List.mem_filter.1 hb).2
    · obtain ⟨ha1, ha2⟩ := List.mem_filter.1 ha
      have hap : lt a.2 p = true := by
        rcases way a.2 p with ⟨h, _⟩ | ⟨_, _, h3, _⟩ | ⟨_, h2, _⟩
        · exact h
        · rw [hne a ha1] at h3; cases h3
        · simp [h2] at ha2
      rcases List.mem_cons.1 hb with rfl | hb
      · exact hap
      · exact lt_trans hap (List.mem_filter.1 hb).2

theorem filter_two {α : Type} (f : α → Bool) : ∀ l : List α, (l.filter (fun a => !f a)).length + (l.filter (fun a => f a)).length = l.length := by
  intro l
  induction l with
  | nil => rfl
  | cons a l ih =>
    cases h : f a with
    | true => simp only [List.filter_cons, h, Bool.not_true, if_true, List.length_cons]; simp only [Bool.false_eq_true, if_false]; omega
    | false => simp only [List.filter_cons, h, Bool.not_false, if_true, List.length_cons]; simp only [Bool.false_eq_true, if_false]; omega

theorem ins_len (p : Int × Int) (l : List Peer) : l.length ≤ (ins p l).length ∧ (ins p l).length ≤ l.length + 1 := by
  unfold ins
  cases l.any fun a => eq a.2 p with
  | true => simp
  | false =>
    simp only [cond_false, List.length_append, List.length_cons]
    have : (l.filter (fun a => !lt p a.2)).length + (l.filter (fun a => lt p a.2)).length = l.length := filter_two (fun a : Peer => lt p a.2) l
    exact ⟨Nat.le_trans (Nat.le_of_eq this.symm) (by rw [← Nat.add_assoc]; exact Nat.le_succ _), Nat.le_of_eq (by rw [← Nat.add_assoc]; exact congrArg (· + 1) this)⟩

theorem l8_5_eq {R : Type} (k0 : List Peer → Option R) (raw : List (Int × Int)) (hraw : raw.length ≤ 9223372036854775807) : ∃ l : List Peer, Rising l ∧ l.length ≤ 12 ∧ l8_5 FUEL k0 FUEL (raw, 0, []) = k0 l := by
  have key := list_loop (S := List Peer) (L := fun n y => l8_5 FUEL k0 n y) (step := fun F => s8_5 FUEL F k0) (fun n x => rfl) raw
    (fun i s => (raw, (i : Int), s)) (fun s => Rising s ∧ s.length ≤ 12)
    (fun s p => bif decide ((s.length : Int) < 12) then .inr (ins p s) else .inl (k0 s)) (fun s => k0 s)
    (fun F i s hi hs => by
      simp only [s8_5]
      refine (condT (decide_eq_true (show ((i : Nat) : Int) < (raw.length : Int) by omega))).trans ?_
      by_cases h12 : (s.length : Int) < 12
      · rw [decide_eq_true h12]
        simp only [cond_true]
        rw [l8_3_eq _ raw i hi s (by omega), look_eq _ _ hs.1]
        simp only [j8_4]
        have hw := wrapNext i (show i < 9223372036854775807 by omega)
        cases hlow : s.any fun a => lt raw[i] a.2 with
        | true =>
          simp only [Bool.not_true, cond_false, cond_true]
          cases he : s.any fun a => eq a.2 raw[i] with
          | true => simp only [Bool.not_true, cond_false, hw, ins, he, cond_true]
          | false => simp only [Bool.not_false, cond_true, hw, ins, he, cond_false, List.append_assoc, List.cons_append, List.nil_append]
        | false =>
          have hnone : s.filter (fun a => lt raw[i] a.2) = [] := by
            rw [List.filter_eq_nil_iff]
            intro b hb hb2
            exact List.any_eq_false.1 hlow b hb hb2
          simp only [Bool.not_false, cond_true, cond_false, List.append_nil]
          rw [if_pos (by omega)]
          simp only [Int.toNat_natCast, List.getElem?_eq_getElem hi]
          rw [if_pos (by
            have h1 : (s.filter (fun a => !lt raw[i] a.2)).length ≤ s.length := List.length_filter_le _ _
            rw [hnone]
            simp only [List.append_nil, List.length_cons, List.length_nil]
            omega)]
          cases he : s.any fun a => eq a.2 raw[i] with
          | true => simp only [Bool.not_true, cond_false, hw, ins, he, cond_true]
          | false => simp only [Bool.not_false, cond_true, hw, ins, he, cond_false, hnone, List.append_nil]
      · rw [decide_eq_false h12]; rfl)
    (fun F s _ => by
      simp only [s8_5]
      exact condF (decide_eq_false (by omega)))
    (fun p s s' _ hs h => by
      by_cases h12 : (s.length : Int) < 12
      · rw [decide_eq_true h12] at h
        cases h
        exact ⟨ins_rising p s hs.1, by have := (ins_len p s).2; omega⟩
      · rw [decide_eq_false h12] at h; cases h) [] ⟨List.Pairwise.nil, by simp⟩ FUEL (fuel_big (by omega))
  have fin : ∀ (r : List (Int × Int)) (s : List Peer), Rising s → s.length ≤ 12 → ∃ l : List Peer, Rising l ∧ l.length ≤ 12 ∧ forL (fun s p => bif decide ((s.length : Int) < 12) then .inr (ins p s) else .inl (k0 s)) (fun s => k0 s) r s = k0 l := by
    intro r
    induction r with
    | nil => intro s h1 h2; exact ⟨s, h1, h2, rfl⟩
    | cons p r ih =>
      intro s h1 h2
      unfold forL
      by_cases h12 : (s.length : Int) < 12
      · rw [decide_eq_true h12]
        exact ih (ins p s) (ins_rising p s h1) (by have := (ins_len p s).2; omega)
      · rw [decide_eq_false h12]
        exact ⟨s, h1, h2, rfl⟩
  obtain ⟨l, h1, h2, h3⟩ := fin raw [] List.Pairwise.nil (by simp)
  exact ⟨l, h1, h2, key.trans h3⟩

/-- Peers in a ring: each is named by its place. -/
structure Ring (L : List Peer) : Prop where
  pos : 0 < L.length
  few : L.length ≤ 12
  ids : ∀ i (h : i < L.length), L[i].1 = i
  up : ∀ i j (hi : i < L.length) (hj : j < L.length), i < j → lt L[i].2 L[j].2 = true

theorem foldI_inv {S : Type} {g : Nat → S → S} {I : Nat → S → Prop} {len : Nat} (h : ∀ i s, i < len → I i s → I (i + 1) (g i s)) : ∀ k i s, i + k = len → I i s → I len (foldI g k i s)
  | 0, i, s, e, hs => by obtain rfl : i = len := by omega
                         exact hs
  | k + 1, i, s, e, hs => foldI_inv h k (i + 1) (g i s) (by omega) (h i s (by omega) hs)

theorem j8_7_eq (l : List Peer) (h : Rising l) (h0 : 0 < l.length) (h12 : l.length ≤ 12) : ∃ L, Ring L ∧ j8_7 FUEL (fun x107 => some x107) l = some L := by
  have key := for_loop (S := List Peer) (L := fun n y => l8_6 FUEL (fun x106 => some x106) n y) (step := fun F => s8_6 FUEL F (fun x106 => some x106)) (fun n x => rfl)
    (fun j s => ((j : Int), s)) l.length (fun _ s => s.length = l.length)
    (fun j s => .inr (s.set j ((j : Int), (s.getD j (0, (0, 0))).2))) (fun s => some s)
    (fun F j s hj hs => by
      simp only [s8_6]
      have hj' : j < s.length := by rw [hs]; exact hj
      refine (condT (decide_eq_true (show ((j : Nat) : Int) < (s.length : Int) by omega))).trans ?_
      rw [if_pos (by omega)]
      simp only [Int.toNat_natCast, List.getElem?_eq_getElem hj', wrapNext j (by omega), List.getD_eq_getElem?_getD, Option.getD_some])
    (fun F s hs => by
      simp only [s8_6]
      exact condF (decide_eq_false (by omega)))
    (fun j s s' _ hs h => by cases h; rw [List.length_set]; exact hs) l.length 0 l FUEL (by omega) (fuel_big (by omega)) rfl
  rw [forI_fold] at key
  have inv := foldI_inv (g := fun j (s : List Peer) => s.set j ((j : Int), (s.getD j (0, (0, 0))).2)) (I := fun j s => s.length = l.length ∧ (∀ i, i < l.length → (s.getD i (0, (0, 0))).2 = (l.getD i (0, (0, 0))).2) ∧ ∀ i, i < j → (s.getD i (0, (0, 0))).1 = (i : Int)) (len := l.length)
    (fun j s hj ⟨h1, h2, h3⟩ => by
      have hg : ∀ i, (s.set j ((j : Int), (s.getD j (0, (0, 0))).2)).getD i (0, (0, 0)) = if i = j then ((j : Int), (s.getD j (0, (0, 0))).2) else s.getD i (0, (0, 0)) := fun i => by
        simp only [List.getD_eq_getElem?_getD, List.getElem?_set]
        by_cases e : j = i
        · subst e; simp [h1, hj]
        · rw [if_neg e, if_neg fun e' => e e'.symm]
      refine ⟨by rw [List.length_set]; exact h1, fun i hi => ?_, fun i hi => ?_⟩
      · rw [hg]
        by_cases e : i = j
        · subst e; rw [if_pos rfl]; exact h2 i hi
        · rw [if_neg e]; exact h2 i hi
      · rw [hg]
        by_cases e : i = j
        · subst e; rw [if_pos rfl]
        · rw [if_neg e]; exact h3 i (by omega)) l.length 0 l (by omega) ⟨rfl, fun _ _ => rfl, fun i hi => absurd hi (Nat.not_lt_zero _)⟩
  generalize hL : foldI (fun j (s : List Peer) => s.set j ((j : Int), (s.getD j (0, (0, 0))).2)) l.length 0 l = L at key inv
  obtain ⟨i1, i2, i3⟩ := inv
  have hget : ∀ i (h : i < L.length), L.getD i (0, (0, 0)) = L[i] := fun i h => by rw [List.getD_eq_getElem?_getD, List.getElem?_eq_getElem h]; rfl
  have hgetl : ∀ i (h : i < l.length), l.getD i (0, (0, 0)) = l[i] := fun i h => by rw [List.getD_eq_getElem?_getD, List.getElem?_eq_getElem h]; rfl
  refine ⟨L, ⟨by omega, by omega, fun i hi => ?_, fun i j hi hj hij => ?_⟩, key⟩
  · rw [← hget i hi]; exact i3 i (by omega)
  · rw [← hget i hi, ← hget j hj, i2 i (by omega), i2 j (by omega), hgetl i (by omega), hgetl j (by omega)]
    exact List.pairwise_iff_getElem.1 h i j (by omega) (by omega) hij

theorem p8_eq (raw : List (Int × Int)) (hraw : raw.length ≤ 9223372036854775807) : ∃ L, Ring L ∧ p8 FUEL raw = some L := by
  simp only [p8]
  obtain ⟨l, h1, h2, h3⟩ := l8_5_eq (fun x101 => (bif (decide (((List.length x101 : Nat) : Int) = 0)) then (j8_7 FUEL (fun x107 => (some x107)) [((0 : Int), ((0 : Int), (0 : Int)))]) else (j8_7 FUEL (fun x108 => (some x108)) x101))) raw hraw
  rw [h3]
  by_cases h0 : (l.length : Int) = 0
  · rw [decide_eq_true h0]
    exact j8_7_eq [(0, (0, 0))] (List.pairwise_singleton _ _) (by simp) (by simp)
  · rw [decide_eq_false h0]
    exact j8_7_eq l h1 (by omega) h2
end Go.Am.Ytbamjkhnnlekpaa
