/- Plain laws of the printed functions of the clock: the clock and the document's, side by side: the next, and what is due. -/
import Derived.Test.YtbggedhchjibjaaPF
namespace Go.Am.Ytbggedhchjibjaa
theorem strip_get {L' : List TM} {i : Nat} (hi : i < L'.length) : (L'.map strip)[i]? = some (strip (H L' i)) := by rw [List.getElem?_map, H_some hi]; rfl

theorem least_loop {R : Type} (K : Int × Int × Int × List (Int × Int) → Option R) (r mi : Int) {L' : List TM} (hl : L'.length ≤ 256) : ∀ (n i : Nat) (v : Int), L'.length - i < n → i ≤ L'.length → (∀ j, j < i → v ≤ (H L' j).2.1) → (∃ j, j < L'.length ∧ (H L' j).2.1 = v) →
    ∃ v', l18_0 FUEL K n (v, (i : Int), r, mi, L'.map strip) = K (v', r, mi, L'.map strip) ∧ (∀ j, j < L'.length → v' ≤ (H L' j).2.1) ∧ ∃ j, j < L'.length ∧ (H L' j).2.1 = v' := by
  have hlen : (L'.map strip).length = L'.length := List.length_map _
  intro n
  induction n with
  | zero => intro i v h; omega
  | succ n ih =>
    intro i v h hi a b
    by_cases e : i < L'.length
    · have hs : l18_0 FUEL K (n + 1) (v, (i : Int), r, mi, L'.map strip) = l18_0 FUEL K n ((if (H L' i).2.1 < v then (H L' i).2.1 else v), ((i + 1 : Nat) : Int), r, mi, L'.map strip) := by
        refine (condT (decide_eq_true (show (i : Int) < (((L'.map strip).length : Nat) : Int) by omega))).trans ?_
        simp only [if_pos (show (0 : Int) ≤ (i : Int) ∧ (i : Int) < (((L'.map strip).length : Nat) : Int) by omega), Int.toNat_natCast, strip_get e, wrapNext i (by omega)]
        have e2 : (strip (H L' i)).2 = (H L' i).2.1 := rfl
        rw [e2]
        by_cases c : (H L' i).2.1 < v
        · rw [decide_eq_true c, if_pos c]; rfl
        · rw [decide_eq_false c, if_neg c]; rfl
      rw [hs]
      refine ih (i + 1) _ (by omega) (by omega) (fun j hj => ?_) ?_
      · by_cases c : j = i
        · subst c; split <;> omega
        · have := a j (by omega); split <;> omega
      · split
        · exact ⟨i, e, rfl⟩
        · exact b
    · obtain rfl : i = L'.length := by omega
      exact ⟨v, condF (decide_eq_false (show ¬ ((L'.length : Nat) : Int) < (((L'.map strip).length : Nat) : Int) by omega)), a, b⟩

/-- The document's next. -/
theorem next_ref (r mi : Int) {L' : List TM} (hl : L'.length ≤ 256) (h0 : 0 < L'.length) : ∃ v, p18 FUEL (r, mi, L'.map strip) = some (v, true, r, mi, L'.map strip) ∧ (∀ j, j < L'.length → v ≤ (H L' j).2.1) ∧ ∃ j, j < L'.length ∧ (H L' j).2.1 = v := by
  have hlen : (L'.map strip).length = L'.length := List.length_map _
  obtain ⟨v, r1, r2⟩ := least_loop (R := Int × Bool × Int × Int × List (Int × Int)) (fun (x12, x13, x14, x15) => some (x12, true, x13, x14, x15)) r mi hl FUEL 1 (H L' 0).2.1 (by have := big; omega) (by omega) (fun j hj => by
    have : j = 0 := by omega
    subst this; exact Int.le_refl _) ⟨0, h0, rfl⟩
  refine ⟨v, ?_, r2⟩
  simp only [p18]
  rw [decide_eq_false (show ¬ (((L'.map strip).length : Nat) : Int) = 0 by omega), cond_false, if_pos (show (0 : Int) ≤ 0 ∧ (0 : Int) < (((L'.map strip).length : Nat) : Int) by omega), show Int.toNat 0 = 0 from rfl, strip_get h0]
  exact r1
theorem next_none (r mi : Int) : p18 FUEL (r, mi, ([] : List TM).map strip) = some (0, false, r, mi, ([] : List TM).map strip) := rfl

theorem next_both {s : Int} {h : List TM} {m : MM} {L' : List TM} (R : Rl s h m L') (r mi r' mi' : Int) :
    ∃ (v : Int) (b : Bool), p17 FUEL (r, mi, s, h, m.1, m.2.1, m.2.2) = some (v, b, r, mi, s, h, m.1, m.2.1, m.2.2) ∧ p18 FUEL (r', mi', L'.map strip) = some (v, b, r', mi', L'.map strip) := by
  have hlen := R.len
  have hfew := R.few
  by_cases h0 : h.length = 0
  · have : L' = [] := List.eq_nil_of_length_eq_zero (by omega)
    subst this
    refine ⟨0, false, ?_, next_none r' mi'⟩
    simp only [p17]
    rw [decide_eq_true (show ((h.length : Nat) : Int) = 0 by omega)]; rfl
  · obtain ⟨v, e1, e2, j, hj, e3⟩ := next_ref r' mi' (L' := L') (by omega) (by omega)
    have hv : v = (H h 0).2.1 := by
      obtain ⟨i, hi, ei⟩ := mem_H (R.perm.mem_iff.2 (H_mem hj))
      have h1 := heap_root R.tidy.heap i hi
      rw [ei] at h1
      obtain ⟨q, hq, eq⟩ := mem_H (R.perm.mem_iff.1 (H_mem (show 0 < h.length by omega)))
      have h2 := e2 q hq
      rw [eq] at h2
      unfold le at h1; omega
    refine ⟨v, true, ?_, e1⟩
    simp only [p17]
    rw [decide_eq_false (show ¬ ((h.length : Nat) : Int) = 0 by omega), cond_false, if_pos (show (0 : Int) ≤ 0 ∧ (0 : Int) < ((h.length : Nat) : Int) by omega), show Int.toNat 0 = 0 from rfl, H_some (show 0 < h.length by omega), hv]

/-! ### What is due, of the document's -/
theorem find_loop {R : Type} (K : Int × Int × Int × List (Int × Int) × List Int → Option R) (cnt v r mi : Int) {L' : List TM} (hl : L'.length ≤ 256) (out : List Int) (ho : out.length ≤ 1000) (hv : ∃ j, j < L'.length ∧ (H L' j).2.1 = v) : ∀ (n i : Nat), L'.length - i < n → i ≤ L'.length → (∀ j, j < i → (H L' j).2.1 ≠ v) →
    ∃ q, q < L'.length ∧ (H L' q).2.1 = v ∧ (∀ j, j < q → (H L' j).2.1 ≠ v) ∧ l28_0 FUEL K n (cnt, v, (i : Int), r, mi, L'.map strip, out) = K (cnt, r, mi, (L'.filter (other (H L' q).1)).map strip, out ++ [(H L' q).1]) := by
  have hlen : (L'.map strip).length = L'.length := List.length_map _
  intro n
  induction n with
  | zero => intro i h; omega
  | succ n ih =>
    intro i h hi a
    by_cases e : i < L'.length
    · have hs : l28_0 FUEL K (n + 1) (cnt, v, (i : Int), r, mi, L'.map strip, out) = bif decide ((H L' i).2.1 = v) then K (cnt, r, mi, (L'.filter (other (H L' i).1)).map strip, out ++ [(H L' i).1]) else l28_0 FUEL K n (cnt, v, ((i + 1 : Nat) : Int), r, mi, L'.map strip, out) := by
        refine (condT (decide_eq_true (show (i : Int) < (((L'.map strip).length : Nat) : Int) by omega))).trans ?_
        have e1 : (strip (H L' i)).1 = (H L' i).1 := rfl
        have e2 : (strip (H L' i)).2 = (H L' i).2.1 := rfl
        simp only [if_pos (show (0 : Int) ≤ (i : Int) ∧ (i : Int) < (((L'.map strip).length : Nat) : Int) by omega), Int.toNat_natCast, strip_get e, wrapNext i (by omega), p26, e1, e2, without_run L' hl, if_pos (show (out.length + List.length [(H L' i).1]) * 8 ≤ 140737488355328 by simp; omega)]
      rw [hs]
      by_cases c : (H L' i).2.1 = v
      · rw [decide_eq_true c]
        exact ⟨i, e, c, a, rfl⟩
      · rw [decide_eq_false c]
        exact ih (i + 1) (by omega) (by omega) (fun j hj => by
          by_cases d : j = i
          · subst d; exact c
          · exact a j (by omega))
    · obtain ⟨j, hj, ej⟩ := hv
      exact absurd ej (a j (by omega))

theorem due_ref_head {R : Type} (fu : Nat) (K : Int × Int × List (Int × Int) × List Int → Option R) (r mi : Int)
    (A0 : p18 fu (r, mi, []) = some (0, false, r, mi, []))
    (A1 : ∀ L' : List TM, L'.length ≤ 256 → 0 < L'.length → ∃ v, p18 fu (r, mi, L'.map strip) = some (v, true, r, mi, L'.map strip) ∧ (∀ j, j < L'.length → v ≤ (H L' j).2.1) ∧ ∃ j, j < L'.length ∧ (H L' j).2.1 = v)
    (A2 : ∀ L : List (Int × Int), p19 fu (r, mi, L) = some (mi / 1000, r, mi, L))
    (A3 : ∀ (K : Int × Int × Int × List (Int × Int) × List Int → Option R) (cnt v : Int) (L' : List TM) (out : List Int), L'.length ≤ 256 → out.length ≤ 1000 → (∃ j, j < L'.length ∧ (H L' j).2.1 = v) →
      ∃ q, q < L'.length ∧ (H L' q).2.1 = v ∧ (∀ j, j < q → (H L' j).2.1 ≠ v) ∧ l28_0 fu K fu (cnt, v, 0, r, mi, L'.map strip, out) = K (cnt, r, mi, (L'.filter (other (H L' q).1)).map strip, out ++ [(H L' q).1])) : ∀ (n cnt : Nat) (L' : List TM) (out : List Int), L'.length < n → cnt + L'.length ≤ 256 → out.length + L'.length ≤ 256 → (L'.map (·.1)).Nodup → L'.Pairwise (fun a b => a.2.2 < b.2.2) →
    ∃ (P L2 : List TM), l28_1 fu K n ((cnt : Int), r, mi, L'.map strip, out) = K (r, mi, L2.map strip, out ++ P.map (·.1)) ∧ L'.Perm (P ++ L2) ∧ P.Pairwise le ∧ (∀ t ∈ P, t.2.1 ≤ mi / 1000) ∧ (∀ t ∈ L2, mi / 1000 < t.2.1) ∧ L2.Sublist L' := by
  intro n
  induction n with
  | zero => intro cnt L' out h; omega
  | succ n ih =>
    intro cnt L' out hn hc ho nd srt
    by_cases h0 : L'.length = 0
    · have : L' = [] := List.eq_nil_of_length_eq_zero h0
      subst this
      refine ⟨[], [], ?_, List.Perm.refl _, List.Pairwise.nil, (by intro t ht; cases ht), (by intro t ht; cases ht), List.Sublist.refl _⟩
      show s28_1 fu (l28_1 fu K n) K _ = _
      simp only [s28_1]
      rw [decide_eq_true (show (cnt : Int) < 257 by simp at hc; omega)]
      simp only [List.map_nil, A0, Bool.not_false, cond_true, List.append_nil]
    · obtain ⟨v, e1, e2, e3⟩ := A1 L' (by omega) (by omega)
      have e19 := A2 (L'.map strip)
      by_cases hlate : mi / 1000 < v
      · refine ⟨[], L', ?_, List.Perm.refl _, List.Pairwise.nil, (by intro t ht; cases ht), fun t ht => ?_, List.Sublist.refl _⟩
        · show s28_1 fu (l28_1 fu K n) K _ = _
          simp only [s28_1]
          rw [decide_eq_true (show (cnt : Int) < 257 by omega)]
          simp only [cond_true, e1, e19, Bool.not_true, cond_false]
          rw [decide_eq_true hlate]
          simp
        · obtain ⟨j, hj, ej⟩ := mem_H ht
          have := e2 j hj
          rw [ej] at this; omega
      · obtain ⟨q, hq, q1, q2, q3⟩ := A3 (fun (x22, x23, x24, x25, x26) => (l28_1 fu K n ((IntKind.wrap .i64 (x22 + (1 : Int))), x23, x24, x25, x26))) (cnt : Int) v L' out (by omega) (by omega) e3
        have hx : ∀ t ∈ L', le (H L' q) t := by
          intro t ht
          obtain ⟨j, hj, ej⟩ := mem_H ht
          have h1 := e2 j hj
          rw [ej] at h1
          unfold le
          by_cases c : t.2.1 = v
          · right
            refine ⟨by omega, ?_⟩
            rcases Nat.lt_trichotomy j q with d | d | d
            · have := q2 j d
              rw [ej] at this; exact absurd c this
            · rw [← ej, d]; exact Int.le_refl _
            · rw [List.pairwise_iff_getElem] at srt
              have := srt q j hq hj d
              rw [H_get hq, H_get hj, ej] at this; omega
          · left; omega
        have hmem : H L' q ∈ L' := H_mem hq
        obtain ⟨rest, s1, _⟩ := set_perm L' q (0, (0, 0)) hq
        have s2 := filter_rest s1 nd
        have hperm : L'.Perm (H L' q :: L'.filter (other (H L' q).1)) := s1.trans (List.Perm.cons _ s2.symm)
        have hlenf := hperm.length_eq
        rw [List.length_cons] at hlenf
        have hsub : (L'.filter (other (H L' q).1)).Sublist L' := List.filter_sublist
        obtain ⟨P, L2, r1, r2, r3, r4, r5, r6⟩ := ih (cnt + 1) (L'.filter (other (H L' q).1)) (out ++ [(H L' q).1]) (by omega) (by omega) (by simp; omega) (nd.sublist (hsub.map _)) (srt.sublist hsub)
        refine ⟨H L' q :: P, L2, ?_, hperm.trans (List.Perm.cons _ r2), List.pairwise_cons.2 ⟨fun t ht => ?_, r3⟩, fun t ht => ?_, r5, r6.trans hsub⟩
        · show s28_1 fu (l28_1 fu K n) K _ = _
          simp only [s28_1]
          rw [decide_eq_true (show (cnt : Int) < 257 by omega)]
          simp only [cond_true, e1, e19, Bool.not_true, cond_false]
          rw [decide_eq_false hlate]
          refine Eq.trans q3 ?_
          simp only [wrapNext cnt (by omega)]
          rw [r1, List.append_assoc]; rfl
        · exact hx t (hsub.subset (r2.mem_iff.2 (List.mem_append_left _ ht)))
        · rcases List.mem_cons.1 ht with e | ht
          · rw [e]; omega
          · exact r4 t ht

theorem due_ref_loop {R : Type} (K : Int × Int × List (Int × Int) × List Int → Option R) (r mi : Int) (m0 : 0 ≤ mi) (m1 : mi ≤ 2000000000000000) (L' : List TM) (hl : L'.length ≤ 256) (nd : (L'.map (·.1)).Nodup) (srt : L'.Pairwise (fun a b => a.2.2 < b.2.2)) :
    ∃ (P L2 : List TM), l28_1 FUEL K FUEL (0, r, mi, L'.map strip, []) = K (r, mi, L2.map strip, [] ++ P.map (·.1)) ∧ L'.Perm (P ++ L2) ∧ P.Pairwise le ∧ (∀ t ∈ P, t.2.1 ≤ mi / 1000) ∧ (∀ t ∈ L2, mi / 1000 < t.2.1) ∧ L2.Sublist L' :=
  due_ref_head FUEL K r mi (next_none r mi) (fun L' h h0 => next_ref r mi h h0) (fun L => by
      simp only [p19]
      rw [tdiv_pos m0, wrapI (by omega) (by omega)])
    (fun K cnt v L' out h ho hv => find_loop K cnt v r mi h out ho hv FUEL 0 (by have := big; omega) (Nat.zero_le _) (fun j hj => absurd hj (Nat.not_lt_zero _)))
    FUEL 0 L' [] (by have := big; omega) (by omega) (by simp; omega) nd srt

theorem due_both {s : Int} {h : List TM} {m : MM} {L' : List TM} (R : Rl s h m L') (r mi r' : Int) (m0 : 0 ≤ mi) (m1 : mi ≤ 2000000000000000) :
    ∃ (out : List Int) (h' : List TM) (m' : MM) (L2 : List TM), p13 FUEL (r, mi, s, h, m.1, m.2.1, m.2.2) = some (r, mi, s, h', m'.1, m'.2.1, m'.2.2, out) ∧ p28 FUEL (r', mi, L'.map strip) = some (r', mi, L2.map strip, out) ∧ Rl s h' m' L2 ∧ out.length ≤ 256 := by
  have hlen := R.len
  have hfew := R.few
  obtain ⟨P, h', m', e1, w', p1, p2, p3, p4⟩ := due_run R.tidy hfew r mi s m0 m1
  obtain ⟨P2, L2, d1, d2, d3, d4, d5, d6⟩ := due_ref_loop (R := Int × Int × List (Int × Int) × List Int) (fun (x27, x28, x29, x30) => (some (x27, x28, x29, x30))) r' mi m0 m1 L' (by omega) R.nodup R.ordered
  -- the same are due
  have cut : ∀ (l A B : List TM), l.Perm (A ++ B) → (∀ t ∈ A, t.2.1 ≤ mi / 1000) → (∀ t ∈ B, mi / 1000 < t.2.1) → (l.filter (fun t => decide (t.2.1 ≤ mi / 1000))).Perm A ∧ (l.filter (fun t => !decide (t.2.1 ≤ mi / 1000))).Perm B := by
    intro l A B hp hA hB
    have a1 : A.filter (fun t => decide (t.2.1 ≤ mi / 1000)) = A := List.filter_eq_self.2 (fun t ht => decide_eq_true (hA t ht))
    have a2 : B.filter (fun t => decide (t.2.1 ≤ mi / 1000)) = [] := List.filter_eq_nil_iff.2 (fun t ht => by have := hB t ht; simp; omega)
    have a3 : A.filter (fun t => !decide (t.2.1 ≤ mi / 1000)) = [] := List.filter_eq_nil_iff.2 (fun t ht => by have := hA t ht; simp; omega)
    have a4 : B.filter (fun t => !decide (t.2.1 ≤ mi / 1000)) = B := List.filter_eq_self.2 (fun t ht => by have := hB t ht; simp; omega)
    constructor
    · have := hp.filter (fun t => decide (t.2.1 ≤ mi / 1000))
      rw [List.filter_append, a1, a2, List.append_nil] at this
      exact this
    · have := hp.filter (fun t => !decide (t.2.1 ≤ mi / 1000))
      rw [List.filter_append, a3, a4, List.nil_append] at this
      exact this
  obtain ⟨c1, c2⟩ := cut h P h' p1 p3 p4
  obtain ⟨c3, c4⟩ := cut L' P2 L2 d2 d4 d5
  have same : P = P2 := by
    refine List.Perm.eq_of_pairwise (le := le) (fun a b ha hb h1 h2 => ?_) p2 d3 (c1.symm.trans ((R.perm.filter _).trans c3))
    have ha' : a ∈ L' := R.perm.mem_iff.1 (p1.mem_iff.2 (List.mem_append_left _ ha))
    have hb' : b ∈ L' := d2.mem_iff.2 (List.mem_append_left _ hb)
    obtain ⟨i, hi, ei⟩ := mem_H ha'
    obtain ⟨j, hj, ej⟩ := mem_H hb'
    have hs : a.2.2 = b.2.2 := by unfold le at h1 h2; omega
    have ho := R.ordered
    rw [List.pairwise_iff_getElem] at ho
    rcases Nat.lt_trichotomy i j with d | d | d
    · have := ho i j hi hj d
      rw [H_get hi, H_get hj, ei, ej] at this; omega
    · rw [← ei, ← ej, d]
    · have := ho j i hj hi d
      rw [H_get hi, H_get hj, ei, ej] at this; omega
  have hlp := p1.length_eq
  rw [List.length_append] at hlp
  refine ⟨P.map (·.1), h', m', L2, e1, ?_, ⟨w', c2.symm.trans ((R.perm.filter _).trans c4), by omega, R.ordered.sublist d6, fun t ht => R.below t (d6.subset ht), R.s0⟩, by rw [List.length_map]; omega⟩
  simp only [p28]
  rw [same]
  exact d1

theorem same_run (l : List Int) (hl : l.length ≤ 256) : p27 FUEL (l, l) = some true := by
  have key := for_loop (S := Unit) (L := fun n y => l27_0 FUEL (fun x9 => some x9) (fun _ => some true) n y) (step := fun F => s27_0 FUEL F (fun x9 => some x9) (fun _ => some true)) (fun n x => rfl)
    (fun i _ => (l, l, (i : Int))) l.length (fun _ _ => True) (fun _ _ => .inr ()) (fun _ => some true)
    (fun F i _ hi _ => by
      refine (condT (decide_eq_true (show (i : Int) < ((l.length : Nat) : Int) by omega))).trans ?_
      simp only [if_pos (Int.natCast_nonneg i), Int.toNat_natCast, List.getElem?_eq_getElem hi, decide_true, Bool.not_true, cond_false, wrapNext i (by omega)])
    (fun F _ _ => condF (decide_eq_false (Int.lt_irrefl _))) (fun _ _ _ _ _ _ => trivial) l.length 0 () FUEL (Nat.zero_add _) (by have := big; omega) trivial
  rw [forI_fold] at key
  simp only [p27, decide_true, Bool.not_true, cond_false]
  exact key
end Go.Am.Ytbggedhchjibjaa
