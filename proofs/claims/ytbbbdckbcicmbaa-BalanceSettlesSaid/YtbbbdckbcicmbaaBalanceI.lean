/- Plain laws of the printed functions of balance: the document's loads behind a move; the law BalancePlans. -/
import Derived.Test.YtbbbdckbcicmbaaBalanceH
namespace Go.Am.Ytbbbdckbcicmbaa
theorem l23b_run (l : List Int) (hl : l.length < 9223372036854775807) : ∀ n i, l.length - i < n → i ≤ l.length → l23b_0 FUEL (fun x => some x) (fun _ => some true) n (l, (i : Int)) = some (!(l.drop i).any bad) := by
  intro n
  induction n with
  | zero => intro i h; omega
  | succ n ih =>
    intro i h hi
    show s23b_0 FUEL (l23b_0 FUEL _ _ n) _ _ _ = _
    simp only [s23b_0]
    by_cases e : i < l.length
    · rw [decide_eq_true (show (i : Int) < ((l.length : Nat) : Int) by omega), cond_true, if_pos (show (0 : Int) ≤ (i : Int) by omega)]
      simp only [Int.toNat_natCast, List.getElem?_eq_getElem e]
      rw [List.drop_eq_getElem_cons e, List.any_cons]
      by_cases h1 : l[i] < 0
      · rw [decide_eq_true h1, bad, decide_eq_true h1]; rfl
      · rw [decide_eq_false h1, cond_false, if_pos (show (0 : Int) ≤ (i : Int) by omega), bad, decide_eq_false h1]
        by_cases h2 : 2147483647 < l[i]
        · rw [decide_eq_true h2]; rfl
        · rw [decide_eq_false h2, cond_false, wrapNext i (by omega), ih (i + 1) (by omega) (by omega)]; rfl
    · rw [decide_eq_false (show ¬ (i : Int) < ((l.length : Nat) : Int) by omega), cond_false, List.drop_eq_nil_of_le (by omega)]; rfl
theorem p23b_eq (l : List Int) (hl : l.length ≤ 9223372036854775806) (a b : Int) : p23b FUEL (l, a, b) = some (fair l a b) := by
  have h1 := l23b_run l (by omega) FUEL 0 (by have := big; omega) (Nat.zero_le _)
  simp only [p23b, show ((0 : Nat) : Int) = 0 from rfl] at h1 ⊢
  rw [h1]
  simp only [List.drop_zero, fair]
  by_cases x : (l.length : Int) < a
  · rw [decide_eq_true x, decide_eq_false (show ¬ a ≤ (l.length : Int) by omega)]; rfl
  · by_cases y : b < (l.length : Int)
    · rw [decide_eq_false x, decide_eq_true y, decide_eq_true (show a ≤ (l.length : Int) by omega), decide_eq_false (show ¬ (l.length : Int) ≤ b by omega)]; rfl
    · rw [decide_eq_false x, decide_eq_false y, decide_eq_true (show a ≤ (l.length : Int) by omega), decide_eq_true (show (l.length : Int) ≤ b by omega)]; rfl

theorem unfair_of {l : List Int} {i : Nat} (hi : i < l.length) (h : g l i < 0 ∨ 2147483647 < g l i) (a b : Int) : fair l a b = false := by
  cases hf : fair l a b with
  | false => rfl
  | true =>
    have := (fair_inv hf).2.2 _ (g_mem hi)
    omega
theorem fair_of {l : List Int} (h1 : 1 ≤ l.length) (h2 : l.length ≤ 12) (h : ∀ x ∈ l, 0 ≤ x ∧ x ≤ 2147483647) : fair l 1 12 = true := by
  unfold fair
  rw [decide_eq_true (show (1 : Int) ≤ (l.length : Int) by omega), decide_eq_true (show (l.length : Int) ≤ 12 by omega)]
  have : l.any bad = false := List.any_eq_false.2 fun x hx => by
    have := h x hx
    unfold bad
    rw [decide_eq_false (by omega), decide_eq_false (by omega)]; decide
  rw [this]; rfl

theorem mem_set2 {l : List Int} {i j : Nat} {a b x : Int} (h : x ∈ (l.set i a).set j b) : x ∈ l ∨ x = a ∨ x = b := by
  rcases List.mem_or_eq_of_mem_set h with h | h
  · rcases List.mem_or_eq_of_mem_set h with h | h
    · exact .inl h
    · exact .inr (.inl h)
  · exact .inr (.inr h)

section
variable {l : List Int} (hb : ∀ x ∈ l, 0 ≤ x ∧ x ≤ 2147483647) {f t : Nat} (hf : f < l.length) (ht : t < l.length) (hne : f ≠ t) {c : Int} (hc1 : 1 ≤ c) (hc2 : c ≤ g l f)
theorem slide_len : (slideS l f t c).length = l.length := by unfold slideS; rw [List.length_set, List.length_set]
theorem bump_len : (bumpS l f t c).length = l.length := by unfold bumpS; rw [List.length_set, List.length_set]
include hf ht hne in
theorem slide_get {i : Nat} (hi : i < l.length) : (slideS l f t c)[i]? = some (if i = t then g l t + c else if i = f then g l f - c else g l i) := by
  unfold slideS
  rw [List.getElem?_set, List.getElem?_set]
  by_cases e : i = t
  · subst e; rw [if_pos rfl, if_pos rfl, if_pos (by rw [List.length_set]; exact hi)]
  · rw [if_neg (fun h => e h.symm), if_neg e]
    by_cases d : i = f
    · subst d; rw [if_pos rfl, if_pos rfl, if_pos hi]
    · rw [if_neg (fun h => d h.symm), if_neg d, g_some hi]
include hf in
theorem bump_get (hx : f ≠ nxt l.length t) {i : Nat} (hi : i < l.length) : (bumpS l f t c)[i]? = some (if i = nxt l.length t then g l (nxt l.length t) + g l t else if i = f then g l f - c else g l i) := by
  unfold bumpS
  rw [List.getElem?_set, List.getElem?_set]
  by_cases e : i = nxt l.length t
  · subst e; rw [if_pos rfl, if_pos rfl, if_pos (by rw [List.length_set]; exact hi)]
  · rw [if_neg (fun h => e h.symm), if_neg e]
    by_cases d : i = f
    · subst d; rw [if_pos rfl, if_pos rfl, if_pos hi]
    · rw [if_neg (fun h => d h.symm), if_neg d, g_some hi]

include hb hf ht hne hc1 hc2 in
theorem slide_fair (hn : l.length ≤ 12) : fair (slideS l f t c) 1 12 = decide (c ≤ 2147483647 - g l t) := by
  have b0 := g_bound hb hf
  have b1 := g_bound hb ht
  by_cases h : c ≤ 2147483647 - g l t
  · rw [decide_eq_true h]
    refine fair_of (by rw [slide_len]; omega) (by rw [slide_len]; exact hn) fun x hx => ?_
    rcases mem_set2 hx with h | h | h
    · exact hb x h
    · omega
    · omega
  · rw [decide_eq_false h]
    have e : g (slideS l f t c) t = g l t + c := by
      have := slide_get hf ht hne (c := c) ht
      rw [if_pos rfl] at this
      rw [g_some (by rw [slide_len]; exact ht)] at this
      exact Option.some.inj this
    exact unfair_of (by rw [slide_len]; exact ht) (.inr (by rw [e]; omega)) 1 12
include hb hf ht hne hc1 hc2 in
theorem jump_fair (hn : l.length ≤ 12) (hx : f ≠ nxt l.length t) : fair (jumpS l f t c) 1 12 = decide (g l t ≤ 2147483647 - g l (nxt l.length t)) := by
  have b0 := g_bound hb hf
  have b1 := g_bound hb ht
  have hxl := nxt_lt ht
  have b2 := g_bound hb hxl
  have len : (jumpS l f t c).length = l.length := by unfold jumpS; rw [build_length f t c _ hne (by rw [bump_len]; exact hf) (by rw [bump_len]; exact ht), bump_len]
  by_cases h : g l t ≤ 2147483647 - g l (nxt l.length t)
  · rw [decide_eq_true h]
    refine fair_of (by rw [len]; omega) (by rw [len]; exact hn) fun x hx => ?_
    unfold jumpS at hx
    rcases mem_build f t c _ 0 x hx with h | ⟨j, hj, _⟩
    · omega
    · have := List.mem_of_getElem? hj
      rcases mem_set2 this with h | h | h
      · exact hb x h
      · omega
      · omega
  · rw [decide_eq_false h]
    have hnt : nxt l.length t ≠ t := by unfold nxt; split <;> omega
    have hm : g l (nxt l.length t) + g l t ∈ jumpS l f t c := by
      unfold jumpS
      refine build_mem f t c _ 0 (nxt l.length t) _ ?_ (by omega)
      rw [bump_get hf hx hxl, if_pos rfl]
    obtain ⟨i, hi, e⟩ := mem_g hm
    exact unfair_of hi (.inr (by rw [e]; omega)) 1 12
end

theorem slide_loop {R : Type} {l : List Int} (hn : l.length ≤ 12) (hb : ∀ x ∈ l, 0 ≤ x ∧ x ≤ 2147483647) {f t : Nat} (hf : f < l.length) (ht : t < l.length) (hne : f ≠ t) {c : Int} (hc1 : 1 ≤ c) (hc2 : c ≤ g l f) (K : List Int → Option R) :
    ∀ (n i : Nat) (out : List Int), l.length - i < n → i ≤ l.length → out.length ≤ i →
    l17_4 FUEL K n (l, ((l.length : Nat) : Int), (i : Int), (1, ((f : Int), ((t : Int), c))), out) = K (out ++ (slideS l f t c).drop i) := by
  have b0 := g_bound hb hf
  have b1 := g_bound hb ht
  intro n
  induction n with
  | zero => intro i out h; omega
  | succ n ih =>
    intro i out h hi ho
    by_cases e : i < l.length
    · have hs : l17_4 FUEL K (n + 1) (l, ((l.length : Nat) : Int), (i : Int), (1, ((f : Int), ((t : Int), c))), out) = l17_4 FUEL K n (l, ((l.length : Nat) : Int), ((i + 1 : Nat) : Int), (1, ((f : Int), ((t : Int), c))), out ++ [if i = t then g l t + c else if i = f then g l f - c else g l i]) := by
        refine (condT (decide_eq_true (show (i : Int) < ((l.length : Nat) : Int) by omega))).trans ?_
        simp only [j17_3, j17_0, if_pos (Int.natCast_nonneg i), Int.toNat_natCast, g_some e, decide_true, cond_true, natDec, wrapNext i (by omega)]
        by_cases e1 : i = f
        · have e2 : ¬ i = t := by omega
          rw [decide_eq_true e1, decide_eq_false e2, if_neg e2, if_pos e1]
          simp only [cond_true, cond_false]
          rw [if_pos (by simp; omega), wrapI (by subst e1; omega) (by subst e1; omega), e1]
        · rw [decide_eq_false e1]
          by_cases e2 : i = t
          · rw [decide_eq_true e2, if_pos e2]
            simp only [cond_true, cond_false]
            have hw : IntKind.wrap .i64 (g l i + c) = g l t + c := by rw [e2]; exact wrapI (by omega) (by omega)
            rw [if_pos (by simp; omega), hw]
          · rw [decide_eq_false e2, if_neg e2, if_neg e1]
            simp only [cond_false]
            rw [if_pos (by simp; omega)]
      rw [hs, ih (i + 1) _ (by omega) (by omega) (by simp; omega)]
      have hg := slide_get hf ht hne (c := c) e
      have hlt : i < (slideS l f t c).length := by rw [slide_len]; exact e
      rw [List.drop_eq_getElem_cons hlt, List.append_assoc]
      rw [List.getElem?_eq_getElem hlt] at hg
      rw [Option.some.inj hg]; rfl
    · obtain rfl : i = l.length := by omega
      rw [List.drop_eq_nil_of_le (by rw [slide_len]; exact Nat.le_refl _), List.append_nil]
      exact condF (decide_eq_false (Int.lt_irrefl _))

theorem jump_loop {R : Type} {l : List Int} (hn : l.length ≤ 12) (hb : ∀ x ∈ l, 0 ≤ x ∧ x ≤ 2147483647) {f t : Nat} (hf : f < l.length) (ht : t < l.length) (hne : f ≠ t) (hx : f ≠ nxt l.length t) {c : Int} (hc1 : 1 ≤ c) (hc2 : c ≤ g l f) (K : List Int → Option R) :
    ∀ (n i : Nat) (out : List Int), l.length - i < n → i ≤ l.length → out.length ≤ 2 * i →
    l17_4 FUEL K n (l, ((l.length : Nat) : Int), (i : Int), (2, ((f : Int), ((t : Int), c))), out) = K (out ++ build f t c ((bumpS l f t c).drop i) i) := by
  have b0 := g_bound hb hf
  have b1 := g_bound hb ht
  have hxl := nxt_lt ht
  have b2 := g_bound hb hxl
  have hnt : nxt l.length t ≠ t := by unfold nxt; split <;> omega
  intro n
  induction n with
  | zero => intro i out h; omega
  | succ n ih =>
    intro i out h hi ho
    by_cases e : i < l.length
    · have hg := bump_get hf hx (c := c) e
      have hlt : i < (bumpS l f t c).length := by rw [bump_len]; exact e
      rw [List.getElem?_eq_getElem hlt] at hg
      have hg := Option.some.inj hg
      have hs : l17_4 FUEL K (n + 1) (l, ((l.length : Nat) : Int), (i : Int), (2, ((f : Int), ((t : Int), c))), out) = l17_4 FUEL K n (l, ((l.length : Nat) : Int), ((i + 1 : Nat) : Int), (2, ((f : Int), ((t : Int), c))), out ++ (bif decide (i = t) then [] else bif decide (i = f) then [c, (bumpS l f t c)[i]] else [(bumpS l f t c)[i]])) := by
        refine (condT (decide_eq_true (show (i : Int) < ((l.length : Nat) : Int) by omega))).trans ?_
        simp only [j17_3, j17_2, j17_1, p32_run ht hn, if_pos (Int.natCast_nonneg i), if_pos (Int.natCast_nonneg t), Int.toNat_natCast, g_some e, g_some ht, natDec, wrapNext i (by omega), hg]
        rw [show decide ((2 : Int) = 1) = false from rfl]
        simp only [cond_false]
        by_cases e2 : i = t
        · have e1 : ¬ i = f := by omega
          rw [decide_eq_false e1, decide_eq_true e2]
          simp only [cond_true, cond_false, List.append_nil]
        · rw [decide_eq_false e2]
          by_cases e3 : i = nxt l.length t
          · have e1 : ¬ i = f := by omega
            have hw : IntKind.wrap .i64 (g l i + g l t) = g l (nxt l.length t) + g l t := by rw [← e3]; rw [← e3] at b2; exact wrapI (by omega) (by omega)
            rw [decide_eq_false e1, decide_eq_true e3, if_pos e3]
            simp only [cond_true, cond_false]
            rw [if_pos (by simp; omega), hw]
          · rw [decide_eq_false e3, if_neg e3]
            by_cases e1 : i = f
            · have hw : IntKind.wrap .i64 (g l i - c) = g l f - c := by rw [e1]; exact wrapI (by omega) (by omega)
              rw [decide_eq_true e1, if_pos e1]
              simp only [cond_true, cond_false]
              rw [if_pos (by simp; omega), if_pos (by simp; omega), hw, List.append_assoc]; rfl
            · rw [decide_eq_false e1, if_neg e1]
              simp only [cond_false]
              rw [if_pos (by simp; omega)]
      rw [hs, ih (i + 1) _ (by omega) (by omega) (by cases decide (i = t) <;> cases decide (i = f) <;> simp <;> omega), List.drop_eq_getElem_cons hlt, List.append_assoc]
      rfl
    · obtain rfl : i = l.length := by omega
      rw [List.drop_eq_nil_of_le (by rw [bump_len]; exact Nat.le_refl _)]
      rw [show build f t c [] l.length = [] from rfl, List.append_nil]
      exact condF (decide_eq_false (Int.lt_irrefl _))

theorem chk {R : Type} {l : List Int} (m : MV) (a J : Option R) :
    (bif (decide (m.2.1 < (0 : Int))) then a else (bif (decide (((List.length l : Nat) : Int) ≤ m.2.1)) then a else (bif (decide (m.2.2.1 < (0 : Int))) then a else (bif (decide (((List.length l : Nat) : Int) ≤ m.2.2.1)) then a else (bif (decide (m.2.1 = m.2.2.1)) then a else (bif (decide (m.2.2.2 < (1 : Int))) then a else (if 0 ≤ m.2.1 then (match (l)[Int.toNat m.2.1]? with | some y4 => (bif (decide (y4 < m.2.2.2)) then a else J) | none => none) else none)))))))
    = bif inS l m then J else a := by
  unfold inS
  by_cases a1 : m.2.1 < 0
  · rw [decide_eq_true a1]; rfl
  by_cases a2 : ((l.length : Nat) : Int) ≤ m.2.1
  · rw [decide_eq_false a1, decide_eq_true a2]; rfl
  by_cases a3 : m.2.2.1 < 0
  · rw [decide_eq_false a1, decide_eq_false a2, decide_eq_true a3]; rfl
  by_cases a4 : ((l.length : Nat) : Int) ≤ m.2.2.1
  · rw [decide_eq_false a1, decide_eq_false a2, decide_eq_false a3, decide_eq_true a4]; rfl
  by_cases a5 : m.2.1 = m.2.2.1
  · rw [decide_eq_false a1, decide_eq_false a2, decide_eq_false a3, decide_eq_false a4, decide_eq_true a5]; rfl
  by_cases a6 : m.2.2.2 < 1
  · rw [decide_eq_false a1, decide_eq_false a2, decide_eq_false a3, decide_eq_false a4, decide_eq_false a5, decide_eq_true a6]; rfl
  have hlt : Int.toNat m.2.1 < l.length := by omega
  rw [decide_eq_false a1, decide_eq_false a2, decide_eq_false a3, decide_eq_false a4, decide_eq_false a5, decide_eq_false a6]
  simp only [cond_false, if_pos (show (0 : Int) ≤ m.2.1 by omega), g_some hlt, Bool.not_false, Bool.true_and]
  cases decide (g l (Int.toNat m.2.1) < m.2.2.2) <;> rfl

theorem apply17 {l : List Int} (hn : l.length ≤ 12) (hb : ∀ x ∈ l, 0 ≤ x ∧ x ≤ 2147483647) (m : MV) (fr : fair l 1 12 = true) : p17 FUEL (l, m) = some (applyS l m) := by
  -- the loop and what follows
  have go : ∀ (f t : Nat) (k c : Int), (k = 1 ∨ k = 2) → f < l.length → t < l.length → f ≠ t → 1 ≤ c → c ≤ g l f →
      j17_5 FUEL (fun (x94, x95) => some (x94, x95)) (l, ((l.length : Nat) : Int), (k, ((f : Int), ((t : Int), c)))) = some (bif roomS l k t c (besideS l.length f t) then (0, bif decide (k = 1) then slideS l f t c else jumpS l f t c) else (172, [])) := by
    intro f t k c hk hf ht hne hc1 hc2
    simp only [j17_5, p33_run hf ht hn]
    rcases hk with hk | hk
    · subst hk
      unfold roomS
      rw [decide_eq_true (show (1 : Int) = 1 from rfl)]
      cases hbs : besideS l.length f t with
      | false => rfl
      | true =>
        have e := slide_loop (R := Int × List Int) hn hb hf ht hne hc1 hc2 (fun x92 => (match p23b FUEL (x92, 1, 12) with | some z93 => (bif (!z93) then (some ((172 : Int), ([] : List Int))) else (some ((0 : Int), x92))) | none => none)) FUEL 0 [] (by have := big; omega) (Nat.zero_le _) (Nat.zero_le _)
        simp only [List.nil_append, List.drop_zero, p23b_eq (slideS l f t c) (by rw [slide_len]; omega), slide_fair hb hf ht hne hc1 hc2 hn] at e
        simp only [cond_true, Bool.true_and]
        refine (condF (by rfl)).trans (e.trans ?_)
        cases decide (c ≤ 2147483647 - g l t) <;> rfl
    · subst hk
      unfold roomS
      rw [decide_eq_false (show ¬ (2 : Int) = 1 by decide), decide_eq_true (show (2 : Int) = 2 from rfl)]
      cases hbs : besideS l.length f t with
      | true => rfl
      | false =>
        have hx : f ≠ nxt l.length t := by
          intro e
          unfold besideS at hbs
          rw [decide_eq_false hne, decide_eq_true e.symm, Bool.or_true] at hbs; cases hbs
        have len : (jumpS l f t c).length = l.length := by unfold jumpS; rw [build_length f t c _ hne (by rw [bump_len]; exact hf) (by rw [bump_len]; exact ht), bump_len]
        have e := jump_loop (R := Int × List Int) hn hb hf ht hne hx hc1 hc2 (fun x92 => (match p23b FUEL (x92, 1, 12) with | some z93 => (bif (!z93) then (some ((172 : Int), ([] : List Int))) else (some ((0 : Int), x92))) | none => none)) FUEL 0 [] (by have := big; omega) (Nat.zero_le _) (Nat.zero_le _)
        have ej : build f t c (List.drop 0 (bumpS l f t c)) 0 = jumpS l f t c := rfl
        rw [ej] at e
        simp only [List.nil_append, p23b_eq (jumpS l f t c) (by rw [len]; omega), jump_fair hb hf ht hne hc1 hc2 hn hx] at e
        simp only [cond_false, cond_true, Bool.not_false, Bool.true_and]
        refine (condF (by rfl)).trans (e.trans ?_)
        cases decide (g l t ≤ 2147483647 - g l (nxt l.length t)) <;> rfl
  simp only [p17, p23_eq l (by omega), fr, Bool.not_true, cond_false]
  unfold applyS mayS
  -- the form behind the kind
  have fin : (m.1 = 1 ∨ m.1 = 2) → (bif inS l m then j17_5 FUEL (fun (x94, x95) => some (x94, x95)) (l, ((l.length : Nat) : Int), m) else some (172, [])) = some (bif inS l m && roomS l m.1 (Int.toNat m.2.2.1) m.2.2.2 (besideS l.length (Int.toNat m.2.1) (Int.toNat m.2.2.1)) then (0, doneS l m) else (172, [])) := by
    intro hk
    cases hi : inS l m with
    | false => rfl
    | true =>
      obtain ⟨f, t, e1, e2, hf, ht, hne, hc1, hc2⟩ := inS_inv hi
      obtain ⟨k, f', t', c⟩ := m
      simp only at e1 e2 hc1 hc2 hk
      subst e1 e2
      simp only [Bool.true_and, cond_true, Int.toNat_natCast, doneS]
      exact go f t k c hk hf ht hne hc1 hc2
  by_cases h1 : m.1 = 1
  · rw [decide_eq_true h1]
    refine Eq.trans ?_ (fin (.inl h1))
    exact (condF rfl).trans (chk (l := l) m (some (172, [])) (j17_5 FUEL (fun (x94, x95) => some (x94, x95)) (l, ((l.length : Nat) : Int), m)))
  · rw [decide_eq_false h1]
    by_cases h2 : m.1 = 2
    · rw [decide_eq_true h2]
      refine Eq.trans ?_ (fin (.inr h2))
      exact (condT rfl).trans ((condF rfl).trans (chk (l := l) m (some (172, [])) (j17_5 FUEL (fun (x94, x95) => some (x94, x95)) (l, ((l.length : Nat) : Int), m))))
    · rw [decide_eq_false h2]
      unfold roomS
      rw [decide_eq_false h1, decide_eq_false h2]
      cases inS l m <;> rfl

theorem apply_both (l : List Int) (hl : l.length ≤ 9223372036854775806) (m : MV) : ∃ y, p15 FUEL (l, m) = some y ∧ p17 FUEL (l, m) = some y ∧ y.2.length ≤ 12 := by
  cases fr : fair l 1 12 with
  | false =>
    exact ⟨(171, []), by simp only [p15, p22_eq l hl, fr]; rfl, by simp only [p17, p23_eq l hl, fr]; rfl, by simp⟩
  | true =>
    obtain ⟨h1, hn, hb⟩ := fair_12 fr
    refine ⟨_, apply15 hn hb h1 m fr, apply17 hn hb m fr, ?_⟩
    unfold applyS
    cases hm : mayS l m with
    | false => simp
    | true =>
      unfold mayS at hm
      rw [Bool.and_eq_true] at hm
      obtain ⟨f, t, e1, e2, hf, ht, hne, hc1, hc2⟩ := inS_inv hm.1
      unfold doneS
      simp only [e1, e2, Int.toNat_natCast]
      cases decide (m.1 = 1)
      · show (jumpS l f t m.2.2.2).length ≤ 12
        unfold jumpS
        rw [build_length f t _ _ hne (by rw [bump_len]; exact hf) (by rw [bump_len]; exact ht), bump_len]; exact hn
      · show (slideS l f t m.2.2.2).length ≤ 12
        rw [slide_len]; exact hn

theorem same_run (l : List Int) (hl : l.length ≤ 12) : p18b FUEL (l, l) = some true := by
  have key := for_loop (S := Unit) (L := fun n y => l18b_0 FUEL (fun x9 => some x9) (fun _ => some true) n y) (step := fun F => s18b_0 FUEL F (fun x9 => some x9) (fun _ => some true)) (fun n x => rfl)
    (fun i _ => (l, l, (i : Int))) l.length (fun _ _ => True) (fun _ _ => .inr ()) (fun _ => some true)
    (fun F i _ hi _ => by
      refine (condT (decide_eq_true (show (i : Int) < ((l.length : Nat) : Int) by omega))).trans ?_
      simp only [if_pos (Int.natCast_nonneg i), Int.toNat_natCast, g_some hi, decide_true, Bool.not_true, cond_false, wrapNext i (by omega)])
    (fun F _ _ => condF (decide_eq_false (Int.lt_irrefl _))) (fun _ _ _ _ _ _ => trivial) l.length 0 () FUEL (Nat.zero_add _) (by have := big; omega) trivial
  rw [forI_fold] at key
  simp only [p18b, decide_true, Bool.not_true, cond_false]
  exact key
end Go.Am.Ytbbbdckbcicmbaa
