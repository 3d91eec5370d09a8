/- Plain laws of the printed functions of the audit: when there is an order. -/
import Derived.Test.YtmilfdplgemnfaaAuditE
namespace Go.Am.Ytmilfdplgemnfaa
theorem nodup_bound : ∀ (n : Nat) (l : List Nat), l.Nodup → (∀ x ∈ l, x < n) → l.length ≤ n
  | 0, l, _, h => by
    cases l with
    | nil => exact Nat.le_refl _
    | cons x l => have := h x (by simp); omega
  | n + 1, l, hn, h => by
    by_cases c : n ∈ l
    · have h1 := nodup_bound n (l.erase n) (hn.erase n) fun x hx => by
        have h2 := (List.Nodup.mem_erase_iff hn).1 hx
        have := h x h2.2
        have h3 := h2.1
        omega
      rw [List.length_erase_of_mem c] at h1
      omega
    · have := nodup_bound n l hn fun x hx => by
        have h1 := h x hx
        have h2 : x ≠ n := fun e => c (e ▸ hx)
        omega
      omega
theorem argmin {α : Type} (f : α → Nat) : ∀ (l : List α), l ≠ [] → ∃ m ∈ l, ∀ x ∈ l, f m ≤ f x
  | [], h => absurd rfl h
  | [x], _ => ⟨x, by simp, fun y hy => by simp at hy; subst hy; exact Nat.le_refl _⟩
  | x :: y :: l, _ => by
    obtain ⟨m, hm, h⟩ := argmin f (y :: l) (by simp)
    by_cases c : f x ≤ f m
    · exact ⟨x, by simp, fun z hz => by
        rcases List.mem_cons.1 hz with rfl | hz
        · exact Nat.le_refl _
        · exact Nat.le_trans c (h z hz)⟩
    · exact ⟨m, List.mem_cons_of_mem _ hm, fun z hz => by
        rcases List.mem_cons.1 hz with rfl | hz
        · omega
        · exact h z hz⟩
theorem ord_nodup {h : List Done} : ∀ {T : List Nat}, Ord h T → T.Nodup ∧ ∀ x ∈ T, x < h.length := by
  intro T hT
  refine ⟨?_, fun x hx => ?_⟩
  · rw [List.nodup_iff_pairwise_ne, List.pairwise_iff_getElem]
    intro i j hi hj hij e
    have hs : T = T.take j ++ T[j] :: T.drop (j + 1) := by rw [← List.drop_eq_getElem_cons hj, List.take_append_drop]
    refine (hT _ _ _ hs).2.1 ?_
    rw [← e, List.mem_take_iff_getElem]
    exact ⟨i, by omega, rfl⟩
  · obtain ⟨P, Q, e⟩ := List.append_of_mem hx
    exact (hT P x Q e).1
theorem ord_snoc {h : List Done} {S : List Nat} (hS : Ord h S) {z : Nat} (hz : z < h.length) (f1 : z ∉ S) (f2 : ∀ q, q < h.length → q ≠ z → q ∉ S → A h q z = false) : Ord h (S ++ [z]) := by
  intro P y Q hPQ
  rcases List.append_eq_append_iff.1 hPQ with ⟨a, e1, e2⟩ | ⟨a, e1, e2⟩
  · cases a with
    | nil =>
      simp only [List.nil_append, List.append_nil] at e1 e2
      cases e2
      subst e1
      exact ⟨hz, f1, f2⟩
    | cons b a =>
      simp only [List.cons_append, List.cons.injEq] at e2
      have := e2.2
      cases a <;> cases this
  · cases a with
    | nil =>
      simp only [List.nil_append, List.append_nil] at e1 e2
      cases e2
      subst e1
      exact ⟨hz, f1, f2⟩
    | cons b a =>
      simp only [List.cons_append, List.cons.injEq] at e2
      obtain ⟨rfl, e2⟩ := e2
      exact hS P _ a e1
theorem all_in {n : Nat} {T : List Nat} (h1 : T.Nodup) (h2 : ∀ x ∈ T, x < n) (h3 : T.length = n) {p : Nat} (hp : p < n) : p ∈ T := by
  by_cases c : p ∈ T
  · exact c
  · exfalso
    have := nodup_bound n (p :: T) (List.nodup_cons.2 ⟨c, h1⟩) fun x hx => by
      rcases List.mem_cons.1 hx with rfl | hx
      · exact hp
      · exact h2 x hx
    simp only [List.length_cons] at this
    omega
/-- There is a way to have each behind all that must be ahead of it. -/
def Good (h : List Done) : Prop := ∃ r : Done → Nat, ∀ a ∈ h, ∀ b ∈ h, a.1 ≠ b.1 → ahP a b = true → r a < r b
theorem good_mem {h g : List Done} (e : ∀ d, d ∈ g → d ∈ h) (G : Good h) : Good g := by
  obtain ⟨r, hr⟩ := G
  exact ⟨r, fun a ha b hb => hr a (e a ha) b (e b hb)⟩
theorem getD_of {h : List Done} {q : Nat} (hq : q < h.length) : h.getD q (0, 0, 0, []) = h[q] := by
  rw [List.getD_eq_getElem?_getD, List.getElem?_eq_getElem hq]; rfl
theorem ids_inj {h : List Done} (hn : (h.map (·.1)).Nodup) {p q : Nat} (hp : p < h.length) (hq : q < h.length) (e : h[p].1 = h[q].1) : p = q := by
  have h1 : (h.map (·.1))[p]? = some h[p].1 := by rw [List.getElem?_map, List.getElem?_eq_getElem hp]; rfl
  have h2 : (h.map (·.1))[q]? = some h[p].1 := by rw [List.getElem?_map, List.getElem?_eq_getElem hq, e]; rfl
  exact (List.getElem?_inj (by rw [List.length_map]; exact hp) hn).1 (h1.trans h2.symm)
theorem good_of_kahn {h : List Done} (hn : (h.map (·.1)).Nodup) {T : List Nat} (hk : kahn h h.length [] = some T) : Good h := by
  obtain ⟨hT, hl⟩ := kahn_ord h _ _ _ (ord_nil h) hk
  simp only [List.length_nil, Nat.zero_add] at hl
  obtain ⟨t1, t2⟩ := ord_nodup hT
  refine ⟨fun d => (T.map fun i => (h.getD i (0, 0, 0, [])).1).idxOf d.1, fun a ha b hb hab hah => ?_⟩
  obtain ⟨p, hp, rfl⟩ := List.getElem_of_mem ha
  obtain ⟨q, hq, rfl⟩ := List.getElem_of_mem hb
  have pq : p ≠ q := fun e => hab (by subst e; rfl)
  have mp := all_in t1 t2 hl hp
  have mq := all_in t1 t2 hl hq
  -- the place of q, and that p stands ahead of it
  obtain ⟨P, Q, e⟩ := List.append_of_mem mq
  have hz := hT P q Q e
  have pP : p ∈ P := by
    by_cases c : p ∈ P
    · exact c
    · have := hz.2.2 p hp pq c
      unfold A at this
      rw [getD_of hp, getD_of hq, hah] at this
      cases this
  have key : ∀ (z : Nat) (hz : z < h.length), (h.getD z (0, 0, 0, [])).1 = h[z].1 := fun z hz => by rw [getD_of hz]
  show (T.map _).idxOf h[p].1 < (T.map _).idxOf h[q].1
  have e2 : T.map (fun i => (h.getD i (0, 0, 0, [])).1) = P.map (fun i => (h.getD i (0, 0, 0, [])).1) ++ h[q].1 :: Q.map (fun i => (h.getD i (0, 0, 0, [])).1) := by
    rw [e, List.map_append, List.map_cons, key q hq]
  have inP : h[p].1 ∈ P.map (fun i => (h.getD i (0, 0, 0, [])).1) := List.mem_map.2 ⟨p, pP, key p hp⟩
  have ninP : h[q].1 ∉ P.map (fun i => (h.getD i (0, 0, 0, [])).1) := by
    intro g
    obtain ⟨z, hzP, e3⟩ := List.mem_map.1 g
    have hzl : z < h.length := t2 z (by rw [e]; simp [hzP])
    rw [key z hzl] at e3
    have := ids_inj hn hzl hq e3
    subst this
    exact hz.2.1 hzP
  rw [e2, List.idxOf_append, if_pos inP, List.idxOf_append, if_neg ninP]
  have := List.idxOf_lt_length_of_mem inP
  omega
theorem kahn_of_good {h : List Done} (hn : (h.map (·.1)).Nodup) (G : Good h) : ∀ (m : Nat) (S : List Nat), Ord h S → S.length + m = h.length → kahn h m S ≠ none
  | 0, S, _, _ => by simp [kahn]
  | m + 1, S, hS, hl => by
    obtain ⟨s1, s2⟩ := ord_nodup hS
    obtain ⟨r, hr⟩ := G
    -- those that are not placed
    have hne : (List.range h.length).filter (fun j => !S.contains j) ≠ [] := by
      intro e
      rw [List.filter_eq_nil_iff] at e
      have := nodup_bound S.length ((List.range h.length).map fun j => S.idxOf j) ?_ ?_
      · rw [List.length_map, List.length_range] at this
        omega
      · rw [List.nodup_iff_pairwise_ne, List.pairwise_map]
        refine List.Pairwise.imp_of_mem ?_ (List.nodup_iff_pairwise_ne.1 List.nodup_range)
        intro a b ha hb hab e1
        have ia : a ∈ S := by have := e a ha; simpa using this
        have ib : b ∈ S := by have := e b hb; simpa using this
        have la := List.idxOf_lt_length_of_mem ia
        have g1 := List.getElem_idxOf la
        have g2 := List.getElem_idxOf (List.idxOf_lt_length_of_mem ib)
        simp only [e1] at g1
        exact hab (g1.symm.trans g2)
      · intro x hx
        obtain ⟨a, ha, rfl⟩ := List.mem_map.1 hx
        have ia : a ∈ S := by have := e a ha; simpa using this
        exact List.idxOf_lt_length_of_mem ia
    obtain ⟨z, hz, hmin⟩ := argmin (fun j => r (h.getD j (0, 0, 0, []))) _ hne
    rw [List.mem_filter, List.mem_range] at hz
    have h0 : wl h S z = 0 := by
      unfold wl
      rw [if_neg (by simpa using hz.2)]
      have : ind h S z h.length = 0 := by
        unfold ind
        rw [List.countP_eq_zero]
        intro q hq
        rw [List.mem_range] at hq
        by_cases c : q = z
        · simp [c]
        · by_cases d : S.contains q = true
          · rw [d]; simp
          · rw [decide_eq_false c]
            have hm := hmin q (List.mem_filter.2 ⟨List.mem_range.2 hq, by simpa using d⟩)
            cases hA : A h q z
            · simp
            · exfalso
              unfold A at hA
              have := hr _ (getD_mem hq) _ (getD_mem hz.1) (by
                rw [getD_of hq, getD_of hz.1]
                exact fun e => c (ids_inj hn hq hz.1 e)) hA
              omega
      omega
    unfold kahn
    cases hf : (List.range h.length).find? (fun j => decide (0 = wl h S j)) with
    | none =>
      have := List.find?_eq_none.1 hf z (List.mem_range.2 hz.1)
      simp [h0] at this
    | some y =>
      have hy : y < h.length := List.mem_range.1 (List.mem_of_find?_eq_some hf)
      have hy0 : wl h S y = 0 := by
        have := List.find?_some hf
        simpa [eq_comm] using this
      obtain ⟨f1, f2⟩ := free_of hy0
      refine kahn_of_good hn ⟨r, hr⟩ m (S ++ [y]) ?_ (by simp; omega)
      exact ord_snoc hS hy f1 f2
theorem ord_iff {h : List Done} (hn : (h.map (·.1)).Nodup) : kahn h h.length [] ≠ none ↔ Good h := by
  constructor
  · intro e
    cases hk : kahn h h.length [] with
    | none => exact absurd hk e
    | some T => exact good_of_kahn hn hk
  · intro G
    exact kahn_of_good hn G h.length [] (ord_nil h) (by simp)
open Classical in
/-- How it ends. -/
theorem ordB_code (h : List Done) : (ordB h).1 = if formB h = true then (if tracedB h = true ∧ Good h then 0 else 232) else 231 := by
  unfold ordB
  cases hf : formB h
  · rfl
  · have hn : (h.map (·.1)).Nodup := by
      simp only [formB, Bool.and_eq_true, decide_eq_true_eq] at hf
      exact hf.2
    have ho := ord_iff hn
    rw [if_pos rfl]
    cases ht : tracedB h
    · simp
    · simp only [Bool.not_true, cond_false]
      cases hk : kahn h h.length [] with
      | none =>
        have : ¬ Good h := fun G => (ho.2 G) hk
        rw [if_neg fun g => this g.2]
      | some T =>
        have : Good h := ho.1 (by rw [hk]; simp)
        rw [if_pos ⟨trivial, this⟩]
open Classical in
theorem perm_code {h g : List Done} (p : g.Perm h) : (ordB g).1 = (ordB h).1 := by
  have e1 : formB g = formB h := by
    unfold formB
    rw [p.all_eq, decide_eq_decide.2 (p.map _).nodup_iff]
  have e2 : tracedB g = tracedB h := by
    have c : ∀ k, cnt (allItems g) k = cnt (allItems h) k := fun k => (List.Perm.flatMap_right _ p).countP_eq _
    unfold tracedB
    simp only [c]
    exact p.all_eq
  have e3 : Good g ↔ Good h := ⟨good_mem fun d hd => p.mem_iff.2 hd, good_mem fun d hd => p.mem_iff.1 hd⟩
  rw [ordB_code, ordB_code, e1, e2]
  simp only [e3]
end Go.Am.Ytmilfdplgemnfaa
