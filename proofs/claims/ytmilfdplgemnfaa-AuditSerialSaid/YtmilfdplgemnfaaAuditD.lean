/- Plain laws of the printed functions of the audit: what an order is. -/
import Derived.Test.YtmilfdplgemnfaaAuditC
namespace Go.Am.Ytmilfdplgemnfaa
/-- Each stands behind all that must be ahead of it. -/
def Ord (h : List Done) (T : List Nat) : Prop := ∀ P z Q, T = P ++ z :: Q → z < h.length ∧ z ∉ P ∧ ∀ q, q < h.length → q ≠ z → q ∉ P → A h q z = false
theorem free_of {h : List Done} {S : List Nat} {z : Nat} (h0 : wl h S z = 0) : z ∉ S ∧ ∀ q, q < h.length → q ≠ z → q ∉ S → A h q z = false := by
  unfold wl at h0
  split at h0
  · omega
  · rename_i c
    refine ⟨by simpa using c, fun q hq hz hS => ?_⟩
    have h1 : ind h S z h.length = 0 := by omega
    unfold ind at h1
    rw [List.countP_eq_zero] at h1
    have h2 := h1 q (List.mem_range.2 hq)
    have e1 : S.contains q = false := by simpa using hS
    rw [e1, decide_eq_false hz] at h2
    simpa using h2
theorem kahn_ord (h : List Done) : ∀ (m : Nat) (S T : List Nat), Ord h S → kahn h m S = some T → Ord h T ∧ T.length = S.length + m
  | 0, S, T, hS, e => by
    simp only [kahn, Option.some.injEq] at e
    subst e; exact ⟨hS, rfl⟩
  | m + 1, S, T, hS, e => by
    unfold kahn at e
    split at e
    · rename_i z hf
      have hz : z < h.length := List.mem_range.1 (List.mem_of_find?_eq_some hf)
      have h0 : wl h S z = 0 := by
        have := List.find?_some hf
        simpa [eq_comm] using this
      obtain ⟨f1, f2⟩ := free_of h0
      have := kahn_ord h m (S ++ [z]) T (fun P y Q hPQ => by
        rcases List.append_eq_append_iff.1 hPQ with ⟨a, e1, e2⟩ | ⟨a, e1, e2⟩
        · -- P = S ++ a
          cases a with
          | nil =>
            simp only [List.nil_append, List.append_nil] at e1 e2
            cases e2
            subst e1
            exact ⟨hz, f1, f2⟩
          | cons b a =>
            simp only [List.cons_append, List.cons.injEq] at e2
            have := e2.2
            cases a <;> cases this
        · cases a with
          | nil =>
            simp only [List.nil_append, List.append_nil] at e1 e2
            cases e2
            subst e1
            exact ⟨hz, f1, f2⟩
          | cons b a =>
            simp only [List.cons_append, List.cons.injEq] at e2
            obtain ⟨rfl, e2⟩ := e2
            exact hS P _ a e1) e
      exact ⟨this.1, by rw [this.2]; simp; omega⟩
    · cases e
theorem ord_nil (h : List Done) : Ord h [] := fun P z Q e => by cases P <;> cases e
theorem hit_of {b : Done} {x y : Item} (hy : y ∈ b.2.2.2) (hn : (b.2.2.2.map (·.1)).Nodup) (e : y.1 = x.1) (hp : pair x y = true) : hit b x = true := by
  unfold hit
  cases hf : b.2.2.2.find? (fun y => decide (y.1 = x.1)) with
  | none => have := List.find?_eq_none.1 hf y hy; simp [e] at this
  | some y' =>
    have m := List.mem_of_find?_eq_some hf
    have e' : y'.1 = x.1 := by simpa using List.find?_some hf
    have : y' = y := by
      obtain ⟨i, hi⟩ := List.getElem?_of_mem m
      obtain ⟨j, hj⟩ := List.getElem?_of_mem hy
      have hil := (List.getElem?_eq_some_iff.1 hi).1
      have hjl := (List.getElem?_eq_some_iff.1 hj).1
      have : i = j := by
        have h1 : (b.2.2.2.map (·.1))[i]? = some x.1 := by rw [List.getElem?_map, hi, ← e']; rfl
        have h2 : (b.2.2.2.map (·.1))[j]? = some x.1 := by rw [List.getElem?_map, hj, ← e]; rfl
        exact (List.getElem?_inj (by rw [List.length_map]; exact hil) hn).1 (h1.trans h2.symm)
      subst this
      rw [hi] at hj; exact Option.some.inj hj
    subst this; exact hp
theorem ah_of {a b : Done} {x y : Item} (hx : x ∈ a.2.2.2) (hy : y ∈ b.2.2.2) (hn : (b.2.2.2.map (·.1)).Nodup) (e : y.1 = x.1) (hp : pair x y = true) : ahP a b = true := by
  unfold ahP
  rw [show a.2.2.2.any (hit b) = true from List.any_eq_true.2 ⟨x, hx, hit_of hy hn e hp⟩, Bool.or_true]
theorem item_eq {l : List Item} (hn : (l.map (·.1)).Nodup) {x y : Item} (hx : x ∈ l) (hy : y ∈ l) (e : x.1 = y.1) : x = y := by
  obtain ⟨i, hi⟩ := List.getElem?_of_mem hx
  obtain ⟨j, hj⟩ := List.getElem?_of_mem hy
  have hil := (List.getElem?_eq_some_iff.1 hi).1
  have : i = j := by
    have h1 : (l.map (·.1))[i]? = some x.1 := by rw [List.getElem?_map, hi]; rfl
    have h2 : (l.map (·.1))[j]? = some x.1 := by rw [List.getElem?_map, hj, e]; rfl
    exact (List.getElem?_inj (by rw [List.length_map]; exact hil) hn).1 (h1.trans h2.symm)
  subst this
  rw [hi] at hj; exact Option.some.inj hj
/-- What a history's form says of one of it. -/
theorem form_of {h : List Done} (hf : formB h = true) {d : Done} (hd : d ∈ h) : (∀ x ∈ d.2.2.2, 0 ≤ x.1 ∧ x.1 < 64 ∧ x.2.1 < 2147483647) ∧ (d.2.2.2.map (·.1)).Nodup := by
  simp only [formB, Bool.and_eq_true] at hf
  have := List.all_eq_true.1 hf.1 d hd
  simp only [okD, Bool.and_eq_true, decide_eq_true_eq] at this
  refine ⟨fun x hx => ?_, this.2.2⟩
  have := List.all_eq_true.1 this.2.1 x hx
  simp only [inRange, Bool.not_eq_true', Bool.or_eq_false_iff, decide_eq_false_iff_not] at this
  omega
/-- What was read was made. -/
theorem made_of {h : List Done} (ht : tracedB h = true) (hf : formB h = true) (hv : ∀ d ∈ h, ∀ x ∈ d.2.2.2, 0 ≤ x.2.1) {d : Done} (hd : d ∈ h) {x : Item} (hx : x ∈ d.2.2.2) (h0 : 0 < x.2.1) :
    ∃ e ∈ h, ∃ y ∈ e.2.2.2, y.2.2.1 = true ∧ y.1 = x.1 ∧ y.2.1 + 1 = x.2.1 := by
  have := List.all_eq_true.1 (List.all_eq_true.1 ht d hd) x hx
  simp only [okT, Bool.and_eq_true, Bool.not_eq_true', Bool.and_eq_false_iff, decide_eq_false_iff_not] at this
  have h1 : ¬ (cnt (allItems h) (x.1, x.2.1) : Int) = 0 := this.1.resolve_left (fun g => g h0)
  have h2 : 0 < cnt (allItems h) (x.1, x.2.1) := by omega
  unfold cnt at h2
  rw [List.countP_pos_iff] at h2
  obtain ⟨y, hy, hp⟩ := h2
  simp only [Bool.and_eq_true, decide_eq_true_eq, mk, Prod.mk.injEq] at hp
  simp only [allItems, List.mem_flatMap] at hy
  obtain ⟨e, he, hye⟩ := hy
  refine ⟨e, he, y, hye, hp.1, hp.2.1, ?_⟩
  have b1 := (form_of hf he).1 y hye
  have b2 := hv e he y hye
  rw [← hp.2.2, wrapU32 (by omega) (by omega)]
end Go.Am.Ytmilfdplgemnfaa
