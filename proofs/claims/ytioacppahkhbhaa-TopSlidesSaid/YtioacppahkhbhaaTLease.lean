/- Plain laws of lease in the top rows: tables, what is given, what a node owns (written by make.py) -/
import Derived.Test.YtioacppahkhbhaaTOf
import Derived.Test.YtioacppahkhbhaaAmZI
namespace Go.Am.Ytioacppahkhbhaa
open Runs
theorem bigM : 1000 ≤ FUEL := by unfold FUEL; omega
abbrev Tab := Int × (List Int × (List Int × (List Bool × List Int)))
abbrev Dec := Int × (Int × (Int × ((Int × Int) × (Int × Int))))
def nth {α : Type} [Inhabited α] (l : List α) (i : Int) : α := l[i.toNat]?.getD default
theorem nth_get {α : Type} [Inhabited α] {l : List α} {i : Int} (h0 : 0 ≤ i) (h : i < (l.length : Int)) : l[i.toNat]? = some (nth l i) := by
  have h1 : i.toNat < l.length := by omega
  rw [nth, List.getElem?_eq_getElem h1]; rfl
def setAll {α : Type} (l : List α) (ps : List Int) (v : α) : List α := ps.foldl (fun o p => o.set p.toNat v) l
theorem setAll_length {α : Type} (ps : List Int) (v : α) : ∀ l : List α, (setAll l ps v).length = l.length := by
  induction ps with
  | nil => intro l; rfl
  | cons p ps ih => intro l; show (setAll (l.set p.toNat v) ps v).length = _; rw [ih, List.length_set]
theorem setAll_nth {α : Type} [Inhabited α] (ps : List Int) (v : α) (q : Int) (h0 : 0 ≤ q) : ∀ l : List α, q < (l.length : Int) → (∀ p ∈ ps, 0 ≤ p) → nth (setAll l ps v) q = if q ∈ ps then v else nth l q := by
  induction ps with
  | nil => intro l _ _; rfl
  | cons p ps ih =>
    intro l h hp
    show nth (setAll (l.set p.toNat v) ps v) q = _
    rw [ih _ (by rw [List.length_set]; exact h) fun x hx => hp x (List.mem_cons_of_mem _ hx)]
    by_cases hq : q ∈ ps
    · rw [if_pos hq, if_pos (List.mem_cons_of_mem _ hq)]
    · rw [if_neg hq]
      by_cases e : q = p
      · rw [if_pos (by rw [e]; exact List.mem_cons_self), nth, ← e, List.getElem?_set_self (by omega)]; rfl
      · have := hp p List.mem_cons_self
        rw [if_neg (fun g => (List.mem_cons.1 g).elim e hq), nth, nth, List.getElem?_set_ne (by omega)]

def right (a : Int × Int) : Bool := decide ((0 ≤ a.1 ∧ a.1 < 64) ∧ 0 ≤ a.2 ∧ a.2 ≤ 64)
theorem p36_eq (fuel : Nat) (a : Int × Int) : p36 fuel a = some (right a) := by
  simp only [p36, right]
  by_cases h1 : 0 ≤ a.1
  · by_cases h2 : a.1 < 64
    · by_cases h3 : 0 ≤ a.2
      · rw [decide_eq_true h1, decide_eq_true h2, decide_eq_true h3]; simp only [cond_true]; simp [h1, h2, h3]
      · rw [decide_eq_true h1, decide_eq_true h2, decide_eq_false h3, decide_eq_false (show ¬ ((0 ≤ a.1 ∧ a.1 < 64) ∧ 0 ≤ a.2 ∧ a.2 ≤ 64) from fun h => h3 h.2.1)]; rfl
    · rw [decide_eq_true h1, decide_eq_false h2, decide_eq_false (show ¬ ((0 ≤ a.1 ∧ a.1 < 64) ∧ 0 ≤ a.2 ∧ a.2 ≤ 64) from fun h => h2 h.1.2)]; rfl
  · rw [decide_eq_false h1, decide_eq_false (show ¬ ((0 ≤ a.1 ∧ a.1 < 64) ∧ 0 ≤ a.2 ∧ a.2 ≤ 64) from fun h => h1 h.1.1)]; rfl
def upto (a : Int × Int) (n : Nat) : List Int := (List.range n).map fun (j : Nat) => (a.1 + (j : Int)) % 64
def placesN (a : Int × Int) : List Int := upto a a.2.toNat
theorem upto_succ (a : Int × Int) (n : Nat) : upto a (n + 1) = upto a n ++ [(a.1 + (n : Int)) % 64] := by
  unfold upto; rw [List.range_succ, List.map_append]; rfl
theorem upto_length (a : Int × Int) (n : Nat) : (upto a n).length = n := by simp [upto]
theorem upto_in (a : Int × Int) (n : Nat) : ∀ p ∈ upto a n, 0 ≤ p ∧ p < 64 := by
  intro p hp
  simp only [upto, List.mem_map, List.mem_range] at hp
  obtain ⟨j, _, rfl⟩ := hp
  omega
theorem l37_run (fuel : Nat) {R : Type} (k : List Int → Option R) (a : Int × Int) (h0 : 0 ≤ a.1) (h1 : a.1 < 64) (h2 : a.2 ≤ 64) (h3 : 0 ≤ a.2) : ∀ (n j : Nat), (j : Int) ≤ a.2 → a.2.toNat - j < n →
    l37_0 fuel k n (a.2, (j : Int), a, upto a j) = k (placesN a) := by
  intro n
  induction n with
  | zero => intro j _ h; omega
  | succ n ih =>
    intro j hj hn
    show s37_0 fuel (l37_0 fuel k n) k _ = _
    simp only [s37_0]
    by_cases e : (j : Int) < a.2
    · rw [decide_eq_true e, wrapI (n := a.1 + (j : Int)) (by omega) (by omega), tmod_pos (by omega), wrapNext j (by omega)]
      simp only [cond_true]
      rw [if_pos (by rw [upto_length]; simp only [List.length_singleton]; omega), ← upto_succ]
      exact ih (j + 1) (by omega) (by omega)
    · rw [decide_eq_false e]
      simp only [cond_false]
      rw [placesN, show a.2.toNat = j by omega]
theorem bigL : 100 ≤ FUEL := by unfold FUEL; omega
theorem p37_eq (a : Int × Int) : p37 FUEL a = some (if right a then placesN a else []) := by
  have hf := bigL
  simp only [p37, p36_eq]
  cases h : right a
  · rfl
  · have h := of_decide_eq_true h
    simp only [Bool.not_true, cond_false, if_true]
    exact l37_run FUEL _ a h.1.1 h.1.2 h.2.2 h.2.1 FUEL 0 h.2.1 (by omega)
def hasN (a : Int × Int) (p : Int) : Bool := right a && decide (0 ≤ p ∧ p < 64) && decide ((p - a.1 + 64) % 64 < a.2)
theorem mem_places (a : Int × Int) (p : Int) (ha : right a = true) (h0 : 0 ≤ p) (h1 : p < 64) : p ∈ placesN a ↔ hasN a p = true := by
  have h := of_decide_eq_true ha
  simp only [placesN, upto, List.mem_map, List.mem_range, hasN, ha, Bool.true_and, Bool.and_eq_true, decide_eq_true_eq]
  constructor
  · rintro ⟨j, hj, rfl⟩; omega
  · rintro ⟨_, g⟩
    exact ⟨((p - a.1 + 64) % 64).toNat, by omega, by omega⟩

/-- A table whose rows are long enough, and whose owners are nodes. -/
structure Good (t : Tab) : Prop where
  owner : t.2.1.length = 64
  inc : t.2.2.1.length = 64
  member : t.2.2.2.1.length = 12
  renewed : t.2.2.2.2.length = 12
  nodes : ∀ q, 0 ≤ q → q < 64 → 0 ≤ nth t.2.1 q ∧ nth t.2.1 q < 12
def mayN (s : Dec × Bool) (t : Tab) : Int :=
  if nth t.2.2.2.1 s.1.2.1 = false then 143
  else if right s.1.2.2.2.1 = false ∨ s.1.2.2.2.1.2 = 0 then 1
  else if s.1.2.2.1 = s.1.2.1 then 141
  else if ∃ p ∈ placesN s.1.2.2.2.1, nth t.2.1 p ≠ s.1.2.2.1 then 141
  else if s.2 = true ∧ nth t.2.2.2.2 s.1.2.2.1 ≠ s.1.2.2.2.2.2 then 142 else 0
theorem l20_run (fuel : Nat) {R : Type} (k0 : (Int × Tab) → Option R) (k1 : (Tab × (Dec × Bool)) → Option R) (t : Tab) (ht : t.2.1.length = 64) (s : Dec × Bool) (l : List Int) (hl : ∀ p ∈ l, 0 ≤ p ∧ p < 64) : l.length ≤ 64 → ∀ (n i : Nat), i ≤ l.length → l.length - i < n → (∀ p ∈ l.take i, nth t.2.1 p = s.1.2.2.1) →
    l20_1 fuel k0 k1 n (((l.length : Nat) : Int), (i : Int), t, s, l) = if ∃ p ∈ l, nth t.2.1 p ≠ s.1.2.2.1 then k0 (141, t) else k1 (t, s) := by
  intro h64 n
  induction n with
  | zero => intro j _ h; omega
  | succ n ih =>
    intro i hi hn hb
    show s20_1 fuel (l20_1 fuel k0 k1 n) k0 k1 _ = _
    simp only [s20_1]
    by_cases e : i < l.length
    · have hp := hl _ (List.getElem_mem e)
      rw [decide_eq_true (show (i : Int) < ((l.length : Nat) : Int) by omega), if_pos (by omega), Int.toNat_natCast, List.getElem?_eq_getElem e]
      simp only [cond_true]
      rw [if_pos (by omega), nth_get hp.1 (by omega)]
      simp only
      by_cases g : nth t.2.1 l[i] = s.1.2.2.1
      · rw [decide_eq_true g, wrapNext i (by omega)]
        simp only [Bool.not_true, cond_false]
        refine ih (i + 1) (by omega) (by omega) fun p hp => ?_
        rw [List.take_succ_eq_append_getElem e] at hp
        rcases List.mem_append.1 hp with hp | hp
        · exact hb p hp
        · rw [List.mem_singleton.1 hp]; exact g
      · rw [decide_eq_false g, if_pos ⟨_, List.getElem_mem e, g⟩]
        rfl
    · obtain rfl : i = l.length := by omega
      rw [decide_eq_false (by omega)]
      simp only [cond_false]
      rw [if_neg]
      rintro ⟨p, hp, hne⟩
      exact hne (hb p (by rw [List.take_length]; exact hp))
theorem l20_run0 (fuel : Nat) {R : Type} (k0 : (Int × Tab) → Option R) (k1 : (Tab × (Dec × Bool)) → Option R) (t : Tab) (ht : t.2.1.length = 64) (s : Dec × Bool) (l : List Int) (hl : ∀ p ∈ l, 0 ≤ p ∧ p < 64) (h64 : l.length ≤ 64) {n : Nat} (hn : 100 ≤ n) :
    l20_1 fuel k0 k1 n (((l.length : Nat) : Int), (0 : Int), t, s, l) = if ∃ p ∈ l, nth t.2.1 p ≠ s.1.2.2.1 then k0 (141, t) else k1 (t, s) :=
  l20_run fuel k0 k1 t ht s l hl h64 n 0 (by omega) (by omega) fun p hp => by simp at hp
theorem p20_eq (s : Dec × Bool) (t : Tab) (ht : Good t) (h0 : 0 ≤ s.1.2.1) (h1 : s.1.2.1 < 12) : p20 FUEL (s, t) = some (mayN s t, t) := by
  have hf := bigL
  unfold mayN
  simp only [p20]
  rw [if_pos ⟨h0, h1⟩, nth_get h0 (by rw [ht.member]; exact h1)]
  simp only
  cases hm : nth t.2.2.2.1 s.1.2.1
  · rfl
  simp only [Bool.not_true, cond_false, p36_eq, Bool.true_eq_false, if_false]
  cases hr : right s.1.2.2.2.1
  · simp only [Bool.not_false, cond_true, j20_0, true_or, if_true]
  have hr' := of_decide_eq_true hr
  simp only [Bool.not_true, cond_false, Bool.true_eq_false, false_or, j20_0]
  by_cases hs : s.1.2.2.2.1.2 = 0
  · rw [decide_eq_true hs, if_pos hs]; rfl
  rw [decide_eq_false hs, if_neg hs]
  simp only [cond_false]
  by_cases hb : s.1.2.2.1 = s.1.2.1
  · rw [decide_eq_true hb, if_pos hb]; rfl
  rw [decide_eq_false hb, if_neg hb]
  simp only [cond_false, j20_2, p37_eq, hr, if_true]
  have hlen : (placesN s.1.2.2.2.1).length ≤ 64 := by rw [placesN, upto_length]; omega
  rw [l20_run0 FUEL _ _ t ht.owner s (placesN s.1.2.2.2.1) (upto_in _ _) hlen hf]
  by_cases ho : ∃ p ∈ placesN s.1.2.2.2.1, nth t.2.1 p ≠ s.1.2.2.1
  · rw [if_pos ho, if_pos ho]
  rw [if_neg ho, if_neg ho]
  simp only
  have hby : 0 ≤ s.1.2.2.1 ∧ s.1.2.2.1 < 12 := by
    have hmem : s.1.2.2.2.1.1 ∈ placesN s.1.2.2.2.1 := (mem_places _ _ hr hr'.1.1 hr'.1.2).2 (by
      simp only [hasN, hr, Bool.true_and, Bool.and_eq_true, decide_eq_true_eq]; omega)
    have hx : nth t.2.1 s.1.2.2.2.1.1 = s.1.2.2.1 := Classical.byContradiction fun g => ho ⟨_, hmem, g⟩
    rw [← hx]
    exact ht.nodes _ hr'.1.1 hr'.1.2
  cases hfr : s.2
  · simp only [cond_false, Bool.false_eq_true, false_and, if_false]
  simp only [cond_true, true_and]
  rw [if_pos (by exact hby), nth_get hby.1 (by rw [ht.renewed]; exact hby.2)]
  simp only
  by_cases hq : nth t.2.2.2.2 s.1.2.2.1 = s.1.2.2.2.2.2
  · rw [decide_eq_true hq, if_neg (fun g => g hq)]; rfl
  · rw [decide_eq_false hq, if_pos hq]; rfl

def doN (s : Dec × Bool) (t : Tab) : Tab := (t.1, setAll t.2.1 (placesN s.1.2.2.2.1) s.1.2.1, if s.2 then setAll t.2.2.1 (placesN s.1.2.2.2.1) t.1 else t.2.2.1, t.2.2.2)
theorem l21_run (fuel : Nat) {R : Type} (k : Tab → Option R) (s : Dec × Bool) (v : Int) (l : List Int) (hl : ∀ p ∈ l, 0 ≤ p ∧ p < 64) : l.length ≤ 64 → ∀ (n i : Nat) (o c : List Int), o.length = 64 → c.length = 64 → i ≤ l.length → l.length - i < n → ∀ r,
    l21_0 fuel k n (((l.length : Nat) : Int), (i : Int), (v, o, c, r), s, l) = k (v, setAll o (l.drop i) s.1.2.1, if s.2 then setAll c (l.drop i) v else c, r) := by
  intro h64 n
  induction n with
  | zero => intro j _ _ _ _ _ h; omega
  | succ n ih =>
    intro i o c ho hc hi hn r
    show s21_0 fuel (l21_0 fuel k n) k _ = _
    simp only [s21_0]
    by_cases e : i < l.length
    · have hp := hl _ (List.getElem_mem e)
      rw [decide_eq_true (show (i : Int) < ((l.length : Nat) : Int) by omega), if_pos (by omega), Int.toNat_natCast, List.getElem?_eq_getElem e]
      simp only [cond_true]
      rw [if_pos (by omega), nth_get hp.1 (by omega)]
      simp only
      rw [List.drop_eq_getElem_cons e, wrapNext i (by omega)]
      cases hs : s.2
      · simp only [cond_false, Bool.false_eq_true, if_false]
        have := ih (i + 1) (o.set (Int.toNat l[i]) s.1.2.1) c (by rw [List.length_set]; exact ho) hc (by omega) (by omega) r
        rw [hs] at this
        exact this
      · simp only [cond_true, if_true]
        rw [if_pos (by omega), nth_get hp.1 (by omega)]
        have := ih (i + 1) (o.set (Int.toNat l[i]) s.1.2.1) (c.set (Int.toNat l[i]) v) (by rw [List.length_set]; exact ho) (by rw [List.length_set]; exact hc) (by omega) (by omega) r
        rw [hs] at this
        exact this
    · obtain rfl : i = l.length := by omega
      rw [decide_eq_false (by omega)]
      simp only [cond_false, List.drop_length]
      show k _ = k (v, o, (if s.2 = true then c else c), r)
      rw [ite_self]
theorem p21_eq (s : Dec × Bool) (t : Tab) (h1 : t.2.1.length = 64) (h2 : t.2.2.1.length = 64) (hr : right s.1.2.2.2.1 = true) : p21 FUEL (s, t) = some (doN s t) := by
  have hf := bigL
  have hr' := of_decide_eq_true hr
  have hlen : (placesN s.1.2.2.2.1).length ≤ 64 := by rw [placesN, upto_length]; omega
  simp only [p21, p37_eq, hr, if_true]
  obtain ⟨v, o, c, r⟩ := t
  exact l21_run FUEL _ s v (placesN s.1.2.2.2.1) (upto_in _ _) hlen FUEL 0 o c h1 h2 (by omega) (by omega) r

/-- What a decree to give or to take makes of a table. -/
def shiftN (t : Tab) (d : Dec) : Tab × Int := if mayN (d, decide (d.1 = 3)) t = 0 then (doN (d, decide (d.1 = 3)) (t.1 + 1, t.2), 0) else (t, mayN (d, decide (d.1 = 3)) t)
theorem may_right {s : Dec × Bool} {t : Tab} (h : mayN s t = 0) : nth t.2.2.2.1 s.1.2.1 = true ∧ right s.1.2.2.2.1 = true ∧ s.1.2.2.2.1.2 ≠ 0 ∧ s.1.2.2.1 ≠ s.1.2.1 ∧ (∀ p ∈ placesN s.1.2.2.2.1, nth t.2.1 p = s.1.2.2.1) ∧ (s.2 = true → nth t.2.2.2.2 s.1.2.2.1 = s.1.2.2.2.2.2) := by
  unfold mayN at h
  split at h
  · cases h
  rename_i h1
  split at h
  · cases h
  rename_i h2
  split at h
  · cases h
  rename_i h3
  split at h
  · cases h
  rename_i h4
  split at h
  · cases h
  rename_i h5
  refine ⟨by simpa using h1, ?_, fun g => h2 (Or.inr g), h3, fun p hp => Classical.byContradiction fun g => h4 ⟨p, hp, g⟩, fun g => Classical.byContradiction fun g2 => h5 ⟨g, g2⟩⟩
  cases hr : right s.1.2.2.2.1
  · exact absurd (Or.inl hr) h2
  · rfl
theorem shift_eq (t : Tab) (ht : Good t) (d : Dec) (h0 : 0 ≤ d.2.1) (h1 : d.2.1 < 12) (hv0 : 0 ≤ t.1) (hv : t.1 < 2147483647) (hk : d.1 = 2 ∨ d.1 = 3) : p9 FUEL (t, d) = some (shiftN t d) := by
  have e : j9_0 FUEL (fun (x17, x18) => (some (x18, x17))) (fun (x19, x20) => (some (x20, (0 : Int)))) (true, t, d, ((0 : Int), ((List.replicate 64 (0 : Int)), ((List.replicate 64 (0 : Int)), ((List.replicate 12 false), (List.replicate 12 (0 : Int)))))), ((IntKind.wrap .u32 (t.1 + (1 : Int))), t.2)) = some (shiftN t d) := by
    unfold shiftN
    simp only [j9_0, cond_true]
    rw [p20_eq (d, decide (d.1 = 3)) t ht h0 h1]
    simp only
    by_cases g : mayN (d, decide (d.1 = 3)) t = 0
    · rw [decide_eq_true g, if_pos g, wrapU32 (by omega) (by omega), p21_eq (d, decide (d.1 = 3)) (t.1 + 1, t.2) ht.owner ht.inc (may_right g).2.1]
      rfl
    · rw [decide_eq_false g, if_neg g]
      rfl
  simp only [p9]
  rw [decide_eq_false (by omega), decide_eq_false (by omega), decide_eq_false (by omega), if_pos ⟨h0, h1⟩, nth_get h0 (by rw [ht.member]; exact h1)]
  simp only [cond_false]
  rcases hk with hk | hk
  · rw [hk]
    simp only [show decide ((2 : Int) = 1) = false from rfl, show decide ((2 : Int) = 4) = false from rfl, show decide ((2 : Int) = 5) = false from rfl, show decide ((2 : Int) = 2) = true from rfl, cond_false, cond_true]
    exact e
  · rw [hk]
    simp only [show decide ((3 : Int) = 1) = false from rfl, show decide ((3 : Int) = 4) = false from rfl, show decide ((3 : Int) = 5) = false from rfl, show decide ((3 : Int) = 2) = false from rfl, show decide ((3 : Int) = 3) = true from rfl, cond_false]
    exact e
/-- The table of some nodes. -/
def newN (n : Nat) : Tab := (1, (List.range 64).map (fun p => ((p * n / 64 : Nat) : Int)), List.replicate 64 1, (List.range 12).map (fun i => decide (i < n)), List.replicate 12 0)
theorem p6_eq (n : Nat) (h0 : 4 ≤ n) (h1 : n ≤ 12) : p6 FUEL ((n : Nat) : Int) = some (newN n, 0) := by
  obtain rfl | rfl | rfl | rfl | rfl | rfl | rfl | rfl | rfl : n = 4 ∨ n = 5 ∨ n = 6 ∨ n = 7 ∨ n = 8 ∨ n = 9 ∨ n = 10 ∨ n = 11 ∨ n = 12 := by omega
  all_goals kernel_rfl
theorem new_owner (n : Nat) (q : Int) (h0 : 0 ≤ q) (h1 : q < 64) : nth (newN n).2.1 q = ((q.toNat * n / 64 : Nat) : Int) := by
  show (((List.range 64).map (fun p => ((p * n / 64 : Nat) : Int)))[q.toNat]?).getD default = _
  rw [List.getElem?_map, List.getElem?_range (by omega)]; rfl
theorem new_good (n : Nat) (h1 : n ≤ 12) : Good (newN n) where
  owner := by simp [newN]
  inc := by simp [newN]
  member := by simp [newN]
  renewed := by simp [newN]
  nodes q h0 h2 := by
    rw [new_owner n q h0 h2]
    have h3 : q.toNat ≤ 63 := by omega
    have h4 : q.toNat * n ≤ 63 * 12 := Nat.mul_le_mul h3 h1
    omega
open Runs
/-- Which places a node owns. -/
def inL (o : List Int) (v : Int) : List Bool := o.map fun y => decide (y = v)
theorem inL_len (o : List Int) (v : Int) : (inL o v).length = o.length := by simp [inL]
theorem inL_bit (o : List Int) (v : Int) (q : Nat) (h : q < o.length) : bit (inL o v) q = decide (nth o (q : Int) = v) := by
  simp only [bit, inL, List.getElem?_map, nth, Int.toNat_natCast, List.getElem?_eq_getElem h]; rfl
theorem grow (g : List Bool) (o : List Int) (v : Int) (i : Nat) (hi : i < g.length) (ho : i < o.length) (h : ∀ q, q < i → g[q]? = (inL o v)[q]?) : ∀ q, q < i + 1 → (g.set i (decide (o[i] = v)))[q]? = (inL o v)[q]? := by
  intro q hq
  by_cases e : q = i
  · subst e
    rw [List.getElem?_set_self hi, inL, List.getElem?_map, List.getElem?_eq_getElem ho]; rfl
  · rw [List.getElem?_set_ne (fun g => e g.symm)]
    exact h q (by omega)
theorem grown (g : List Bool) (o : List Int) (v : Int) (hg : g.length = 64) (ho : o.length = 64) (h : ∀ q, q < 64 → g[q]? = (inL o v)[q]?) : g = inL o v := by
  refine List.ext_getElem? fun q => ?_
  rcases Nat.lt_or_ge q 64 with e | e
  · exact h q e
  · rw [List.getElem?_eq_none (by omega), List.getElem?_eq_none (by rw [inL_len]; omega)]
theorem l19_run {R : Type} (k : List Bool → Option R) (v : Int) (o : List Int) (ho : o.length = 64) : ∀ (n i : Nat) (g : List Bool), g.length = 64 → i ≤ 64 → 64 - i < n → (∀ q, q < i → g[q]? = (inL o v)[q]?) →
    l19_0 FUEL k n (v, o, (i : Int), g) = k (inL o v) := by
  intro n
  induction n with
  | zero => intro j _ _ _ h; omega
  | succ n ih =>
    intro i g hg hi hn hb
    show s19_0 FUEL (l19_0 FUEL k n) k _ = _
    simp only [s19_0]
    by_cases e : i < 64
    · have hi' : 0 ≤ (i : Int) ∧ (i : Int) < ((64 : Nat) : Int) := by omega
      rw [decide_eq_true (show (i : Int) < 64 by omega), wrapNext i (by omega)]
      simp only [cond_true, if_pos hi', Int.toNat_natCast, List.getElem?_eq_getElem (show i < o.length by omega), List.getElem?_eq_getElem (show i < g.length by omega)]
      exact ih (i + 1) _ (by rw [List.length_set]; exact hg) (by omega) (by omega) (grow g o v i (by omega) (by omega) hb)
    · obtain rfl : i = 64 := by omega
      rw [decide_eq_false (by omega)]
      simp only [cond_false]
      rw [grown g o v hg ho hb]
def owned (t : Tab) (v : Int) : List (Int × Int) := runs (bit (inL t.2.1 v))
theorem p19_eq (t : Tab) (ho : t.2.1.length = 64) (v : Int) : p19 FUEL (t, v) = some (owned t v) := by
  have hf := bigM
  simp only [p19]
  refine (l19_run _ v t.2.1 ho FUEL 0 _ (by simp) (by omega) (by omega) fun q hq => by omega).trans ?_
  simp only [of_eq _ ((inL_len _ _).trans ho)]; rfl
end Go.Am.Ytioacppahkhbhaa
