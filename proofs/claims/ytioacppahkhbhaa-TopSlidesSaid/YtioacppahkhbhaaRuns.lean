/- Rows of bools read as runs around a ring of 64 places: two ways to tell them are one. -/
import Derived.Test.YtioacppahkhbhaaAmZI
namespace Go.Am.Runs
/-- How many trues follow one another from s on, at most m. -/
def R (b : Nat → Bool) : Nat → Nat → Nat
  | 0, _ => 0
  | m + 1, s => if b s then 1 + R b m (s + 1) else 0
theorem R_step (b : Nat → Bool) (m s : Nat) : R b (m + 1) s = if b s then 1 + R b m (s + 1) else 0 := rfl
theorem R_le (b : Nat → Bool) : ∀ m s, R b m s ≤ m
  | 0, _ => Nat.le_refl _
  | m + 1, s => by
    have := R_le b m (s + 1)
    rw [R_step]
    split <;> omega
theorem R_add (b : Nat → Bool) (n : Nat) : ∀ m s, R b (m + n) s = if R b m s = m then m + R b n (s + m) else R b m s
  | 0, s => by simp [R]
  | m + 1, s => by
    have ih := R_add b n m (s + 1)
    have hl := R_le b m (s + 1)
    rw [show m + 1 + n = m + n + 1 by omega, R_step, R_step]
    cases b s
    · simp only [Bool.false_eq_true, if_false]
      rw [if_neg (by omega)]
    · simp only [if_true]
      rw [ih]
      by_cases h : R b m (s + 1) = m
      · rw [if_pos h, if_pos (by omega), show s + 1 + m = s + (m + 1) by omega]; omega
      · rw [if_neg h, if_neg (by omega)]
theorem R_all (b : Nat → Bool) : ∀ m s, (R b m s = m ↔ ∀ i, s ≤ i → i < s + m → b i = true)
  | 0, s => ⟨fun _ i h1 h2 => by omega, fun _ => rfl⟩
  | m + 1, s => by
    have ih := R_all b m (s + 1)
    unfold R
    cases h : b s
    · rw [if_neg (by decide)]
      exact ⟨fun h0 => by omega, fun g => by rw [g s (Nat.le_refl _) (by omega)] at h; cases h⟩
    · rw [if_pos rfl]
      constructor
      · intro h0 i h1 h2
        rcases Nat.eq_or_lt_of_le h1 with e | e
        · rw [← e]; exact h
        · exact ih.1 (by omega) i e (by omega)
      · intro g
        have := ih.2 fun i h1 h2 => g i (by omega) (by omega)
        omega
theorem R_ext (b c : Nat → Bool) : ∀ m s, (∀ i, s ≤ i → i < s + m → b i = c i) → R b m s = R c m s
  | 0, _, _ => rfl
  | m + 1, s, h => by
    unfold R
    rw [h s (Nat.le_refl _) (by omega), R_ext b c m (s + 1) fun i h1 h2 => h i (by omega) (by omega)]
theorem R_stop (b : Nat → Bool) (m s j : Nat) (h1 : s ≤ j) (h2 : j < s + m) (h : b j = false) : R b m s ≠ m := by
  intro e
  rw [(R_all b m s).1 e j h1 h2] at h
  cases h
/-- More room changes nothing where the run has ended. -/
theorem R_more (b : Nat → Bool) (m n s j : Nat) (h1 : s ≤ j) (h2 : j < s + m) (h : b j = false) : R b (m + n) s = R b m s := by
  rw [R_add, if_neg (R_stop b m s j h1 h2 h)]
theorem R_succ (b : Nat → Bool) (m s : Nat) : R b (m + 1) s = if R b m s = m ∧ b (s + m) = true then m + 1 else R b m s := by
  rw [R_add]
  by_cases h : R b m s = m
  · rw [if_pos h]
    cases g : b (s + m)
    · rw [if_neg (by simp)]
      simp [R, g, h]
    · rw [if_pos ⟨h, rfl⟩]
      simp [R, g]
  · rw [if_neg h, if_neg (fun g => h g.1)]

section
variable (b : Nat → Bool)
/-- Does a run begin here, told on a line? -/
def st (p : Nat) : Bool := b p && (p == 0 || !b (p - 1))
def starts (p : Nat) : List Nat := (List.range p).filter (st b)
/-- The runs of the first p places. -/
def lin (p : Nat) : List (Int × Int) := (starts b p).map fun (s : Nat) => ((s : Int), ((R b (p - s) s : Nat) : Int))
theorem starts_succ (p : Nat) : starts b (p + 1) = if st b p then starts b p ++ [p] else starts b p := by
  unfold starts
  rw [List.range_succ, List.filter_append]
  cases h : st b p <;> simp [h]
theorem starts_lt {p s : Nat} (h : s ∈ starts b p) : s < p := by
  simp only [starts, List.mem_filter, List.mem_range] at h; exact h.1
theorem starts_st {p s : Nat} (h : s ∈ starts b p) : st b s = true := by
  simp only [starts, List.mem_filter] at h; exact h.2
theorem lin_zero : lin b 0 = [] := rfl
theorem lin_off (p : Nat) (h : b p = false) : lin b (p + 1) = lin b p := by
  unfold lin
  rw [starts_succ, if_neg (by simp [st, h])]
  refine List.map_congr_left fun s hs => ?_
  have := starts_lt b hs
  rw [show p + 1 - s = (p - s) + 1 by omega, R_succ, if_neg]
  rw [show s + (p - s) = p by omega, h]
  exact fun g => Bool.false_ne_true g.2
theorem lin_new (p : Nat) (h : b p = true) (h0 : p = 0 ∨ b (p - 1) = false) : lin b (p + 1) = lin b p ++ [((p : Int), 1)] := by
  unfold lin
  rw [starts_succ, if_pos (by
    rcases h0 with h0 | h0
    · subst h0; simp [st, h]
    · simp [st, h, h0]), List.map_append]
  congr 1
  · refine List.map_congr_left fun s hs => ?_
    have hlt := starts_lt b hs
    have h1 : b (p - 1) = false := h0.resolve_left (by omega)
    rw [show p + 1 - s = (p - s) + 1 by omega, R_more b (p - s) 1 s (p - 1) (by omega) (by omega) h1]
  · simp [R, h]
/-- The run that ends before p. -/
theorem last_run : ∀ p, 0 < p → b (p - 1) = true → ∃ s, s < p ∧ st b s = true ∧ starts b p = starts b s ++ [s] ∧ R b (p - s) s = p - s
  | 0, h, _ => absurd h (Nat.lt_irrefl 0)
  | p + 1, _, h => by
    have h : b p = true := h
    rw [starts_succ]
    cases g : st b p
    · have g2 : p ≠ 0 ∧ b (p - 1) = true := by
        simp only [st, h, Bool.true_and, Bool.or_eq_false_iff, beq_eq_false_iff_ne, Bool.not_eq_false'] at g
        exact g
      obtain ⟨s, h1, h2, h3, h4⟩ := last_run p (by omega) g2.2
      refine ⟨s, by omega, h2, by rw [if_neg (by decide)]; exact h3, ?_⟩
      rw [show p + 1 - s = (p - s) + 1 by omega, R_succ, if_pos ⟨h4, by rw [show s + (p - s) = p by omega]; exact h⟩]
    · refine ⟨p, by omega, g, by rw [if_pos rfl], ?_⟩
      rw [show p + 1 - p = 1 by omega]
      simp [R, h]
/-- Runs that begin before a run are over before it. -/
theorem before {s q p : Nat} (hq : q ∈ starts b s) (hs : st b s = true) (hp : s ≤ p) (n : Nat) : R b (p - q + n) q = R b (s - q) q := by
  have hlt := starts_lt b hq
  have h1 : b (s - 1) = false := by
    simp only [st, Bool.and_eq_true, Bool.or_eq_true, beq_iff_eq, Bool.not_eq_true'] at hs
    exact hs.2.resolve_left (by omega)
  rw [show p - q + n = (s - q) + (p - s + n) by omega, R_more b (s - q) (p - s + n) q (s - 1) (by omega) (by omega) h1]
theorem lin_on (p : Nat) (hp : 0 < p) (h1 : b (p - 1) = true) (h : b p = true) : ∃ l s, s < p ∧ lin b p = l ++ [((s : Int), ((p - s : Nat) : Int))] ∧ lin b (p + 1) = l ++ [((s : Int), ((p - s + 1 : Nat) : Int))] := by
  obtain ⟨s, hs, hst, he, hr⟩ := last_run b p hp h1
  refine ⟨(starts b s).map fun (q : Nat) => ((q : Int), ((R b (s - q) q : Nat) : Int)), s, hs, ?_, ?_⟩
  · unfold lin
    rw [he, List.map_append]
    congr 1
    · exact List.map_congr_left fun q hq => by
        have := before b hq hst (Nat.le_of_lt hs) 0
        rw [show p - q + 0 = p - q from rfl] at this; rw [this]
    · simp [hr]
  · unfold lin
    rw [starts_succ, if_neg, he, List.map_append]
    · congr 1
      · exact List.map_congr_left fun q hq => by
          have hq' := starts_lt b hq
          have := before b hq hst (Nat.le_of_lt hs) 1
          rw [show p + 1 - q = p - q + 1 by omega, this]
      · have : R b (p + 1 - s) s = p - s + 1 := by
          rw [show p + 1 - s = (p - s) + 1 by omega, R_succ, if_pos ⟨hr, by rw [show s + (p - s) = p by omega]; exact h⟩]
        simp [this]
    · simp only [st, h, h1, Bool.not_true, Bool.or_false, Bool.true_and, beq_iff_eq]; omega

/-- Around the ring. -/
def ring (i : Nat) : Bool := b (i % 64)
def cst (p : Nat) : Bool := b p && !b ((p + 63) % 64)
def circ (p : Nat) : List (Int × Int) := ((List.range p).filter (cst b)).map fun (s : Nat) => ((s : Int), ((R (ring b) 64 s : Nat) : Int))
theorem circ_succ (p : Nat) : circ b (p + 1) = if cst b p then circ b p ++ [((p : Int), ((R (ring b) 64 p : Nat) : Int))] else circ b p := by
  unfold circ
  rw [List.range_succ, List.filter_append]
  cases h : cst b p <;> simp [h]
theorem cst_pos {p : Nat} (h0 : 0 < p) (h : p < 64) : cst b p = st b p := by
  simp only [cst, st, show (p + 63) % 64 = p - 1 by omega, show (p == 0) = false from beq_eq_false_iff_ne.2 (by omega), Bool.false_or]
theorem R_ring (s : Nat) (h : s < 64) : R (ring b) 64 s = if R b (64 - s) s = 64 - s then 64 - s + R b s 0 else R b (64 - s) s := by
  have e1 : R (ring b) (64 - s) s = R b (64 - s) s := R_ext _ _ _ _ fun i h1 h2 => by
    show b (i % 64) = b i
    rw [Nat.mod_eq_of_lt (by omega)]
  have e2 : ∀ m t, t + m ≤ 64 → R (ring b) m (64 + t) = R b m t := by
    intro m
    induction m with
    | zero => intro t _; rfl
    | succ m ih =>
      intro t ht
      unfold R
      rw [show 64 + t + 1 = 64 + (t + 1) by omega, ih (t + 1) (by omega), show ring b (64 + t) = b t by show b ((64 + t) % 64) = b t; rw [show (64 + t) % 64 = t by omega]]
  have := R_add (ring b) s (64 - s) s
  rw [e1, show 64 - s + s = 64 by omega, show s + (64 - s) = 64 + 0 by omega, e2 s 0 (by omega)] at this
  exact this
/-- The runs on the line, made one around the ring. -/
def merge (l : List (Int × Int)) : List (Int × Int) := match l with
  | [] => []
  | x :: r => match r.getLast? with
    | none => [x]
    | some y => r.dropLast ++ [(y.1, y.2 + x.2)]
theorem filter_range_pos (f : Nat → Bool) (n : Nat) : (List.range (n + 1)).filter f = (if f 0 then [0] else []) ++ ((List.range n).map (· + 1)).filter f := by
  rw [List.range_succ_eq_map, List.filter_cons]
  cases f 0 <;> simp [Function.comp_def]
theorem cst_tail : ((List.range 63).map (· + 1)).filter (cst b) = ((List.range 63).map (· + 1)).filter (st b) := by
  refine List.filter_congr fun p hp => ?_
  simp only [List.mem_map, List.mem_range] at hp
  obtain ⟨q, hq, rfl⟩ := hp
  exact cst_pos b (by omega) (by omega)
/-- Not all are there, and the ends do not touch: nothing is merged. -/
theorem circ_lin (h : (b 0 && b 63) = false) : circ b 64 = lin b 64 := by
  have hs : (List.range 64).filter (cst b) = starts b 64 := by
    unfold starts
    rw [filter_range_pos (cst b) 63, filter_range_pos (st b) 63, cst_tail]
    congr 1
    have : cst b 0 = st b 0 := by
      show (b 0 && !b 63) = (b 0 && (true || _))
      cases h0 : b 0
      · rfl
      · rw [h0] at h
        have h : b 63 = false := h
        rw [h]; rfl
    rw [this]
  unfold circ lin
  rw [hs]
  refine List.map_congr_left fun s hs => ?_
  have hlt := starts_lt b hs
  rw [R_ring b s hlt]
  by_cases g : R b (64 - s) s = 64 - s
  · have h63 : b 63 = true := (R_all b _ _).1 g 63 (by omega) (by omega)
    have h0 : b 0 = false := by rw [h63, Bool.and_true] at h; exact h
    have : R b s 0 = 0 := by
      cases s with
      | zero => rfl
      | succ s => unfold R; rw [h0]; rfl
    rw [if_pos g, this, g]; rfl
  · rw [if_neg g]
/-- Not all are there, and the ends touch: the last run goes on in the first one. -/
theorem circ_merge (h0 : b 0 = true) (h63 : b 63 = true) (j : Nat) (hj : j < 64) (hn : b j = false) : circ b 64 = merge (lin b 64) ∧ 1 < (lin b 64).length := by
  obtain ⟨s, hs, hst, he, hr⟩ := last_run b 64 (by decide) h63
  have hs0 : 0 < s := by
    rcases Nat.eq_zero_or_pos s with e | e
    · subst e
      rw [(R_all b 64 0).1 hr j (by omega) (by omega)] at hn; cases hn
    · exact e
  have hb1 : b (s - 1) = false := by
    simp only [st, Bool.and_eq_true, Bool.or_eq_true, beq_iff_eq, Bool.not_eq_true'] at hst
    exact hst.2.resolve_left (by omega)
  have hst0 : st b 0 = true := by simp [st, h0]
  have e1 : starts b s = 0 :: ((List.range (s - 1)).map (· + 1)).filter (st b) := by
    unfold starts
    obtain ⟨t, rfl⟩ : ∃ t, s = t + 1 := ⟨s - 1, by omega⟩
    rw [filter_range_pos, hst0]; rfl
  generalize ht : ((List.range (s - 1)).map (· + 1)).filter (st b) = t at e1
  have e2 : (List.range 64).filter (cst b) = t ++ [s] := by
    have h1 : (List.range 64).filter (st b) = 0 :: t ++ [s] := by rw [← e1]; exact he
    rw [filter_range_pos (st b) 63, hst0] at h1
    rw [filter_range_pos (cst b) 63, cst_tail, show cst b 0 = false by show (b 0 && !b 63) = false; rw [h0, h63]; rfl]
    simpa using h1
  have eL : lin b 64 = (0, ((R b 64 0 : Nat) : Int)) :: (t.map fun (q : Nat) => ((q : Int), ((R b (64 - q) q : Nat) : Int))) ++ [((s : Int), ((64 - s : Nat) : Int))] := by
    unfold lin
    rw [he, e1, List.map_append]
    simp [hr]
  have eR : R b 64 0 = R b s 0 := by
    rw [show 64 = s + (64 - s) by omega, R_more b s (64 - s) 0 (s - 1) (by omega) (by omega) hb1]
  have eC : circ b 64 = (t.map fun (q : Nat) => ((q : Int), ((R b (64 - q) q : Nat) : Int))) ++ [((s : Int), ((64 - s + R b s 0 : Nat) : Int))] := by
    unfold circ
    rw [e2, List.map_append]
    congr 1
    · refine List.map_congr_left fun q hq => ?_
      have hq' : q ∈ starts b s := by rw [e1]; exact List.mem_cons_of_mem _ hq
      have hlt := starts_lt b hq'
      rw [R_ring b q (by omega), if_neg (R_stop b _ _ (s - 1) (by omega) (by omega) hb1)]
    · simp [R_ring b s (by omega), hr]
  constructor
  · rw [eC, eL]
    simp only [merge, List.cons_append, List.getLast?_append, List.getLast?_singleton, Option.some_or, List.dropLast_concat, eR]
    congr 2
  · rw [eL]; simp
end
theorem lin_bound (b : Nat → Bool) (p : Nat) : ∀ z ∈ lin b p, 0 ≤ z.2 ∧ z.2 ≤ (p : Int) := by
  intro z hz
  simp only [lin, List.mem_map] at hz
  obtain ⟨s, _, rfl⟩ := hz
  have := R_le b (p - s) s
  simp only
  omega
theorem lin_len (b : Nat → Bool) (p : Nat) : (lin b p).length ≤ p := by
  unfold lin starts
  rw [List.length_map]
  exact Nat.le_trans (List.length_filter_le _ _) (by simp)
theorem circ_len (b : Nat → Bool) (p : Nat) : (circ b p).length ≤ p := by
  unfold circ
  rw [List.length_map]
  exact Nat.le_trans (List.length_filter_le _ _) (by simp)
theorem lin_none (b : Nat → Bool) : ∀ p, lin b p = [] → ∀ i, i < p → b i = false
  | 0, _, i, h => by omega
  | p + 1, h, i, hi => by
    cases g : b p
    · rw [lin_off b p g] at h
      rcases Nat.lt_or_ge i p with h1 | h1
      · exact lin_none b p h i h1
      · obtain rfl : i = p := by omega
        exact g
    · by_cases h0 : p = 0 ∨ b (p - 1) = false
      · rw [lin_new b p g h0] at h
        exact absurd h (by simp)
      · have h1 : 0 < p ∧ b (p - 1) = true := ⟨Nat.pos_of_ne_zero fun e => h0 (Or.inl e), by
          cases e : b (p - 1)
          · exact absurd (Or.inr e) h0
          · rfl⟩
        obtain ⟨l, s, _, _, e⟩ := lin_on b p h1.1 h1.2 g
        rw [e] at h
        exact absurd h (by simp)
theorem lin_all (b : Nat → Bool) (h : R b 64 0 = 64) : lin b 64 = [(0, 64)] := by
  have ha := (R_all b 64 0).1 h
  obtain ⟨s, hs, hst, he, hr⟩ := last_run b 64 (by decide) (ha 63 (by omega) (by omega))
  have hs0 : s = 0 := by
    simp only [st, Bool.and_eq_true, Bool.or_eq_true, beq_iff_eq, Bool.not_eq_true'] at hst
    rcases hst.2 with e | e
    · exact e
    · rw [ha (s - 1) (by omega) (by omega)] at e; cases e
  subst hs0
  unfold lin
  rw [he]
  simp [starts, h]
/-- What the rows of bools tell. -/
def runs (b : Nat → Bool) : List (Int × Int) := if R b 64 0 = 64 then [(0, 64)] else circ b 64
end Go.Am.Runs
