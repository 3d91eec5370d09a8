/- Plain laws of the printed functions of arcs: what is split is joined again; what rows of bools tell is just what was asked for. -/
import Derived.Test.YtlnidkgehflmfaaOfA
import Derived.Test.YtlnidkgehflmfaaTold
namespace Go.Am.Ytlnidkgehflmfaa
open Runs
def right (a : Int × Int) : Bool := decide ((0 ≤ a.1 ∧ a.1 < 64) ∧ 0 ≤ a.2 ∧ a.2 ≤ 64)
theorem p18_eq (fuel : Nat) (a : Int × Int) : p18 fuel a = some (right a) := by
  simp only [p18, right]
  by_cases h1 : 0 ≤ a.1
  · by_cases h2 : a.1 < 64
    · by_cases h3 : 0 ≤ a.2
      · rw [decide_eq_true h1, decide_eq_true h2, decide_eq_true h3]; simp only [cond_true]; simp [h1, h2, h3]
      · rw [decide_eq_true h1, decide_eq_true h2, decide_eq_false h3, decide_eq_false (show ¬ ((0 ≤ a.1 ∧ a.1 < 64) ∧ 0 ≤ a.2 ∧ a.2 ≤ 64) from fun h => h3 h.2.1)]; rfl
    · rw [decide_eq_true h1, decide_eq_false h2, decide_eq_false (show ¬ ((0 ≤ a.1 ∧ a.1 < 64) ∧ 0 ≤ a.2 ∧ a.2 ≤ 64) from fun h => h2 h.1.2)]; rfl
  · rw [decide_eq_false h1, decide_eq_false (show ¬ ((0 ≤ a.1 ∧ a.1 < 64) ∧ 0 ≤ a.2 ∧ a.2 ≤ 64) from fun h => h1 h.1.1)]; rfl
def upto (a : Int × Int) (n : Nat) : List Int := (List.range n).map fun (j : Nat) => (a.1 + (j : Int)) % 64
def placesN (a : Int × Int) : List Int := upto a a.2.toNat
theorem upto_succ (a : Int × Int) (n : Nat) : upto a (n + 1) = upto a n ++ [(a.1 + (n : Int)) % 64] := by
  unfold upto; rw [List.range_succ, List.map_append]; rfl
theorem upto_length (a : Int × Int) (n : Nat) : (upto a n).length = n := by simp [upto]
theorem upto_in (a : Int × Int) (n : Nat) : ∀ p ∈ upto a n, 0 ≤ p ∧ p < 64 := by
  intro p hp
  simp only [upto, List.mem_map, List.mem_range] at hp
  obtain ⟨j, _, rfl⟩ := hp
  omega
theorem l15_run (fuel : Nat) {R : Type} (k : List Int → Option R) (a : Int × Int) (h0 : 0 ≤ a.1) (h1 : a.1 < 64) (h2 : a.2 ≤ 64) (h3 : 0 ≤ a.2) : ∀ (n j : Nat), (j : Int) ≤ a.2 → a.2.toNat - j < n →
    l15_0 fuel k n (a.2, (j : Int), a, upto a j) = k (placesN a) := by
  intro n
  induction n with
  | zero => intro j _ h; omega
  | succ n ih =>
    intro j hj hn
    show s15_0 fuel (l15_0 fuel k n) k _ = _
    simp only [s15_0]
    by_cases e : (j : Int) < a.2
    · rw [decide_eq_true e, wrapI (n := a.1 + (j : Int)) (by omega) (by omega), tmod_pos (by omega), wrapNext j (by omega)]
      simp only [cond_true]
      rw [if_pos (by rw [upto_length]; simp only [List.length_singleton]; omega), ← upto_succ]
      exact ih (j + 1) (by omega) (by omega)
    · rw [decide_eq_false e]
      simp only [cond_false]
      rw [placesN, show a.2.toNat = j by omega]
theorem big : 100 ≤ FUEL := by unfold FUEL; omega
theorem p15_eq (a : Int × Int) : p15 FUEL a = some (if right a then placesN a else []) := by
  have hf := big
  simp only [p15, p18_eq]
  cases h : right a
  · rfl
  · have h := of_decide_eq_true h
    simp only [Bool.not_true, cond_false, if_true]
    exact l15_run FUEL _ a h.1.1 h.1.2 h.2.2 h.2.1 FUEL 0 h.2.1 (by omega)
def hasN (a : Int × Int) (p : Int) : Bool := right a && decide (0 ≤ p ∧ p < 64) && decide ((p - a.1 + 64) % 64 < a.2)
theorem p20_eq (fuel : Nat) (a : Int × Int) (p : Int) : p20 fuel (a, p) = some (hasN a p) := by
  simp only [p20, p18_eq, hasN]
  cases h : right a
  · rfl
  · have h := of_decide_eq_true h
    simp only [cond_true, Bool.true_and]
    by_cases h1 : 0 ≤ p
    · by_cases h2 : p < 64
      · rw [decide_eq_true h1, decide_eq_true h2, wrapI (n := p - a.1) (by omega) (by omega), wrapI (by omega) (by omega), tmod_pos (by omega), decide_eq_true (show 0 ≤ p ∧ p < 64 from ⟨h1, h2⟩)]; rfl
      · rw [decide_eq_true h1, decide_eq_false h2, decide_eq_false (show ¬ (0 ≤ p ∧ p < 64) from fun h => h2 h.2)]; rfl
    · rw [decide_eq_false h1, decide_eq_false (show ¬ (0 ≤ p ∧ p < 64) from fun h => h1 h.1)]; rfl
theorem mem_places (a : Int × Int) (p : Int) (ha : right a = true) (h0 : 0 ≤ p) (h1 : p < 64) : p ∈ placesN a ↔ hasN a p = true := by
  have h := of_decide_eq_true ha
  simp only [placesN, upto, List.mem_map, List.mem_range, hasN, ha, Bool.true_and, Bool.and_eq_true, decide_eq_true_eq]
  constructor
  · rintro ⟨j, hj, rfl⟩; omega
  · rintro ⟨_, g⟩
    exact ⟨((p - a.1 + 64) % 64).toNat, by omega, by omega⟩


theorem p10_eq (fuel : Nat) (a : Int × Int) (n : Int) : p10 fuel (a, n) = some (if right a = true ∧ 0 ≤ n ∧ n ≤ a.2 then ((a.1, n), ((a.1 + n) % 64, a.2 - n), 0) else ((0, 0), (0, 0), 21)) := by
  simp only [p10, p18_eq, j10_0, j10_1]
  cases h : right a
  · simp
  · have h := of_decide_eq_true h
    by_cases h1 : n < 0
    · simp [h1, show ¬ (0 ≤ n ∧ n ≤ a.2) from fun g => by omega]
    · by_cases h2 : a.2 < n
      · simp [h1, h2, show ¬ (0 ≤ n ∧ n ≤ a.2) from fun g => by omega]
      · rw [if_pos ⟨rfl, by omega, by omega⟩, decide_eq_false h1, decide_eq_false h2, wrapI (n := a.1 + n) (by omega) (by omega), wrapI (n := a.2 - n) (by omega) (by omega), tmod_pos (by omega)]
        rfl
theorem p12_join (fuel : Nat) (a : Int × Int) (n : Int) (h : right a = true) (h0 : 0 ≤ n) (h1 : n ≤ a.2) : p12 fuel ((a.1, n), ((a.1 + n) % 64, a.2 - n)) = some (a, 0) := by
  have h := of_decide_eq_true h
  have e1 : right (a.1, n) = true := decide_eq_true ⟨⟨h.1.1, h.1.2⟩, h0, by simp only; omega⟩
  have e2 : right ((a.1 + n) % 64, a.2 - n) = true := decide_eq_true ⟨⟨by simp only; omega, by simp only; omega⟩, by simp only; omega, by simp only; omega⟩
  simp only [p12, p18_eq, e1, e2, j12_0, j12_1, Bool.not_true, cond_false]
  rw [wrapI (n := n + (a.2 - n)) (by omega) (by omega), wrapI (n := a.1 + n) (by omega) (by omega), tmod_pos (by omega), decide_eq_false (by omega), decide_eq_true rfl, show n + (a.2 - n) = a.2 by omega]
  rfl
theorem l7_0_run {R : Type} (k0 : Bool → Option R) (k1 : List Bool → Option R) (a : Int × Int) (n : Int) (h : right a = true) (h0 : 0 ≤ n) (h1 : n ≤ a.2) (x : List Bool) : ∀ (m i : Nat), i ≤ 64 → 64 - i < m →
    l7_0 FUEL k0 k1 m ((i : Int), a, x, (a.1, n), ((a.1 + n) % 64, a.2 - n)) = k1 x := by
  have h' := of_decide_eq_true h
  have e1 : right (a.1, n) = true := decide_eq_true ⟨⟨h'.1.1, h'.1.2⟩, h0, by simp only; omega⟩
  have e2 : right ((a.1 + n) % 64, a.2 - n) = true := decide_eq_true ⟨⟨by simp only; omega, by simp only; omega⟩, by simp only; omega, by simp only; omega⟩
  intro m
  induction m with
  | zero => intro j _ h; omega
  | succ m ih =>
    intro i hi hm
    show s7_0 FUEL (l7_0 FUEL k0 k1 m) k0 k1 _ = _
    simp only [s7_0]
    by_cases e : i < 64
    · simp only [decide_eq_true (show (i : Int) < 64 by omega), p20_eq, wrapNext i (by omega), cond_true, ih (i + 1) (by omega) (by omega), hasN, h, e1, e2, decide_eq_true (show 0 ≤ (i : Int) ∧ (i : Int) < 64 by omega), Bool.true_and]
      by_cases g1 : ((i : Int) - a.1 + 64) % 64 < n
      · have g2 : ¬ ((i : Int) - (a.1 + n) % 64 + 64) % 64 < a.2 - n := by omega
        simp only [decide_eq_true g1, decide_eq_false g2, decide_eq_true (show ((i : Int) - a.1 + 64) % 64 < a.2 by omega), cond_true, cond_false, beq_self_eq_true, Bool.not_true]
      · by_cases g2 : ((i : Int) - (a.1 + n) % 64 + 64) % 64 < a.2 - n
        · simp only [decide_eq_false g1, decide_eq_true g2, decide_eq_true (show ((i : Int) - a.1 + 64) % 64 < a.2 by omega), cond_true, cond_false, beq_self_eq_true, Bool.not_true]
        · simp only [decide_eq_false g1, decide_eq_false g2, decide_eq_false (show ¬ ((i : Int) - a.1 + 64) % 64 < a.2 by omega), cond_true, cond_false, beq_self_eq_true, Bool.not_true]
    · obtain rfl : i = 64 := by omega
      rw [decide_eq_false (by omega)]
      rfl

theorem bit_set (g : List Bool) (p : Nat) (hp : p < g.length) (q : Nat) : bit (g.set p true) q = (bit g q || decide (q = p)) := by
  unfold bit
  by_cases e : q = p
  · subst e
    rw [List.getElem?_set_self hp]; simp
  · rw [List.getElem?_set_ne (fun h => e h.symm), decide_eq_false e, Bool.or_false]
theorem mem_upto (a : Int × Int) (h0 : 0 ≤ a.1) (h1 : a.1 < 64) (n : Nat) (hn : n ≤ 64) (q : Int) (hq0 : 0 ≤ q) (hq1 : q < 64) : q ∈ upto a n ↔ (q - a.1 + 64) % 64 < n := by
  simp only [upto, List.mem_map, List.mem_range]
  constructor
  · rintro ⟨j, hj, rfl⟩; omega
  · intro h
    exact ⟨((q - a.1 + 64) % 64).toNat, by omega, by omega⟩
section
variable {R : Type} (k0 : Bool → Option R) (k1 : (Int × List Bool × List (Int × Int) × List Bool) → Option R) (z : Int × Int) (hz0 : 0 ≤ z.1) (hz1 : z.1 < 64) (hz2 : z.2 ≤ 64) (u : Int) (x : List Bool) (l : List (Int × Int)) (r : Option R)
  (g0 : List Bool) (hfree : ∀ q : Int, 0 ≤ q → q < 64 → InArc z q → bit g0 q.toNat = false)
  (hk : ∀ g : List Bool, g.length = 64 → (∀ q : Nat, q < 64 → (bit g q = true ↔ bit g0 q = true ∨ InArc z (q : Int))) → k1 (u, x, l, g) = r)
include hz0 hz1 hz2 hfree hk
theorem l7_1_run : ∀ (m i : Nat) (g : List Bool), g.length = 64 → i ≤ z.2.toNat → z.2.toNat - i < m → (∀ q : Nat, q < 64 → (bit g q = true ↔ bit g0 q = true ∨ (q : Int) ∈ upto z i)) →
    l7_1 FUEL k0 k1 m (u, (i : Int), x, l, g, placesN z) = r := by
  intro m
  induction m with
  | zero => intro j _ _ _ h; omega
  | succ m ih =>
    intro i g hg hi hm hb
    show s7_1 FUEL (l7_1 FUEL k0 k1 m) k0 k1 _ = _
    have hlen : (placesN z).length = z.2.toNat := upto_length z _
    simp only [s7_1, hlen]
    by_cases e : i < z.2.toNat
    · have hget : (placesN z)[(i : Int).toNat]? = some ((z.1 + (i : Int)) % 64) := by
        rw [Int.toNat_natCast]
        simp [placesN, upto, e]
      have hp0 : 0 ≤ (z.1 + (i : Int)) % 64 ∧ (z.1 + (i : Int)) % 64 < ((64 : Nat) : Int) := by omega
      have hbit : bit g ((z.1 + (i : Int)) % 64).toNat = false := by
        cases c : bit g ((z.1 + (i : Int)) % 64).toNat
        · rfl
        · rcases (hb _ (by omega)).1 c with h | h
          · rw [hfree ((z.1 + (i : Int)) % 64) (by omega) (by omega) (by show ((z.1 + (i : Int)) % 64 - z.1 + 64) % 64 < z.2; omega)] at h; cases h
          · have := (mem_upto z hz0 hz1 i (by omega) _ (by omega) (by omega)).1 h
            omega
      rw [decide_eq_true (show (i : Int) < ((z.2.toNat : Nat) : Int) by omega)]
      simp only [cond_true, if_pos (show 0 ≤ (i : Int) ∧ (i : Int) < ((z.2.toNat : Nat) : Int) by omega), hget, if_pos hp0, bit_get (x := g) (i := ((z.1 + (i : Int)) % 64).toNat) (by omega), hbit, cond_false, wrapNext i (by omega)]
      refine ih (i + 1) _ (by rw [List.length_set]; exact hg) (by omega) (by omega) fun q hq => ?_
      rw [bit_set g _ (by omega), upto_succ, List.mem_append, List.mem_singleton, Bool.or_eq_true, hb q hq, decide_eq_true_eq, or_assoc]
      constructor
      · rintro (h | h | h)
        · exact Or.inl h
        · exact Or.inr (Or.inl h)
        · exact Or.inr (Or.inr (by omega))
      · rintro (h | h | h)
        · exact Or.inl h
        · exact Or.inr (Or.inl h)
        · exact Or.inr (Or.inr (by omega))
    · obtain rfl : i = z.2.toNat := by omega
      rw [decide_eq_false (show ¬ ((z.2.toNat : Nat) : Int) < ((z.2.toNat : Nat) : Int) by omega)]
      simp only [cond_false]
      refine hk g hg fun q hq => ?_
      rw [hb q hq]
      have := mem_upto z hz0 hz1 z.2.toNat (by omega) (q : Int) (by omega) (by omega)
      rw [this]
      show _ ↔ _ ∨ ((q : Int) - z.1 + 64) % 64 < z.2
      constructor
      · rintro (h | h)
        · exact Or.inl h
        · exact Or.inr (by omega)
      · rintro (h | h)
        · exact Or.inl h
        · exact Or.inr (by omega)
end
theorem l7_1_run0 {R : Type} (k0 : Bool → Option R) (k1 : (Int × List Bool × List (Int × Int) × List Bool) → Option R) (z : Int × Int) (hz0 : 0 ≤ z.1) (hz1 : z.1 < 64) (hz2 : z.2 ≤ 64) (u : Int) (x : List Bool) (l : List (Int × Int)) (r : Option R)
    (g0 : List Bool) (hfree : ∀ q : Int, 0 ≤ q → q < 64 → InArc z q → bit g0 q.toNat = false)
    (hk : ∀ g : List Bool, g.length = 64 → (∀ q : Nat, q < 64 → (bit g q = true ↔ bit g0 q = true ∨ InArc z (q : Int))) → k1 (u, x, l, g) = r) (hg : g0.length = 64) (n : Nat) (hn : 100 ≤ n) :
    l7_1 FUEL k0 k1 n (u, (0 : Int), x, l, g0, placesN z) = r :=
  l7_1_run k0 k1 z hz0 hz1 hz2 u x l r g0 hfree hk n 0 g0 hg (by omega) (by omega) fun q _ => by simp [upto]
section
variable {R : Type} (k0 : Bool → Option R) (k1 : (List Bool × List Bool) → Option R) (x : List Bool) (hx : x.length = 64) (l : List (Int × Int)) (ht : Runs.Told (bit x) l) (hl : l.length ≤ 64) (r : Option R)
  (hk : ∀ g : List Bool, g.length = 64 → (∀ q : Nat, q < 64 → (bit g q = true ↔ ∃ z ∈ l, InArc z (q : Int))) → k1 (x, g) = r)
include hx ht hl hk
theorem l7_3_run : ∀ (m i : Nat) (g : List Bool), g.length = 64 → i ≤ l.length → l.length - i < m → (∀ q : Nat, q < 64 → (bit g q = true ↔ ∃ z ∈ l.take i, InArc z (q : Int))) →
    l7_3 FUEL k0 k1 m ((i : Int), x, l, g) = r := by
  intro m
  induction m with
  | zero => intro j _ _ _ h; omega
  | succ m ih =>
    intro i g hg hi hm hb
    show s7_3 FUEL (l7_3 FUEL k0 k1 m) k0 k1 _ = _
    simp only [s7_3]
    by_cases e : i < l.length
    · have hz := ht.ok _ (List.getElem_mem e)
      have hi' : 0 ≤ (i : Int) ∧ (i : Int) < ((l.length : Nat) : Int) := by omega
      have hget : l[(i : Int).toNat]? = some l[i] := by rw [Int.toNat_natCast, List.getElem?_eq_getElem e]
      have hr : right l[i] = true := decide_eq_true ⟨hz.1, by omega, hz.2.2⟩
      have hpl : (placesN l[i]).length = l[i].2.toNat := upto_length _ _
      have step : ∀ kk : (Int × List Bool × List (Int × Int) × List Bool) → Option R, (∀ y, kk y = l7_3 FUEL k0 k1 m (IntKind.wrap .i64 (y.1 + 1), y.2.1, y.2.2.1, y.2.2.2)) → ∀ kf : Bool → Option R, j7_2 FUEL kf kk ((i : Int), x, l, g, placesN l[i]) = r := by
        intro kk hkk kf
        simp only [j7_2]
        refine l7_1_run0 _ _ l[i] hz.1.1 hz.1.2 hz.2.2 (i : Int) x l r g (fun q h0 h1 hin => ?_) (fun g' hg' hb' => ?_) hg FUEL big
        · cases c : bit g q.toNat
          · rfl
          · obtain ⟨y, hy, hyin⟩ := (hb q.toNat (by omega)).1 c
            rw [show ((q.toNat : Nat) : Int) = q by omega] at hyin
            have hp := ht.apart
            rw [← List.take_append_drop i l, List.pairwise_append] at hp
            have hd : l[i] ∈ l.drop i := by rw [List.drop_eq_getElem_cons e]; exact List.mem_cons_self
            exact (hp.2.2 y hy l[i] hd q h0 h1 hyin hin).elim
        · simp only [if_pos hi', hget]
          have hnext : kk ((i : Int), x, l, g') = r := by
            rw [hkk]
            simp only
            rw [wrapNext i (by omega)]
            refine ih (i + 1) g' hg' (by omega) (by omega) fun q hq => ?_
            rw [hb' q hq, hb q hq, List.take_succ_eq_append_getElem e]
            constructor
            · rintro (⟨y, hy, hyin⟩ | h)
              · exact ⟨y, List.mem_append_left _ hy, hyin⟩
              · exact ⟨l[i], List.mem_append_right _ (List.mem_singleton_self _), h⟩
            · rintro ⟨y, hy, hyin⟩
              rcases List.mem_append.1 hy with hy | hy
              · exact Or.inl ⟨y, hy, hyin⟩
              · rw [List.mem_singleton.1 hy] at hyin
                exact Or.inr hyin
          by_cases h64 : l[i].2 < 64
          · have hs := ht.stop _ (List.getElem_mem e) h64
            rw [decide_eq_true h64, wrapI (n := l[i].1 + l[i].2) (by omega) (by omega), tmod_pos (by omega)]
            simp only [cond_true]
            rw [if_pos (by omega), bit_get (by omega), hs]
            exact hnext
          · rw [decide_eq_false h64]
            exact hnext
      rw [decide_eq_true hi'.2]
      simp only [cond_true, if_pos hi', hget, p15_eq, hr, if_true, hpl]
      rw [decide_eq_false (show ¬ ((l[i].2.toNat : Nat) : Int) = 0 by omega)]
      simp only [cond_false]
      by_cases h0 : 0 < i
      · have hget' : l[((i : Int) - 1).toNat]? = some (l[i - 1]'(by omega)) := by
          rw [show ((i : Int) - 1).toNat = i - 1 by omega, List.getElem?_eq_getElem (by omega)]
        have hasc : (l[i - 1]'(by omega)).1 < l[i].1 := List.pairwise_iff_getElem.1 ht.asc (i - 1) i (by omega) e (by omega)
        rw [decide_eq_true (show (0 : Int) < (i : Int) by omega), wrapI (n := (i : Int) - 1) (by omega) (by omega)]
        simp only [cond_true]
        rw [if_pos (by omega), hget']
        simp only
        rw [decide_eq_false (by omega)]
        simp only [cond_false]
        exact step _ (fun ⟨_, _, _, _⟩ => rfl) _
      · rw [decide_eq_false (show ¬ (0 : Int) < (i : Int) by omega)]
        simp only [cond_false]
        exact step _ (fun ⟨_, _, _, _⟩ => rfl) _
    · obtain rfl : i = l.length := by omega
      rw [decide_eq_false (show ¬ ((l.length : Nat) : Int) < ((l.length : Nat) : Int) by omega)]
      simp only [cond_false]
      exact hk g hg fun q hq => by rw [hb q hq, List.take_length]
end
theorem j7_4_eq (x : List Bool) (hx : x.length = 64) : j7_4 FUEL some x = some true := by
  simp only [j7_4, of_eq x hx, p14_eq, cond_true]
  have ht := told (bit x)
  refine l7_3_run _ _ x hx _ ht (runs_len _) (some true) (fun g hg hb => ?_) FUEL 0 _ (by decide) (by omega) (by have := runs_len (bit x); have : 100 ≤ FUEL := big; omega) (fun q hq => ?_)
  · simp only [eqB_arr_bool]
    have : g = x := by
      refine List.ext_getElem (by rw [hg, hx]) fun i h1 h2 => ?_
      have h3 : bit g i = true ↔ bit x i = true := by rw [hb i (by omega), ht.cover i (by omega)]
      rw [bit, bit, List.getElem?_eq_getElem h1, List.getElem?_eq_getElem h2] at h3
      have h3 : g[i] = true ↔ x[i] = true := h3
      cases c : g[i] <;> cases d : x[i] <;> simp_all
    rw [decide_eq_true this]
  · have : bit (List.replicate 64 false) q = false := by
      unfold bit
      rw [List.getElem?_replicate]
      split <;> rfl
    rw [this]
    simp
theorem pure7 (a : Int × Int) (_ : Ty.wf (.pair (.int .i64) (.int .i64)) a) (n : Int) (_ : Ty.wf (.int .i64) n) (x : List Bool) (wx : Ty.wf (.arr 64 .bool) x) : p7 FUEL (a, n, x) = some true := by
  have hx : x.length = 64 := wx.1
  simp only [p7, p10_eq]
  by_cases h : right a = true ∧ 0 ≤ n ∧ n ≤ a.2
  · rw [if_pos h]
    simp only [decide_true, cond_true, p12_join FUEL a n h.1 h.2.1 h.2.2, Bool.not_true, cond_false, eqB_pair2]
    rw [show (0 : Int) = ((0 : Nat) : Int) from rfl, l7_0_run _ _ a n h.1 h.2.1 h.2.2 x FUEL 0 (by omega) (by have : 100 ≤ FUEL := big; omega)]
    exact j7_4_eq x hx
  · rw [if_neg h]
    exact j7_4_eq x hx
end Go.Am.Ytlnidkgehflmfaa
