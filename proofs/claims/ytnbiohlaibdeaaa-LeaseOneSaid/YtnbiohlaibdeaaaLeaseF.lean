/- Plain law of the printed functions of lease: each place has one owner. -/
import Derived.Test.YtnbiohlaibdeaaaLeaseE
namespace Go.Am.Ytnbiohlaibdeaaa
open Runs
theorem countP_or {α : Type} (p r : α → Bool) (l : List α) (h : ∀ x ∈ l, p x = true → r x = true → False) : l.countP (fun x => p x || r x) = l.countP p + l.countP r := by
  induction l with
  | nil => rfl
  | cons a l ih =>
    have hh := h a List.mem_cons_self
    rw [List.countP_cons, List.countP_cons, List.countP_cons, ih fun x hx => h x (List.mem_cons_of_mem _ hx)]
    cases hp : p a <;> cases hr : r a
    · simp
    · simp; omega
    · simp; omega
    · exact (hh hp hr).elim
theorem count_one : ∀ c, c < 64 → (List.range 64).countP (fun q => decide (q = c)) = 1 := by decide +kernel
/-- How many places an arc has. -/
theorem count_arc (a : Nat) (ha : a < 64) : ∀ s : Nat, s ≤ 64 → (List.range 64).countP (fun q => decide ((((q : Nat) : Int) - (a : Int) + 64) % 64 < (s : Int))) = s
  | 0, _ => by
    rw [List.countP_eq_zero]
    intro q _ h
    have := of_decide_eq_true h
    omega
  | s + 1, hs => by
    have ih := count_arc a ha s (by omega)
    have e : (fun q : Nat => decide ((((q : Nat) : Int) - (a : Int) + 64) % 64 < ((s + 1 : Nat) : Int))) = fun q : Nat => decide ((((q : Nat) : Int) - (a : Int) + 64) % 64 < (s : Int)) || decide ((((q : Nat) : Int) - (a : Int) + 64) % 64 = (s : Int)) := by
      funext q
      rw [← Bool.decide_or, decide_eq_decide]; omega
    rw [e, countP_or _ _ _ fun x _ h1 h2 => by have := of_decide_eq_true h1; have := of_decide_eq_true h2; omega, ih]
    have e2 : (List.range 64).countP (fun q : Nat => decide ((((q : Nat) : Int) - (a : Int) + 64) % 64 = (s : Int))) = (List.range 64).countP (fun q => decide (q = (a + s) % 64)) := by
      refine List.countP_congr fun q hq => ?_
      have := List.mem_range.1 hq
      simp only [decide_eq_true_eq]
      omega
    rw [e2, count_one _ (by omega)]
/-- The sizes of told arcs, taken together. -/
def inB (z : Int × Int) (q : Nat) : Bool := decide (((q : Int) - z.1 + 64) % 64 < z.2)
theorem inB_iff (z : Int × Int) (q : Nat) : inB z q = true ↔ InArc z (q : Int) := decide_eq_true_iff
def total (l : List (Int × Int)) : Int := (l.map (·.2)).sum
theorem total_cons (z : Int × Int) (l : List (Int × Int)) : total (z :: l) = z.2 + total l := by simp [total]
theorem told_sum : ∀ (l : List (Int × Int)), (∀ z ∈ l, (0 ≤ z.1 ∧ z.1 < 64) ∧ 1 ≤ z.2 ∧ z.2 ≤ 64) → l.Pairwise (fun y z => ∀ q : Int, 0 ≤ q → q < 64 → InArc y q → InArc z q → False) →
    (((List.range 64).countP (fun q => l.any fun z => inB z q) : Nat) : Int) = total l
  | [], _, _ => by simp [total]
  | z :: l, h, hp => by
    have hz := h z List.mem_cons_self
    have ih := told_sum l (fun y hy => h y (List.mem_cons_of_mem _ hy)) (List.pairwise_cons.1 hp).2
    have e : (fun q : Nat => (z :: l).any fun z => inB z q) = fun q : Nat => inB z q || l.any fun z => inB z q := by funext q; rfl
    rw [e, countP_or _ _ _ fun q hq h1 h2 => ?_, total_cons, ← ih]
    · have hc := count_arc z.1.toNat (by omega) z.2.toNat (by omega)
      have e2 : (List.range 64).countP (fun q : Nat => inB z q) = (List.range 64).countP (fun q : Nat => decide (((q : Int) - ((z.1.toNat : Nat) : Int) + 64) % 64 < ((z.2.toNat : Nat) : Int))) := by
        refine List.countP_congr fun q _ => ?_
        simp only [inB, decide_eq_true_eq]
        rw [show ((z.1.toNat : Nat) : Int) = z.1 by omega, show ((z.2.toNat : Nat) : Int) = z.2 by omega]
      have e3 : (List.range 64).countP (inB z) = z.2.toNat := by rw [← hc, ← e2]
      rw [e3]; omega
    · rw [List.any_eq_true] at h2
      obtain ⟨y, hy, hyq⟩ := h2
      have := List.mem_range.1 hq
      exact (List.pairwise_cons.1 hp).1 y hy (q : Int) (by omega) (by omega) ((inB_iff _ _).1 h1) ((inB_iff _ _).1 hyq)
theorem owned_total (t : Tab) (ho : t.2.1.length = 64) (v : Int) : total (owned t v) = (((List.range 64).countP (fun q : Nat => decide (nth t.2.1 (q : Int) = v)) : Nat) : Int) := by
  have ht := told (bit (inL t.2.1 v))
  show total (runs _) = _
  rw [← told_sum _ ht.ok ht.apart]
  congr 1
  refine List.countP_congr fun q hq => ?_
  have hq := List.mem_range.1 hq
  have := ht.cover q hq
  rw [inL_bit _ _ _ (by omega)] at this
  rw [this, List.any_eq_true]
  constructor
  · rintro ⟨z, hz, h⟩; exact ⟨z, hz, (inB_iff _ _).1 h⟩
  · rintro ⟨z, hz, h⟩; exact ⟨z, hz, (inB_iff _ _).2 h⟩
def cntTo (t : Tab) (n : Nat) : Int := (((List.range 64).countP (fun q : Nat => decide (0 ≤ nth t.2.1 (q : Int) ∧ nth t.2.1 (q : Int) < (n : Int))) : Nat) : Int)
theorem cntTo_succ (t : Tab) (ho : t.2.1.length = 64) (n : Nat) : cntTo t (n + 1) = cntTo t n + total (owned t (n : Int)) := by
  rw [owned_total t ho, cntTo, cntTo, ← Int.natCast_add, ← countP_or _ _ _ fun x _ h1 h2 => by have := of_decide_eq_true h1; have := of_decide_eq_true h2; omega]
  congr 1
  refine List.countP_congr fun q _ => ?_
  rw [← Bool.decide_or, decide_eq_true_eq, decide_eq_true_eq]
  omega
theorem cntTo_zero (t : Tab) : cntTo t 0 = 0 := by
  have : (List.range 64).countP (fun q : Nat => decide (0 ≤ nth t.2.1 (q : Int) ∧ nth t.2.1 (q : Int) < ((0 : Nat) : Int))) = 0 := by
    rw [List.countP_eq_zero]
    intro q _ h
    have := of_decide_eq_true h
    omega
  rw [cntTo, this]; rfl
theorem cntTo_le (t : Tab) (n : Nat) : 0 ≤ cntTo t n ∧ cntTo t n ≤ 64 := by
  have := List.countP_le_length (p := fun q : Nat => decide (0 ≤ nth t.2.1 (q : Int) ∧ nth t.2.1 (q : Int) < (n : Int))) (l := List.range 64)
  rw [List.length_range] at this
  unfold cntTo; omega
theorem cntTo_all (t : Tab) (ht : Good t) : cntTo t 12 = 64 := by
  have : (List.range 64).countP (fun q : Nat => decide (0 ≤ nth t.2.1 (q : Int) ∧ nth t.2.1 (q : Int) < ((12 : Nat) : Int))) = (List.range 64).length := by
    rw [List.countP_eq_length]
    intro q hq
    have := List.mem_range.1 hq
    exact decide_eq_true (ht.nodes (q : Int) (by omega) (by omega))
  rw [cntTo, this]; rfl
section
variable {R : Type} (s : List Dec) (top i : Int) (t u : Tab)
theorem l7_3_run' (k : ((List Dec) × Int × Int × Int × Int × Tab × Tab) → Option R) (v : Int) (l : List (Int × Int)) (hl : ∀ z ∈ l, 0 ≤ z.2 ∧ z.2 ≤ 64) (h64 : l.length ≤ 64) : ∀ (n j : Nat) (a : Int), 0 ≤ a → a + 64 * ((l.length - j : Nat) : Int) ≤ 1000000 → j ≤ l.length → l.length - j < n →
    l7_3 FUEL k n (s, top, i, a, v, (j : Int), t, u, l) = k (s, top, i, a + total (l.drop j), v, t, u) := by
  intro n
  induction n with
  | zero => intro j _ _ _ _ h; omega
  | succ n ih =>
    intro j a ha hb hj hn
    show s7_3 FUEL (l7_3 FUEL k n) k _ = _
    simp only [s7_3]
    by_cases e : j < l.length
    · have hz := hl _ (List.getElem_mem e)
      have hj' : 0 ≤ (j : Int) ∧ (j : Int) < ((l.length : Nat) : Int) := by omega
      rw [decide_eq_true hj'.2, wrapNext j (by omega)]
      simp only [cond_true, if_pos hj', Int.toNat_natCast, List.getElem?_eq_getElem e]
      rw [wrapI (n := a + l[j].2) (by omega) (by omega), ih (j + 1) (a + l[j].2) (by omega) (by omega) (by omega) (by omega), List.drop_eq_getElem_cons e, total_cons, Int.add_assoc]
    · obtain rfl : j = l.length := by omega
      rw [decide_eq_false (by omega), List.drop_length]
      simp only [cond_false, total, List.map_nil, List.sum_nil, Int.add_zero]
theorem l7_4_run (k : ((List Dec) × Int × Int × Int × Tab × Tab) → Option R) (ho : u.2.1.length = 64) : ∀ (n v : Nat), v ≤ 12 → 12 - v < n → l7_4 FUEL k n (s, top, i, cntTo u v, (v : Int), t, u) = k (s, top, i, cntTo u 12, t, u) := by
  intro n
  induction n with
  | zero => intro j _ h; omega
  | succ n ih =>
    intro v hv hn
    show s7_4 FUEL (l7_4 FUEL k n) k _ = _
    simp only [s7_4]
    by_cases e : v < 12
    · have hok := (told (bit (inL u.2.1 (v : Int)))).ok
      have hlen := owned_len u (v : Int)
      have hle := cntTo_le u v
      rw [decide_eq_true (show (v : Int) < 12 by omega)]
      simp only [cond_true, p16_eq u ho]
      refine (l7_3_run' s top i t u _ (v : Int) (owned u (v : Int)) (fun z hz => by have := hok z hz; omega) hlen FUEL 0 (cntTo u v) hle.1 (by omega) (by omega) (by have := big2; omega)).trans ?_
      simp only [List.drop_zero]
      rw [← cntTo_succ u ho, wrapNext v (by omega)]
      exact ih (v + 1) (by omega) (by omega)
    · obtain rfl : v = 12 := by omega
      rw [decide_eq_false (by omega)]
      rfl
theorem l7_4_run0 (k : ((List Dec) × Int × Int × Int × Tab × Tab) → Option R) (ho : u.2.1.length = 64) (n : Nat) (hn : 100 ≤ n) : l7_4 FUEL k n (s, top, i, (0 : Int), (0 : Int), t, u) = k (s, top, i, cntTo u 12, t, u) := by
  have := l7_4_run s top i t u k ho n 0 (by omega) (by omega)
  rw [cntTo_zero] at this
  exact this
theorem l7_2_run (k : ((List Dec) × Int × Int × Tab × Tab) → Option R) (hu : u.2.2.1.length = 64) (B : Int) (hB : ∀ q, 0 ≤ q → q < 64 → nth u.2.2.1 q ≤ B) (r : Option R) (hk : ∀ top', top' ≤ B → k (s, top', i, t, u) = r) : ∀ (n p : Nat) (top : Int), top ≤ B → p ≤ 64 → 64 - p < n →
    l7_2 FUEL k n (s, top, i, (p : Int), t, u) = r := by
  intro n
  induction n with
  | zero => intro p _ _ _ h; omega
  | succ n ih =>
    intro p top htop hp hn
    show s7_2 FUEL (l7_2 FUEL k n) k _ = _
    simp only [s7_2]
    by_cases e : p < 64
    · have hp' : 0 ≤ (p : Int) ∧ (p : Int) < ((64 : Nat) : Int) := by omega
      have hb := hB (p : Int) (by omega) (by omega)
      rw [decide_eq_true (show (p : Int) < 64 by omega), wrapNext p (by omega)]
      simp only [cond_true, if_pos hp', nth_get (l := u.2.2.1) hp'.1 (show (p : Int) < ((u.2.2.1.length : Nat) : Int) by omega)]
      refine ih (p + 1) _ ?_ (by omega) (by omega)
      split
      · exact hb
      · exact htop
    · obtain rfl : p = 64 := by omega
      rw [decide_eq_false (by omega)]
      exact hk top htop
/-- Is a place taken by a decree? -/
def takenB (f : Int) (d : Dec) (q : Int) : Bool := decide (f = 0) && (decide (d.1 = 3) && hasN d.2.2.2.1 q)
theorem l7_1_run (k0 : Bool → Option R) (k1 : ((List Dec) × Int × Int × Tab × Tab) → Option R) (f : Int) (d : Dec) (hu : Good u) (hti : t.2.2.1.length = 64) (hm : ∀ q, 0 ≤ q → q < 64 → nth u.2.2.2.1 (nth u.2.1 q) = true)
    (h1 : ∀ q, 0 ≤ q → q < 64 → takenB f d q = true → top < nth u.2.2.1 q) (h2 : ∀ q, 0 ≤ q → q < 64 → takenB f d q = false → nth u.2.2.1 q = nth t.2.2.1 q) : ∀ (n p : Nat), p ≤ 64 → 64 - p < n →
    l7_1 FUEL k0 k1 n (s, top, i, f, (p : Int), t, d, u) = k1 (s, top, i, t, u) := by
  intro n
  induction n with
  | zero => intro p _ h; omega
  | succ n ih =>
    intro p hp hn
    show s7_1 FUEL (l7_1 FUEL k0 k1 n) k0 k1 _ = _
    simp only [s7_1]
    by_cases e : p < 64
    · have hp' : 0 ≤ (p : Int) ∧ (p : Int) < ((64 : Nat) : Int) := by omega
      have ho := hu.nodes (p : Int) (by omega) (by omega)
      have ho' : 0 ≤ nth u.2.1 (p : Int) ∧ nth u.2.1 (p : Int) < ((12 : Nat) : Int) := by omega
      have hinc := nth_get (l := u.2.2.1) hp'.1 (show (p : Int) < ((u.2.2.1.length : Nat) : Int) by rw [hu.inc]; exact hp'.2)
      have hinct := nth_get (l := t.2.2.1) hp'.1 (show (p : Int) < ((t.2.2.1.length : Nat) : Int) by omega)
      have hnext := ih (p + 1) (by omega) (by omega)
      rw [← wrapNext p (by omega)] at hnext
      have hj : ∀ (b : Bool), b = takenB f d (p : Int) → ∀ kk : ((List Dec) × Int × Int × Int × Int × Tab × Dec × Tab) → Option R, kk (s, top, i, f, (p : Int), t, d, u) = k1 (s, top, i, t, u) → ∀ kf, j7_0 FUEL kf kk (s, top, i, f, (p : Int), b, t, d, u) = k1 (s, top, i, t, u) := fun b hb kk hkk kf => by
        simp only [j7_0, if_pos hp', hinc, hinct]
        cases b with
        | true =>
          have := h1 (p : Int) (by omega) (by omega) hb.symm
          rw [decide_eq_false (by omega)]
          exact hkk
        | false =>
          rw [h2 (p : Int) (by omega) (by omega) hb.symm, decide_eq_true rfl]
          exact hkk
      rw [decide_eq_true (show (p : Int) < 64 by omega)]
      simp only [cond_true, if_pos hp', nth_get (l := u.2.1) hp'.1 (show (p : Int) < ((u.2.1.length : Nat) : Int) by rw [hu.owner]; exact hp'.2), decide_eq_false (show ¬ nth u.2.1 (p : Int) < 0 by omega), decide_eq_false (show ¬ 12 ≤ nth u.2.1 (p : Int) by omega), cond_false, if_pos ho',
        nth_get (l := u.2.2.2.1) ho'.1 (show nth u.2.1 (p : Int) < ((u.2.2.2.1.length : Nat) : Int) by rw [hu.member]; exact ho'.2), hm (p : Int) (by omega) (by omega), Bool.not_true, p22_eq]
      by_cases hf : f = 0
      · rw [decide_eq_true hf]
        simp only [cond_true]
        by_cases hd : d.1 = 3
        · rw [decide_eq_true hd]
          simp only [cond_true]
          exact hj _ (by simp [takenB, hf, hd]) _ hnext _
        · rw [decide_eq_false hd]
          simp only [cond_false]
          exact hj _ (by simp [takenB, hd]) _ hnext _
      · rw [decide_eq_false hf]
        simp only [cond_false]
        exact hj _ (by simp [takenB, hf]) _ hnext _
    · obtain rfl : p = 64 := by omega
      rw [decide_eq_false (by omega)]
      rfl
end
structure One (t : Tab) : Prop extends Sound t where
  mem : ∀ q, 0 ≤ q → q < 64 → nth t.2.2.2.1 (nth t.2.1 q) = true
  incs : ∀ q, 0 ≤ q → q < 64 → nth t.2.2.1 q ≤ t.1
structure Step (t : Tab) (d : Dec) (r : Tab × Int) : Prop where
  off : r.2 ≠ 0 → r.1 = t
  on : r.2 = 0 → r.1.1 = t.1 + 1
  mem : ∀ q, 0 ≤ q → q < 64 → nth r.1.2.2.2.1 (nth r.1.2.1 q) = true
  incs : ∀ q, 0 ≤ q → q < 64 → nth r.1.2.2.1 q ≤ r.1.1
  new : ∀ q, 0 ≤ q → q < 64 → takenB r.2 d q = true → nth r.1.2.2.1 q = t.1 + 1
  old : ∀ q, 0 ≤ q → q < 64 → takenB r.2 d q = false → nth r.1.2.2.1 q = nth t.2.2.1 q
theorem apply_step (t : Tab) (ht : One t) (d : Dec) : Step t d (applyN t d) := by
  have no : ∀ q, d.1 ≠ 3 → takenB 0 d q = true → False := fun q h g => by simp [takenB, h] at g
  refine apply_cases t d (Step t d) (fun e he => ?_) (fun k a b => ?_) (fun k a b => ?_) (fun k a b hs => ?_) (fun k a b hmay => ?_)
  · exact ⟨fun _ => rfl, fun h => absurd h he, ht.mem, ht.incs, fun q _ _ h => by simp [takenB, he] at h, fun _ _ _ _ => rfl⟩
  · exact ⟨fun h => absurd rfl h, fun _ => rfl, ht.mem, fun q h0 h1 => by have := ht.incs q h0 h1; simp only; omega, fun q _ _ h => (no q (by omega) h).elim, fun _ _ _ _ => rfl⟩
  · refine ⟨fun h => absurd rfl h, fun _ => rfl, fun q h0 h1 => ?_, fun q h0 h1 => by have := ht.incs q h0 h1; simp only; omega, fun q _ _ h => (no q (by omega) h).elim, fun _ _ _ _ => rfl⟩
    have hn := ht.nodes q h0 h1
    simp only
    rw [set_nth _ _ _ _ hn.1 (by rw [ht.member]; exact hn.2) a]
    split
    · rfl
    · exact ht.mem q h0 h1
  · refine ⟨fun h => absurd rfl h, fun _ => rfl, fun q h0 h1 => ?_, fun q h0 h1 => by have := ht.incs q h0 h1; simp only; omega, fun q _ _ h => (no q (by omega) h).elim, fun _ _ _ _ => rfl⟩
    have hn := ht.nodes q h0 h1
    simp only
    rw [set_nth _ _ _ _ hn.1 (by rw [ht.member]; exact hn.2) a, if_neg]
    · exact ht.mem q h0 h1
    · intro e
      have := of_decide_eq_false hs
      exact this ⟨q.toNat, by omega, by rw [show ((q.toNat : Nat) : Int) = q by omega]; exact e⟩
  · have hr := may_right hmay
    have hrt : right d.2.2.2.1 = true := hr.2.1
    have hO : ∀ q, 0 ≤ q → q < 64 → nth (doN (d, decide (d.1 = 3)) (t.1 + 1, t.2)).2.1 q = if q ∈ placesN d.2.2.2.1 then d.2.1 else nth t.2.1 q := fun q h0 h1 => setAll_nth _ _ q h0 _ (by rw [ht.owner]; exact h1) fun p hp => (places_in _ p hp).1
    have hI : ∀ q, 0 ≤ q → q < 64 → nth (doN (d, decide (d.1 = 3)) (t.1 + 1, t.2)).2.2.1 q = if d.1 = 3 ∧ q ∈ placesN d.2.2.2.1 then t.1 + 1 else nth t.2.2.1 q := fun q h0 h1 => by
      show nth (if decide (d.1 = 3) = true then setAll t.2.2.1 (placesN d.2.2.2.1) (t.1 + 1) else t.2.2.1) q = _
      by_cases h3 : d.1 = 3
      · rw [if_pos (decide_eq_true h3), setAll_nth _ _ q h0 _ (by rw [ht.inc]; exact h1) fun p hp => (places_in _ p hp).1]
        simp only [h3, true_and]
      · rw [if_neg (by rw [decide_eq_false h3]; decide), if_neg (fun g => h3 g.1)]
    have hT : ∀ q, 0 ≤ q → q < 64 → (takenB 0 d q = true ↔ d.1 = 3 ∧ q ∈ placesN d.2.2.2.1) := fun q h0 h1 => by
      rw [mem_places _ q hrt h0 h1]
      simp [takenB]
    refine ⟨fun h => absurd rfl h, fun _ => rfl, fun q h0 h1 => ?_, fun q h0 h1 => ?_, fun q h0 h1 h => ?_, fun q h0 h1 h => ?_⟩
    · show nth t.2.2.2.1 _ = true
      rw [hO q h0 h1]
      split
      · exact hr.1
      · exact ht.mem q h0 h1
    · show _ ≤ t.1 + 1
      rw [hI q h0 h1]
      have := ht.incs q h0 h1
      split <;> omega
    · rw [hI q h0 h1, if_pos ((hT q h0 h1).1 h)]
    · rw [hI q h0 h1, if_neg]
      intro g
      rw [(hT q h0 h1).2 g] at h
      cases h
theorem l7_6_run {R : Type} (k0 : Bool → Option R) (k1 : Unit → Option R) (l : List Dec) (hl : ∀ d ∈ l, DecOk d) : ∀ (n i : Nat) (t : Tab) (top : Int), One t → top ≤ t.1 → t.1 ≤ 1 + (i : Int) → i ≤ 300 → 300 - i < n →
    l7_6 FUEL k0 k1 n (l, top, (i : Int), t) = k1 () := by
  have hf := big2
  intro n
  induction n with
  | zero => intro j _ _ _ _ _ _ h; omega
  | succ n ih =>
    intro i t top ht htop hv hi hn
    show s7_6 FUEL (l7_6 FUEL k0 k1 n) k0 k1 _ = _
    simp only [s7_6]
    by_cases e : i < l.length
    · rw [decide_eq_true (show (i : Int) < ((l.length : Nat) : Int) by omega)]
      by_cases g : i < 300
      · have hd := hl _ (List.getElem_mem e)
        have hu := apply_sound t ht.toSound _ hd
        have hs := apply_step t ht l[i]
        have hlow := ht.low
        have hi' : 0 ≤ (i : Int) := by omega
        rw [decide_eq_true (show (i : Int) < 300 by omega)]
        simp only [cond_true, if_pos hi', Int.toNat_natCast, List.getElem?_eq_getElem e, p13_eq t ht.toSound (by omega) _ hd]
        generalize hr : applyN t l[i] = r at hu hs
        have hver : t.1 ≤ r.1.1 := by
          by_cases h0 : r.2 = 0
          · rw [hs.on h0]; omega
          · rw [hs.off h0]; exact Int.le_refl _
        have hj : ∀ kk : ((List Dec) × Int × Int × Tab) → Option R, (∀ top', top' ≤ r.1.1 → kk (l, top', (i : Int), r.1) = k1 ()) → ∀ kf, j7_5 FUEL kf kk (l, top, (i : Int), r.2, t, l[i], r.1) = k1 () := fun kk hkk kf => by
          simp only [j7_5]
          refine (l7_1_run l top (i : Int) t r.1 _ _ r.2 l[i] hu.1.toGood ht.inc hs.mem (fun q h0 h1 h => by rw [hs.new q h0 h1 h]; omega) hs.old FUEL 0 (by omega) (by omega)).trans ?_
          simp only
          refine l7_2_run l (i : Int) t r.1 _ hu.1.inc r.1.1 hs.incs _ (fun top' htop' => ?_) FUEL 0 top (by omega) (by omega) (by omega)
          simp only
          refine (l7_4_run0 l top' (i : Int) t r.1 _ hu.1.owner FUEL (by omega)).trans ?_
          simp only
          rw [cntTo_all r.1 hu.1.toGood, decide_eq_true rfl]
          exact hkk top' htop'
        have hnext : ∀ top', top' ≤ r.1.1 → l7_6 FUEL k0 k1 n (l, top', IntKind.wrap .i64 ((i : Int) + 1), r.1) = k1 () := fun top' htop' => by
          rw [wrapNext i (by omega)]
          exact ih (i + 1) r.1 top' { hu.1 with mem := hs.mem, incs := hs.incs } htop' (by omega) (by omega) (by omega)
        by_cases h0 : r.2 = 0
        · rw [decide_eq_true h0, hs.on h0, wrapU32 (n := t.1 + 1) (by omega) (by omega), decide_eq_true rfl]
          simp only [Bool.not_true, cond_true, cond_false]
          exact hj _ hnext _
        · have e1 : Ty.eqB (.pair (.int .u32) (.pair (.arr 64 (.int .i64)) (.pair (.arr 64 (.int .u32)) (.pair (.arr 12 (.bool)) (.arr 12 (.int .u32)))))) r.1 t = true := by rw [hs.off h0]; exact tab_self t
          rw [decide_eq_false h0, e1]
          simp only [Bool.not_true, Bool.not_false, cond_true, cond_false]
          exact hj _ hnext _
      · rw [decide_eq_false (show ¬ (i : Int) < 300 by omega)]; rfl
    · rw [decide_eq_false (show ¬ (i : Int) < ((l.length : Nat) : Int) by omega)]; rfl
theorem new_one (n : Nat) (h0 : 4 ≤ n) (h : n ≤ 12) : One (newN n) := { new_sound n h with
  mem := fun q q0 q1 => by
    have := new_by n h0 q q0 q1
    exact new_member n _ this.1 this.2 h
  incs := fun q q0 q1 => by
    show ((List.replicate 64 (1 : Int))[q.toNat]?).getD default ≤ 1
    rw [List.getElem?_replicate]
    split <;> decide }
theorem pure7 (nodes : Int) (wn : Ty.wf (.int .i64) nodes) (l : List Dec) (wl : Ty.wf (.slice (.pair (.int .i64) (.pair (.int .i64) (.pair (.int .i64) (.pair (.pair (.int .i64) (.int .i64)) (.pair (.int .u32) (.int .u32))))))) l) : p7 FUEL (nodes, l) = some true := by
  have hf := big2
  have hq := quart_ok wn
  have e : p7 FUEL (nodes, l) = j7_7 FUEL some (quart nodes, l) := by
    unfold quart
    simp only [p7]
    cases decide (nodes < 0) <;> rfl
  rw [e]
  generalize quart nodes = u at hq
  simp only [j7_7, nodes_eq u hq.1, p12_eq]
  rw [p10_eq _ (by omega) (by omega)]
  simp only [decide_true, Bool.not_true, cond_false]
  exact l7_6_run _ _ l (dec_ok l wl) FUEL 0 _ 1 (new_one _ (by omega) (by omega)) (by show (1 : Int) ≤ 1; decide) (by show (1 : Int) ≤ 1 + 0; decide) (by omega) (by omega)
end Go.Am.Ytnbiohlaibdeaaa
