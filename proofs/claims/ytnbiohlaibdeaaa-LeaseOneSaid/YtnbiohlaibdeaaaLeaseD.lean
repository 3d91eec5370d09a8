/- Plain laws of the printed functions of lease: what each decree makes of a table; what a node owns. -/
import Derived.Test.YtnbiohlaibdeaaaLeaseC
import Derived.Test.YtnbiohlaibdeaaaOf
import Derived.Test.YtnbiohlaibdeaaaTold
namespace Go.Am.Ytnbiohlaibdeaaa
open Runs
/-- Which places a node owns. -/
def inL (o : List Int) (v : Int) : List Bool := o.map fun y => decide (y = v)
theorem inL_len (o : List Int) (v : Int) : (inL o v).length = o.length := by simp [inL]
theorem inL_bit (o : List Int) (v : Int) (q : Nat) (h : q < o.length) : bit (inL o v) q = decide (nth o (q : Int) = v) := by
  simp only [bit, inL, List.getElem?_map, nth, Int.toNat_natCast, List.getElem?_eq_getElem h]; rfl
theorem grow (g : List Bool) (o : List Int) (v : Int) (i : Nat) (hi : i < g.length) (ho : i < o.length) (h : ∀ q, q < i → g[q]? = (inL o v)[q]?) : ∀ q, q < i + 1 → (g.set i (decide (o[i] = v)))[q]? = (inL o v)[q]? := by
  intro q hq
  by_cases e : q = i
  · subst e
    rw [List.getElem?_set_self hi, inL, List.getElem?_map, List.getElem?_eq_getElem ho]; rfl
  · rw [List.getElem?_set_ne (fun g => e g.symm)]
    exact h q (by omega)
theorem grown (g : List Bool) (o : List Int) (v : Int) (hg : g.length = 64) (ho : o.length = 64) (h : ∀ q, q < 64 → g[q]? = (inL o v)[q]?) : g = inL o v := by
  refine List.ext_getElem? fun q => ?_
  rcases Nat.lt_or_ge q 64 with e | e
  · exact h q e
  · rw [List.getElem?_eq_none (by omega), List.getElem?_eq_none (by rw [inL_len]; omega)]
theorem l16_run {R : Type} (k : List Bool → Option R) (v : Int) (o : List Int) (ho : o.length = 64) : ∀ (n i : Nat) (g : List Bool), g.length = 64 → i ≤ 64 → 64 - i < n → (∀ q, q < i → g[q]? = (inL o v)[q]?) →
    l16_0 FUEL k n (v, o, (i : Int), g) = k (inL o v) := by
  intro n
  induction n with
  | zero => intro j _ _ _ h; omega
  | succ n ih =>
    intro i g hg hi hn hb
    show s16_0 FUEL (l16_0 FUEL k n) k _ = _
    simp only [s16_0]
    by_cases e : i < 64
    · have hi' : 0 ≤ (i : Int) ∧ (i : Int) < ((64 : Nat) : Int) := by omega
      rw [decide_eq_true (show (i : Int) < 64 by omega), wrapNext i (by omega)]
      simp only [cond_true, if_pos hi', Int.toNat_natCast, List.getElem?_eq_getElem (show i < o.length by omega), List.getElem?_eq_getElem (show i < g.length by omega)]
      exact ih (i + 1) _ (by rw [List.length_set]; exact hg) (by omega) (by omega) (grow g o v i (by omega) (by omega) hb)
    · obtain rfl : i = 64 := by omega
      rw [decide_eq_false (by omega)]
      simp only [cond_false]
      rw [grown g o v hg ho hb]
theorem l17_run {R : Type} (k : List Bool → Option R) (v : Int) (t : Tab) (ho : t.2.1.length = 64) : ∀ (n i : Nat) (g : List Bool), g.length = 64 → i ≤ 64 → 64 - i < n → (∀ q, q < i → g[q]? = (inL t.2.1 v)[q]?) →
    l17_0 FUEL k n (v, (i : Int), t, g) = k (inL t.2.1 v) := by
  intro n
  induction n with
  | zero => intro j _ _ _ h; omega
  | succ n ih =>
    intro i g hg hi hn hb
    show s17_0 FUEL (l17_0 FUEL k n) k _ = _
    simp only [s17_0]
    by_cases e : i < 64
    · have hi' : 0 ≤ (i : Int) ∧ (i : Int) < ((64 : Nat) : Int) := by omega
      rw [decide_eq_true (show (i : Int) < 64 by omega), wrapNext i (by omega)]
      simp only [cond_true, if_pos hi', Int.toNat_natCast, List.getElem?_eq_getElem (show i < t.2.1.length by omega), List.getElem?_eq_getElem (show i < g.length by omega)]
      exact ih (i + 1) _ (by rw [List.length_set]; exact hg) (by omega) (by omega) (grow g t.2.1 v i (by omega) (by omega) hb)
    · obtain rfl : i = 64 := by omega
      rw [decide_eq_false (by omega)]
      simp only [cond_false]
      rw [grown g t.2.1 v hg ho hb]
def owned (t : Tab) (v : Int) : List (Int × Int) := runs (bit (inL t.2.1 v))
theorem p16_eq (t : Tab) (ho : t.2.1.length = 64) (v : Int) : p16 FUEL (t, v) = some (owned t v) := by
  have hf := big2
  simp only [p16]
  refine (l16_run _ v t.2.1 ho FUEL 0 _ (by simp) (by omega) (by omega) fun q hq => by omega).trans ?_
  simp only [of_eq _ ((inL_len _ _).trans ho)]; rfl
theorem p17_eq (t : Tab) (ho : t.2.1.length = 64) (v : Int) : p17 FUEL (t, v) = some (owned t v) := by
  have hf := big2
  simp only [p17]
  refine (l17_run _ v t ho FUEL 0 _ (by simp) (by omega) (by omega) fun q hq => by omega).trans ?_
  simp only [ref_eq _ ((inL_len _ _).trans ho)]; rfl
/-- Does a node own a place? -/
def someB (t : Tab) (v : Int) : Bool := decide (∃ q : Nat, q < 64 ∧ nth t.2.1 (q : Int) = v)
theorem owned_some (t : Tab) (ho : t.2.1.length = 64) (v : Int) : decide ((0 : Int) < ((List.length (owned t v) : Nat) : Int)) = someB t v := by
  have ht := told (bit (inL t.2.1 v))
  have key : owned t v ≠ [] ↔ ∃ q : Nat, q < 64 ∧ nth t.2.1 (q : Int) = v := by
    constructor
    · intro h
      obtain ⟨z, hz⟩ := List.exists_mem_of_ne_nil _ h
      have hok := ht.ok z hz
      refine ⟨z.1.toNat, by omega, ?_⟩
      have := (ht.cover z.1.toNat (by omega)).2 ⟨z, hz, by show (((z.1.toNat : Nat) : Int) - z.1 + 64) % 64 < z.2; omega⟩
      rw [inL_bit _ _ _ (by omega)] at this
      exact of_decide_eq_true this
    · rintro ⟨q, hq, hv⟩ h
      obtain ⟨z, hz, _⟩ := (ht.cover q hq).1 (by rw [inL_bit _ _ _ (by omega)]; exact decide_eq_true hv)
      have : z ∈ owned t v := hz
      rw [h] at this
      cases this
  unfold someB
  by_cases h : ∃ q : Nat, q < 64 ∧ nth t.2.1 (q : Int) = v
  · have := List.length_pos_iff.2 (key.2 h)
    rw [decide_eq_true h, decide_eq_true (by omega)]
  · have : owned t v = [] := Classical.byContradiction fun g => h (key.1 g)
    rw [decide_eq_false h, this]; rfl
theorem l25_run {R : Type} (k0 : Bool → Option R) (k1 : Unit → Option R) (v : Int) (t : Tab) (ho : t.2.1.length = 64) : ∀ (n i : Nat), i ≤ 64 → 64 - i < n → (∀ q : Nat, q < i → nth t.2.1 (q : Int) ≠ v) →
    l25_0 FUEL k0 k1 n (v, (i : Int), t) = bif someB t v then k0 true else k1 () := by
  intro n
  induction n with
  | zero => intro j _ h; omega
  | succ n ih =>
    intro i hi hn hb
    show s25_0 FUEL (l25_0 FUEL k0 k1 n) k0 k1 _ = _
    simp only [s25_0]
    by_cases e : i < 64
    · have hi' : 0 ≤ (i : Int) ∧ (i : Int) < ((64 : Nat) : Int) := by omega
      rw [decide_eq_true (show (i : Int) < 64 by omega), wrapNext i (by omega)]
      simp only [cond_true, if_pos hi', nth_get hi'.1 (show (i : Int) < ((t.2.1.length : Nat) : Int) by omega)]
      by_cases g : nth t.2.1 (i : Int) = v
      · rw [decide_eq_true g, show someB t v = true from decide_eq_true ⟨i, e, g⟩]; rfl
      · rw [decide_eq_false g]
        refine ih (i + 1) (by omega) (by omega) fun q hq => ?_
        by_cases h : q = i
        · rw [h]; exact g
        · exact hb q (by omega)
    · obtain rfl : i = 64 := by omega
      rw [decide_eq_false (by omega), show someB t v = false from decide_eq_false fun ⟨q, hq, h⟩ => hb q hq h]; rfl
theorem p25_eq (t : Tab) (ho : t.2.1.length = 64) (v : Int) : p25 FUEL (t, v) = some (someB t v) := by
  have hf := big2
  simp only [p25]
  refine (l25_run _ _ v t ho FUEL 0 (by omega) (by omega) fun q hq => by omega).trans ?_
  cases someB t v <;> rfl

def joinN (t : Tab) (d : Dec) : Tab × Int :=
  if nth t.2.2.2.1 d.2.1 = true then (t, 143) else ((t.1 + 1, t.2.1, t.2.2.1, t.2.2.2.1.set d.2.1.toNat true, t.2.2.2.2.set d.2.1.toNat 0), 0)
def leaveN (t : Tab) (d : Dec) : Tab × Int :=
  if nth t.2.2.2.1 d.2.1 = false then (t, 143) else if someB t d.2.1 = true then (t, 141) else ((t.1 + 1, t.2.1, t.2.2.1, t.2.2.2.1.set d.2.1.toNat false, t.2.2.2.2), 0)
/-- What a decree makes of a table. -/
def applyN (t : Tab) (d : Dec) : Tab × Int :=
  if d.2.1 < 0 ∨ 12 ≤ d.2.1 then (t, 1)
  else if d.1 = 1 then renewN t d
  else if d.1 = 4 then joinN t d
  else if d.1 = 5 then leaveN t d
  else if d.1 = 2 ∨ d.1 = 3 then shiftN t d
  else (t, 1)
structure Sound (t : Tab) : Prop extends Good t where
  low : 0 ≤ t.1
  seen : ∀ q, 0 ≤ q → q < 12 → 0 ≤ nth t.2.2.2.2 q ∧ nth t.2.2.2.2 q < 4294967296
structure DecOk (d : Dec) : Prop where
  count : 0 ≤ d.2.2.2.2.1 ∧ d.2.2.2.2.1 < 4294967296
theorem p13_eq (t : Tab) (ht : Sound t) (hv : t.1 < 2147483647) (d : Dec) (hd : DecOk d) : p13 FUEL (t, d) = some (applyN t d) := by
  have hlow := ht.low
  unfold applyN
  by_cases h0 : d.2.1 < 0
  · rw [if_pos (Or.inl h0)]
    simp only [p13, decide_eq_true h0, cond_true]
  by_cases h1 : 12 ≤ d.2.1
  · rw [if_pos (Or.inr h1)]
    simp only [p13, decide_eq_false h0, decide_eq_true h1, cond_true, cond_false]
  rw [if_neg (by omega)]
  have hn : 0 ≤ d.2.1 ∧ d.2.1 < ((12 : Nat) : Int) := by omega
  by_cases k1 : d.1 = 1
  · rw [if_pos k1]
    exact renew_eq t ht.toGood d (by omega) (by omega) ht.low hv k1 hd.count (ht.seen _ (by omega) (by omega))
  rw [if_neg k1]
  by_cases k2 : d.1 = 2 ∨ d.1 = 3
  · rw [if_neg (show ¬ d.1 = 4 by omega), if_neg (show ¬ d.1 = 5 by omega), if_pos k2]
    exact shift_eq t ht.toGood d (by omega) (by omega) ht.low hv k2
  rw [if_neg k2]
  have hm := nth_get (l := t.2.2.2.1) hn.1 (by rw [ht.member]; exact hn.2)
  have hr := nth_get (l := t.2.2.2.2) hn.1 (by rw [ht.renewed]; exact hn.2)
  simp only [p13, decide_eq_false h0, decide_eq_false h1, decide_eq_false (show ¬ (2147483647 : Int) ≤ t.1 by omega), cond_false, if_pos hn, hm, hr, decide_eq_false k1, wrapU32 (n := t.1 + 1) (by omega) (by omega)]
  by_cases k4 : d.1 = 4
  · rw [if_pos k4, decide_eq_true k4]
    unfold joinN
    cases nth t.2.2.2.1 d.2.1 <;> simp
  rw [if_neg k4, decide_eq_false k4]
  by_cases k5 : d.1 = 5
  · rw [if_pos k5, decide_eq_true k5]
    unfold leaveN
    simp only [cond_true, cond_false, p16_eq t ht.owner, owned_some t ht.owner]
    cases nth t.2.2.2.1 d.2.1 <;> cases someB t d.2.1 <;> simp
  rw [if_neg k5, decide_eq_false k5, decide_eq_false (show ¬ d.1 = 2 from fun h => k2 (Or.inl h)), decide_eq_false (show ¬ d.1 = 3 from fun h => k2 (Or.inr h))]
  simp only [cond_false, j13_0]

theorem p31_eq (fuel : Nat) (a : Int × Int) : p31 fuel a = some (right a) := p29_eq fuel a
theorem l33_run (fuel : Nat) {R : Type} (k : List Int → Option R) (a : Int × Int) (h0 : 0 ≤ a.1) (h1 : a.1 < 64) (h2 : a.2 ≤ 64) (h3 : 0 ≤ a.2) : ∀ (n j : Nat), (j : Int) ≤ a.2 → a.2.toNat - j < n →
    l33_0 fuel k n (true, (j : Int), a, upto a j) = k (placesN a) := by
  intro n
  induction n with
  | zero => intro j _ h; omega
  | succ n ih =>
    intro j hj hn
    show s33_0 fuel (l33_0 fuel k n) k _ = _
    simp only [s33_0, cond_true]
    by_cases e : (j : Int) < a.2
    · rw [decide_eq_true e, wrapI (n := a.1 + (j : Int)) (by omega) (by omega), tmod_pos (by omega), wrapNext j (by omega)]
      simp only [cond_true]
      rw [if_pos (by rw [upto_length]; simp only [List.length_singleton]; omega), ← upto_succ]
      exact ih (j + 1) (by omega) (by omega)
    · rw [decide_eq_false e]
      simp only [cond_false]
      rw [placesN, show a.2.toNat = j by omega]
theorem p33_eq (a : Int × Int) (h : right a = true) : p33 FUEL a = some (placesN a) := by
  have hf := big2
  have h' := of_decide_eq_true h
  simp only [p33, p31_eq, h]
  exact l33_run FUEL _ a h'.1.1 h'.1.2 h'.2.2 h'.2.1 FUEL 0 h'.2.1 (by omega)
def ownsB (t : Tab) (v : Int) (a : Int × Int) : Bool := decide (∀ p ∈ placesN a, nth t.2.1 p = v)
theorem l32_run {R : Type} (k0 : Bool → Option R) (k1 : Unit → Option R) (v : Int) (t : Tab) (ho : t.2.1.length = 64) (l : List Int) (hl : ∀ p ∈ l, 0 ≤ p ∧ p < 64) (h64 : l.length ≤ 64) : ∀ (n i : Nat), i ≤ l.length → l.length - i < n → (∀ p ∈ l.take i, nth t.2.1 p = v) →
    l32_0 FUEL k0 k1 n (v, (i : Int), t, l) = bif decide (∀ p ∈ l, nth t.2.1 p = v) then k1 () else k0 false := by
  intro n
  induction n with
  | zero => intro j _ h; omega
  | succ n ih =>
    intro i hi hn hb
    show s32_0 FUEL (l32_0 FUEL k0 k1 n) k0 k1 _ = _
    simp only [s32_0]
    by_cases e : i < l.length
    · have hp := hl _ (List.getElem_mem e)
      have hi' : 0 ≤ (i : Int) ∧ (i : Int) < ((l.length : Nat) : Int) := by omega
      have hp' : 0 ≤ l[i] ∧ l[i] < ((64 : Nat) : Int) := by omega
      rw [decide_eq_true hi'.2, wrapNext i (by omega)]
      simp only [cond_true, if_pos hi', Int.toNat_natCast, List.getElem?_eq_getElem e, if_pos hp', nth_get hp'.1 (show l[i] < ((t.2.1.length : Nat) : Int) by omega)]
      by_cases g : nth t.2.1 l[i] = v
      · rw [decide_eq_true g]
        simp only [Bool.not_true, cond_false]
        refine ih (i + 1) (by omega) (by omega) fun p hp => ?_
        rw [List.take_succ_eq_append_getElem e] at hp
        rcases List.mem_append.1 hp with hp | hp
        · exact hb p hp
        · rw [List.mem_singleton.1 hp]; exact g
      · rw [decide_eq_false g, decide_eq_false (fun h => g (h _ (List.getElem_mem e)))]; rfl
    · obtain rfl : i = l.length := by omega
      rw [decide_eq_false (by omega), decide_eq_true (by rw [List.take_length] at hb; exact hb)]; rfl
theorem p32_eq (t : Tab) (ho : t.2.1.length = 64) (v : Int) (a : Int × Int) (h : right a = true) : p32 FUEL (t, v, a) = some (ownsB t v a) := by
  have hf := big2
  have h' := of_decide_eq_true h
  have hlen : (placesN a).length ≤ 64 := by rw [placesN, upto_length]; omega
  simp only [p32, p33_eq a h]
  refine (l32_run _ _ v t ho (placesN a) (places_in a) hlen FUEL 0 (by omega) (by omega) fun p hp => by simp at hp).trans ?_
  unfold ownsB
  cases decide (∀ p ∈ placesN a, nth t.2.1 p = v) <;> rfl
theorem l26_run {R : Type} (k : (Tab × Tab) → Option R) (d : Dec) (w : Tab) (v : Int) (l : List Int) (hl : ∀ p ∈ l, 0 ≤ p ∧ p < 64) (h64 : l.length ≤ 64) : ∀ (n i : Nat) (o c : List Int), o.length = 64 → c.length = 64 → i ≤ l.length → l.length - i < n → ∀ r,
    l26_0 FUEL k n ((i : Int), (v, o, c, r), d, w, l) = k ((v, setAll o (l.drop i) d.2.1, if decide (d.1 = 3) then setAll c (l.drop i) v else c, r), w) := by
  intro n
  induction n with
  | zero => intro j _ _ _ _ _ h; omega
  | succ n ih =>
    intro i o c ho hc hi hn r
    show s26_0 FUEL (l26_0 FUEL k n) k _ = _
    simp only [s26_0]
    by_cases e : i < l.length
    · have hp := hl _ (List.getElem_mem e)
      have hi' : 0 ≤ (i : Int) ∧ (i : Int) < ((l.length : Nat) : Int) := by omega
      have hp' : 0 ≤ l[i] ∧ l[i] < ((64 : Nat) : Int) := by omega
      rw [decide_eq_true hi'.2, wrapNext i (by omega)]
      simp only [cond_true, if_pos hi', Int.toNat_natCast, List.getElem?_eq_getElem e, if_pos hp', nth_get (l := o) hp'.1 (show l[i] < ((o.length : Nat) : Int) by omega), nth_get (l := c) hp'.1 (show l[i] < ((c.length : Nat) : Int) by omega)]
      rw [List.drop_eq_getElem_cons e]
      by_cases hs : d.1 = 3
      · have := ih (i + 1) (o.set (Int.toNat l[i]) d.2.1) (c.set (Int.toNat l[i]) v) (by rw [List.length_set]; exact ho) (by rw [List.length_set]; exact hc) (by omega) (by omega) r
        rw [decide_eq_true hs] at this ⊢
        exact this
      · have := ih (i + 1) (o.set (Int.toNat l[i]) d.2.1) c (by rw [List.length_set]; exact ho) hc (by omega) (by omega) r
        rw [decide_eq_false hs] at this ⊢
        exact this
    · obtain rfl : i = l.length := by omega
      rw [decide_eq_false (by omega)]
      simp only [cond_false, List.drop_length]
      show k _ = k ((v, o, (if decide (d.1 = 3) = true then c else c), r), w)
      rw [ite_self]
theorem p26_eq (t : Tab) (ht : Good t) (d : Dec) (h0 : 0 ≤ d.2.1) (h1 : d.2.1 < 12) (v : Int) : p26 FUEL (t, (v, t.2), d) = some (if mayN (d, decide (d.1 = 3)) t = 0 then (doN (d, decide (d.1 = 3)) (v, t.2), 0) else (t, mayN (d, decide (d.1 = 3)) t)) := by
  have hf := big2
  have hn : 0 ≤ d.2.1 ∧ d.2.1 < ((12 : Nat) : Int) := by omega
  simp only [p26, p31_eq, if_pos hn, nth_get (l := t.2.2.2.1) hn.1 (show d.2.1 < ((t.2.2.2.1.length : Nat) : Int) by rw [ht.member]; omega)]
  cases hm : nth t.2.2.2.1 d.2.1
  · have : mayN (d, decide (d.1 = 3)) t = 143 := by simp [mayN, hm]
    rw [this]; rfl
  simp only [Bool.not_true, cond_false]
  cases hr : right d.2.2.2.1
  · have : mayN (d, decide (d.1 = 3)) t = 1 := by simp [mayN, hm, hr]
    rw [this]; rfl
  have hr' := of_decide_eq_true hr
  simp only [Bool.not_true, cond_false]
  by_cases hs : d.2.2.2.1.2 = 0
  · have : mayN (d, decide (d.1 = 3)) t = 1 := by simp [mayN, hm, hr, hs]
    rw [this, decide_eq_true hs]; rfl
  rw [decide_eq_false hs]
  simp only [cond_false, p32_eq t ht.owner _ _ hr]
  by_cases hb : d.2.2.1 = d.2.1
  · have : mayN (d, decide (d.1 = 3)) t = 141 := by simp [mayN, hm, hr, hs, hb]
    rw [this, decide_eq_true hb]
    cases ownsB t d.2.2.1 d.2.2.2.1 <;> rfl
  rw [decide_eq_false hb]
  by_cases ho : ∃ p ∈ placesN d.2.2.2.1, nth t.2.1 p ≠ d.2.2.1
  · have e : ownsB t d.2.2.1 d.2.2.2.1 = false := decide_eq_false fun g => by
      obtain ⟨p, hp, hne⟩ := ho
      exact hne (g p hp)
    have : mayN (d, decide (d.1 = 3)) t = 141 := by
      simp only [mayN, hm, hr, Bool.true_eq_false, if_false, false_or]
      rw [if_neg hs, if_neg hb, if_pos ho]
    rw [this, e]; rfl
  have e : ownsB t d.2.2.1 d.2.2.2.1 = true := decide_eq_true fun p hp => Classical.byContradiction fun g => ho ⟨p, hp, g⟩
  have hmay : mayN (d, decide (d.1 = 3)) t = if decide (d.1 = 3) = true ∧ nth t.2.2.2.2 d.2.2.1 ≠ d.2.2.2.2.2 then 142 else 0 := by
    simp only [mayN, hm, hr, Bool.true_eq_false, if_false, false_or]
    rw [if_neg hs, if_neg hb, if_neg ho]
  rw [e, hmay]
  simp only [Bool.not_true, cond_false]
  have hby : 0 ≤ d.2.2.1 ∧ d.2.2.1 < ((12 : Nat) : Int) := by
    have hmem : d.2.2.2.1.1 ∈ placesN d.2.2.2.1 := (mem_places _ _ hr hr'.1.1 hr'.1.2).2 (by
      simp only [hasN, hr, Bool.true_and, Bool.and_eq_true, decide_eq_true_eq]; omega)
    have hx : nth t.2.1 d.2.2.2.1.1 = d.2.2.1 := Classical.byContradiction fun g => ho ⟨_, hmem, g⟩
    rw [← hx]
    exact ht.nodes _ hr'.1.1 hr'.1.2
  have hlen : (placesN d.2.2.2.1).length ≤ 64 := by rw [placesN, upto_length]; omega
  have hdo : ∀ (k : (Int × Tab) → Option (Tab × Int)) (w : Tab), j26_1 FUEL k ((v, t.2), d, w) = k (0, doN (d, decide (d.1 = 3)) (v, t.2)) := fun k w => by
    simp only [j26_1, p33_eq _ hr]
    obtain ⟨u, o, c, r⟩ := t
    exact l26_run _ d w v (placesN d.2.2.2.1) (places_in _) hlen FUEL 0 o c ht.owner ht.inc (by omega) (by omega) r
  by_cases hk : d.1 = 3
  · rw [decide_eq_true hk] at hdo ⊢
    simp only [cond_true, if_pos hby, nth_get (l := t.2.2.2.2) hby.1 (show d.2.2.1 < ((t.2.2.2.2.length : Nat) : Int) by rw [ht.renewed]; exact hby.2), true_and]
    by_cases hq : nth t.2.2.2.2 d.2.2.1 = d.2.2.2.2.2
    · have e0 : (if nth t.2.2.2.2 d.2.2.1 ≠ d.2.2.2.2.2 then (142 : Int) else 0) = 0 := if_neg (fun g => g hq)
      rw [decide_eq_true hq, e0, if_pos rfl]
      simp only [Bool.not_true, cond_false, hdo]
    · have e0 : (if nth t.2.2.2.2 d.2.2.1 ≠ d.2.2.2.2.2 then (142 : Int) else 0) = 142 := if_pos hq
      rw [decide_eq_false hq, e0]; rfl
  · rw [decide_eq_false hk] at hdo ⊢
    simp only [cond_false, hdo, Bool.false_eq_true, false_and, if_false]
    rfl
theorem p14_eq (t : Tab) (ht : Sound t) (hv : t.1 < 2147483647) (d : Dec) (hd : DecOk d) : p14 FUEL (t, d) = some (applyN t d) := by
  have hlow := ht.low
  unfold applyN
  by_cases k0 : d.1 < 1 ∨ 5 < d.1
  · have : p14 FUEL (t, d) = some (t, 1) := by
      rcases k0 with k0 | k0
      · simp only [p14, decide_eq_true k0, cond_true]
      · simp only [p14, decide_eq_false (show ¬ d.1 < 1 by omega), decide_eq_true k0, cond_true, cond_false]
    rw [this, if_neg (show ¬ d.1 = 1 by omega), if_neg (show ¬ d.1 = 4 by omega), if_neg (show ¬ d.1 = 5 by omega), if_neg (show ¬ (d.1 = 2 ∨ d.1 = 3) by omega), ite_self]
  by_cases h0 : d.2.1 < 0
  · rw [if_pos (Or.inl h0)]
    simp only [p14, decide_eq_false (show ¬ d.1 < 1 by omega), decide_eq_false (show ¬ 5 < d.1 by omega), decide_eq_true h0, cond_true, cond_false]
  by_cases h1 : 12 ≤ d.2.1
  · rw [if_pos (Or.inr h1)]
    simp only [p14, decide_eq_false (show ¬ d.1 < 1 by omega), decide_eq_false (show ¬ 5 < d.1 by omega), decide_eq_false h0, decide_eq_true h1, cond_true, cond_false]
  rw [if_neg (by omega)]
  have hn : 0 ≤ d.2.1 ∧ d.2.1 < ((12 : Nat) : Int) := by omega
  have hm := nth_get (l := t.2.2.2.1) hn.1 (by rw [ht.member]; exact hn.2)
  have hr := nth_get (l := t.2.2.2.2) hn.1 (by rw [ht.renewed]; exact hn.2)
  have hseen := ht.seen d.2.1 (by omega) (by omega)
  have hcount := hd.count
  simp only [p14, decide_eq_false (show ¬ d.1 < 1 by omega), decide_eq_false (show ¬ 5 < d.1 by omega), decide_eq_false h0, decide_eq_false h1, decide_eq_false (show ¬ (2147483647 : Int) ≤ t.1 by omega), cond_false, if_pos hn, hm, hr, wrapU32 (n := t.1 + 1) (by omega) (by omega), j14_0]
  by_cases k1 : d.1 = 1
  · rw [if_pos k1, decide_eq_true k1, wrapU' (n := d.2.2.2.2.1) (by omega) (by omega), wrapU' (n := nth t.2.2.2.2 d.2.1) (by omega) (by omega), wrapU' (n := nth t.2.2.2.2 d.2.1 + 1) (by omega) (by omega)]
    unfold renewN
    cases nth t.2.2.2.1 d.2.1
    · rfl
    · by_cases g : d.2.2.2.2.1 = nth t.2.2.2.2 d.2.1 + 1
      · rw [decide_eq_true g, if_neg (by decide), if_neg (fun h => h g)]; rfl
      · rw [decide_eq_false g, if_neg (by decide), if_pos g]; rfl
  rw [if_neg k1, decide_eq_false k1]
  by_cases k4 : d.1 = 4
  · rw [if_pos k4, decide_eq_true k4]
    unfold joinN
    cases nth t.2.2.2.1 d.2.1 <;> simp
  rw [if_neg k4, decide_eq_false k4]
  by_cases k5 : d.1 = 5
  · rw [if_pos k5, decide_eq_true k5]
    unfold leaveN
    simp only [cond_true, cond_false, p25_eq t ht.owner]
    cases nth t.2.2.2.1 d.2.1 <;> cases someB t d.2.1 <;> simp
  rw [if_neg k5, decide_eq_false k5, if_pos (show d.1 = 2 ∨ d.1 = 3 by omega)]
  simp only [cond_false, p26_eq t ht.toGood d (by omega) (by omega)]
  rfl
end Go.Am.Ytnbiohlaibdeaaa
