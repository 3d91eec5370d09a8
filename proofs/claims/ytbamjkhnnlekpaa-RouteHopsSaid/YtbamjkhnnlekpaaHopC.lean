/- Plain laws of the printed functions of routing: the tables of a ring. -/
import Derived.Test.YtbamjkhnnlekpaaHopB
namespace Go.Am.Ytbamjkhnnlekpaa
/-- Whose fingers these are, by their places. -/
def fing (n f i : Nat) : List Nat := ((List.range f).filter fun k => decide (2 ^ k < n)).map fun k => (i + 2 ^ k) % n
def btN (a x b : Nat) : Bool := bif decide (a < b) then decide (a < x) && decide (x < b) else !decide (x = a) && (!decide (x = b) && (decide (a < x) || decide (x < b)))
def pt (L : List Peer) (i : Nat) : Peer := L.getD i (0, (0, 0))
/-- A node's table, when it has learnt so many fingers. -/
def tabF (L : List Peer) (f i : Nat) : Tab := (pt L i, (pt L ((i + L.length - 1) % L.length), (pt L ((i + 1) % L.length), (fing L.length f i).map (pt L))))

section
variable {L : List Peer} (H : Ring L)
include H
omit H in
theorem pt_get {i : Nat} (h : i < L.length) : L[i]? = some (pt L i) := by
  rw [List.getElem?_eq_getElem h, pt, List.getD_eq_getElem?_getD, List.getElem?_eq_getElem h]; rfl
omit H in
theorem pt_eq {i : Nat} (h : i < L.length) : pt L i = L[i] := by
  rw [pt, List.getD_eq_getElem?_getD, List.getElem?_eq_getElem h]; rfl
theorem pt_id {i : Nat} (h : i < L.length) : (pt L i).1 = (i : Int) := by rw [pt_eq h]; exact H.ids i h
theorem pt_lt {a b : Nat} (ha : a < L.length) (hb : b < L.length) : lt (pt L a).2 (pt L b).2 = decide (a < b) := by
  rw [pt_eq ha, pt_eq hb]
  rcases Nat.lt_trichotomy a b with h | h | h
  · rw [H.up a b ha hb h, decide_eq_true h]
  · subst h; rw [lt_self, decide_eq_false (by omega)]
  · rw [lt_asymm (H.up b a hb ha h), decide_eq_false (by omega)]
theorem pt_same {a b : Nat} (ha : a < L.length) (hb : b < L.length) : eq (pt L a).2 (pt L b).2 = decide (a = b) := by
  rcases Nat.lt_trichotomy a b with h | h | h
  · have h1 := pt_lt H ha hb
    rw [decide_eq_true h] at h1
    rcases way (pt L a).2 (pt L b).2 with ⟨_, _, h3, _⟩ | ⟨h0, _⟩ | ⟨h0, _⟩
    · rw [h3, decide_eq_false (by omega)]
    · rw [h1] at h0; cases h0
    · rw [h1] at h0; cases h0
  · subst h; rw [decide_eq_true rfl]; exact decide_eq_true ⟨rfl, rfl⟩
  · have h1 := pt_lt H hb ha
    rw [decide_eq_true h] at h1
    rcases way (pt L b).2 (pt L a).2 with ⟨_, _, _, h3⟩ | ⟨h0, _⟩ | ⟨h0, _⟩
    · rw [h3, decide_eq_false (by omega)]
    · rw [h1] at h0; cases h0
    · rw [h1] at h0; cases h0
theorem pt_bt {a x b : Nat} (ha : a < L.length) (hx : x < L.length) (hb : b < L.length) : bt (pt L a).2 (pt L x).2 (pt L b).2 = btN a x b := by
  unfold bt btN
  rw [pt_lt H ha hb, pt_lt H ha hx, pt_lt H hx hb, pt_same H hx ha, pt_same H hx hb]
theorem pt_ok {i : Nat} (h : i < L.length) : okN (pt L i).1 = true := by
  rw [pt_id H h]
  have := H.few
  exact decide_eq_true (by omega)
end

set_option maxRecDepth 100000 in
set_option maxHeartbeats 4000000 in
/-- Of small rings: how fingers come. -/
theorem small0 : ∀ n, n < 13 → 0 < n → ∀ i, i < n → (decide ((i + 1) % n = i) = decide ((i + n - 1) % n = i)) ∧ fing n 1 i = (bif decide ((i + 1) % n = i) then [] else [(i + 1) % n]) := by decide
theorem all_range {q : Nat → Bool} {n : Nat} (h : (List.range n).all q = true) {i : Nat} (hi : i < n) : q i = true := List.all_eq_true.1 h i (List.mem_range.2 hi)
def ck1 (n i f : Nat) : Bool := Nat.beq f 0 || (!decide ((fing n f i).length < f) || decide (fing n (f + 1) i = fing n f i))
def ck2 (n i f : Nat) : Bool := Nat.beq f 0 || (decide ((fing n f i).length < f) || decide ((fing n f i).length = f ∧ (fing n f i).getD (f - 1) 0 < n ∧ (fing n f ((fing n f i).getD (f - 1) 0)).length = f ∧ (fing n f ((fing n f i).getD (f - 1) 0)).getD (f - 1) 0 < n ∧
    fing n (f + 1) i = fing n f i ++ (bif btN ((fing n f i).getD (f - 1) 0) ((fing n f ((fing n f i).getD (f - 1) 0)).getD (f - 1) 0) i then [(fing n f ((fing n f i).getD (f - 1) 0)).getD (f - 1) 0] else [])))
set_option maxRecDepth 100000 in
theorem cks1 : ((List.range 13).all fun n => (List.range n).all fun i => (List.range 4).all fun f => ck1 n i f) = true := by decide
set_option maxRecDepth 100000 in
theorem cks2 : ((List.range 13).all fun n => (List.range n).all fun i => (List.range 4).all fun f => ck2 n i f) = true := by decide
theorem small1 (n : Nat) (hn : n < 13) (_ : 0 < n) (i : Nat) (hi : i < n) (f : Nat) (hf : f < 4) (hf0 : 0 < f) (h : (fing n f i).length < f) : fing n (f + 1) i = fing n f i := by
  have := all_range (all_range (all_range cks1 hn) hi) hf
  unfold ck1 at this
  have hb : Nat.beq f 0 = false := by cases f with
    | zero => omega
    | succ f => rfl
  rw [hb, decide_eq_true h] at this
  simpa using this
theorem small2 (n : Nat) (hn : n < 13) (_ : 0 < n) (i : Nat) (hi : i < n) (f : Nat) (hf : f < 4) (hf0 : 0 < f) (h : ¬ (fing n f i).length < f) : (fing n f i).length = f ∧ (fing n f i).getD (f - 1) 0 < n ∧ (fing n f ((fing n f i).getD (f - 1) 0)).length = f ∧ (fing n f ((fing n f i).getD (f - 1) 0)).getD (f - 1) 0 < n ∧
    fing n (f + 1) i = fing n f i ++ (bif btN ((fing n f i).getD (f - 1) 0) ((fing n f ((fing n f i).getD (f - 1) 0)).getD (f - 1) 0) i then [(fing n f ((fing n f i).getD (f - 1) 0)).getD (f - 1) 0] else []) := by
  have := all_range (all_range (all_range cks2 hn) hi) hf
  unfold ck2 at this
  have hb : Nat.beq f 0 = false := by cases f with
    | zero => omega
    | succ f => rfl
  rw [hb, decide_eq_false h, Bool.false_or, Bool.false_or] at this
  exact of_decide_eq_true this
theorem fing_len (n f i : Nat) : (fing n f i).length ≤ f := by
  unfold fing
  rw [List.length_map]
  exact Nat.le_trans (List.length_filter_le _ _) (by simp)
theorem fing_lt {n f i k : Nat} (hn : 0 < n) (h : k ∈ fing n f i) : k < n := by
  unfold fing at h
  rw [List.mem_map] at h
  obtain ⟨j, _, rfl⟩ := h
  exact Nat.mod_lt _ hn

section
variable {L : List Peer} (H : Ring L)
include H
omit H in
theorem tab_len (f i : Nat) (hf : f ≤ 4) : (tabF L f i).2.2.2.length ≤ 4 := by
  unfold tabF
  rw [List.length_map]
  exact Nat.le_trans (fing_len _ _ _) hf

theorem new_tab {i : Nat} (hi : i < L.length) : new (pt L i) (pt L ((i + L.length - 1) % L.length)) (pt L ((i + 1) % L.length)) = .inr (0, tabF L 1 i) := by
  have hm1 : (i + L.length - 1) % L.length < L.length := Nat.mod_lt _ H.pos
  have hm2 : (i + 1) % L.length < L.length := Nat.mod_lt _ H.pos
  obtain ⟨s1, s2⟩ := small0 L.length (by have := H.few; omega) H.pos i hi
  unfold new
  rw [pt_ok H hi, pt_ok H hm1, pt_ok H hm2, pt_id H hi, pt_id H hm1, pt_id H hm2]
  have e1 : decide ((((i + L.length - 1) % L.length : Nat) : Int) = (i : Int)) = decide ((i + L.length - 1) % L.length = i) := by congr 1; simp only [Int.natCast_inj]
  have e2 : decide ((((i + 1) % L.length : Nat) : Int) = (i : Int)) = decide ((i + 1) % L.length = i) := by congr 1; simp only [Int.natCast_inj]
  rw [e1, e2, ← s1]
  simp only [Bool.not_true, cond_false, BEq.rfl, Bool.or_self, tabF, s2]
  cases decide ((i + 1) % L.length = i) <;> rfl

theorem learn_tab {i f : Nat} (hi : i < L.length) (hf : f < 4) (hf0 : 0 < f) (hl : ¬ (fing L.length f i).length < f) :
    learn (f : Int) ((fing L.length f ((fing L.length f i).getD (f - 1) 0)).map (pt L)) (tabF L f i) = (0, tabF L (f + 1) i) := by
  obtain ⟨s1, s2, s3, s4, s5⟩ := small2 L.length (by have := H.few; omega) H.pos i hi f hf hf0 hl
  generalize hm : (fing L.length f i).getD (f - 1) 0 = m at *
  generalize hb : (fing L.length f m).getD (f - 1) 0 = b at *
  have hfl : (tabF L f i).2.2.2.length = f := by unfold tabF; rw [List.length_map]; exact s1
  have hol : ((fing L.length f m).map (pt L)).length = f := by rw [List.length_map]; exact s3
  have hok : allOk ((fing L.length f m).map (pt L)) = true := by
    unfold allOk
    rw [List.all_map]
    exact List.all_eq_true.2 fun k hk => pt_ok H (fing_lt H.pos hk)
  unfold learn
  rw [hfl, hol, hok, decide_eq_false (show ¬ (f : Int) < 1 by omega), decide_eq_false (show ¬ (4 : Int) ≤ (f : Int) by omega), decide_eq_false (show ¬ (f : Int) < (f : Int) by omega), decide_eq_false (show ¬ (4 : Int) < (f : Int) by omega)]
  simp only [Bool.not_true, Bool.or_self, cond_false, Int.toNat_natCast]
  have g1 : (tabF L f i).2.2.2[f - 1]? = some (pt L m) := by
    unfold tabF
    rw [List.getElem?_map, ← hm, List.getD_eq_getElem?_getD, List.getElem?_eq_getElem (show f - 1 < (fing L.length f i).length by omega)]; rfl
  have g2 : ((fing L.length f m).map (pt L))[f - 1]? = some (pt L b) := by
    rw [List.getElem?_map, ← hb, List.getD_eq_getElem?_getD, List.getElem?_eq_getElem (show f - 1 < (fing L.length f m).length by omega)]; rfl
  rw [g1, g2, List.take_of_length_le (Nat.le_of_eq hfl)]
  have hbt : bt (pt L m).2 (pt L b).2 (tabF L f i).1.2 = btN m b i := pt_bt H s2 s4 hi
  simp only [hbt]
  unfold tabF
  rw [s5]
  cases btN m b i <;> simp

def refs (n : Nat) : List (Option Nat) := (List.range n).map some
end

theorem tmod_nat (a b : Nat) : Int.tmod (a : Int) (b : Int) = ((a % b : Nat) : Int) := by
  rw [tmod_pos (by omega)]; rfl
theorem range_snoc {α : Type} (g : Nat → α) (i : Nat) : (List.range (i + 1)).map g = (List.range i).map g ++ [g i] := by
  rw [List.range_succ, List.map_append]; rfl
theorem range_get {α : Type} (g : Nat → α) {n i : Nat} (h : i < n) : ((List.range n).map g)[i]? = some (g i) := by
  rw [List.getElem?_map, List.getElem?_range h]; rfl

section
variable {L : List Peer} (H : Ring L)
include H
theorem l9_0_eq {R : Type} (k0 : Bool × List Tab × List (Option Nat) → Option R) (k1 : Int × List Tab × List (Option Nat) → Option R) :
    l9_0 FUEL k0 k1 FUEL (L, (L.length : Int), 0, [], []) = k1 ((L.length : Int), (List.range L.length).map (tabF L 1), (List.range L.length).map some) := by
  have key := for_loop (S := Unit) (L := fun n y => l9_0 FUEL k0 k1 n y) (step := fun F => s9_0 FUEL F k0 k1) (fun n x => rfl)
    (fun i _ => (L, (L.length : Int), (i : Int), (List.range i).map (tabF L 1), (List.range i).map some)) L.length (fun _ _ => True)
    (fun i s => .inr ()) (fun _ => k1 ((L.length : Int), (List.range L.length).map (tabF L 1), (List.range L.length).map some))
    (fun F i s hi _ => by
      have hfew := H.few
      simp only [s9_0]
      refine (condT (decide_eq_true (show ((i : Nat) : Int) < (L.length : Int) by omega))).trans ?_
      rw [if_pos (by omega)]
      simp only [Int.toNat_natCast, pt_get hi]
      rw [if_neg (by omega)]
      have e1 : Int.tmod (IntKind.wrap .i64 (IntKind.wrap .i64 ((i : Int) + (L.length : Int)) - 1)) (L.length : Int) = (((i + L.length - 1) % L.length : Nat) : Int) := by
        rw [wrapI (n := (i : Int) + (L.length : Int)) (by omega) (by omega), wrapI (by omega) (by omega), show (i : Int) + (L.length : Int) - 1 = ((i + L.length - 1 : Nat) : Int) by omega, tmod_nat]
      have e2 : Int.tmod (IntKind.wrap .i64 ((i : Int) + 1)) (L.length : Int) = (((i + 1) % L.length : Nat) : Int) := by
        rw [wrapNext i (by omega), tmod_nat]
      simp only [e1, e2]
      rw [if_pos (by omega)]
      simp only [Int.toNat_natCast, pt_get (Nat.mod_lt (i + L.length - 1) H.pos)]
      rw [if_neg (by omega), if_pos (by omega)]
      simp only [pt_get (Nat.mod_lt (i + 1) H.pos), p14_eq, new_tab H hi]
      simp only [decide_true, Bool.not_true, cond_false]
      rw [if_pos (by simp; omega)]
      simp only [wrapNext i (show i < 9223372036854775807 by omega), List.length_map, List.length_range, range_snoc])
    (fun F s _ => by
      simp only [s9_0]
      exact condF (decide_eq_false (by omega)))
    (fun _ _ _ _ _ _ => trivial) L.length 0 () FUEL (by omega) (fuel_big (by have := H.few; omega)) trivial
  refine key.trans ?_
  rw [forI_fold (fun _ _ => ())]

theorem l9_1_eq {R : Type} (f : Nat) (hf : f ≤ 4) (k0 : Int × Int × List Tab × List (Option Nat) × List (List Peer) → Option R) :
    l9_1 FUEL k0 FUEL ((L.length : Int), (f : Int), 0, (List.range L.length).map (tabF L f), (List.range L.length).map some, []) = k0 ((L.length : Int), (f : Int), (List.range L.length).map (tabF L f), (List.range L.length).map some, (List.range L.length).map fun j => (fing L.length f j).map (pt L)) := by
  have key := for_loop (S := Unit) (L := fun n y => l9_1 FUEL k0 n y) (step := fun F => s9_1 FUEL F k0) (fun n x => rfl)
    (fun i _ => ((L.length : Int), (f : Int), (i : Int), (List.range L.length).map (tabF L f), (List.range L.length).map some, (List.range i).map fun j => (fing L.length f j).map (pt L))) L.length (fun _ _ => True)
    (fun i s => .inr ()) (fun _ => k0 ((L.length : Int), (f : Int), (List.range L.length).map (tabF L f), (List.range L.length).map some, (List.range L.length).map fun j => (fing L.length f j).map (pt L)))
    (fun F i s hi _ => by
      have hfew := H.few
      simp only [s9_1]
      refine (condT (decide_eq_true (show ((i : Nat) : Int) < (L.length : Int) by omega))).trans ?_
      rw [if_pos (by simp; omega)]
      simp only [Int.toNat_natCast, range_get some hi, range_get (tabF L f) hi, p17_eq _ (tab_len f i hf)]
      rw [if_pos (by simp; omega)]
      rw [set_same (range_get (tabF L f) hi), range_snoc, wrapNext i (by omega)]
      rfl)
    (fun F s _ => by
      simp only [s9_1]
      exact condF (decide_eq_false (by omega)))
    (fun _ _ _ _ _ _ => trivial) L.length 0 () FUEL (by omega) (fuel_big (by have := H.few; omega)) trivial
  refine key.trans ?_
  rw [forI_fold (fun _ _ => ())]

/-- Where the first ones have learnt a finger more. -/
def mid (L : List Peer) (f i : Nat) : List Tab := (List.range L.length).map fun j => if j < i then tabF L (f + 1) j else tabF L f j
omit H in
theorem mid_set (f : Nat) {i : Nat} (hi : i < L.length) : (mid L f i).set i (tabF L (f + 1) i) = mid L f (i + 1) := by
  apply List.ext_getElem?
  intro j
  unfold mid
  rw [List.getElem?_set]
  by_cases e : i = j
  · subst e
    rw [if_pos rfl, List.length_map, List.length_range, if_pos hi, range_get _ hi, if_pos (by omega)]
  · rw [if_neg e]
    by_cases hj : j < L.length
    · rw [range_get _ hj, range_get _ hj]
      by_cases h1 : j < i
      · rw [if_pos h1, if_pos (by omega)]
      · rw [if_neg h1, if_neg (by omega)]
    · rw [List.getElem?_eq_none (by simp; omega), List.getElem?_eq_none (by simp; omega)]
omit H in
theorem mid_get (f : Nat) {i : Nat} (hi : i < L.length) : (mid L f i)[i]? = some (tabF L f i) := by
  unfold mid
  rw [range_get _ hi, if_neg (by omega)]
omit H in
theorem mid_zero (f : Nat) : mid L f 0 = (List.range L.length).map (tabF L f) := by
  unfold mid; congr 1
omit H in
theorem mid_all (f : Nat) : mid L f L.length = (List.range L.length).map (tabF L (f + 1)) := by
  unfold mid
  apply List.map_congr_left
  intro j hj
  rw [List.mem_range] at hj
  rw [if_pos hj]

theorem l9_2_eq {R : Type} (f : Nat) (hf : f < 4) (hf0 : 0 < f) (k0 : Bool × List Tab × List (Option Nat) → Option R) (k1 : Int × Int × List Tab × List (Option Nat) → Option R) :
    l9_2 FUEL k0 k1 FUEL ((L.length : Int), (f : Int), 0, (List.range L.length).map (tabF L f), (List.range L.length).map some, (List.range L.length).map fun j => (fing L.length f j).map (pt L)) = k1 ((L.length : Int), (f : Int), (List.range L.length).map (tabF L (f + 1)), (List.range L.length).map some) := by
  have key := for_loop (S := Unit) (L := fun n y => l9_2 FUEL k0 k1 n y) (step := fun F => s9_2 FUEL F k0 k1) (fun n x => rfl)
    (fun i _ => ((L.length : Int), (f : Int), (i : Int), mid L f i, (List.range L.length).map some, (List.range L.length).map fun j => (fing L.length f j).map (pt L))) L.length (fun _ _ => True)
    (fun i s => .inr ()) (fun _ => k1 ((L.length : Int), (f : Int), mid L f L.length, (List.range L.length).map some))
    (fun F i s hi _ => by
      have hfew := H.few
      simp only [s9_2]
      refine (condT (decide_eq_true (show ((i : Nat) : Int) < (L.length : Int) by omega))).trans ?_
      rw [if_pos (by simp; omega)]
      simp only [Int.toNat_natCast, range_get (fun j => (fing L.length f j).map (pt L)) hi, List.length_map, List.length_range]
      by_cases hl : (fing L.length f i).length < f
      · refine (condT (decide_eq_true (by omega))).trans ?_
        have e := small1 L.length (by omega) H.pos i hi f hf hf0 hl
        have e2 : tabF L (f + 1) i = tabF L f i := by unfold tabF; rw [e]
        have e3 : mid L f (i + 1) = mid L f i := by rw [← mid_set f hi, e2]; exact set_same (mid_get f hi)
        rw [wrapNext i (by omega), e3]
      · refine (condF (decide_eq_false (by omega))).trans ?_
        obtain ⟨s1, s2, s3, s4, s5⟩ := small2 L.length (by omega) H.pos i hi f hf hf0 hl
        rw [if_pos (by omega)]
        simp only [range_get some hi]
        rw [if_pos (by omega)]
        have hw : IntKind.wrap .i64 ((f : Int) - 1) = ((f - 1 : Nat) : Int) := by rw [wrapI (by omega) (by omega)]; omega
        simp only [hw]
        rw [if_pos (by omega)]
        have g1 : ((fing L.length f i).map (pt L))[f - 1]? = some (pt L ((fing L.length f i).getD (f - 1) 0)) := by
          rw [List.getElem?_map, List.getD_eq_getElem?_getD, List.getElem?_eq_getElem (show f - 1 < (fing L.length f i).length by omega)]; rfl
        simp only [Int.toNat_natCast, g1, pt_id H s2]
        rw [if_pos (by omega)]
        simp only [range_get (fun j => (fing L.length f j).map (pt L)) s2, mid_get f hi]
        rw [p20b_eq _ _ _ (by rw [List.length_map]; have := fing_len L.length f ((fing L.length f i).getD (f - 1) 0); omega) (tab_len f i (by omega)), learn_tab H hi hf hf0 hl]
        simp only [decide_true, Bool.not_true, cond_false, mid_set f hi, wrapNext i (show i < 9223372036854775807 by omega)])
    (fun F s _ => by
      simp only [s9_2]
      exact condF (decide_eq_false (by omega)))
    (fun _ _ _ _ _ _ => trivial) L.length 0 () FUEL (by omega) (fuel_big (by have := H.few; omega)) trivial
  rw [forI_fold (fun _ _ => ()), mid_all] at key
  rw [← mid_zero f]
  exact key

theorem l9_3_eq {R : Type} (k0 : Bool × List Tab × List (Option Nat) → Option R) (k1 : List Tab × List (Option Nat) → Option R) :
    l9_3 FUEL k0 k1 FUEL ((L.length : Int), 1, (List.range L.length).map (tabF L 1), (List.range L.length).map some) = k1 ((List.range L.length).map (tabF L 4), (List.range L.length).map some) := by
  have key := for_loop (S := Unit) (L := fun n y => l9_3 FUEL k0 k1 n y) (step := fun F => s9_3 FUEL F k0 k1) (fun n x => rfl)
    (fun i _ => ((L.length : Int), ((i + 1 : Nat) : Int), (List.range L.length).map (tabF L (i + 1)), (List.range L.length).map some)) 3 (fun _ _ => True)
    (fun i s => .inr ()) (fun _ => k1 ((List.range L.length).map (tabF L 4), (List.range L.length).map some))
    (fun F i s hi _ => by
      simp only [s9_3]
      refine (condT (decide_eq_true (show ((i + 1 : Nat) : Int) < 4 by omega))).trans ?_
      rw [l9_1_eq H (i + 1) (by omega)]
      simp only
      rw [l9_2_eq H (i + 1) (by omega) (by omega)]
      simp only [wrapNext (i + 1) (show i + 1 < 9223372036854775807 by omega)])
    (fun F s _ => by
      simp only [s9_3]
      exact condF (by decide))
    (fun _ _ _ _ _ _ => trivial) 3 0 () FUEL (by omega) (fuel_big (by omega)) trivial
  rw [forI_fold (fun _ _ => ())] at key
  exact key

theorem p9_eq : p9 FUEL (L, []) = some (true, (List.range L.length).map (tabF L 4), (List.range L.length).map some) := by
  simp only [p9]
  rw [l9_0_eq H]
  simp only
  rw [l9_3_eq H]
end
end Go.Am.Ytbamjkhnnlekpaa
