/- Plain laws of the printed functions of routing: lookups. -/
import Derived.Test.YtbamjkhnnlekpaaHopD
namespace Go.Am.Ytbamjkhnnlekpaa
/-- How far the fingers reach. -/
def offs (n : Nat) : List Nat := ((List.range 4).filter fun k => decide (2 ^ k < n)).map fun k => 2 ^ k
def big (n D : Nat) : Option Nat := (offs n).reverse.find? fun s => decide (s < D)
/-- How many hops are told in the end. -/
def wN (n : Nat) : Nat → Nat → Nat
  | 0, _ => 0
  | k + 1, D => bif decide (D ≤ 1) then D else match big n D with
    | some s => 1 + wN n k (D - s)
    | none => 100
def logN (n : Nat) : Nat := ((List.range 4).filter fun k => decide (2 ^ k < n)).length
def ck3 (n D : Nat) : Bool := decide (D < 2) || (match big n D with | some s => decide (0 < s ∧ s < D) | none => false)
set_option maxRecDepth 100000 in
theorem cks3 : ((List.range 13).all fun n => (List.range n).all fun D => ck3 n D) = true := by decide
set_option maxRecDepth 100000 in
theorem cks4 : ((List.range 13).all fun n => (List.range n).all fun D => decide (wN n 12 D ≤ logN n + 1)) = true := by decide
set_option maxRecDepth 100000 in
theorem cks5 : ((List.range 13).all fun n => decide (logN n ≤ 4)) = true := by decide
set_option maxRecDepth 100000 in
theorem cks6 : ((List.range 13).all fun n => (offs n).all fun s => decide (0 < s ∧ s < n)) = true := by decide
theorem big_some {n D : Nat} (hn : n < 13) (hD : D < n) (h2 : ¬ D < 2) : ∃ s, big n D = some s ∧ 0 < s ∧ s < D := by
  have := all_range (all_range cks3 hn) hD
  unfold ck3 at this
  rw [decide_eq_false h2, Bool.false_or] at this
  split at this
  · rename_i s hs
    exact ⟨s, hs, of_decide_eq_true this⟩
  · cases this

theorem back_find {α : Type} (q : α → Bool) (l : List α) : ((backL l).find? fun z => q z.2).map (·.2) = l.reverse.find? q := by
  have : l.reverse = (backL l).map (·.2) := by
    unfold backL
    rw [List.map_reverse, List.map_map]
    congr 1
    have : (Prod.snd ∘ fun p : α × Nat => ((p.2 : Int), p.1)) = Prod.fst := rfl
    rw [this, List.zipIdx_map_fst]
  rw [this, List.find?_map]
  rfl

theorem find_same {α : Type} {p q : α → Bool} : ∀ {l : List α}, (∀ a ∈ l, p a = q a) → l.find? p = l.find? q := by
  intro l
  induction l with
  | nil => intro _; rfl
  | cons a l ih =>
    intro h
    rw [List.find?_cons, List.find?_cons, h a (by simp), ih fun b hb => h b (by simp [hb])]

section
variable {L : List Peer} (H : Ring L)
include H
theorem dist_lt {i : Nat} (hi : i < L.length) (x : Int × Int) : dist L.length i (ownerN L x) < L.length := by
  have := ownerN_lt H x
  unfold dist; split <;> omega

/-- Which nodes lie ahead of a position, from a node on. -/
theorem ahead_tab {cur s : Nat} (hc : cur < L.length) (hs0 : 0 < s) (hs : s < L.length) (x : Int × Int) (h0 : dist L.length cur (ownerN L x) ≠ 0) :
    ahead (tabF L 4 cur) x (pt L ((cur + s) % L.length)) = decide (s < dist L.length cur (ownerN L x)) := by
  obtain ⟨m, hm, hb, ho⟩ := bound H x
  have hg : (cur + s) % L.length < L.length := Nat.mod_lt _ H.pos
  have hgv : (cur + s) % L.length = if cur + s < L.length then cur + s else cur + s - L.length := by
    split
    · exact Nat.mod_eq_of_lt (by assumption)
    · rw [Nat.mod_eq_sub_mod (by omega)]; exact Nat.mod_eq_of_lt (by omega)
  have hE : eq (pt L ((cur + s) % L.length)).2 x = true → m = (cur + s) % L.length := fun h => by
    have h1 : lt (pt L ((cur + s) % L.length)).2 x = false := by
      rcases way (pt L ((cur + s) % L.length)).2 x with ⟨_, _, h3, _⟩ | ⟨h0, _⟩ | ⟨h0, _⟩
      · rw [h3] at h; cases h
      · exact h0
      · exact h0
    rw [hb _ hg] at h1
    have h1 := of_decide_eq_false h1
    by_cases e : m = (cur + s) % L.length
    · exact e
    · exfalso
      have h2 := pt_lt H (show m < L.length by omega) hg
      rw [decide_eq_true (show m < (cur + s) % L.length by omega)] at h2
      have h3 : lt (pt L m).2 x = true := by
        have he := eq_t h
        have h2 := lt_t h2
        exact decide_eq_true (by omega)
      rw [hb m (by omega)] at h3
      have := of_decide_eq_true h3
      omega
  unfold ahead bt
  have e1 : (tabF L 4 cur).1 = pt L cur := rfl
  rw [e1, hb cur hc, pt_lt H hc hg, hb _ hg, pt_same H hg hc]
  rw [ho] at h0 ⊢
  generalize hgg : (cur + s) % L.length = g at *
  by_cases h1 : cur < m
  · rw [decide_eq_true h1, cond_true]
    have hd : dist L.length cur (if m < L.length then m else 0) = m - cur := by
      unfold dist
      by_cases h2 : m < L.length
      · rw [if_pos h2, if_pos (by omega)]
      · rw [if_neg h2]
        by_cases h3 : cur = 0
        · subst h3
          exfalso
          apply h0
          rw [if_neg h2]; rfl
        · rw [if_neg (by omega)]; omega
    rw [hd]
    by_cases h2 : cur + s < L.length
    · rw [if_pos h2] at hgv
      rw [decide_eq_true (show cur < g by omega), Bool.true_and]
      by_cases h3 : s < m - cur
      · rw [decide_eq_true h3, decide_eq_true (by omega)]
      · rw [decide_eq_false h3, decide_eq_false (by omega)]
    · rw [if_neg h2] at hgv
      rw [decide_eq_false (show ¬ cur < g by omega), Bool.false_and, decide_eq_false (by omega)]
  · rw [decide_eq_false h1, cond_false, if_pos (show m < L.length by omega)] at *
    have hmc : m ≠ cur := fun e => by
      apply h0
      subst e
      unfold dist; rw [if_pos (Nat.le_refl _)]; omega
    have hd : dist L.length cur m = m + L.length - cur := by unfold dist; rw [if_neg (by omega)]
    rw [hd]
    rw [decide_eq_false (show ¬ g = cur by split at hgv <;> omega), Bool.not_false, Bool.true_and]
    by_cases h2 : cur + s < L.length
    · rw [if_pos h2] at hgv
      have hnE : eq (pt L g).2 x = false := by
        cases hh : eq (pt L g).2 x with
        | false => rfl
        | true => have := hE hh; omega
      rw [hnE, decide_eq_true (show cur < g by omega), Bool.true_or, Bool.not_false, Bool.true_and, decide_eq_true (show s < m + L.length - cur by omega)]
    · rw [if_neg h2] at hgv
      rw [decide_eq_false (show ¬ cur < g by omega), Bool.false_or]
      by_cases h3 : g < m
      · have hnE : eq (pt L g).2 x = false := by
          cases hh : eq (pt L g).2 x with
          | false => rfl
          | true => have := hE hh; omega
        rw [hnE, decide_eq_true h3, Bool.not_false, Bool.true_and, decide_eq_true (show s < m + L.length - cur by omega)]
      · rw [decide_eq_false h3, decide_eq_false (by omega), Bool.and_false]

theorem next_tab {cur : Nat} (hc : cur < L.length) (x : Int × Int) : next (tabF L 4 cur) x =
    bif decide (dist L.length cur (ownerN L x) = 0) then ((pt L cur, true, (0 : Int)) : Peer × Bool × Int) else bif decide (dist L.length cur (ownerN L x) = 1) then (pt L (ownerN L x), true, 0) else
      match big L.length (dist L.length cur (ownerN L x)) with
      | some s => (pt L ((cur + s) % L.length), false, 0)
      | none => ((0, (0, 0)), false, 131) := by
  have hend := ownerN_lt H x
  unfold next
  rw [own_tab H 4 hc]
  by_cases h0 : ownerN L x = cur
  · have : dist L.length cur (ownerN L x) = 0 := by rw [h0]; unfold dist; rw [if_pos (Nat.le_refl _)]; omega
    rw [decide_eq_true h0, this]; rfl
  · have hd0 : dist L.length cur (ownerN L x) ≠ 0 := by unfold dist; split <;> omega
    rw [decide_eq_false h0, decide_eq_false hd0, cond_false, cond_false]
    have hn2 : ¬ L.length = 1 := by omega
    have hb : (cur + 1) % L.length < L.length := Nat.mod_lt _ H.pos
    have hbv : (cur + 1) % L.length = if cur + 1 < L.length then cur + 1 else 0 := by
      split
      · exact Nat.mod_eq_of_lt (by assumption)
      · have : cur + 1 = L.length := by omega
        rw [this, Nat.mod_self]
    have hsucc : (eq x (tabF L 4 cur).2.2.1.2 || bt (tabF L 4 cur).1.2 x (tabF L 4 cur).2.2.1.2) = decide (dist L.length cur (ownerN L x) = 1) := by
      have h1 := own_tab H 4 hb x
      have e1 : ((cur + 1) % L.length + L.length - 1) % L.length = cur := by
        rw [hbv]
        split
        · rw [show cur + 1 + L.length - 1 = cur + L.length by omega, Nat.add_mod_right]; exact Nat.mod_eq_of_lt hc
        · rw [Nat.zero_add, Nat.mod_eq_of_lt (by omega)]; omega
      unfold own at h1
      have e2 : (tabF L 4 ((cur + 1) % L.length)).2.1 = pt L cur := by show pt L _ = _; rw [e1]
      have e3 : (tabF L 4 ((cur + 1) % L.length)).1 = pt L ((cur + 1) % L.length) := rfl
      have e4 : (tabF L 4 ((cur + 1) % L.length)).2.2.1.1 = ((((cur + 1) % L.length + 1) % L.length : Nat) : Int) := pt_id H (Nat.mod_lt _ H.pos)
      rw [e2, e3, e4, pt_id H hb] at h1
      have e5 : ¬ (((cur + 1) % L.length + 1) % L.length) = (cur + 1) % L.length := by
        generalize (cur + 1) % L.length = q at hb
        rcases Nat.lt_or_ge (q + 1) L.length with h | h
        · rw [Nat.mod_eq_of_lt h]; omega
        · have : q + 1 = L.length := by omega
          rw [this, Nat.mod_self]; omega
      rw [decide_eq_false (show ¬ ((((cur + 1) % L.length + 1) % L.length : Nat) : Int) = (((cur + 1) % L.length : Nat) : Int) by omega), Bool.false_or] at h1
      show (eq x (pt L ((cur + 1) % L.length)).2 || bt (pt L cur).2 x (pt L ((cur + 1) % L.length)).2) = _
      rw [h1]
      have e6 : (ownerN L x = (cur + 1) % L.length) ↔ dist L.length cur (ownerN L x) = 1 := by
        unfold dist
        rw [hbv]
        constructor
        · intro h
          rw [h]
          split <;> split <;> omega
        · intro h
          split at h <;> split <;> omega
      rw [decide_eq_decide]; exact e6
    rw [hsucc]
    by_cases h1 : dist L.length cur (ownerN L x) = 1
    · rw [decide_eq_true h1, cond_true, cond_true]
      have : (tabF L 4 cur).2.2.1 = pt L (ownerN L x) := by
        show pt L ((cur + 1) % L.length) = _
        congr 1
        rw [hbv]
        unfold dist at h1
        split at h1 <;> split <;> omega
      rw [this]
    · rw [decide_eq_false h1, cond_false, cond_false]
      have key : ((backL (tabF L 4 cur).2.2.2).find? fun z => ahead (tabF L 4 cur) x z.2).map (·.2) = (big L.length (dist L.length cur (ownerN L x))).map fun s => pt L ((cur + s) % L.length) := by
        rw [back_find]
        have e1 : (tabF L 4 cur).2.2.2 = (offs L.length).map fun s => pt L ((cur + s) % L.length) := by
          show (fing L.length 4 cur).map (pt L) = _
          unfold fing offs
          rw [List.map_map, List.map_map]; rfl
        rw [e1, ← List.map_reverse, List.find?_map]
        unfold big
        congr 1
        apply find_same
        intro s hs
        have hs : s ∈ offs L.length := List.mem_reverse.1 hs
        have := of_decide_eq_true (List.all_eq_true.1 (all_range cks6 (show L.length < 13 by have := H.few; omega)) s hs)
        exact ahead_tab H hc this.1 this.2 x hd0
      cases hf : (backL (tabF L 4 cur).2.2.2).find? fun z => ahead (tabF L 4 cur) x z.2 with
      | none =>
        rw [hf] at key
        cases hg : big L.length (dist L.length cur (ownerN L x)) with
        | none => rfl
        | some s => rw [hg] at key; cases key
      | some z =>
        rw [hf] at key
        cases hg : big L.length (dist L.length cur (ownerN L x)) with
        | none => rw [hg] at key; cases key
        | some s =>
          rw [hg] at key
          simp only [Option.map_some, Option.some.injEq] at key
          simp only [key]
end
end Go.Am.Ytbamjkhnnlekpaa
