/- Plain law of the top rows: slides that are planned can be given, and come to an end (TopSlides). -/
import Derived.Test.YtioacppahkhbhaaTNeck
import Derived.Test.YtioacppahkhbhaaAmZI
namespace Go.Am.Ytioacppahkhbhaa
open Runs
theorem share_run (x n : Int) (h1 : -9223372036854775808 ≤ x) (h2 : x < 9223372036854775808) (hn : 0 < n) : ∃ r, p5 FUEL (x, n) = some r ∧ 0 ≤ r ∧ r < n := by
  simp only [p5, j5_0]
  have h0 : ¬ n = 0 := by omega
  by_cases c : x < 0
  · rw [decide_eq_true c, cond_true, if_neg h0, wrapI (n := x + 1) (by omega) (by omega), wrapI (by omega) (by omega), tmod_pos (by omega)]
    exact ⟨_, rfl, Int.emod_nonneg _ h0, Int.emod_lt_of_pos _ hn⟩
  · rw [decide_eq_false c, cond_false, if_neg h0, tmod_pos (by omega)]
    exact ⟨_, rfl, Int.emod_nonneg _ h0, Int.emod_lt_of_pos _ hn⟩

/-- How many places each node owns, of the first p. -/
structure Cnt (n : Nat) (o : List Int) (p : Nat) (l : List Int) : Prop where
  len : l.length = n
  cnt : ∀ k, k < n → g l k = (((List.range p).countP (fun q : Nat => decide (nth o (q : Int) = (k : Int))) : Nat) : Int)
theorem loads_loop {R : Type} (K : List Int → Option R) (n : Nat) (t : Tab) (ht : t.2.1.length = 64) : ∀ (m p : Nat) (l : List Int), 64 - p < m → p ≤ 64 → Cnt n t.2.1 p l →
    ∃ l', l7_1 FUEL K m ((n : Int), (p : Int), t, l) = K l' ∧ Cnt n t.2.1 64 l' := by
  intro m
  induction m with
  | zero => intro p l h; omega
  | succ m ih =>
    intro p l h hp C
    by_cases e : p < 64
    · have hget := nth_get (l := t.2.1) (i := (p : Int)) (by omega) (by omega)
      rw [Int.toNat_natCast] at hget
      have hcnt : ∀ k : Nat, (List.range (p + 1)).countP (fun q : Nat => decide (nth t.2.1 (q : Int) = (k : Int))) = (List.range p).countP (fun q : Nat => decide (nth t.2.1 (q : Int) = (k : Int))) + (if nth t.2.1 (p : Int) = (k : Int) then 1 else 0) := by
        intro k
        rw [List.range_succ, List.countP_append, List.countP_singleton]
        by_cases c : nth t.2.1 (p : Int) = (k : Int)
        · rw [if_pos c, if_pos (decide_eq_true c)]
        · rw [if_neg c, if_neg (by rw [decide_eq_false c]; decide)]
      have pr : (0 : Int) ≤ (p : Int) ∧ (p : Int) < ((64 : Nat) : Int) := by omega
      by_cases a : 0 ≤ nth t.2.1 (p : Int) ∧ nth t.2.1 (p : Int) < (n : Int)
      · obtain ⟨k0, hk0⟩ := Int.eq_ofNat_of_zero_le a.1
        have hk0n : k0 < n := by omega
        have hlen := C.len
        have hsmall : 0 ≤ g l k0 ∧ g l k0 ≤ 64 := by
          have h1 := C.cnt k0 hk0n
          have h2 := List.countP_le_length (p := fun q : Nat => decide (nth t.2.1 (q : Int) = (k0 : Int))) (l := List.range p)
          rw [List.length_range] at h2
          omega
        obtain ⟨l', r1, r2⟩ := ih (p + 1) (l.set k0 (g l k0 + 1)) (by omega) (by omega) ⟨by rw [List.length_set]; exact hlen, fun k hk => by
          rw [hcnt k]
          by_cases c : k = k0
          · subst c
            rw [if_pos hk0]
            have : g (l.set k (g l k + 1)) k = g l k + 1 := by
              unfold g; rw [List.getD_eq_getElem?_getD, List.getElem?_set_self (by omega)]; rfl
            rw [this, C.cnt k hk]; omega
          · rw [if_neg (by rw [hk0]; omega), g_set_ne (fun x => c x.symm), C.cnt k hk]; omega⟩
        refine ⟨l', ?_, r2⟩
        refine Eq.trans ?_ r1
        refine (condT (decide_eq_true (show (p : Int) < 64 by omega))).trans ?_
        simp only [if_pos pr, Int.toNat_natCast, hget, j7_0, hk0]
        rw [decide_eq_true (show (0 : Int) ≤ (k0 : Int) by omega), decide_eq_true (show (k0 : Int) < (n : Int) by omega)]
        simp only [cond_true, if_pos (show (0 : Int) ≤ (k0 : Int) ∧ (k0 : Int) < ((l.length : Nat) : Int) by omega), Int.toNat_natCast, g_some (show k0 < l.length by omega)]
        rw [wrapI (n := g l k0 + 1) (by omega) (by omega), wrapNext p (by omega)]
      · obtain ⟨l', r1, r2⟩ := ih (p + 1) l (by omega) (by omega) ⟨C.len, fun k hk => by
          rw [hcnt k, if_neg (by omega), C.cnt k hk]; omega⟩
        refine ⟨l', ?_, r2⟩
        refine Eq.trans ?_ r1
        refine (condT (decide_eq_true (show (p : Int) < 64 by omega))).trans ?_
        simp only [if_pos pr, Int.toNat_natCast, hget, j7_0, wrapNext p (by omega)]
        by_cases b : 0 ≤ nth t.2.1 (p : Int)
        · rw [decide_eq_true b, decide_eq_false (show ¬ nth t.2.1 (p : Int) < (n : Int) by omega)]; rfl
        · rw [decide_eq_false b]; rfl
    · obtain rfl : p = 64 := by omega
      exact ⟨l, rfl, C⟩

theorem loads_run {n : Nat} {t : Tab} {f : Nat → Nat} {L : List Int} (N : Neck n t.2.1 f L) (ht : t.2.1.length = 64) : p7 FUEL (t, (n : Int)) = some L := by
  have hn := N.few
  obtain ⟨l', r1, r2⟩ := loads_loop (R := List Int) (fun x25 => some x25) n t ht FUEL 0 (List.replicate n 0) (by have := big; omega) (by omega) ⟨List.length_replicate, fun k hk => by
    unfold g; rw [List.getD_eq_getElem?_getD, List.getElem?_replicate, if_pos hk]; rfl⟩
  simp only [p7]
  rw [if_pos (show (0 : Int) ≤ (n : Int) ∧ (n : Int) ≤ (n : Int) ∧ (n : Int) * ((8 : Nat) : Int) ≤ 140737488355328 by omega), Int.toNat_natCast]
  refine r1.trans ?_
  congr 1
  refine List.ext_getElem (by rw [r2.len, N.len]) fun i h1 h2 => ?_
  have hi : i < n := by rw [r2.len] at h1; exact h1
  rw [g_get h1, g_get h2, r2.cnt i hi]
  have hf := N.from_ i hi
  have h1' := N.one_ i hi
  have h2' := N.most hi
  have e : (List.range 64).countP (fun q : Nat => decide (nth t.2.1 (q : Int) = (i : Int))) = (List.range 64).countP (fun q : Nat => decide ((((q : Nat) : Int) - (f i : Int) + 64) % 64 < ((Int.toNat (g L i) : Nat) : Int))) := by
    refine List.countP_congr fun q hq => ?_
    have hq := List.mem_range.1 hq
    simp only [decide_eq_true_eq]
    rw [N.own q i hq hi, Int.toNat_of_nonneg (by omega)]
  rw [e, count_arc (f i) hf _ (by omega)]
  omega

theorem border_run {n : Nat} {t : Tab} {f : Nat → Nat} {L : List Int} (N : Neck n t.2.1 f L) (ht : t.2.1.length = 64) {h to : Nat} (hh : h < n) (k : Int) {c : Int} (c1 : 1 ≤ c) (c2 : c < g L h) :
    p8 FUEL (t, (k, ((h : Int), ((to : Int), c))), (n : Int)) = some (gives n f L h to c, true) := by
  have hn := N.few
  have hf := N.from_ h hh
  have hm := N.most hh
  have c0 : (0 : Int) ≤ 0 ∧ (0 : Int) < (([((f h : Int), g L h)].length : Nat) : Int) := by simp
  simp only [p8, p19_eq t ht, owned_run N ht hh, if_pos c0, show Int.toNat 0 = 0 from rfl, List.getElem?_cons_zero, tmod_nxt hh hn.2, natDec, if_neg (show ¬ (n : Int) = 0 by omega)]
  rw [show decide ((([((f h : Int), g L h)].length : Nat) : Int) = 1) = true from rfl, decide_eq_false (show ¬ g L h < c by omega), wrapI (n := (f h : Int) + g L h) (by omega) (by omega), wrapI (n := (f h : Int) + g L h - c) (by omega) (by omega), tmod_pos (by omega)]
  unfold gives
  by_cases e : nxt n h = to
  · rw [decide_eq_true e, if_pos e]; rfl
  · rw [decide_eq_false e, if_neg e]; rfl

/-- A table with its arcs side by side. -/
structure TI (n : Nat) (t : Tab) (f : Nat → Nat) (L : List Int) : Prop where
  neck : Neck n t.2.1 f L
  good : Good t
  here : ∀ k : Nat, k < n → nth t.2.2.2.1 (k : Int) = true
  low : 0 ≤ t.1

def after (t : Tab) (n : Nat) (f : Nat → Nat) (L : List Int) (h to : Nat) (c : Int) : Tab := (t.1 + 1, setAll t.2.1 (placesN (gives n f L h to c)) (to : Int), t.2.2)

theorem give_run {n : Nat} {t : Tab} {f : Nat → Nat} {L : List Int} (I : TI n t f L) (hv : t.1 < 2147483647) {h to : Nat} (hh : h < n) (ht : to < n) (hne : h ≠ to) (side : nxt n h = to ∨ nxt n to = h) {c : Int} (c1 : 1 ≤ c) (c2 : c < g L h) :
    p9 FUEL (t, (2, ((to : Int), ((h : Int), (gives n f L h to c, (0, 0)))))) = some (after t n f L h to c, 0) ∧ TI n (after t n f L h to c) (moved n f h to c) (slideS L h to c) := by
  have hn := I.neck.few
  obtain ⟨g1, g2⟩ := gives_right I.neck hh (to := to) c1 c2
  have hmay : mayN ((2, ((to : Int), ((h : Int), (gives n f L h to c, (0, 0))))), false) t = 0 := by
    unfold mayN
    have n1 : ¬ nth t.2.2.2.1 (to : Int) = false := by rw [I.here to ht]; decide
    have n2 : ¬ (right (gives n f L h to c) = false ∨ (gives n f L h to c).2 = 0) := fun x => x.elim (fun y => by rw [g1] at y; cases y) g2
    have n3 : ¬ (h : Int) = (to : Int) := by omega
    have n4 : ¬ ∃ p ∈ placesN (gives n f L h to c), nth t.2.1 p ≠ (h : Int) := fun ⟨p, hp, x⟩ => x (gives_of I.neck hh c1 c2 hp)
    refine (if_neg n1).trans ((if_neg n2).trans ((if_neg n3).trans ((if_neg n4).trans (if_neg ?_))))
    rintro ⟨x, _⟩; cases x
  have he := shift_eq t I.good (2, ((to : Int), ((h : Int), (gives n f L h to c, (0, 0))))) (by show (0 : Int) ≤ (to : Int); omega) (by show (to : Int) < 12; omega) I.low hv (.inl rfl)
  have hs : shiftN t (2, ((to : Int), ((h : Int), (gives n f L h to c, (0, 0))))) = (after t n f L h to c, 0) := by
    unfold shiftN
    have h23 : decide (((2, ((to : Int), ((h : Int), (gives n f L h to c, (0, 0))))) : Dec).1 = 3) = false := rfl
    rw [h23, hmay, if_pos rfl]
    rfl
  rw [hs] at he
  refine ⟨he, neck_moved I.neck I.good.owner hh ht hne side c1 c2, ⟨by show (setAll _ _ _).length = 64; rw [setAll_length]; exact I.good.owner, I.good.inc, I.good.member, I.good.renewed, fun q h0 h1 => ?_⟩, I.here, by show 0 ≤ t.1 + 1; have := I.low; omega⟩
  show 0 ≤ nth (setAll t.2.1 (placesN (gives n f L h to c)) (to : Int)) q ∧ nth (setAll t.2.1 (placesN (gives n f L h to c)) (to : Int)) q < 12
  rw [setAll_nth (placesN (gives n f L h to c)) (to : Int) q h0 t.2.1 (by rw [I.good.owner]; omega) fun p hp => (upto_in _ _ p hp).1]
  split
  · omega
  · exact I.good.nodes q h0 h1

/-! ### The first table -/
def f0 (n k : Nat) : Nat := (64 * k + n - 1) / n
def L0 (n : Nat) : List Int := (List.range n).map fun k => ((f0 n (k + 1) - f0 n k : Nat) : Int)
def firstOk (n : Nat) : Bool := decide ((L0 n).length = n) && ((List.range n).all fun k => decide (f0 n k < 64) && (decide (1 ≤ g (L0 n) k) && (decide (((f0 n (nxt n k) : Nat) : Int) = ((f0 n k : Int) + g (L0 n) k) % 64) &&
  (List.range 64).all fun q => decide (((q * n / 64 : Nat) : Int) = (k : Int)) == decide (((q : Int) - (f0 n k : Int) + 64) % 64 < g (L0 n) k))))
theorem first_ok : ∀ n, n < 13 → 4 ≤ n → firstOk n = true ∧ sumF one (L0 n) = 64 ∧ ((List.range n).all fun k => nth (newN n).2.2.2.1 (k : Int)) = true := by decide +kernel
theorem first {n : Nat} (h0 : 4 ≤ n) (h1 : n ≤ 12) : TI n (newN n) (f0 n) (L0 n) := by
  obtain ⟨a, b, c⟩ := first_ok n (by omega) h0
  unfold firstOk at a
  simp only [Bool.and_eq_true, decide_eq_true_eq, List.all_eq_true, List.mem_range, beq_iff_eq] at a
  obtain ⟨a1, a2⟩ := a
  refine ⟨⟨⟨h0, h1⟩, a1, fun k hk => (a2 k hk).1, fun k hk => (a2 k hk).2.1, fun q k hq hk => ?_, fun k hk => (a2 k hk).2.2.1, b⟩, new_good n h1, fun k hk => ?_, by show (0 : Int) ≤ 1; decide⟩
  · rw [new_owner n (q : Int) (by omega) (by omega), Int.toNat_natCast]
    have := (a2 k hk).2.2.2 q hq
    rw [decide_eq_decide] at this
    exact this
  · have := List.all_eq_true.1 c k (List.mem_range.2 hk)
    exact this
end Go.Am.Ytioacppahkhbhaa
