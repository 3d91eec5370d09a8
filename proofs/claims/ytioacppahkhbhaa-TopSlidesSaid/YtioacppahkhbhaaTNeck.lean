/- Plain laws of tables in which each node owns one arc, side by side around the ring. -/
import Derived.Test.YtioacppahkhbhaaTCount
import Derived.Test.YtioacppahkhbhaaTBal
import Derived.Test.YtioacppahkhbhaaOneArc
namespace Go.Am.Ytioacppahkhbhaa
open Runs
/-- Node k owns the g L k places from f k on. -/
structure Neck (n : Nat) (o : List Int) (f : Nat → Nat) (L : List Int) : Prop where
  few : 4 ≤ n ∧ n ≤ 12
  len : L.length = n
  from_ : ∀ k, k < n → f k < 64
  one_ : ∀ k, k < n → 1 ≤ g L k
  own : ∀ q k : Nat, q < 64 → k < n → (nth o (q : Int) = (k : Int) ↔ ((q : Int) - (f k : Int) + 64) % 64 < g L k)
  next : ∀ k, k < n → ((f (nxt n k) : Nat) : Int) = ((f k : Int) + g L k) % 64
  all : sumF one L = 64

theorem sum_ge : ∀ (l : List Int), (∀ x ∈ l, 1 ≤ x) → (l.length : Int) ≤ sumF one l
  | [], _ => Int.le_refl _
  | x :: l, h => by
    have h1 := h x (by simp)
    have h2 := sum_ge l fun y hy => h y (by simp [hy])
    rw [List.length_cons]
    show ((l.length + 1 : Nat) : Int) ≤ x + sumF one l
    omega
theorem Neck.most {n : Nat} {o : List Int} {f : Nat → Nat} {L : List Int} (N : Neck n o f L) {k : Nat} (hk : k < n) : g L k ≤ 61 := by
  have hl := N.len
  have hkl : k < L.length := by omega
  have h1 := sumF_set one L k 1 hkl
  have h2 := sum_ge (L.set k 1) fun x hx => by
    rcases List.mem_or_eq_of_mem_set hx with h | h
    · obtain ⟨i, hi, e⟩ := mem_g h
      rw [← e]; exact N.one_ i (by omega)
    · omega
  rw [List.length_set, h1, N.all] at h2
  have := N.few
  have e : one (g L k) = g L k := rfl
  have e1 : one 1 = 1 := rfl
  rw [e, e1] at h2
  omega
theorem Neck.fair {n : Nat} {o : List Int} {f : Nat → Nat} {L : List Int} (N : Neck n o f L) : fair L 1 12 = true := by
  have := N.few
  have hl := N.len
  refine fair_of (by omega) (by omega) fun x hx => ?_
  obtain ⟨i, hi, e⟩ := mem_g hx
  have h1 := N.one_ i (by omega)
  have h2 := N.most (k := i) (by omega)
  rw [← e]; omega

theorem owned_run {n : Nat} {t : Tab} {f : Nat → Nat} {L : List Int} (N : Neck n t.2.1 f L) (ho : t.2.1.length = 64) {k : Nat} (hk : k < n) : owned t (k : Int) = [((f k : Int), g L k)] := by
  have h1 := N.one_ k hk
  have h2 := N.most hk
  have h3 := N.from_ k hk
  unfold owned
  have := runs_arc (bit (inL t.2.1 (k : Int))) (f k) (Int.toNat (g L k)) h3 (by omega) (by omega) fun q hq => by
    rw [inL_bit _ _ _ (by omega)]
    have hown := N.own q k hq hk
    by_cases c : nth t.2.1 (q : Int) = (k : Int)
    · rw [decide_eq_true c, decide_eq_true (by have := hown.1 c; omega)]
    · rw [decide_eq_false c, decide_eq_false (by intro x; exact c (hown.2 (by omega)))]
  rw [this, Int.toNat_of_nonneg (by omega)]

/-- Who stands behind whom. -/
theorem nxt_inj {n a b : Nat} (ha : a < n) (hb : b < n) (h : nxt n a = nxt n b) : a = b := by
  unfold nxt at h; split at h <;> split at h <;> omega
theorem nxt_ne {n a : Nat} (hn : 2 ≤ n) : nxt n a ≠ a := by unfold nxt; split <;> omega

/-- The arc that passes over. -/
def gives (n : Nat) (f : Nat → Nat) (L : List Int) (h to : Nat) (c : Int) : Int × Int := if nxt n h = to then (((f h : Int) + g L h - c) % 64, c) else ((f h : Int), c)
def moved (n : Nat) (f : Nat → Nat) (h to : Nat) (c : Int) (k : Nat) : Nat := if nxt n h = to then (if k = to then Int.toNat (((f to : Int) - c + 64) % 64) else f k) else (if k = h then Int.toNat (((f h : Int) + c) % 64) else f k)

section
variable {n : Nat} {o : List Int} {f : Nat → Nat} {L : List Int} (N : Neck n o f L) (ho : o.length = 64) {h to : Nat} (hh : h < n) (ht : to < n) (hne : h ≠ to) (side : nxt n h = to ∨ nxt n to = h) {c : Int} (c1 : 1 ≤ c) (c2 : c < g L h)
include N hh c1 c2 in
theorem gives_right : right (gives n f L h to c) = true ∧ (gives n f L h to c).2 ≠ 0 := by
  have h1 := N.most hh
  have h2 := N.from_ h hh
  unfold gives
  split
  · refine ⟨?_, by show c ≠ 0; omega⟩
    unfold right
    exact decide_eq_true ⟨by show 0 ≤ _ % 64 ∧ _ % 64 < 64; omega, by show 0 ≤ c ∧ c ≤ 64; omega⟩
  · refine ⟨?_, by show c ≠ 0; omega⟩
    unfold right
    exact decide_eq_true ⟨by show 0 ≤ (f h : Int) ∧ (f h : Int) < 64; omega, by show 0 ≤ c ∧ c ≤ 64; omega⟩
include N hh c1 c2 in
theorem gives_in {q : Nat} (hq : q < 64) : (q : Int) ∈ placesN (gives n f L h to c) ↔ if nxt n h = to then (g L h - c ≤ ((q : Int) - (f h : Int) + 64) % 64 ∧ ((q : Int) - (f h : Int) + 64) % 64 < g L h) else ((q : Int) - (f h : Int) + 64) % 64 < c := by
  have hr := (gives_right N hh c1 c2 (to := to)).1
  have h1 := N.most hh
  have h2 := N.from_ h hh
  rw [mem_places _ _ hr (by omega) (by omega)]
  unfold hasN
  rw [hr, decide_eq_true (show (0 : Int) ≤ (q : Int) ∧ (q : Int) < 64 by omega)]
  simp only [Bool.true_and, decide_eq_true_eq]
  unfold gives
  split
  · show ((q : Int) - ((f h : Int) + g L h - c) % 64 + 64) % 64 < c ↔ _
    omega
  · exact Iff.rfl
include N hh c1 c2 in
theorem gives_of {p : Int} (hp : p ∈ placesN (gives n f L h to c)) : nth o p = (h : Int) := by
  have hb := upto_in _ _ p hp
  obtain ⟨q, rfl⟩ := Int.eq_ofNat_of_zero_le hb.1
  have hq : q < 64 := by omega
  have hin := (gives_in N hh c1 c2 (to := to) hq).1 hp
  refine (N.own q h hq hh).2 ?_
  split at hin <;> omega

include N ho hh ht hne side c1 c2 in
theorem neck_moved : Neck n (setAll o (placesN (gives n f L h to c)) (to : Int)) (moved n f h to c) (slideS L h to c) := by
  have hlen := N.len
  have hn := N.few
  have hhl : h < L.length := by omega
  have htl : to < L.length := by omega
  have zh := N.most hh
  have zt := N.most ht
  have fh := N.from_ h hh
  have ft := N.from_ to ht
  have oh := N.one_ h hh
  have ot := N.one_ to ht
  have nh := N.next h hh
  have nt := N.next to ht
  have G : ∀ k, k < n → g (slideS L h to c) k = if k = to then g L to + c else if k = h then g L h - c else g L k := fun k hk => by
    have := slide_get hhl htl hne (c := c) (i := k) (by omega)
    rw [g_some (by rw [slide_len]; omega)] at this
    exact Option.some.inj this
  have O : ∀ q : Nat, q < 64 → nth (setAll o (placesN (gives n f L h to c)) (to : Int)) (q : Int) = if (q : Int) ∈ placesN (gives n f L h to c) then (to : Int) else nth o (q : Int) := fun q hq =>
    setAll_nth _ _ _ (by omega) o (by omega) fun p hp => (upto_in _ _ p hp).1
  -- both together have not all places
  have both : g L h + g L to ≤ 62 := by
    have h1 := sumF_set one L h 1 hhl
    have h2 := sumF_set one (L.set h 1) to 1 (by rw [List.length_set]; exact htl)
    have h3 := sum_ge ((L.set h 1).set to 1) fun x hx => by
      rcases mem_set2 hx with y | y | y
      · obtain ⟨i, hi, e⟩ := mem_g y
        rw [← e]; exact N.one_ i (by omega)
      · omega
      · omega
    rw [List.length_set, List.length_set, h2, h1, N.all, g_set_ne hne] at h3
    have h3' : (L.length : Int) ≤ 64 - g L h + 1 - g L to + 1 := h3
    omega
  refine ⟨N.few, by rw [slide_len]; exact hlen, fun k hk => ?_, fun k hk => ?_, fun q k hq hk => ?_, fun k hk => ?_, ?_⟩
  · have := N.from_ k hk
    unfold moved
    split
    · split
      · omega
      · exact this
    · split
      · omega
      · exact this
  · rw [G k hk]
    have := N.one_ k hk
    split
    · omega
    · split <;> omega
  · have hin := gives_in N hh c1 c2 (to := to) hq
    have ownh := N.own q h hq hh
    have ownt := N.own q to hq ht
    have ownk := N.own q k hq hk
    rw [O q hq, G k hk]
    unfold moved
    by_cases s : nxt n h = to
    · rw [if_pos s] at hin
      rw [s] at nh
      simp only [if_pos s]
      by_cases kt : k = to
      · subst kt
        rw [if_pos rfl, if_pos rfl]
        by_cases ii : (q : Int) ∈ placesN (gives n f L h k c)
        · rw [if_pos ii]
          have := hin.1 ii
          constructor
          · intro _; omega
          · intro _; rfl
        · rw [if_neg ii, ownt]
          have hx : ¬ (g L h - c ≤ ((q : Int) - (f h : Int) + 64) % 64 ∧ ((q : Int) - (f h : Int) + 64) % 64 < g L h) := fun x => ii (hin.2 x)
          constructor <;> intro y <;> omega
      · rw [if_neg kt, if_neg kt]
        by_cases kh : k = h
        · subst kh
          rw [if_pos rfl]
          by_cases ii : (q : Int) ∈ placesN (gives n f L k to c)
          · rw [if_pos ii]
            have := hin.1 ii
            constructor
            · intro x; exact absurd (show k = to by omega) kt
            · intro x; omega
          · rw [if_neg ii, ownh]
            have hx : ¬ (g L k - c ≤ ((q : Int) - (f k : Int) + 64) % 64 ∧ ((q : Int) - (f k : Int) + 64) % 64 < g L k) := fun x => ii (hin.2 x)
            constructor <;> intro y <;> omega
        · rw [if_neg kh]
          by_cases ii : (q : Int) ∈ placesN (gives n f L h to c)
          · rw [if_pos ii]
            have hof := gives_of N hh c1 c2 (to := to) ii
            constructor
            · intro x; exact absurd (show k = to by omega) kt
            · intro x
              have := ownk.2 x
              rw [hof] at this
              exact absurd (show k = h by omega) kh
          · rw [if_neg ii]; exact ownk
    · rw [if_neg s] at hin
      have s2 := side.resolve_left s
      rw [s2] at nt
      simp only [if_neg s]
      by_cases kt : k = to
      · subst kt
        rw [if_pos rfl, if_neg (show ¬ k = h from fun e => hne e.symm)]
        by_cases ii : (q : Int) ∈ placesN (gives n f L h k c)
        · rw [if_pos ii]
          have := hin.1 ii
          constructor
          · intro _; omega
          · intro _; rfl
        · rw [if_neg ii, ownt]
          have hx : ¬ ((q : Int) - (f h : Int) + 64) % 64 < c := fun x => ii (hin.2 x)
          constructor <;> intro y <;> omega
      · rw [if_neg kt]
        by_cases kh : k = h
        · subst kh
          rw [if_pos rfl, if_pos rfl]
          by_cases ii : (q : Int) ∈ placesN (gives n f L k to c)
          · rw [if_pos ii]
            have := hin.1 ii
            constructor
            · intro x; exact absurd (show k = to by omega) kt
            · intro x; omega
          · rw [if_neg ii, ownh]
            have hx : ¬ ((q : Int) - (f k : Int) + 64) % 64 < c := fun x => ii (hin.2 x)
            constructor <;> intro y <;> omega
        · rw [if_neg kh, if_neg kh]
          by_cases ii : (q : Int) ∈ placesN (gives n f L h to c)
          · rw [if_pos ii]
            have hof := gives_of N hh c1 c2 (to := to) ii
            constructor
            · intro x; exact absurd (show k = to by omega) kt
            · intro x
              have := ownk.2 x
              rw [hof] at this
              exact absurd (show k = h by omega) kh
          · rw [if_neg ii]; exact ownk
  · have hnk := N.next k hk
    have hfk := N.from_ k hk
    have hok := N.one_ k hk
    have hmk := N.most hk
    rw [G k hk]
    unfold moved
    by_cases s : nxt n h = to
    · rw [s] at nh
      simp only [if_pos s]
      by_cases kh : k = h
      · subst kh
        rw [if_pos s, if_neg (show ¬ k = to from hne), if_neg (show ¬ k = to from hne), if_pos rfl]
        omega
      · have hnn : ¬ nxt n k = to := fun e => kh (nxt_inj hk hh (e.trans s.symm))
        rw [if_neg hnn]
        by_cases kt : k = to
        · subst kt
          rw [if_pos rfl, if_pos rfl]
          omega
        · rw [if_neg kt, if_neg kt, if_neg kh]; exact hnk
    · have s2 := side.resolve_left s
      rw [s2] at nt
      simp only [if_neg s]
      by_cases kt : k = to
      · subst kt
        rw [if_pos s2, if_neg (show ¬ k = h from fun e => hne e.symm), if_pos rfl]
        omega
      · have hnn : ¬ nxt n k = h := fun e => kt (nxt_inj hk ht (e.trans s2.symm))
        rw [if_neg hnn, if_neg kt]
        by_cases kh : k = h
        · subst kh
          rw [if_pos rfl, if_pos rfl]
          omega
        · rw [if_neg kh, if_neg kh]; exact hnk
  · have := slide_sum hhl htl hne c one
    rw [this, N.all]
    show (64 : Int) - g L h + (g L h - c) - g L to + (g L to + c) = 64
    omega
end
end Go.Am.Ytioacppahkhbhaa
