/- Plain laws of the printed functions of the clock: settling a timer in the heap. -/
import Derived.Test.YtbggedhchjibjaaPB
namespace Go.Am.Ytbggedhchjibjaa
def par (j : Nat) : Nat := (j - 1) / 2
/-- No timer is before the one at half its place. -/
def Heap (h : List TM) : Prop := ∀ j, 0 < j → j < h.length → le (H h (par j)) (H h j)
/-- All but the timer i is in place, and what is below it fits to what is above it. -/
structure Almost (h : List TM) (i : Nat) : Prop where
  ok : ∀ j, 0 < j → j < h.length → j ≠ i → par j ≠ i → le (H h (par j)) (H h j)
  over : ∀ j, 0 < j → j < h.length → par j = i → 0 < i → le (H h (par i)) (H h j)
structure Down (h : List TM) (i : Nat) : Prop where
  ok : ∀ j, 0 < j → j < h.length → par j ≠ i → le (H h (par j)) (H h j)
  over : ∀ j, 0 < j → j < h.length → par j = i → 0 < i → le (H h (par i)) (H h j)
theorem par_lt {j : Nat} (h : 0 < j) : par j < j := by unfold par; omega
theorem heap_root {h : List TM} (hp : Heap h) : ∀ (j : Nat), j < h.length → le (H h 0) (H h j)
  | j, hj => by
    by_cases e : j = 0
    · subst e; exact le_refl _
    · have hl := par_lt (Nat.pos_of_ne_zero e)
      exact le_trans (heap_root hp (par j) (by omega)) (hp j (Nat.pos_of_ne_zero e) hj)
  termination_by j => j

theorem up_step {h : List TM} {i : Nat} (hi : i < h.length) (h0 : 0 < i) (a : Almost h i) (hb : le (H h i) (H h (par i))) : Almost (swapL h i (par i)) (par i) := by
  have hp : par i < h.length := Nat.lt_trans (par_lt h0) hi
  have hlt := par_lt h0
  have hs := swap_H hi hp
  refine ⟨fun j j0 jl jn jp => ?_, fun j j0 jl jp p0 => ?_⟩
  · rw [swap_len] at jl
    have pl := par_lt j0
    rw [hs j, hs (par j), if_neg jn, if_neg jp]
    by_cases e : j = i
    · subst e; exact absurd rfl jp
    · rw [if_neg e]
      by_cases d : par j = i
      · rw [if_pos d]
        exact a.over j j0 jl d h0
      · rw [if_neg d]; exact a.ok j j0 jl e d
  · rw [swap_len] at jl
    have hpp : par (par i) < par i := par_lt p0
    rw [hs j, hs (par (par i)), if_neg (show ¬ par (par i) = par i by omega), if_neg (show ¬ par (par i) = i by omega), if_neg (show ¬ j = par i from fun e => by rw [e] at jp; omega)]
    have up := a.ok (par i) p0 hp (by omega) (by omega)
    by_cases e : j = i
    · rw [if_pos e]; exact up
    · rw [if_neg e]
      have := a.ok j j0 jl e (by omega)
      rw [jp] at this
      exact le_trans up this

theorem up_done {h : List TM} {i : Nat} (hi : i < h.length) (a : Almost h i) (hb : i = 0 ∨ le (H h (par i)) (H h i)) : Down h i := by
  refine ⟨fun j j0 jl jp => ?_, a.over⟩
  by_cases e : j = i
  · subst e
    rcases hb with hb | hb
    · omega
    · exact hb
  · exact a.ok j j0 jl e jp

theorem down_step {h : List TM} {i k : Nat} (hi : i < h.length) (hk : k < h.length) (k0 : 0 < k) (hpk : par k = i) (d : Down h i) (hb : le (H h k) (H h i)) (least : ∀ j, 0 < j → j < h.length → par j = i → le (H h k) (H h j)) : Down (swapL h i k) k := by
  have hlt : i < k := by have := par_lt k0; omega
  have hs := swap_H hi hk
  refine ⟨fun j j0 jl jp => ?_, fun j j0 jl jp _ => ?_⟩
  · rw [swap_len] at jl
    rw [hs j, hs (par j), if_neg jp]
    by_cases e : j = k
    · subst e
      rw [if_pos rfl, if_pos hpk]; exact hb
    · rw [if_neg e]
      by_cases c : par j = i
      · rw [if_pos c]
        have hji : ¬ j = i := by have := par_lt j0; omega
        rw [if_neg hji]
        exact least j j0 jl c
      · rw [if_neg c]
        by_cases b : j = i
        · rw [if_pos b]
          subst b
          exact d.over k k0 hk hpk j0
        · rw [if_neg b]; exact d.ok j j0 jl c
  · rw [swap_len] at jl
    have hjk : ¬ j = k := by have := par_lt j0; omega
    have hji : ¬ j = i := by have := par_lt j0; omega
    rw [hs j, hs (par k), hpk, if_neg (show ¬ i = k by omega), if_pos rfl, if_neg hjk, if_neg hji]
    have := d.ok j j0 jl (by omega)
    rw [jp] at this
    exact this

theorem down_done {h : List TM} {i : Nat} (d : Down h i) (least : ∀ j, 0 < j → j < h.length → par j = i → le (H h i) (H h j)) : Heap h := by
  intro j j0 jl
  by_cases e : par j = i
  · rw [e]; exact least j j0 jl e
  · exact d.ok j j0 jl e

theorem half_run {i : Nat} (h : 0 < i) (hl : i < 1000) : IntKind.wrap .i64 (Int.tdiv (IntKind.wrap .i64 ((i : Int) - 1)) 2) = (par i : Int) := by
  rw [wrapI (n := (i : Int) - 1) (by omega) (by omega), Int.tdiv_eq_ediv_of_nonneg (by omega), wrapI (by omega) (by omega)]
  unfold par; omega

theorem up_run {R : Type} (K : _ → Option R) (r mi s : Int) : ∀ (n i : Nat) (h : List TM) (m : MM), i < n → i < h.length → h.length ≤ 256 → Almost h i → Placed h m →
    ∃ (i' : Nat) (h' : List TM) (m' : MM), l23_0 FUEL K n ((i : Int), r, mi, s, h, m.1, m.2.1, m.2.2) = K ((i' : Int), r, mi, s, h', m'.1, m'.2.1, m'.2.2) ∧ i' < h'.length ∧ Down h' i' ∧ Placed h' m' ∧ h'.Perm h := by
  intro n
  induction n with
  | zero => intro i h m a; omega
  | succ n ih =>
    intro i h m hn hi hl a p
    by_cases h0 : 0 < i
    · have hp : par i < h.length := Nat.lt_trans (par_lt h0) hi
      have hlt := par_lt h0
      cases hb : befo (H h i) (H h (par i)) with
      | true =>
        have a2 := up_step hi h0 a (befo_le hb)
        have p2 := swap_placed p hi hp
        obtain ⟨i', h', m', r1, r2, r3, r4, r5⟩ := ih (par i) (swapL h i (par i)) (swapM h i (par i) m) (by omega) (by rw [swap_len]; exact hp) (by rw [swap_len]; exact hl) a2 p2
        refine ⟨i', h', m', Eq.trans ?_ r1, r2, r3, r4, r5.trans (swap_perm hi hp)⟩
        refine (condT (decide_eq_true (show (0 : Int) < (i : Int) by omega))).trans ?_
        simp only [half_run h0 (by omega), before_run hi hp, hb, cond_true, swap_run hi hp r mi s p]
      | false =>
        refine ⟨i, h, m, ?_, hi, up_done hi a (.inr (not_befo hb)), p, List.Perm.refl _⟩
        refine (condT (decide_eq_true (show (0 : Int) < (i : Int) by omega))).trans ?_
        simp only [half_run h0 (by omega), before_run hi hp, hb, cond_false]
    · refine ⟨i, h, m, ?_, hi, up_done hi a (.inl (by omega)), p, List.Perm.refl _⟩
      exact condF (decide_eq_false (show ¬ (0 : Int) < (i : Int) by omega))

theorem kids_step {R : Type} (K : _ → Option R) (r mi s : Int) {h : List TM} (hl : h.length ≤ 256) (m : MM) {i k q : Nat} (hi : i < h.length) (hk : k < h.length) (n : Nat) :
    l23_1 FUEL K (n + 1) ((i : Int), (k : Int), (q : Int), r, mi, s, h, m.1, m.2.1, m.2.2) = if q ≤ 2 * i + 2 ∧ q < h.length then l23_1 FUEL K n ((i : Int), ((bif befo (H h q) (H h k) then q else k : Nat) : Int), ((q + 1 : Nat) : Int), r, mi, s, h, m.1, m.2.1, m.2.2) else K ((i : Int), (k : Int), r, mi, s, h, m.1, m.2.1, m.2.2) := by
  show s23_1 FUEL (l23_1 FUEL K n) K _ = _
  simp only [s23_1]
  rw [wrapI (n := 2 * (i : Int)) (by omega) (by omega), wrapI (n := 2 * (i : Int) + 2) (by omega) (by omega)]
  by_cases a : q ≤ 2 * i + 2
  · rw [decide_eq_true (show (q : Int) ≤ 2 * (i : Int) + 2 by omega), cond_true]
    by_cases b : q < h.length
    · rw [decide_eq_true (show (q : Int) < ((h.length : Nat) : Int) by omega), if_pos ⟨a, b⟩]
      simp only [before_run b hk, wrapNext q (by omega)]
      cases befo (H h q) (H h k) <;> rfl
    · rw [decide_eq_false (show ¬ (q : Int) < ((h.length : Nat) : Int) by omega), if_neg (fun x => b x.2)]; rfl
  · rw [decide_eq_false (show ¬ (q : Int) ≤ 2 * (i : Int) + 2 by omega), if_neg (fun x => a x.1)]; rfl

theorem pick_le {h : List TM} (q k : Nat) : le (H h (bif befo (H h q) (H h k) then q else k)) (H h q) ∧ le (H h (bif befo (H h q) (H h k) then q else k)) (H h k) := by
  cases hb : befo (H h q) (H h k) with
  | true => exact ⟨le_refl _, befo_le hb⟩
  | false => exact ⟨not_befo hb, le_refl _⟩

theorem kids_run {R : Type} (K : _ → Option R) (r mi s : Int) {h : List TM} (hl : h.length ≤ 256) (m : MM) {i : Nat} (hi : i < h.length) (n : Nat) (hn : 3 ≤ n) :
    ∃ k : Nat, l23_1 FUEL K n ((i : Int), (i : Int), ((2 * i + 1 : Nat) : Int), r, mi, s, h, m.1, m.2.1, m.2.2) = K ((i : Int), (k : Int), r, mi, s, h, m.1, m.2.1, m.2.2) ∧ (k = i ∨ (0 < k ∧ k < h.length ∧ par k = i)) ∧ le (H h k) (H h i) ∧ ∀ j, 0 < j → j < h.length → par j = i → le (H h k) (H h j) := by
  obtain ⟨n, rfl⟩ : ∃ q, n = q + 1 + 1 + 1 := ⟨n - 3, by omega⟩
  have kid : ∀ j, 0 < j → par j = i → j = 2 * i + 1 ∨ j = 2 * i + 2 := by intro j j0 jp; unfold par at jp; omega
  rw [kids_step K r mi s hl m hi hi]
  by_cases a : 2 * i + 1 < h.length
  · rw [if_pos ⟨by omega, a⟩]
    obtain ⟨p1, p2⟩ := pick_le (h := h) (2 * i + 1) i
    have hk1 : (bif befo (H h (2 * i + 1)) (H h i) then 2 * i + 1 else i) = i ∨ (bif befo (H h (2 * i + 1)) (H h i) then 2 * i + 1 else i) = 2 * i + 1 := by
      cases befo (H h (2 * i + 1)) (H h i)
      · exact .inl rfl
      · exact .inr rfl
    generalize (bif befo (H h (2 * i + 1)) (H h i) then 2 * i + 1 else i) = k1 at p1 p2 hk1
    have hk1l : k1 < h.length := by omega
    rw [kids_step K r mi s hl m hi hk1l]
    by_cases b : 2 * i + 1 + 1 < h.length
    · rw [if_pos ⟨by omega, b⟩]
      obtain ⟨q1, q2⟩ := pick_le (h := h) (2 * i + 1 + 1) k1
      have hk2 : (bif befo (H h (2 * i + 1 + 1)) (H h k1) then 2 * i + 1 + 1 else k1) = k1 ∨ (bif befo (H h (2 * i + 1 + 1)) (H h k1) then 2 * i + 1 + 1 else k1) = 2 * i + 2 := by
        cases befo (H h (2 * i + 1 + 1)) (H h k1)
        · exact .inl rfl
        · exact .inr rfl
      generalize (bif befo (H h (2 * i + 1 + 1)) (H h k1) then 2 * i + 1 + 1 else k1) = k2 at q1 q2 hk2
      rw [kids_step K r mi s hl m hi (show k2 < h.length by omega), if_neg (show ¬ (2 * i + 1 + 1 + 1 ≤ 2 * i + 2 ∧ 2 * i + 1 + 1 + 1 < h.length) by omega)]
      refine ⟨k2, rfl, ?_, le_trans q2 p2, fun j j0 jl jp => ?_⟩
      · rcases hk2 with e | e
        · rcases hk1 with f | f
          · left; omega
          · right; unfold par; omega
        · right; unfold par; omega
      · rcases kid j j0 jp with e | e
        · rw [e]; exact le_trans q2 p1
        · rw [e]; exact q1
    · rw [if_neg (fun x => b x.2)]
      refine ⟨k1, rfl, ?_, p2, fun j j0 jl jp => ?_⟩
      · rcases hk1 with f | f
        · exact .inl f
        · right; unfold par; omega
      · rcases kid j j0 jp with e | e
        · rw [e]; exact p1
        · omega
  · rw [if_neg (fun x => a x.2)]
    exact ⟨i, rfl, .inl rfl, le_refl _, fun j j0 jl jp => by rcases kid j j0 jp with e | e <;> omega⟩

theorem down_run {R : Type} (K : _ → Option R) (r mi s : Int) (fu : Nat) (hfu : fu = FUEL) : ∀ (n i : Nat) (h : List TM) (m : MM), h.length - i < n → i < h.length → h.length ≤ 256 → Down h i → Placed h m →
    ∃ (h' : List TM) (m' : MM), l23_2 FUEL K n ((i : Int), r, mi, s, h, m.1, m.2.1, m.2.2) = K (r, mi, s, h', m'.1, m'.2.1, m'.2.2) ∧ Heap h' ∧ Placed h' m' ∧ h'.Perm h := by
  intro n
  induction n with
  | zero => intro i h m a; omega
  | succ n ih =>
    intro i h m hn hi hl d p
    have e1 : IntKind.wrap .i64 ((IntKind.wrap .i64 (2 * (i : Int))) + 1) = ((2 * i + 1 : Nat) : Int) := by
      rw [wrapI (n := 2 * (i : Int)) (by omega) (by omega), wrapI (by omega) (by omega)]; omega
    obtain ⟨k, hk1, hk2, hk3, hk4⟩ := kids_run (R := R) (fun (x51, x52, x53, x54, x55, x56, x57, x58, x59) => (bif (decide (x52 = x51)) then (K (x53, x54, x55, x56, x57, x58, x59)) else (match p29 FUEL (x51, x52, x53, x54, x55, x56, x57, x58, x59) with | some z60 => (l23_2 FUEL K n (x52, z60.1, z60.2.1, z60.2.2.1, z60.2.2.2.1, z60.2.2.2.2.1, z60.2.2.2.2.2.1, z60.2.2.2.2.2.2)) | none => none))) r mi s hl m hi FUEL (by have := big; omega)
    have hstep : l23_2 FUEL K (n + 1) ((i : Int), r, mi, s, h, m.1, m.2.1, m.2.2) = bif decide ((k : Int) = (i : Int)) then K (r, mi, s, h, m.1, m.2.1, m.2.2) else (match p29 FUEL ((i : Int), (k : Int), r, mi, s, h, m.1, m.2.1, m.2.2) with | some z60 => (l23_2 FUEL K n ((k : Int), z60.1, z60.2.1, z60.2.2.1, z60.2.2.2.1, z60.2.2.2.2.1, z60.2.2.2.2.2.1, z60.2.2.2.2.2.2)) | none => none) := by
      refine Eq.trans ?_ hk1
      show s23_2 FUEL (l23_2 FUEL K n) K _ = _
      simp only [s23_2, e1]
      rfl
    rw [hstep]
    by_cases e : k = i
    · rw [decide_eq_true (show (k : Int) = (i : Int) by omega)]
      subst e
      exact ⟨h, m, rfl, down_done d hk4, p, List.Perm.refl _⟩
    · obtain ⟨k0, kl, kp⟩ := hk2.resolve_left e
      have hlt : i < k := by have := par_lt k0; omega
      rw [decide_eq_false (show ¬ (k : Int) = (i : Int) by omega), swap_run hi kl r mi s p]
      obtain ⟨h', m', r1, r2, r3, r4⟩ := ih k (swapL h i k) (swapM h i k m) (by rw [swap_len]; omega) (by rw [swap_len]; exact kl) (by rw [swap_len]; exact hl) (down_step hi kl k0 kp d hk3 hk4) (swap_placed p hi kl)
      exact ⟨h', m', r1, r2, r3, r4.trans (swap_perm hi kl)⟩

theorem settle_run {h : List TM} {m : MM} {i : Nat} (hi : i < h.length) (hl : h.length ≤ 256) (a : Almost h i) (p : Placed h m) (r mi s : Int) :
    ∃ (h' : List TM) (m' : MM), p23 FUEL ((i : Int), r, mi, s, h, m.1, m.2.1, m.2.2) = some (r, mi, s, h', m'.1, m'.2.1, m'.2.2) ∧ Heap h' ∧ Placed h' m' ∧ h'.Perm h := by
  obtain ⟨i', h1, m1, u1, u2, u3, u4, u5⟩ := up_run (R := Int × Int × Int × List TM × MM) (fun (x22, x23, x24, x25, x26, x27, x28, x29) => (l23_2 FUEL (fun (x61, x62, x63, x64, x65, x66, x67) => (some (x61, x62, x63, x64, x65, x66, x67))) FUEL (x22, x23, x24, x25, x26, x27, x28, x29))) r mi s FUEL i h m (by have := big; omega) hi hl a p
  have hl1 : h1.length = h.length := u5.length_eq
  obtain ⟨h2, m2, d1, d2, d3, d4⟩ := down_run (R := Int × Int × Int × List TM × MM) (fun (x61, x62, x63, x64, x65, x66, x67) => (some (x61, x62, x63, x64, x65, x66, x67))) r mi s FUEL rfl FUEL i' h1 m1 (by have := big; omega) u2 (by omega) u3 u4
  exact ⟨h2, m2, u1.trans d1, d2, d3, d4.trans u5⟩
end Go.Am.Ytbggedhchjibjaa
