/- Plain laws of balance in the top rows: what is planned, and what a move makes (written by make.py) -/
import Derived.Test.YtioacppahkhbhaaWalk
import Derived.Test.YtioacppahkhbhaaAmZI
namespace Go.Am.Ytioacppahkhbhaa
theorem condT {α : Type} {b : Bool} (h : b = true) {x y : α} : (bif b then x else y) = x := by rw [h]; rfl
theorem condF {α : Type} {b : Bool} (h : b = false) {x y : α} : (bif b then x else y) = y := by rw [h]; rfl
theorem big : 1180591620717411303424 ≤ FUEL := Nat.le_refl _
def bad (x : Int) : Bool := decide (x < 0) || decide (2147483647 < x)
theorem p39_eq (x : Int) : p39 FUEL x = some (bad x) := by
  simp only [p39, bad]
  by_cases h : x < 0
  · rw [decide_eq_true h]; rfl
  · rw [decide_eq_false h]; rfl
theorem l43_run (l : List Int) (hl : l.length < 9223372036854775807) : ∀ n i, l.length - i < n → i ≤ l.length → ∃ v : Int, l43_0 FUEL (fun x => some x) (fun _ => some (-1)) n (l, (l.length : Int), (i : Int)) = some v ∧ decide (0 ≤ v) = (l.drop i).any bad := by
  intro n
  induction n with
  | zero => intro i h; omega
  | succ n ih =>
    intro i h hi
    show ∃ v : Int, s43_0 FUEL (l43_0 FUEL _ _ n) _ _ _ = some v ∧ _
    simp only [s43_0]
    by_cases e : i < l.length
    · rw [decide_eq_true (show (i : Int) < ((l.length : Nat) : Int) by omega), cond_true, if_pos (show (0 : Int) ≤ (i : Int) by omega)]
      simp only [Int.toNat_natCast, List.getElem?_eq_getElem e, p39_eq]
      rw [List.drop_eq_getElem_cons e, List.any_cons]
      by_cases hb : bad l[i] = true
      · rw [hb]
        exact ⟨(i : Int), rfl, by rw [Bool.true_or]; exact decide_eq_true (by omega)⟩
      · rw [Bool.not_eq_true] at hb
        rw [hb, wrapNext i (by omega), cond_false, Bool.false_or]
        exact ih (i + 1) (by omega) (by omega)
    · rw [decide_eq_false (show ¬ (i : Int) < ((l.length : Nat) : Int) by omega), cond_false, List.drop_eq_nil_of_le (by omega)]
      exact ⟨-1, rfl, rfl⟩
/-- So many numbers, 0 to the greatest each. -/
def fair (l : List Int) (a b : Int) : Bool := decide (a ≤ (l.length : Int)) && (decide ((l.length : Int) ≤ b) && !l.any bad)
theorem p22_eq (l : List Int) (hl : l.length ≤ 9223372036854775806) (a b : Int) : p22 FUEL (l, a, b) = some (fair l a b) := by
  obtain ⟨v, h1, h2⟩ := l43_run l (by omega) FUEL 0 (by have := big; omega) (Nat.zero_le _)
  simp only [p22, p38, p43, show ((0 : Nat) : Int) = 0 from rfl] at h1 ⊢
  rw [h1]
  simp only [h2, List.drop_zero, fair]
  by_cases x : a ≤ (l.length : Int)
  · by_cases y : (l.length : Int) ≤ b
    · rw [decide_eq_true x, decide_eq_true y]; rfl
    · rw [decide_eq_true x, decide_eq_false y]; rfl
  · rw [decide_eq_false x]; rfl
theorem fair_inv {l : List Int} {a b : Int} (h : fair l a b = true) : a ≤ (l.length : Int) ∧ (l.length : Int) ≤ b ∧ ∀ x ∈ l, 0 ≤ x ∧ x ≤ 2147483647 := by
  simp only [fair, Bool.and_eq_true, decide_eq_true_eq, Bool.not_eq_true', List.any_eq_false, bad, Bool.or_eq_true, not_or] at h
  exact ⟨h.1, h.2.1, fun x hx => by have := h.2.2 x hx; omega⟩

-- own numbers, and a mark behind them
/-- A move: kind, from, to, count. -/
abbrev MV := Int × (Int × (Int × Int))
/-- The number at i. -/
abbrev g (l : List Int) (i : Nat) : Int := l.getD i 0
theorem g_some {l : List Int} {i : Nat} (h : i < l.length) : l[i]? = some (g l i) := by
  unfold g; rw [List.getD_eq_getElem?_getD, List.getElem?_eq_getElem h]; rfl
theorem g_mem {l : List Int} {i : Nat} (h : i < l.length) : g l i ∈ l := List.mem_of_getElem? (g_some h)
theorem g_get {l : List Int} {i : Nat} (h : i < l.length) : l[i] = g l i := by
  have := g_some h; rw [List.getElem?_eq_getElem h] at this; exact Option.some.inj this
theorem mem_g {l : List Int} {x : Int} (h : x ∈ l) : ∃ i, i < l.length ∧ g l i = x := by
  obtain ⟨i, hi, e⟩ := List.mem_iff_getElem.1 h
  exact ⟨i, hi, by rw [← g_get hi]; exact e⟩

def nxt (n i : Nat) : Nat := if i + 1 = n then 0 else i + 1
def prv (n i : Nat) : Nat := if i = 0 then n - 1 else i - 1
def besideS (n a b : Nat) : Bool := !decide (a = b) && (decide (nxt n a = b) || decide (nxt n b = a))
theorem nxt_lt {n i : Nat} (h : i < n) : nxt n i < n := by unfold nxt; split <;> omega
theorem prv_lt {n i : Nat} (h : i < n) : prv n i < n := by unfold prv; split <;> omega
theorem prv_nxt {n a b : Nat} (ha : a < n) (hb : b < n) : prv n a = b ↔ nxt n b = a := by
  unfold prv nxt
  constructor <;> intro h <;> split at h <;> split <;> omega

theorem tmod_nxt {n i : Nat} (h : i < n) (hn : n ≤ 12) : Int.tmod (IntKind.wrap .i64 ((i : Int) + 1)) (n : Int) = (nxt n i : Int) := by
  rw [wrapNext i (by omega), Int.tmod_eq_emod_of_nonneg (by omega)]
  unfold nxt
  split
  · rename_i e; rw [e, Int.emod_self]; rfl
  · rw [Int.emod_eq_of_lt (by omega) (by omega)]
theorem tmod_prv {n i : Nat} (h : i < n) (hn : n ≤ 12) : Int.tmod (IntKind.wrap .i64 ((IntKind.wrap .i64 ((i : Int) + (n : Int))) - 1)) (n : Int) = (prv n i : Int) := by
  rw [wrapI (n := (i : Int) + n) (by omega) (by omega), wrapI (by omega) (by omega), Int.tmod_eq_emod_of_nonneg (by omega)]
  unfold prv
  split
  · rename_i e; rw [e, Int.emod_eq_of_lt (by omega) (by omega)]; omega
  · rw [show (i : Int) + (n : Int) - 1 = ((i : Int) - 1) + n by omega, Int.add_emod_right, Int.emod_eq_of_lt (by omega) (by omega)]; omega

theorem natDec (a b : Nat) : decide ((a : Int) = (b : Int)) = decide (a = b) := by
  by_cases h : a = b
  · rw [decide_eq_true h, decide_eq_true (by omega)]
  · rw [decide_eq_false h, decide_eq_false (by omega)]
theorem p26_run {n a b : Nat} (ha : a < n) (hb : b < n) (hn : n ≤ 12) : p26 FUEL ((a : Int), (b : Int), (n : Int)) = some (besideS n a b) := by
  simp only [p26, besideS, tmod_nxt ha hn, tmod_nxt hb hn, if_neg (show ¬ (n : Int) = 0 by omega), natDec]
  cases decide (a = b) <;> cases decide (nxt n a = b) <;> rfl
/-- The first greatest and the first least number. -/
structure First (l : List Int) (h lo : Nat) : Prop where
  hl : h < l.length
  lol : lo < l.length
  most : ∀ j, j < l.length → g l j ≤ g l h
  first : ∀ j, j < h → g l j < g l h
  least : ∀ j, j < l.length → g l lo ≤ g l j
  first' : ∀ j, j < lo → g l lo < g l j

theorem First.same {l : List Int} {h lo h' lo' : Nat} (a : First l h lo) (b : First l h' lo') : h = h' ∧ lo = lo' := by
  constructor
  · rcases Nat.lt_trichotomy h h' with c | c | c
    · have := b.first h c; have := a.most h' b.hl; omega
    · exact c
    · have := a.first h' c; have := b.most h a.hl; omega
  · rcases Nat.lt_trichotomy lo lo' with c | c | c
    · have := b.first' lo c; have := a.least lo' b.lol; omega
    · exact c
    · have := a.first' lo' c; have := b.least lo a.lol; omega

theorem one_le (l : List Int) : ∀ j : Nat, j < 1 → g l j ≤ g l 0 := fun j hj => by
  have : j = 0 := by omega
  subst this; exact Int.le_refl _
theorem one_ge (l : List Int) : ∀ j : Nat, j < 1 → g l 0 ≤ g l j := fun j hj => by
  have : j = 0 := by omega
  subst this; exact Int.le_refl _

theorem max_run (l : List Int) (hl : l.length ≤ 12) : ∀ (n i : Nat) (m : Int), l.length - i < n → 1 ≤ i → i ≤ l.length → (∀ j, j < i → g l j ≤ m) → (∃ j, j < i ∧ g l j = m) →
    ∃ m', l24_0 FUEL (fun x7 => some x7) n (l, m, (i : Int)) = some m' ∧ (∀ j, j < l.length → g l j ≤ m') ∧ ∃ j, j < l.length ∧ g l j = m' := by
  intro n
  induction n with
  | zero => intro i m h; omega
  | succ n ih =>
    intro i m h h1 hi a b
    by_cases e : i < l.length
    · have hs : l24_0 FUEL (fun x7 => some x7) (n + 1) (l, m, (i : Int)) = l24_0 FUEL (fun x7 => some x7) n (l, (if m < g l i then g l i else m), ((i + 1 : Nat) : Int)) := by
        refine (condT (decide_eq_true (show (i : Int) < ((l.length : Nat) : Int) by omega))).trans ?_
        simp only [if_pos (show (0 : Int) ≤ (i : Int) by omega), Int.toNat_natCast, g_some e, wrapNext i (by omega)]
      rw [hs]
      refine ih (i + 1) _ (by omega) (by omega) (by omega) (fun j hj => ?_) ?_
      · by_cases c : j = i
        · subst c; split <;> omega
        · have := a j (by omega); split <;> omega
      · split
        · exact ⟨i, by omega, rfl⟩
        · obtain ⟨j, hj, hm⟩ := b; exact ⟨j, by omega, hm⟩
    · obtain rfl : i = l.length := by omega
      exact ⟨m, condF (decide_eq_false (Int.lt_irrefl _)), a, b⟩
theorem min_run (l : List Int) (hl : l.length ≤ 12) : ∀ (n i : Nat) (m : Int), l.length - i < n → 1 ≤ i → i ≤ l.length → (∀ j, j < i → m ≤ g l j) → (∃ j, j < i ∧ g l j = m) →
    ∃ m', l25_0 FUEL (fun x7 => some x7) n (l, m, (i : Int)) = some m' ∧ (∀ j, j < l.length → m' ≤ g l j) ∧ ∃ j, j < l.length ∧ g l j = m' := by
  intro n
  induction n with
  | zero => intro i m h; omega
  | succ n ih =>
    intro i m h h1 hi a b
    by_cases e : i < l.length
    · have hs : l25_0 FUEL (fun x7 => some x7) (n + 1) (l, m, (i : Int)) = l25_0 FUEL (fun x7 => some x7) n (l, (if g l i < m then g l i else m), ((i + 1 : Nat) : Int)) := by
        refine (condT (decide_eq_true (show (i : Int) < ((l.length : Nat) : Int) by omega))).trans ?_
        simp only [if_pos (show (0 : Int) ≤ (i : Int) by omega), Int.toNat_natCast, g_some e, wrapNext i (by omega)]
      rw [hs]
      refine ih (i + 1) _ (by omega) (by omega) (by omega) (fun j hj => ?_) ?_
      · by_cases c : j = i
        · subst c; split <;> omega
        · have := a j (by omega); split <;> omega
      · split
        · exact ⟨i, by omega, rfl⟩
        · obtain ⟨j, hj, hm⟩ := b; exact ⟨j, by omega, hm⟩
    · obtain rfl : i = l.length := by omega
      exact ⟨m, condF (decide_eq_false (Int.lt_irrefl _)), a, b⟩
theorem index_run (l : List Int) (hl : l.length ≤ 12) (v : Int) : ∀ (n i : Nat), l.length - i < n → i ≤ l.length → (∀ j : Nat, j < i → g l j ≠ v) → (∃ j : Nat, j < l.length ∧ g l j = v) →
    ∃ j : Nat, l23_0 FUEL (fun x8 => some x8) (fun _ => some (-1 : Int)) n (l, v, ((l.length : Nat) : Int), (i : Int)) = some (j : Int) ∧ j < l.length ∧ g l j = v ∧ ∀ q : Nat, q < j → g l q ≠ v := by
  intro n
  induction n with
  | zero => intro i h; omega
  | succ n ih =>
    intro i h hi a b
    by_cases e : i < l.length
    · have hs : l23_0 FUEL (fun x8 => some x8) (fun _ => some (-1 : Int)) (n + 1) (l, v, ((l.length : Nat) : Int), (i : Int)) = bif decide (v = g l i) then some (i : Int) else l23_0 FUEL (fun x8 => some x8) (fun _ => some (-1 : Int)) n (l, v, ((l.length : Nat) : Int), ((i + 1 : Nat) : Int)) := by
        refine (condT (decide_eq_true (show (i : Int) < ((l.length : Nat) : Int) by omega))).trans ?_
        simp only [if_pos (show (0 : Int) ≤ (i : Int) by omega), Int.toNat_natCast, g_some e, wrapNext i (by omega)]
      rw [hs]
      by_cases c : v = g l i
      · rw [decide_eq_true c]
        exact ⟨i, rfl, e, c.symm, a⟩
      · rw [decide_eq_false c]
        exact ih (i + 1) (by omega) (by omega) (fun j hj => by
          by_cases d : j = i
          · subst d; exact fun x => c x.symm
          · exact a j (by omega)) b
    · obtain ⟨j, hj, hv⟩ := b
      exact absurd hv (a j (by omega))

theorem most_index (l : List Int) (hl : l.length ≤ 12) (h1 : 1 ≤ l.length) : ∃ (v : Int) (h : Nat), p24 FUEL l = some v ∧ p23 FUEL (l, v) = some ((h : Nat) : Int) ∧ h < l.length ∧ (∀ j, j < l.length → g l j ≤ g l h) ∧ ∀ j, j < h → g l j < g l h := by
  obtain ⟨m, e, a, b⟩ := max_run l hl FUEL 1 (g l 0) (by have := big; omega) (Nat.le_refl _) h1 (one_le l) ⟨0, by omega, rfl⟩
  obtain ⟨h, e2, h2, h3, h4⟩ := index_run l hl m FUEL 0 (by have := big; omega) (Nat.zero_le _) (fun j hj => absurd hj (Nat.not_lt_zero _)) b
  refine ⟨m, h, ?_, e2, h2, fun j hj => by rw [h3]; exact a j hj, fun j hj => ?_⟩
  · simp only [p24]
    rw [decide_eq_false (show ¬ ((l.length : Nat) : Int) < 1 by omega), cond_false, if_pos (Int.le_refl _), show Int.toNat 0 = 0 from rfl, g_some (by omega)]
    exact e
  · have := h4 j hj; have := a j (by omega); omega
theorem least_index (l : List Int) (hl : l.length ≤ 12) (h1 : 1 ≤ l.length) : ∃ (v : Int) (h : Nat), p25 FUEL l = some v ∧ p23 FUEL (l, v) = some ((h : Nat) : Int) ∧ h < l.length ∧ (∀ j, j < l.length → g l h ≤ g l j) ∧ ∀ j, j < h → g l h < g l j := by
  obtain ⟨m, e, a, b⟩ := min_run l hl FUEL 1 (g l 0) (by have := big; omega) (Nat.le_refl _) h1 (one_ge l) ⟨0, by omega, rfl⟩
  obtain ⟨h, e2, h2, h3, h4⟩ := index_run l hl m FUEL 0 (by have := big; omega) (Nat.zero_le _) (fun j hj => absurd hj (Nat.not_lt_zero _)) b
  refine ⟨m, h, ?_, e2, h2, fun j hj => by rw [h3]; exact a j hj, fun j hj => ?_⟩
  · simp only [p25]
    rw [decide_eq_false (show ¬ ((l.length : Nat) : Int) < 1 by omega), cond_false, if_pos (Int.le_refl _), show Int.toNat 0 = 0 from rfl, g_some (by omega)]
    exact e
  · have := h4 j hj; have := a j (by omega); omega

/-- What is planned, once the greatest, the least and the lesser neighbour of the greatest are known. -/
def restS (l : List Int) (h lo near : Nat) : MV × Bool × Int :=
  bif decide (2 * g l near < g l h) then ((1, h, near, (g l h - g l near) / 2), true, 0)
  else bif !besideS l.length h lo && decide (4 * (g l (nxt l.length lo) + g l lo) ≤ 3 * g l h) then ((2, h, lo, g l h / 2), true, 0)
  else ((0, 0, 0, 0), false, 0)
def nearS (l : List Int) (h : Nat) : Nat := bif decide (g l (nxt l.length h) < g l (prv l.length h)) then nxt l.length h else prv l.length h
def calmS (l : List Int) (h lo : Nat) : Bool := decide (l.length = 1) || (decide (g l h < 2) || decide (g l h ≤ 2 * g l lo))
def planS (l : List Int) (h lo : Nat) : MV × Bool × Int := bif calmS l h lo then ((0, 0, 0, 0), false, 0) else restS l h lo (nearS l h)

theorem nearS_lt {l : List Int} {h : Nat} (hh : h < l.length) : nearS l h < l.length := by
  unfold nearS
  cases decide (g l (nxt l.length h) < g l (prv l.length h))
  · exact prv_lt hh
  · exact nxt_lt hh

section
variable {R : Type} {l : List Int} (hn : l.length ≤ 12) (hb : ∀ x ∈ l, 0 ≤ x ∧ x ≤ 2147483647)
include hb in
theorem g_bound {i : Nat} (h : i < l.length) : 0 ≤ g l i ∧ g l i ≤ 2147483647 := hb _ (g_mem h)

include hn hb
theorem rest14 {h lo q : Nat} (hh : h < l.length) (hlo : lo < l.length) (hq : q < l.length) (z : MV) (k0 : Bool × Int × MV → Option R) :
    j10_3 FUEL k0 (l, ((l.length : Nat) : Int), (h : Int), (lo : Int), (q : Int), z) = k0 ((restS l h lo q).2.1, (restS l h lo q).2.2, (restS l h lo q).1) := by
  have b1 := g_bound hb hh
  have b2 := g_bound hb hlo
  have b3 := g_bound hb hq
  have b4 := g_bound hb (nxt_lt hlo)
  have hx := nxt_lt hlo
  have hd : Int.tdiv (g l h) 2 = g l h / 2 := Int.tdiv_eq_ediv_of_nonneg b1.1
  simp only [j10_3, j10_1, j10_2, if_pos (Int.natCast_nonneg h), if_pos (Int.natCast_nonneg lo), if_pos (Int.natCast_nonneg q), Int.toNat_natCast, g_some hh, g_some hlo, g_some hq, p26_run hh hlo hn, tmod_nxt hlo hn, if_pos (Int.natCast_nonneg (nxt l.length lo)), g_some hx, if_neg (show ¬ ((l.length : Nat) : Int) = 0 by omega), hd]
  rw [wrapI (n := 2 * g l q) (by omega) (by omega), wrapI (n := g l (nxt l.length lo) + g l lo) (by omega) (by omega), wrapI (n := 4 * (g l (nxt l.length lo) + g l lo)) (by omega) (by omega), wrapI (n := 3 * g l h) (by omega) (by omega), wrapI (n := g l h / 2) (by omega) (by omega)]
  unfold restS
  by_cases c : 2 * g l q < g l h
  · rw [decide_eq_true c, wrapI (n := g l h - g l q) (by omega) (by omega), Int.tdiv_eq_ediv_of_nonneg (by omega), wrapI (by omega) (by omega)]; rfl
  · rw [decide_eq_false c]
    cases besideS l.length h lo
    · by_cases d : 4 * (g l (nxt l.length lo) + g l lo) ≤ 3 * g l h
      · rw [decide_eq_true d]; rfl
      · rw [decide_eq_false d]; rfl
    · rfl

theorem near14 {h lo : Nat} (hh : h < l.length) (hlo : lo < l.length) (z : MV) (k0 : Bool × Int × MV → Option R) :
    j10_4 FUEL k0 (l, ((l.length : Nat) : Int), (h : Int), (lo : Int), z) = k0 ((restS l h lo (nearS l h)).2.1, (restS l h lo (nearS l h)).2.2, (restS l h lo (nearS l h)).1) := by
  have hx := nxt_lt hh
  have hp := prv_lt hh
  simp only [j10_4, tmod_nxt hh hn, tmod_prv hh hn, if_neg (show ¬ ((l.length : Nat) : Int) = 0 by omega), if_pos (Int.natCast_nonneg (nxt l.length h)), if_pos (Int.natCast_nonneg (prv l.length h)), Int.toNat_natCast, g_some hx, g_some hp, rest14 hn hb hh hlo hx, rest14 hn hb hh hlo hp]
  unfold nearS
  cases decide (g l (nxt l.length h) < g l (prv l.length h)) <;> rfl
end

theorem fair_12 {l : List Int} (f : fair l 1 12 = true) : 1 ≤ l.length ∧ l.length ≤ 12 ∧ ∀ x ∈ l, 0 ≤ x ∧ x ≤ 2147483647 := by
  obtain ⟨h1, h2, h3⟩ := fair_inv f
  exact ⟨by omega, by omega, h3⟩

theorem plan14 {l : List Int} (hl : l.length ≤ 9223372036854775806) (f : fair l 1 12 = true) : ∃ h lo, First l h lo ∧ p10 FUEL l = some (planS l h lo) := by
  obtain ⟨h1, hn, hb⟩ := fair_12 f
  obtain ⟨v, h, e1, e2, e3, e4, e5⟩ := most_index l hn h1
  obtain ⟨w, lo, d1, d2, d3, d4, d5⟩ := least_index l hn h1
  refine ⟨h, lo, ⟨e3, d3, e4, e5, d4, d5⟩, ?_⟩
  have b2 := g_bound hb d3
  simp only [p10, p22_eq l hl, f, Bool.not_true, cond_false, e1, e2, d1, d2, j10_0, if_pos (Int.natCast_nonneg h), if_pos (Int.natCast_nonneg lo), Int.toNat_natCast, g_some e3, g_some d3, near14 hn hb e3 d3]
  rw [wrapI (n := 2 * g l lo) (by omega) (by omega)]
  unfold planS calmS
  have e : decide (((l.length : Nat) : Int) = 1) = decide (l.length = 1) := natDec l.length 1
  rw [e]
  cases decide (l.length = 1) <;> cases decide (g l h < 2) <;> cases decide (g l h ≤ 2 * g l lo) <;> rfl

/-- Does a move go, of fair loads? -/
def inS (l : List Int) (m : MV) : Bool :=
  !decide (m.2.1 < 0) && (!decide (((l.length : Nat) : Int) ≤ m.2.1) && (!decide (m.2.2.1 < 0) && (!decide (((l.length : Nat) : Int) ≤ m.2.2.1) && (!decide (m.2.1 = m.2.2.1) && (!decide (m.2.2.2 < 1) && !decide (g l (Int.toNat m.2.1) < m.2.2.2))))))
def roomS (l : List Int) (k : Int) (t : Nat) (c : Int) (near : Bool) : Bool :=
  bif decide (k = 1) then near && decide (c ≤ 2147483647 - g l t)
  else bif decide (k = 2) then !near && decide (g l t ≤ 2147483647 - g l (nxt l.length t)) else false
def mayS (l : List Int) (m : MV) : Bool := inS l m && roomS l m.1 (Int.toNat m.2.2.1) m.2.2.2 (besideS l.length (Int.toNat m.2.1) (Int.toNat m.2.2.1))

def slideS (l : List Int) (f t : Nat) (c : Int) : List Int := (l.set f (g l f - c)).set t (g l t + c)
def bumpS (l : List Int) (f t : Nat) (c : Int) : List Int := (l.set f (g l f - c)).set (nxt l.length t) (g l (nxt l.length t) + g l t)
/-- The numbers from i on: c comes ahead of number f, number t goes. -/
def build (f t : Nat) (c : Int) : List Int → Nat → List Int
  | [], _ => []
  | y :: v, i => (bif decide (i = t) then [] else (bif decide (i = f) then [c, y] else [y])) ++ build f t c v (i + 1)
def jumpS (l : List Int) (f t : Nat) (c : Int) : List Int := build f t c (bumpS l f t c) 0
def doneS (l : List Int) (m : MV) : List Int := bif decide (m.1 = 1) then slideS l (Int.toNat m.2.1) (Int.toNat m.2.2.1) m.2.2.2 else jumpS l (Int.toNat m.2.1) (Int.toNat m.2.2.1) m.2.2.2
def applyS (l : List Int) (m : MV) : Int × List Int := bif mayS l m then (0, doneS l m) else (172, [])

theorem inS_inv {l : List Int} {m : MV} (h : inS l m = true) : ∃ f t : Nat, m.2.1 = (f : Int) ∧ m.2.2.1 = (t : Int) ∧ f < l.length ∧ t < l.length ∧ f ≠ t ∧ 1 ≤ m.2.2.2 ∧ m.2.2.2 ≤ g l f := by
  simp only [inS, Bool.and_eq_true, Bool.not_eq_true', decide_eq_false_iff_not] at h
  obtain ⟨h1, h2, h3, h4, h5, h6, h7⟩ := h
  refine ⟨Int.toNat m.2.1, Int.toNat m.2.2.1, by omega, by omega, by omega, by omega, by omega, by omega, by omega⟩

/-! ### Building -/
def ins (k : Nat) (c : Int) (v : List Int) : List Int := v.take k ++ [c] ++ v.drop k
theorem build_past (f t : Nat) (c : Int) : ∀ (v : List Int) (i : Nat), f < i → t < i → build f t c v i = v
  | [], _, _, _ => rfl
  | y :: v, i, h1, h2 => by
    unfold build
    rw [decide_eq_false (show ¬ i = t by omega), decide_eq_false (show ¬ i = f by omega), build_past f t c v (i + 1) (by omega) (by omega)]; rfl
theorem build_erase (f t : Nat) (c : Int) : ∀ (v : List Int) (i : Nat), f < i → i ≤ t → build f t c v i = v.eraseIdx (t - i)
  | [], i, _, _ => by rw [List.eraseIdx_nil]; rfl
  | y :: v, i, h1, h2 => by
    unfold build
    by_cases e : i = t
    · rw [decide_eq_true e, build_past f t c v (i + 1) (by omega) (by omega), show t - i = 0 by omega]; rfl
    · rw [decide_eq_false e, decide_eq_false (show ¬ i = f by omega), build_erase f t c v (i + 1) (by omega) (by omega), show t - i = (t - (i + 1)) + 1 by omega]; rfl
theorem build_ins (f t : Nat) (c : Int) : ∀ (v : List Int) (i : Nat), t < i → i ≤ f → f < i + v.length → build f t c v i = ins (f - i) c v
  | [], i, _, h2, h3 => by simp at h3; omega
  | y :: v, i, h1, h2, h3 => by
    unfold build
    rw [List.length_cons] at h3
    by_cases e : i = f
    · rw [decide_eq_true e, decide_eq_false (show ¬ i = t by omega), build_past f t c v (i + 1) (by omega) (by omega), show f - i = 0 by omega]; rfl
    · rw [decide_eq_false e, decide_eq_false (show ¬ i = t by omega), build_ins f t c v (i + 1) (by omega) (by omega) (by omega), show f - i = (f - (i + 1)) + 1 by omega]; rfl
theorem build_back (f t : Nat) (c : Int) : ∀ (v : List Int) (i : Nat), i ≤ f → f < t → f < i + v.length → build f t c v i = (ins (f - i) c v).eraseIdx (t + 1 - i)
  | [], i, h1, h2, h3 => by simp at h3; omega
  | y :: v, i, h1, h2, h3 => by
    unfold build
    rw [List.length_cons] at h3
    by_cases e : i = f
    · rw [decide_eq_true e, decide_eq_false (show ¬ i = t by omega), build_erase f t c v (i + 1) (by omega) (by omega), show f - i = 0 by omega, show t + 1 - i = (t - (i + 1)) + 1 + 1 by omega]; rfl
    · rw [decide_eq_false e, decide_eq_false (show ¬ i = t by omega), build_back f t c v (i + 1) (by omega) h2 (by omega), show f - i = (f - (i + 1)) + 1 by omega, show t + 1 - i = (t + 1 - (i + 1)) + 1 by omega]; rfl
theorem build_front (f t : Nat) (c : Int) : ∀ (v : List Int) (i : Nat), i ≤ t → t < f → f < i + v.length → build f t c v i = (ins (f - i) c v).eraseIdx (t - i)
  | [], i, h1, h2, h3 => by simp at h3; omega
  | y :: v, i, h1, h2, h3 => by
    unfold build
    rw [List.length_cons] at h3
    by_cases e : i = t
    · rw [decide_eq_true e, build_ins f t c v (i + 1) (by omega) (by omega) (by omega), show f - i = (f - (i + 1)) + 1 by omega, show t - i = 0 by omega]; rfl
    · rw [decide_eq_false e, decide_eq_false (show ¬ i = f by omega), build_front f t c v (i + 1) (by omega) h2 (by omega), show f - i = (f - (i + 1)) + 1 by omega, show t - i = (t - (i + 1)) + 1 by omega]; rfl
theorem build_eq (f t : Nat) (c : Int) (v : List Int) (h : f ≠ t) (hf : f < v.length) : build f t c v 0 = (ins f c v).eraseIdx (bif decide (f < t) then t + 1 else t) := by
  by_cases e : f < t
  · rw [decide_eq_true e, build_back f t c v 0 (Nat.zero_le _) e (by omega)]; rfl
  · rw [decide_eq_false e, build_front f t c v 0 (Nat.zero_le _) (by omega) (by omega)]; rfl
theorem ins_length (k : Nat) (c : Int) (v : List Int) : (ins k c v).length = v.length + 1 := by
  unfold ins; rw [List.length_append, List.length_append, List.length_take, List.length_drop]; simp; omega
theorem build_length (f t : Nat) (c : Int) (v : List Int) (h : f ≠ t) (hf : f < v.length) (ht : t < v.length) : (build f t c v 0).length = v.length := by
  rw [build_eq f t c v h hf, List.length_eraseIdx, ins_length, if_pos (by cases decide (f < t) <;> simp <;> omega)]; omega
theorem build_mem (f t : Nat) (c : Int) : ∀ (v : List Int) (i j : Nat) (y : Int), v[j]? = some y → i + j ≠ t → y ∈ build f t c v i
  | [], _, _, _, h, _ => by simp at h
  | z :: v, i, 0, y, h, hj => by
    obtain rfl : z = y := by simpa using h
    unfold build
    rw [decide_eq_false (show ¬ i = t by omega)]
    cases decide (i = f) <;> simp
  | z :: v, i, j + 1, y, h, hj => by
    unfold build
    exact List.mem_append_right _ (build_mem f t c v (i + 1) j y (by simpa using h) (by omega))
theorem mem_build (f t : Nat) (c : Int) : ∀ (v : List Int) (i : Nat) (y : Int), y ∈ build f t c v i → y = c ∨ ∃ j : Nat, v[j]? = some y ∧ i + j ≠ t
  | [], _, _, h => by simp [build] at h
  | z :: v, i, y, h => by
    unfold build at h
    rcases List.mem_append.1 h with h | h
    · by_cases e : i = t
      · rw [decide_eq_true e] at h; cases h
      · rw [decide_eq_false e] at h
        by_cases d : i = f
        · rw [decide_eq_true d] at h
          simp at h
          rcases h with h | h
          · exact .inl h
          · exact .inr ⟨0, by simp [h], by omega⟩
        · rw [decide_eq_false d] at h
          simp at h
          exact .inr ⟨0, by simp [h], by omega⟩
    · rcases mem_build f t c v (i + 1) y h with h | ⟨j, hj, hk⟩
      · exact .inl h
      · exact .inr ⟨j + 1, by simpa using hj, by omega⟩

/-! ### The program's -/
theorem clone_run (l : List Int) (h : l.length ≤ 12) : p28 FUEL l = some l := by
  have e : j28_0 FUEL (fun x => some x) l = some l := by
    simp only [j28_0, List.length_nil, Nat.zero_add, List.nil_append]
    rw [if_pos (by omega)]
  simp only [p28]
  rw [e]
  cases l with
  | nil => exact fork_self _
  | cons a l => rfl

theorem delete_run (v : List Int) (k : Nat) (hk : k < v.length) (hv : v.length ≤ 13) : p29 FUEL ((k : Int), ((k + 1 : Nat) : Int), v) = some (v.eraseIdx k) := by
  simp only [p29, Int.toNat_natCast, Nat.sub_zero, Nat.zero_add, List.drop_zero]
  have h1 : (List.take (v.length - (k + 1)) (List.drop (k + 1) v)) = v.drop (k + 1) := List.take_of_length_le (by rw [List.length_drop]; omega)
  rw [h1]
  have h2 : (v.drop (k + 1)).length = v.length - (k + 1) := List.length_drop
  rw [h2]
  have h3 : k + (v.length - (k + 1)) = v.length - 1 := by omega
  rw [h3]
  have h4 : (List.take k v ++ List.drop (k + 1) v ++ List.drop (v.length - 1) v).length = v.length := by
    rw [List.length_append, List.length_append, List.length_take, List.length_drop, List.length_drop]; omega
  have c1 : (0 : Int) ≤ ((v.length : Nat) : Int) ∧ ((v.length : Nat) : Int) ≤ ((v.length : Nat) : Int) := by omega
  have c2 : (0 : Int) ≤ ((k + 1 : Nat) : Int) ∧ ((k + 1 : Nat) : Int) ≤ ((v.length : Nat) : Int) := by omega
  have c3 : (0 : Int) ≤ ((k : Nat) : Int) ∧ ((k : Nat) : Int) ≤ ((k + 1 : Nat) : Int) := by omega
  have c5 : (0 : Int) ≤ ((k : Nat) : Int) ∧ ((k : Nat) : Int) ≤ ((v.length : Nat) : Int) := by omega
  have c7 : v.length - 1 ≤ v.length := by omega
  have c9 : (0 : Int) ≤ ((v.length - 1 : Nat) : Int) ∧ ((v.length - 1 : Nat) : Int) ≤ ((v.length : Nat) : Int) := by omega
  rw [h4, if_pos c1, if_pos c2, if_pos c3, if_pos trivial, decide_eq_false (show ¬ (k : Int) = ((k + 1 : Nat) : Int) by omega), cond_false, if_pos c5, if_pos c7, if_pos c9]
  have h5 : (List.take (v.length - 1) (List.take k v ++ List.drop (k + 1) v ++ List.drop (v.length - 1) v)) = v.eraseIdx k := by
    rw [List.eraseIdx_eq_take_drop_succ, List.take_append_of_le_length (by rw [List.length_append, List.length_take, List.length_drop]; omega), List.take_of_length_le (by rw [List.length_append, List.length_take, List.length_drop]; omega)]
  rw [h5]
  have h6 : (v.eraseIdx k).length = v.length - 1 := by rw [List.length_eraseIdx, if_pos hk]
  have h7 : (List.take (v.length - 1) (v.eraseIdx k ++ List.replicate (v.length - (v.length - 1)) 0 ++ List.drop (v.length - 1 + (v.length - (v.length - 1))) (List.take k v ++ List.drop (k + 1) v ++ List.drop (v.length - 1) v))) = v.eraseIdx k := by
    rw [List.append_assoc, List.take_append_of_le_length (by omega), List.take_of_length_le (by omega)]
  rw [h7, List.length_append, List.length_append, h6, List.length_replicate, show Nat.blt 0 (v.length - 1 + (v.length - (v.length - 1)) + (List.drop (v.length - 1 + (v.length - (v.length - 1))) (List.take k v ++ List.drop (k + 1) v ++ List.drop (v.length - 1) v)).length) = true from Nat.blt_eq ▸ (by omega), if_pos c2, if_pos c1]
  rfl

section
variable {l : List Int} (hn : l.length ≤ 12) (hb : ∀ x ∈ l, 0 ≤ x ∧ x ≤ 2147483647)
include hn hb
theorem may_run (m : MV) : p27 FUEL (l, m) = some (mayS l m) := by
  unfold mayS
  cases hi : inS l m with
  | false =>
    rw [Bool.false_and]
    simp only [p27]
    by_cases a1 : m.2.1 < 0
    · rw [decide_eq_true a1]; rfl
    by_cases a2 : ((l.length : Nat) : Int) ≤ m.2.1
    · rw [decide_eq_false a1, decide_eq_true a2]; rfl
    by_cases a3 : m.2.2.1 < 0
    · rw [decide_eq_false a1, decide_eq_false a2, decide_eq_true a3]; rfl
    by_cases a4 : ((l.length : Nat) : Int) ≤ m.2.2.1
    · rw [decide_eq_false a1, decide_eq_false a2, decide_eq_false a3, decide_eq_true a4]; rfl
    by_cases a5 : m.2.1 = m.2.2.1
    · rw [decide_eq_false a1, decide_eq_false a2, decide_eq_false a3, decide_eq_false a4, decide_eq_true a5]; rfl
    by_cases a6 : m.2.2.2 < 1
    · rw [decide_eq_false a1, decide_eq_false a2, decide_eq_false a3, decide_eq_false a4, decide_eq_false a5, decide_eq_true a6]; rfl
    have hlt : Int.toNat m.2.1 < l.length := by omega
    by_cases a7 : g l (Int.toNat m.2.1) < m.2.2.2
    · rw [decide_eq_false a1, decide_eq_false a2, decide_eq_false a3, decide_eq_false a4, decide_eq_false a5, decide_eq_false a6]
      simp only [cond_false, if_pos (show (0 : Int) ≤ m.2.1 by omega), g_some hlt]
      rw [decide_eq_true a7]; rfl
    · exfalso
      have : inS l m = true := by
        unfold inS
        rw [decide_eq_false a1, decide_eq_false a2, decide_eq_false a3, decide_eq_false a4, decide_eq_false a5, decide_eq_false a6, decide_eq_false a7]; rfl
      rw [this] at hi; cases hi
  | true =>
    obtain ⟨f, t, e1, e2, hf, ht, hne, hc1, hc2⟩ := inS_inv hi
    obtain ⟨k, f', t', c⟩ := m
    simp only at e1 e2 hc1 hc2
    subst e1 e2
    have hx := nxt_lt ht
    have b1 := g_bound hb ht
    have b2 := g_bound hb hx
    simp only [p27, Bool.true_and, Int.toNat_natCast, if_pos (Int.natCast_nonneg f), if_pos (Int.natCast_nonneg t), if_pos (Int.natCast_nonneg (nxt l.length t)), g_some hf, g_some ht, g_some hx, p26_run hf ht hn, tmod_nxt ht hn, if_neg (show ¬ ((l.length : Nat) : Int) = 0 by omega)]
    rw [decide_eq_false (show ¬ (f : Int) < 0 by omega), decide_eq_false (show ¬ ((l.length : Nat) : Int) ≤ (f : Int) by omega), decide_eq_false (show ¬ (t : Int) < 0 by omega), decide_eq_false (show ¬ ((l.length : Nat) : Int) ≤ (t : Int) by omega), decide_eq_false (show ¬ (f : Int) = (t : Int) by omega), decide_eq_false (show ¬ c < 1 by omega), decide_eq_false (show ¬ g l f < c by omega), wrapI (n := 2147483647 - g l t) (by omega) (by omega), wrapI (n := 2147483647 - g l (nxt l.length t)) (by omega) (by omega)]
    unfold roomS
    simp only [cond_false]
    cases decide (k = 1) <;> cases decide (k = 2) <;> cases besideS l.length f t <;> rfl

theorem apply15 (h1 : 1 ≤ l.length) (m : MV) (fr : fair l 1 12 = true) : p11 FUEL (l, m) = some (applyS l m) := by
  simp only [p11, p22_eq l (by omega), fr, may_run hn hb m, applyS]
  cases hm : mayS l m with
  | false => rfl
  | true =>
    unfold mayS at hm
    rw [Bool.and_eq_true] at hm
    obtain ⟨f, t, e1, e2, hf, ht, hne, hc1, hc2⟩ := inS_inv hm.1
    obtain ⟨k, f', t', c⟩ := m
    simp only at e1 e2 hc1 hc2 hm
    subst e1 e2
    have hx := nxt_lt ht
    have b0 := g_bound hb hf
    have b1 := g_bound hb ht
    have b2 := g_bound hb hx
    have l1 : (l.set f (g l f - c)).length = l.length := List.length_set
    have gt : (l.set f (g l f - c))[t]? = some (g l t) := by rw [List.getElem?_set_ne hne, g_some ht]
    simp only [Bool.not_true, cond_false, cond_true, clone_run l hn, Int.toNat_natCast, if_pos (show (0 : Int) ≤ (f : Int) ∧ (f : Int) < ((l.length : Nat) : Int) by omega), g_some hf, doneS]
    rw [wrapI (n := g l f - c) (by omega) (by omega)]
    simp only [l1, if_pos (show (0 : Int) ≤ (t : Int) ∧ (t : Int) < ((l.length : Nat) : Int) by omega), gt, tmod_nxt ht hn, if_neg (show ¬ ((l.length : Nat) : Int) = 0 by omega)]
    by_cases hk : k = 1
    · rw [decide_eq_true hk]
      simp only [cond_true]
      have hr : c ≤ 2147483647 - g l t := by
        have h := hm.2
        simp only [roomS, decide_eq_true hk, cond_true, Bool.and_eq_true, decide_eq_true_eq, Int.toNat_natCast] at h
        exact h.2
      rw [wrapI (n := g l t + c) (by omega) (by omega)]; rfl
    · rw [decide_eq_false hk]
      have hk2 : k = 2 := by
        have h := hm.2
        simp only [roomS, decide_eq_false hk, cond_false] at h
        by_cases e : k = 2
        · exact e
        · rw [decide_eq_false e] at h; cases h
      have hr := hm.2
      simp only [roomS, decide_eq_false hk, cond_false, decide_eq_true hk2, cond_true, Bool.and_eq_true, decide_eq_true_eq, Int.toNat_natCast, Bool.not_eq_true'] at hr
      have hnf : f ≠ nxt l.length t := by
        intro e
        have h := hr.1
        unfold besideS at h
        rw [decide_eq_false hne, decide_eq_true e.symm] at h
        rw [Bool.or_true] at h; cases h
      have gx : (l.set f (g l f - c))[nxt l.length t]? = some (g l (nxt l.length t)) := by rw [List.getElem?_set_ne hnf, g_some hx]
      simp only [cond_false, Int.toNat_natCast, if_pos (show (0 : Int) ≤ (nxt l.length t : Int) ∧ (nxt l.length t : Int) < ((l.length : Nat) : Int) by omega), gx]
      rw [wrapI (n := g l (nxt l.length t) + g l t) (by omega) (by omega)]
      have hv : (l.set f (g l f - c)).set (nxt l.length t) (g l (nxt l.length t) + g l t) = bumpS l f t c := rfl
      rw [hv]
      have lv : (bumpS l f t c).length = l.length := by unfold bumpS; rw [List.length_set, List.length_set]
      have hins : List.take (f - 0) (List.drop 0 (bumpS l f t c)) ++ [c] ++ List.take ((bumpS l f t c).length - f) (List.drop f (bumpS l f t c)) = ins f c (bumpS l f t c) := by
        unfold ins
        rw [List.drop_zero, Nat.sub_zero, List.take_of_length_le (l := List.drop f (bumpS l f t c)) (Nat.le_of_eq List.length_drop)]
      have li := ins_length f c (bumpS l f t c)
      rw [lv] at li
      have lt0 : (List.take (f - 0) (List.drop 0 (bumpS l f t c)) ++ [c]).length = f + 1 := by rw [List.drop_zero, List.length_append, List.length_take, lv]; simp; omega
      have lt1 : (List.take ((bumpS l f t c).length - f) (List.drop f (bumpS l f t c))).length = l.length - f := by rw [List.length_take, List.length_drop, lv]; omega
      rw [lt0, lt1, hins, lv, if_pos (by omega), if_pos (by omega), if_pos trivial, if_pos ⟨.inl (by simp), by simp; omega⟩, if_pos (by omega), if_pos (by omega)]
      simp only [j11_0]
      have hb2 : build f t c (bumpS l f t c) 0 = (ins f c (bumpS l f t c)).eraseIdx (bif decide (f < t) then t + 1 else t) := build_eq f t c _ hne (by omega)
      by_cases e : f < t
      · rw [decide_eq_true (show (f : Int) < (t : Int) by omega)]
        simp only [cond_true, wrapNext t (by omega), wrapNext (t + 1) (by omega)]
        rw [delete_run _ (t + 1) (by omega) (by omega)]
        rw [decide_eq_true e, cond_true] at hb2
        unfold jumpS
        rw [hb2]
      · rw [decide_eq_false (show ¬ (f : Int) < (t : Int) by omega)]
        simp only [cond_false, wrapNext t (by omega)]
        rw [delete_run _ t (by omega) (by omega)]
        rw [decide_eq_false e, cond_false] at hb2
        unfold jumpS
        rw [hb2]
end
theorem unfair_of {l : List Int} {i : Nat} (hi : i < l.length) (h : g l i < 0 ∨ 2147483647 < g l i) (a b : Int) : fair l a b = false := by
  cases hf : fair l a b with
  | false => rfl
  | true =>
    have := (fair_inv hf).2.2 _ (g_mem hi)
    omega
theorem fair_of {l : List Int} (h1 : 1 ≤ l.length) (h2 : l.length ≤ 12) (h : ∀ x ∈ l, 0 ≤ x ∧ x ≤ 2147483647) : fair l 1 12 = true := by
  unfold fair
  rw [decide_eq_true (show (1 : Int) ≤ (l.length : Int) by omega), decide_eq_true (show (l.length : Int) ≤ 12 by omega)]
  have : l.any bad = false := List.any_eq_false.2 fun x hx => by
    have := h x hx
    unfold bad
    rw [decide_eq_false (by omega), decide_eq_false (by omega)]; decide
  rw [this]; rfl

theorem mem_set2 {l : List Int} {i j : Nat} {a b x : Int} (h : x ∈ (l.set i a).set j b) : x ∈ l ∨ x = a ∨ x = b := by
  rcases List.mem_or_eq_of_mem_set h with h | h
  · rcases List.mem_or_eq_of_mem_set h with h | h
    · exact .inl h
    · exact .inr (.inl h)
  · exact .inr (.inr h)

section
variable {l : List Int} (hb : ∀ x ∈ l, 0 ≤ x ∧ x ≤ 2147483647) {f t : Nat} (hf : f < l.length) (ht : t < l.length) (hne : f ≠ t) {c : Int} (hc1 : 1 ≤ c) (hc2 : c ≤ g l f)
theorem slide_len : (slideS l f t c).length = l.length := by unfold slideS; rw [List.length_set, List.length_set]
theorem bump_len : (bumpS l f t c).length = l.length := by unfold bumpS; rw [List.length_set, List.length_set]
include hf ht hne in
theorem slide_get {i : Nat} (hi : i < l.length) : (slideS l f t c)[i]? = some (if i = t then g l t + c else if i = f then g l f - c else g l i) := by
  unfold slideS
  rw [List.getElem?_set, List.getElem?_set]
  by_cases e : i = t
  · subst e; rw [if_pos rfl, if_pos rfl, if_pos (by rw [List.length_set]; exact hi)]
  · rw [if_neg (fun h => e h.symm), if_neg e]
    by_cases d : i = f
    · subst d; rw [if_pos rfl, if_pos rfl, if_pos hi]
    · rw [if_neg (fun h => d h.symm), if_neg d, g_some hi]
include hf in
theorem bump_get (hx : f ≠ nxt l.length t) {i : Nat} (hi : i < l.length) : (bumpS l f t c)[i]? = some (if i = nxt l.length t then g l (nxt l.length t) + g l t else if i = f then g l f - c else g l i) := by
  unfold bumpS
  rw [List.getElem?_set, List.getElem?_set]
  by_cases e : i = nxt l.length t
  · subst e; rw [if_pos rfl, if_pos rfl, if_pos (by rw [List.length_set]; exact hi)]
  · rw [if_neg (fun h => e h.symm), if_neg e]
    by_cases d : i = f
    · subst d; rw [if_pos rfl, if_pos rfl, if_pos hi]
    · rw [if_neg (fun h => d h.symm), if_neg d, g_some hi]

include hb hf ht hne hc1 hc2 in
theorem slide_fair (hn : l.length ≤ 12) : fair (slideS l f t c) 1 12 = decide (c ≤ 2147483647 - g l t) := by
  have b0 := g_bound hb hf
  have b1 := g_bound hb ht
  by_cases h : c ≤ 2147483647 - g l t
  · rw [decide_eq_true h]
    refine fair_of (by rw [slide_len]; omega) (by rw [slide_len]; exact hn) fun x hx => ?_
    rcases mem_set2 hx with h | h | h
    · exact hb x h
    · omega
    · omega
  · rw [decide_eq_false h]
    have e : g (slideS l f t c) t = g l t + c := by
      have := slide_get hf ht hne (c := c) ht
      rw [if_pos rfl] at this
      rw [g_some (by rw [slide_len]; exact ht)] at this
      exact Option.some.inj this
    exact unfair_of (by rw [slide_len]; exact ht) (.inr (by rw [e]; omega)) 1 12
include hb hf ht hne hc1 hc2 in
theorem jump_fair (hn : l.length ≤ 12) (hx : f ≠ nxt l.length t) : fair (jumpS l f t c) 1 12 = decide (g l t ≤ 2147483647 - g l (nxt l.length t)) := by
  have b0 := g_bound hb hf
  have b1 := g_bound hb ht
  have hxl := nxt_lt ht
  have b2 := g_bound hb hxl
  have len : (jumpS l f t c).length = l.length := by unfold jumpS; rw [build_length f t c _ hne (by rw [bump_len]; exact hf) (by rw [bump_len]; exact ht), bump_len]
  by_cases h : g l t ≤ 2147483647 - g l (nxt l.length t)
  · rw [decide_eq_true h]
    refine fair_of (by rw [len]; omega) (by rw [len]; exact hn) fun x hx => ?_
    unfold jumpS at hx
    rcases mem_build f t c _ 0 x hx with h | ⟨j, hj, _⟩
    · omega
    · have := List.mem_of_getElem? hj
      rcases mem_set2 this with h | h | h
      · exact hb x h
      · omega
      · omega
  · rw [decide_eq_false h]
    have hnt : nxt l.length t ≠ t := by unfold nxt; split <;> omega
    have hm : g l (nxt l.length t) + g l t ∈ jumpS l f t c := by
      unfold jumpS
      refine build_mem f t c _ 0 (nxt l.length t) _ ?_ (by omega)
      rw [bump_get hf hx hxl, if_pos rfl]
    obtain ⟨i, hi, e⟩ := mem_g hm
    exact unfair_of hi (.inr (by rw [e]; omega)) 1 12
end

/-- The sum of what φ makes of the numbers. -/
def sumF (φ : Int → Int) : List Int → Int
  | [] => 0
  | x :: l => φ x + sumF φ l
theorem sumF_set (φ : Int → Int) : ∀ (l : List Int) (i : Nat) (v : Int), i < l.length → sumF φ (l.set i v) = sumF φ l - φ (g l i) + φ v
  | [], i, v, h => by simp at h
  | x :: l, 0, v, h => by
    show φ v + sumF φ l = φ x + sumF φ l - φ x + φ v
    omega
  | x :: l, i + 1, v, h => by
    show φ x + sumF φ (l.set i v) = φ x + sumF φ l - φ (g l i) + φ v
    rw [sumF_set φ l i v (by simpa using h)]; omega
theorem build_sum1 (φ : Int → Int) (f t : Nat) (c : Int) : ∀ (v : List Int) (i : Nat), f < i → i ≤ t → t < i + v.length → sumF φ (build f t c v i) = sumF φ v - φ (g v (t - i))
  | [], i, h1, h2, h3 => by simp at h3; omega
  | y :: v, i, h1, h2, h3 => by
    rw [List.length_cons] at h3
    unfold build
    by_cases e : i = t
    · rw [decide_eq_true e, build_past f t c v (i + 1) (by omega) (by omega), show t - i = 0 by omega]
      show sumF φ v = φ y + sumF φ v - φ y; omega
    · rw [decide_eq_false e, decide_eq_false (show ¬ i = f by omega), show t - i = (t - (i + 1)) + 1 by omega]
      show φ y + sumF φ (build f t c v (i + 1)) = φ y + sumF φ v - φ (g v (t - (i + 1)))
      rw [build_sum1 φ f t c v (i + 1) (by omega) (by omega) (by omega)]; omega
theorem build_sum2 (φ : Int → Int) (f t : Nat) (c : Int) : ∀ (v : List Int) (i : Nat), t < i → i ≤ f → f < i + v.length → sumF φ (build f t c v i) = sumF φ v + φ c
  | [], i, h1, h2, h3 => by simp at h3; omega
  | y :: v, i, h1, h2, h3 => by
    rw [List.length_cons] at h3
    unfold build
    by_cases e : i = f
    · rw [decide_eq_false (show ¬ i = t by omega), decide_eq_true e, build_past f t c v (i + 1) (by omega) (by omega)]
      show φ c + (φ y + sumF φ v) = φ y + sumF φ v + φ c; omega
    · rw [decide_eq_false e, decide_eq_false (show ¬ i = t by omega)]
      show φ y + sumF φ (build f t c v (i + 1)) = φ y + sumF φ v + φ c
      rw [build_sum2 φ f t c v (i + 1) (by omega) (by omega) (by omega)]; omega
theorem build_sum (φ : Int → Int) (f t : Nat) (c : Int) (hne : f ≠ t) : ∀ (v : List Int) (i : Nat), i ≤ f → i ≤ t → f < i + v.length → t < i + v.length → sumF φ (build f t c v i) = sumF φ v - φ (g v (t - i)) + φ c
  | [], i, h1, h2, h3, h4 => by simp at h3; omega
  | y :: v, i, h1, h2, h3, h4 => by
    rw [List.length_cons] at h3 h4
    unfold build
    by_cases e : i = t
    · rw [decide_eq_true e, show t - i = 0 by omega]
      show sumF φ (build f t c v (i + 1)) = φ y + sumF φ v - φ y + φ c
      rw [build_sum2 φ f t c v (i + 1) (by omega) (by omega) (by omega)]; omega
    · rw [decide_eq_false e, show t - i = (t - (i + 1)) + 1 by omega]
      by_cases d : i = f
      · rw [decide_eq_true d]
        show φ c + (φ y + sumF φ (build f t c v (i + 1))) = φ y + sumF φ v - φ (g v (t - (i + 1))) + φ c
        rw [build_sum1 φ f t c v (i + 1) (by omega) (by omega) (by omega)]; omega
      · rw [decide_eq_false d]
        show φ y + sumF φ (build f t c v (i + 1)) = φ y + sumF φ v - φ (g v (t - (i + 1))) + φ c
        rw [build_sum φ f t c hne v (i + 1) (by omega) (by omega) (by omega) (by omega)]; omega

abbrev one (x : Int) : Int := x
abbrev sq (x : Int) : Int := x * x
theorem g_set_ne {l : List Int} {i j : Nat} (h : i ≠ j) (v : Int) : g (l.set i v) j = g l j := by
  unfold g; rw [List.getD_eq_getElem?_getD, List.getElem?_set_ne h, List.getD_eq_getElem?_getD]

section
variable {l : List Int} {f t : Nat} (hf : f < l.length) (ht : t < l.length) (hne : f ≠ t) (c : Int) (φ : Int → Int)
include hf ht hne
theorem slide_sum : sumF φ (slideS l f t c) = sumF φ l - φ (g l f) + φ (g l f - c) - φ (g l t) + φ (g l t + c) := by
  unfold slideS
  rw [sumF_set φ _ t _ (by rw [List.length_set]; exact ht), sumF_set φ l f _ hf, g_set_ne hne]
theorem jump_sum (hx : f ≠ nxt l.length t) : sumF φ (jumpS l f t c) = sumF φ l - φ (g l f) + φ (g l f - c) - φ (g l (nxt l.length t)) + φ (g l (nxt l.length t) + g l t) - φ (g l t) + φ c := by
  have hnt : nxt l.length t ≠ t := by unfold nxt; split <;> omega
  have hxl := nxt_lt ht
  unfold jumpS
  rw [build_sum φ f t c hne _ 0 (Nat.zero_le _) (Nat.zero_le _) (by rw [bump_len]; omega) (by rw [bump_len]; omega)]
  have e : g (bumpS l f t c) (t - 0) = g l t := by
    unfold bumpS
    rw [Nat.sub_zero, g_set_ne hnt, g_set_ne hne]
  rw [e]
  unfold bumpS
  rw [sumF_set φ _ _ _ (by rw [List.length_set]; exact hxl), sumF_set φ l f _ hf, g_set_ne hx]
end

/-- How much the squares' sum falls at the least: an eighth of the greatest number's square. -/
theorem slide_falls {a b c : Int} (h2 : 2 ≤ a) (hb : 0 ≤ b) (h : 2 * b < a) (hc : c = (a - b) / 2) : a * a ≤ 8 * (a * a + b * b - (a - c) * (a - c) - (b + c) * (b + c)) := by
  have e : a * a + b * b - (a - c) * (a - c) - (b + c) * (b + c) = 2 * c * ((a - b) - c) := by grind
  rw [e]
  generalize hd : a - b = d at *
  rcases (show d = 2 * c ∨ d = 2 * c + 1 by omega) with h3 | h3
  · have k : a * a ≤ (4 * c) * (4 * c) := Int.mul_le_mul (by omega) (by omega) (by omega) (by omega)
    rw [h3]; grind
  · have k : (a + 1) * (a + 1) ≤ (4 * c + 2) * (4 * c + 2) := Int.mul_le_mul (by omega) (by omega) (by omega) (by omega)
    rw [h3]; grind
theorem jump_falls {a e w c : Int} (h2 : 2 ≤ a) (he : 0 ≤ e) (hw : 0 ≤ w) (h : 4 * (w + e) ≤ 3 * a) (hc : c = a / 2) : a * a ≤ 8 * (a * a + w * w + e * e - (a - c) * (a - c) - (w + e) * (w + e) - c * c) := by
  have k1 : (4 * (w + e)) * (4 * (w + e)) ≤ (3 * a) * (3 * a) := Int.mul_le_mul h h (by omega) (by omega)
  have k2 : 0 ≤ (w - e) * (w - e) := by
    rcases Int.le_total 0 (w - e) with h | h
    · exact Int.mul_nonneg h h
    · exact Int.mul_nonneg_of_nonpos_of_nonpos h h
  by_cases h3 : a = 2
  · have hc1 : c = 1 := by omega
    have : w + e ≤ 1 := by omega
    rcases (show (w = 0 ∧ e = 0) ∨ (w = 1 ∧ e = 0) ∨ (w = 0 ∧ e = 1) by omega) with ⟨rfl, rfl⟩ | ⟨rfl, rfl⟩ | ⟨rfl, rfl⟩ <;> subst h3 hc1 <;> decide
  · have k3 : 3 * 3 ≤ a * a := Int.mul_le_mul (by omega) (by omega) (by omega) (by omega)
    have x0 : a * a + w * w + e * e - (a - c) * (a - c) - (w + e) * (w + e) - c * c = 2 * (a * c) - 2 * (c * c) - 2 * (w * e) := by grind
    have x1 : (4 * (w + e)) * (4 * (w + e)) = 16 * (w * w) + 32 * (w * e) + 16 * (e * e) := by grind
    have x2 : (3 * a) * (3 * a) = 9 * (a * a) := by grind
    have x3 : (w - e) * (w - e) = w * w - 2 * (w * e) + e * e := by grind
    rw [x1, x2] at k1
    rw [x3] at k2
    rw [x0]
    rcases (show a = 2 * c ∨ a = 2 * c + 1 by omega) with h4 | h4
    · have e1 : a * a = 4 * (c * c) := by rw [h4]; grind
      have e2 : a * c = 2 * (c * c) := by rw [h4]; grind
      omega
    · have e1 : a * a = 4 * (c * c) + 4 * c + 1 := by rw [h4]; grind
      have e2 : a * c = 2 * (c * c) + c := by rw [h4]; grind
      omega

/-- What a planned move does. -/
structure Moves (l : List Int) (m : MV) : Prop where
  goes : mayS l m = true
  fair : fair (doneS l m) 1 12 = true
  len : (doneS l m).length = l.length
  sum : sumF one (doneS l m) = sumF one l
  most : ∀ x ∈ doneS l m, ∃ y ∈ l, x ≤ y

theorem planned {l : List Int} (fr : Am.Ytioacppahkhbhaa.fair l 1 12 = true) {h lo : Nat} (F : First l h lo) (hp : (planS l h lo).2.1 = true) :
    Moves l (planS l h lo).1 ∧ 2 ≤ g l h ∧ g l h * g l h ≤ 8 * (sumF sq l - sumF sq (doneS l (planS l h lo).1)) := by
  obtain ⟨h1, hn, hb⟩ := fair_12 fr
  have hh := F.hl
  have hlo := F.lol
  have ba := g_bound hb hh
  unfold planS at hp ⊢
  cases hcalm : calmS l h lo with
  | true => rw [hcalm] at hp; cases hp
  | false =>
    rw [hcalm] at hp
    simp only [cond_false] at hp ⊢
    unfold calmS at hcalm
    simp only [Bool.or_eq_false_iff, decide_eq_false_iff_not] at hcalm
    obtain ⟨c1, c2, c3⟩ := hcalm
    have hq := nearS_lt hh
    have bq := g_bound hb hq
    -- the neighbour
    have hbes : besideS l.length h (nearS l h) = true := by
      have ne : nearS l h ≠ h := by
        unfold nearS nxt prv
        cases decide (g l (if h + 1 = l.length then 0 else h + 1) < g l (if h = 0 then l.length - 1 else h - 1))
        · show (if h = 0 then l.length - 1 else h - 1) ≠ h; split <;> omega
        · show (if h + 1 = l.length then 0 else h + 1) ≠ h; split <;> omega
      unfold besideS
      rw [decide_eq_false (fun e => ne e.symm)]
      unfold nearS
      cases hd : decide (g l (nxt l.length h) < g l (prv l.length h)) with
      | true => simp
      | false =>
        simp only [cond_false]
        rw [decide_eq_true ((prv_nxt hh (prv_lt hh)).1 rfl), Bool.or_true]; rfl
    unfold restS at hp ⊢
    by_cases d : 2 * g l (nearS l h) < g l h
    · rw [decide_eq_true d]
      simp only [cond_true]
      generalize hc : (g l h - g l (nearS l h)) / 2 = c
      have hne : h ≠ nearS l h := by
        intro e; rw [← e] at d; omega
      have hin : inS l (1, ((h : Int), ((nearS l h : Int), c))) = true := by
        unfold inS
        simp only [Int.toNat_natCast]
        rw [decide_eq_false (by omega), decide_eq_false (by omega), decide_eq_false (by omega), decide_eq_false (by omega), decide_eq_false (by omega), decide_eq_false (by omega), decide_eq_false (by omega)]; rfl
      have hroom : c ≤ 2147483647 - g l (nearS l h) := by omega
      have hfair := slide_fair hb hh hq hne (c := c) (by omega) (by omega) hn
      have es := slide_sum hh hq hne c one
      have eq := slide_sum hh hq hne c sq
      have hd : doneS l (1, ((h : Int), ((nearS l h : Int), c))) = slideS l h (nearS l h) c := rfl
      rw [hd]
      refine ⟨⟨?_, by rw [hd, hfair, decide_eq_true hroom], by rw [hd, slide_len], by rw [hd, es]; show sumF one l - g l h + (g l h - c) - g l (nearS l h) + (g l (nearS l h) + c) = _; omega, fun x hx => ⟨g l h, g_mem hh, ?_⟩⟩, by omega, ?_⟩
      · unfold mayS roomS
        rw [hin]
        simp only [Int.toNat_natCast, hbes, decide_eq_true hroom]; rfl
      · rw [hd] at hx
        rcases mem_set2 hx with k | k | k
        · obtain ⟨i, hi, e⟩ := mem_g k
          have := F.most i hi; omega
        · omega
        · omega
      · have := slide_falls (a := g l h) (b := g l (nearS l h)) (c := c) (by omega) (by omega) d hc.symm
        rw [eq]
        show _ ≤ 8 * (sumF sq l - (sumF sq l - g l h * g l h + (g l h - c) * (g l h - c) - g l (nearS l h) * g l (nearS l h) + (g l (nearS l h) + c) * (g l (nearS l h) + c)))
        omega
    · rw [decide_eq_false d] at hp ⊢
      simp only [cond_false] at hp ⊢
      cases hj : (!besideS l.length h lo && decide (4 * (g l (nxt l.length lo) + g l lo) ≤ 3 * g l h)) with
      | false => rw [hj] at hp; cases hp
      | true =>
        simp only [cond_true]
        rw [Bool.and_eq_true, decide_eq_true_eq, Bool.not_eq_true'] at hj
        obtain ⟨j1, j2⟩ := hj
        have hxl := nxt_lt hlo
        have be := g_bound hb hlo
        have bw := g_bound hb hxl
        generalize hc : g l h / 2 = c
        have hne : h ≠ lo := by
          intro e; rw [← e] at c3; omega
        have hx : h ≠ nxt l.length lo := by
          intro e
          unfold besideS at j1
          rw [decide_eq_false hne, decide_eq_true e.symm, Bool.or_true] at j1; cases j1
        have hin : inS l (2, ((h : Int), ((lo : Int), c))) = true := by
          unfold inS
          simp only [Int.toNat_natCast]
          rw [decide_eq_false (by omega), decide_eq_false (by omega), decide_eq_false (by omega), decide_eq_false (by omega), decide_eq_false (by omega), decide_eq_false (by omega), decide_eq_false (by omega)]; rfl
        have hroom : g l lo ≤ 2147483647 - g l (nxt l.length lo) := by omega
        have hfair := jump_fair hb hh hlo hne (c := c) (by omega) (by omega) hn hx
        have es := jump_sum hh hlo hne c one hx
        have eq := jump_sum hh hlo hne c sq hx
        have hd : doneS l (2, ((h : Int), ((lo : Int), c))) = jumpS l h lo c := rfl
        have len : (jumpS l h lo c).length = l.length := by unfold jumpS; rw [build_length h lo c _ hne (by rw [bump_len]; exact hh) (by rw [bump_len]; exact hlo), bump_len]
        rw [hd]
        refine ⟨⟨?_, by rw [hd, hfair, decide_eq_true hroom], by rw [hd, len], by rw [hd, es]; show sumF one l - g l h + (g l h - c) - g l (nxt l.length lo) + (g l (nxt l.length lo) + g l lo) - g l lo + c = _; omega, fun x hx => ⟨g l h, g_mem hh, ?_⟩⟩, by omega, ?_⟩
        · unfold mayS roomS
          rw [hin]
          simp only [Int.toNat_natCast, j1, decide_eq_true hroom]; rfl
        · rw [hd] at hx
          unfold jumpS at hx
          rcases mem_build h lo c _ 0 x hx with k | ⟨j, hj, _⟩
          · omega
          · rcases mem_set2 (List.mem_of_getElem? hj) with k | k | k
            · obtain ⟨i, hi, e⟩ := mem_g k
              have := F.most i hi; omega
            · omega
            · omega
        · have := jump_falls (a := g l h) (e := g l lo) (w := g l (nxt l.length lo)) (c := c) (by omega) (by omega) (by omega) j2 hc.symm
          rw [eq]
          show _ ≤ 8 * (sumF sq l - (sumF sq l - g l h * g l h + (g l h - c) * (g l h - c) - g l (nxt l.length lo) * g l (nxt l.length lo) + (g l (nxt l.length lo) + g l lo) * (g l (nxt l.length lo) + g l lo) - g l lo * g l lo + c * c))
          omega
theorem sumF_nonneg {l : List Int} (h : ∀ x ∈ l, 0 ≤ x) : 0 ≤ sumF one l := by
  induction l with
  | nil => exact Int.le_refl _
  | cons x l ih =>
    have h1 := h x (by simp)
    have h2 := ih fun y hy => h y (by simp [hy])
    show 0 ≤ x + sumF one l; omega
theorem sq_nonneg (x : Int) : 0 ≤ x * x := by
  rcases Int.le_total 0 x with h | h
  · exact Int.mul_nonneg h h
  · exact Int.mul_nonneg_of_nonpos_of_nonpos h h
theorem sumQ_nonneg : ∀ l : List Int, 0 ≤ sumF sq l
  | [] => Int.le_refl _
  | x :: l => by
    have h1 := sq_nonneg x
    have h2 := sumQ_nonneg l
    show 0 ≤ x * x + sumF sq l; omega
theorem sumQ_le {l : List Int} (h : ∀ x ∈ l, 0 ≤ x) : sumF sq l ≤ sumF one l * sumF one l := by
  induction l with
  | nil => exact Int.le_refl _
  | cons x l ih =>
    have h1 := h x (by simp)
    have h0 : ∀ y ∈ l, 0 ≤ y := fun y hy => h y (by simp [hy])
    have h2 := ih h0
    have h3 := sumF_nonneg h0
    have h4 := Int.mul_nonneg h1 h3
    have e : (x + sumF one l) * (x + sumF one l) = x * x + 2 * (x * sumF one l) + sumF one l * sumF one l := by grind
    show x * x + sumF sq l ≤ (x + sumF one l) * (x + sumF one l)
    rw [e]; omega
theorem sum_le {l : List Int} {a : Int} (h : ∀ x ∈ l, x ≤ a) : sumF one l ≤ (l.length : Int) * a := by
  induction l with
  | nil => rw [List.length_nil]; show (0 : Int) ≤ ((0 : Nat) : Int) * a; simp
  | cons x l ih =>
    have h1 := h x (by simp)
    have h2 := ih fun y hy => h y (by simp [hy])
    have e : ((l.length + 1 : Nat) : Int) * a = (l.length : Int) * a + a := by rw [Int.natCast_add, Int.add_mul]; simp
    rw [List.length_cons, e]
    show x + sumF one l ≤ _; omega

/-! ### Sums -/
end Go.Am.Ytioacppahkhbhaa
