/- Plain laws of the printed functions of balance: the next move. -/
import Derived.Test.YtbbbdckbcicmbaaBalanceA
import Derived.Test.YtbbbdckbcicmbaaAmZI
namespace Go.Am.Ytbbbdckbcicmbaa
/-- A move: kind, from, to, count. -/
abbrev MV := Int × (Int × (Int × Int))
/-- The number at i. -/
abbrev g (l : List Int) (i : Nat) : Int := l.getD i 0
theorem g_some {l : List Int} {i : Nat} (h : i < l.length) : l[i]? = some (g l i) := by
  unfold g; rw [List.getD_eq_getElem?_getD, List.getElem?_eq_getElem h]; rfl
theorem g_mem {l : List Int} {i : Nat} (h : i < l.length) : g l i ∈ l := List.mem_of_getElem? (g_some h)
theorem g_get {l : List Int} {i : Nat} (h : i < l.length) : l[i] = g l i := by
  have := g_some h; rw [List.getElem?_eq_getElem h] at this; exact Option.some.inj this
theorem mem_g {l : List Int} {x : Int} (h : x ∈ l) : ∃ i, i < l.length ∧ g l i = x := by
  obtain ⟨i, hi, e⟩ := List.mem_iff_getElem.1 h
  exact ⟨i, hi, by rw [← g_get hi]; exact e⟩

def nxt (n i : Nat) : Nat := if i + 1 = n then 0 else i + 1
def prv (n i : Nat) : Nat := if i = 0 then n - 1 else i - 1
def besideS (n a b : Nat) : Bool := !decide (a = b) && (decide (nxt n a = b) || decide (nxt n b = a))
theorem nxt_lt {n i : Nat} (h : i < n) : nxt n i < n := by unfold nxt; split <;> omega
theorem prv_lt {n i : Nat} (h : i < n) : prv n i < n := by unfold prv; split <;> omega
theorem prv_nxt {n a b : Nat} (ha : a < n) (hb : b < n) : prv n a = b ↔ nxt n b = a := by
  unfold prv nxt
  constructor <;> intro h <;> split at h <;> split <;> omega

theorem tmod_nxt {n i : Nat} (h : i < n) (hn : n ≤ 12) : Int.tmod (IntKind.wrap .i64 ((i : Int) + 1)) (n : Int) = (nxt n i : Int) := by
  rw [wrapNext i (by omega), Int.tmod_eq_emod_of_nonneg (by omega)]
  unfold nxt
  split
  · rename_i e; rw [e, Int.emod_self]; rfl
  · rw [Int.emod_eq_of_lt (by omega) (by omega)]
theorem tmod_prv {n i : Nat} (h : i < n) (hn : n ≤ 12) : Int.tmod (IntKind.wrap .i64 ((IntKind.wrap .i64 ((i : Int) + (n : Int))) - 1)) (n : Int) = (prv n i : Int) := by
  rw [wrapI (n := (i : Int) + n) (by omega) (by omega), wrapI (by omega) (by omega), Int.tmod_eq_emod_of_nonneg (by omega)]
  unfold prv
  split
  · rename_i e; rw [e, Int.emod_eq_of_lt (by omega) (by omega)]; omega
  · rw [show (i : Int) + (n : Int) - 1 = ((i : Int) - 1) + n by omega, Int.add_emod_right, Int.emod_eq_of_lt (by omega) (by omega)]; omega

theorem p32_run {n i : Nat} (h : i < n) (hn : n ≤ 12) : p32 FUEL ((i : Int), (n : Int)) = some (nxt n i : Int) := by
  simp only [p32, nxt]
  rw [wrapI (n := (n : Int) - 1) (by omega) (by omega), wrapNext i (by omega)]
  by_cases e : i + 1 = n
  · rw [decide_eq_true (show (i : Int) = (n : Int) - 1 by omega), if_pos e]; rfl
  · rw [decide_eq_false (show ¬ (i : Int) = (n : Int) - 1 by omega), if_neg e]; rfl
theorem p31_run {n i : Nat} (h : i < n) (hn : n ≤ 12) : p31 FUEL ((i : Int), (n : Int)) = some (prv n i : Int) := by
  simp only [p31, prv]
  by_cases e : i = 0
  · rw [decide_eq_true (show (i : Int) = 0 by omega), if_pos e, wrapI (n := (n : Int) - 1) (by omega) (by omega)]
    simp only [cond_true]; congr 1; omega
  · rw [decide_eq_false (show ¬ (i : Int) = 0 by omega), if_neg e, wrapI (n := (i : Int) - 1) (by omega) (by omega)]
    simp only [cond_false]; congr 1; omega
theorem natDec (a b : Nat) : decide ((a : Int) = (b : Int)) = decide (a = b) := by
  by_cases h : a = b
  · rw [decide_eq_true h, decide_eq_true (by omega)]
  · rw [decide_eq_false h, decide_eq_false (by omega)]
theorem p27_run {n a b : Nat} (ha : a < n) (hb : b < n) (hn : n ≤ 12) : p27 FUEL ((a : Int), (b : Int), (n : Int)) = some (besideS n a b) := by
  simp only [p27, besideS, tmod_nxt ha hn, tmod_nxt hb hn, if_neg (show ¬ (n : Int) = 0 by omega), natDec]
  cases decide (a = b) <;> cases decide (nxt n a = b) <;> rfl
theorem p33_run {n a b : Nat} (ha : a < n) (hb : b < n) (hn : n ≤ 12) : p33 FUEL ((a : Int), (b : Int), (n : Int)) = some (besideS n a b) := by
  simp only [p33, besideS, p32_run ha hn, p31_run ha hn, natDec]
  have e : decide (prv n a = b) = decide (nxt n b = a) := by
    by_cases h : prv n a = b
    · rw [decide_eq_true h, decide_eq_true ((prv_nxt ha hb).1 h)]
    · rw [decide_eq_false h, decide_eq_false (fun x => h ((prv_nxt ha hb).2 x))]
  rw [e]
  cases decide (a = b) <;> cases decide (nxt n a = b) <;> rfl

/-- The first greatest and the first least number. -/
structure First (l : List Int) (h lo : Nat) : Prop where
  hl : h < l.length
  lol : lo < l.length
  most : ∀ j, j < l.length → g l j ≤ g l h
  first : ∀ j, j < h → g l j < g l h
  least : ∀ j, j < l.length → g l lo ≤ g l j
  first' : ∀ j, j < lo → g l lo < g l j

theorem First.same {l : List Int} {h lo h' lo' : Nat} (a : First l h lo) (b : First l h' lo') : h = h' ∧ lo = lo' := by
  constructor
  · rcases Nat.lt_trichotomy h h' with c | c | c
    · have := b.first h c; have := a.most h' b.hl; omega
    · exact c
    · have := a.first h' c; have := b.most h a.hl; omega
  · rcases Nat.lt_trichotomy lo lo' with c | c | c
    · have := b.first' lo c; have := a.least lo' b.lol; omega
    · exact c
    · have := a.first' lo' c; have := b.least lo a.lol; omega

theorem one_le (l : List Int) : ∀ j : Nat, j < 1 → g l j ≤ g l 0 := fun j hj => by
  have : j = 0 := by omega
  subst this; exact Int.le_refl _
theorem one_ge (l : List Int) : ∀ j : Nat, j < 1 → g l 0 ≤ g l j := fun j hj => by
  have : j = 0 := by omega
  subst this; exact Int.le_refl _

theorem max_run (l : List Int) (hl : l.length ≤ 12) : ∀ (n i : Nat) (m : Int), l.length - i < n → 1 ≤ i → i ≤ l.length → (∀ j, j < i → g l j ≤ m) → (∃ j, j < i ∧ g l j = m) →
    ∃ m', l25_0 FUEL (fun x7 => some x7) n (l, m, (i : Int)) = some m' ∧ (∀ j, j < l.length → g l j ≤ m') ∧ ∃ j, j < l.length ∧ g l j = m' := by
  intro n
  induction n with
  | zero => intro i m h; omega
  | succ n ih =>
    intro i m h h1 hi a b
    by_cases e : i < l.length
    · have hs : l25_0 FUEL (fun x7 => some x7) (n + 1) (l, m, (i : Int)) = l25_0 FUEL (fun x7 => some x7) n (l, (if m < g l i then g l i else m), ((i + 1 : Nat) : Int)) := by
        refine (condT (decide_eq_true (show (i : Int) < ((l.length : Nat) : Int) by omega))).trans ?_
        simp only [if_pos (show (0 : Int) ≤ (i : Int) by omega), Int.toNat_natCast, g_some e, wrapNext i (by omega)]
      rw [hs]
      refine ih (i + 1) _ (by omega) (by omega) (by omega) (fun j hj => ?_) ?_
      · by_cases c : j = i
        · subst c; split <;> omega
        · have := a j (by omega); split <;> omega
      · split
        · exact ⟨i, by omega, rfl⟩
        · obtain ⟨j, hj, hm⟩ := b; exact ⟨j, by omega, hm⟩
    · obtain rfl : i = l.length := by omega
      exact ⟨m, condF (decide_eq_false (Int.lt_irrefl _)), a, b⟩
theorem min_run (l : List Int) (hl : l.length ≤ 12) : ∀ (n i : Nat) (m : Int), l.length - i < n → 1 ≤ i → i ≤ l.length → (∀ j, j < i → m ≤ g l j) → (∃ j, j < i ∧ g l j = m) →
    ∃ m', l26_0 FUEL (fun x7 => some x7) n (l, m, (i : Int)) = some m' ∧ (∀ j, j < l.length → m' ≤ g l j) ∧ ∃ j, j < l.length ∧ g l j = m' := by
  intro n
  induction n with
  | zero => intro i m h; omega
  | succ n ih =>
    intro i m h h1 hi a b
    by_cases e : i < l.length
    · have hs : l26_0 FUEL (fun x7 => some x7) (n + 1) (l, m, (i : Int)) = l26_0 FUEL (fun x7 => some x7) n (l, (if g l i < m then g l i else m), ((i + 1 : Nat) : Int)) := by
        refine (condT (decide_eq_true (show (i : Int) < ((l.length : Nat) : Int) by omega))).trans ?_
        simp only [if_pos (show (0 : Int) ≤ (i : Int) by omega), Int.toNat_natCast, g_some e, wrapNext i (by omega)]
      rw [hs]
      refine ih (i + 1) _ (by omega) (by omega) (by omega) (fun j hj => ?_) ?_
      · by_cases c : j = i
        · subst c; split <;> omega
        · have := a j (by omega); split <;> omega
      · split
        · exact ⟨i, by omega, rfl⟩
        · obtain ⟨j, hj, hm⟩ := b; exact ⟨j, by omega, hm⟩
    · obtain rfl : i = l.length := by omega
      exact ⟨m, condF (decide_eq_false (Int.lt_irrefl _)), a, b⟩
theorem index_run (l : List Int) (hl : l.length ≤ 12) (v : Int) : ∀ (n i : Nat), l.length - i < n → i ≤ l.length → (∀ j : Nat, j < i → g l j ≠ v) → (∃ j : Nat, j < l.length ∧ g l j = v) →
    ∃ j : Nat, l24_0 FUEL (fun x8 => some x8) (fun _ => some (-1 : Int)) n (l, v, ((l.length : Nat) : Int), (i : Int)) = some (j : Int) ∧ j < l.length ∧ g l j = v ∧ ∀ q : Nat, q < j → g l q ≠ v := by
  intro n
  induction n with
  | zero => intro i h; omega
  | succ n ih =>
    intro i h hi a b
    by_cases e : i < l.length
    · have hs : l24_0 FUEL (fun x8 => some x8) (fun _ => some (-1 : Int)) (n + 1) (l, v, ((l.length : Nat) : Int), (i : Int)) = bif decide (v = g l i) then some (i : Int) else l24_0 FUEL (fun x8 => some x8) (fun _ => some (-1 : Int)) n (l, v, ((l.length : Nat) : Int), ((i + 1 : Nat) : Int)) := by
        refine (condT (decide_eq_true (show (i : Int) < ((l.length : Nat) : Int) by omega))).trans ?_
        simp only [if_pos (show (0 : Int) ≤ (i : Int) by omega), Int.toNat_natCast, g_some e, wrapNext i (by omega)]
      rw [hs]
      by_cases c : v = g l i
      · rw [decide_eq_true c]
        exact ⟨i, rfl, e, c.symm, a⟩
      · rw [decide_eq_false c]
        exact ih (i + 1) (by omega) (by omega) (fun j hj => by
          by_cases d : j = i
          · subst d; exact fun x => c x.symm
          · exact a j (by omega)) b
    · obtain ⟨j, hj, hv⟩ := b
      exact absurd hv (a j (by omega))

theorem most_index (l : List Int) (hl : l.length ≤ 12) (h1 : 1 ≤ l.length) : ∃ (v : Int) (h : Nat), p25 FUEL l = some v ∧ p24 FUEL (l, v) = some ((h : Nat) : Int) ∧ h < l.length ∧ (∀ j, j < l.length → g l j ≤ g l h) ∧ ∀ j, j < h → g l j < g l h := by
  obtain ⟨m, e, a, b⟩ := max_run l hl FUEL 1 (g l 0) (by have := big; omega) (Nat.le_refl _) h1 (one_le l) ⟨0, by omega, rfl⟩
  obtain ⟨h, e2, h2, h3, h4⟩ := index_run l hl m FUEL 0 (by have := big; omega) (Nat.zero_le _) (fun j hj => absurd hj (Nat.not_lt_zero _)) b
  refine ⟨m, h, ?_, e2, h2, fun j hj => by rw [h3]; exact a j hj, fun j hj => ?_⟩
  · simp only [p25]
    rw [decide_eq_false (show ¬ ((l.length : Nat) : Int) < 1 by omega), cond_false, if_pos (Int.le_refl _), show Int.toNat 0 = 0 from rfl, g_some (by omega)]
    exact e
  · have := h4 j hj; have := a j (by omega); omega
theorem least_index (l : List Int) (hl : l.length ≤ 12) (h1 : 1 ≤ l.length) : ∃ (v : Int) (h : Nat), p26 FUEL l = some v ∧ p24 FUEL (l, v) = some ((h : Nat) : Int) ∧ h < l.length ∧ (∀ j, j < l.length → g l h ≤ g l j) ∧ ∀ j, j < h → g l h < g l j := by
  obtain ⟨m, e, a, b⟩ := min_run l hl FUEL 1 (g l 0) (by have := big; omega) (Nat.le_refl _) h1 (one_ge l) ⟨0, by omega, rfl⟩
  obtain ⟨h, e2, h2, h3, h4⟩ := index_run l hl m FUEL 0 (by have := big; omega) (Nat.zero_le _) (fun j hj => absurd hj (Nat.not_lt_zero _)) b
  refine ⟨m, h, ?_, e2, h2, fun j hj => by rw [h3]; exact a j hj, fun j hj => ?_⟩
  · simp only [p26]
    rw [decide_eq_false (show ¬ ((l.length : Nat) : Int) < 1 by omega), cond_false, if_pos (Int.le_refl _), show Int.toNat 0 = 0 from rfl, g_some (by omega)]
    exact e
  · have := h4 j hj; have := a j (by omega); omega

/-- What is planned, once the greatest, the least and the lesser neighbour of the greatest are known. -/
def restS (l : List Int) (h lo near : Nat) : MV × Bool × Int :=
  bif decide (2 * g l near < g l h) then ((1, h, near, (g l h - g l near) / 2), true, 0)
  else bif !besideS l.length h lo && decide (4 * (g l (nxt l.length lo) + g l lo) ≤ 3 * g l h) then ((2, h, lo, g l h / 2), true, 0)
  else ((0, 0, 0, 0), false, 0)
def nearS (l : List Int) (h : Nat) : Nat := bif decide (g l (nxt l.length h) < g l (prv l.length h)) then nxt l.length h else prv l.length h
def calmS (l : List Int) (h lo : Nat) : Bool := decide (l.length = 1) || (decide (g l h < 2) || decide (g l h ≤ 2 * g l lo))
def planS (l : List Int) (h lo : Nat) : MV × Bool × Int := bif calmS l h lo then ((0, 0, 0, 0), false, 0) else restS l h lo (nearS l h)

theorem nearS_lt {l : List Int} {h : Nat} (hh : h < l.length) : nearS l h < l.length := by
  unfold nearS
  cases decide (g l (nxt l.length h) < g l (prv l.length h))
  · exact prv_lt hh
  · exact nxt_lt hh

section
variable {R : Type} {l : List Int} (hn : l.length ≤ 12) (hb : ∀ x ∈ l, 0 ≤ x ∧ x ≤ 2147483647)
include hb in
theorem g_bound {i : Nat} (h : i < l.length) : 0 ≤ g l i ∧ g l i ≤ 2147483647 := hb _ (g_mem h)

include hn hb
theorem rest14 {h lo q : Nat} (hh : h < l.length) (hlo : lo < l.length) (hq : q < l.length) (z : MV) (k0 : Bool × Int × MV → Option R) :
    j14_3 FUEL k0 (l, ((l.length : Nat) : Int), (h : Int), (lo : Int), (q : Int), z) = k0 ((restS l h lo q).2.1, (restS l h lo q).2.2, (restS l h lo q).1) := by
  have b1 := g_bound hb hh
  have b2 := g_bound hb hlo
  have b3 := g_bound hb hq
  have b4 := g_bound hb (nxt_lt hlo)
  have hx := nxt_lt hlo
  have hd : Int.tdiv (g l h) 2 = g l h / 2 := Int.tdiv_eq_ediv_of_nonneg b1.1
  simp only [j14_3, j14_1, j14_2, if_pos (Int.natCast_nonneg h), if_pos (Int.natCast_nonneg lo), if_pos (Int.natCast_nonneg q), Int.toNat_natCast, g_some hh, g_some hlo, g_some hq, p27_run hh hlo hn, tmod_nxt hlo hn, if_pos (Int.natCast_nonneg (nxt l.length lo)), g_some hx, if_neg (show ¬ ((l.length : Nat) : Int) = 0 by omega), hd]
  rw [wrapI (n := 2 * g l q) (by omega) (by omega), wrapI (n := g l (nxt l.length lo) + g l lo) (by omega) (by omega), wrapI (n := 4 * (g l (nxt l.length lo) + g l lo)) (by omega) (by omega), wrapI (n := 3 * g l h) (by omega) (by omega), wrapI (n := g l h / 2) (by omega) (by omega)]
  unfold restS
  by_cases c : 2 * g l q < g l h
  · rw [decide_eq_true c, wrapI (n := g l h - g l q) (by omega) (by omega), Int.tdiv_eq_ediv_of_nonneg (by omega), wrapI (by omega) (by omega)]; rfl
  · rw [decide_eq_false c]
    cases besideS l.length h lo
    · by_cases d : 4 * (g l (nxt l.length lo) + g l lo) ≤ 3 * g l h
      · rw [decide_eq_true d]; rfl
      · rw [decide_eq_false d]; rfl
    · rfl

theorem rest16 {h lo q : Nat} (hh : h < l.length) (hlo : lo < l.length) (hq : q < l.length) (z : MV) (k0 : Bool × Int × MV → Option R) :
    j16_5 FUEL k0 (l, ((l.length : Nat) : Int), (h : Int), (lo : Int), (q : Int), z) = k0 ((restS l h lo q).2.1, (restS l h lo q).2.2, (restS l h lo q).1) := by
  have b1 := g_bound hb hh
  have b2 := g_bound hb hlo
  have b3 := g_bound hb hq
  have b4 := g_bound hb (nxt_lt hlo)
  have hx := nxt_lt hlo
  have hd : Int.tdiv (g l h) 2 = g l h / 2 := Int.tdiv_eq_ediv_of_nonneg b1.1
  simp only [j16_5, j16_3, j16_4, if_pos (Int.natCast_nonneg h), if_pos (Int.natCast_nonneg lo), if_pos (Int.natCast_nonneg q), Int.toNat_natCast, g_some hh, g_some hlo, g_some hq, p33_run hh hlo hn, p32_run hlo hn, if_pos (Int.natCast_nonneg (nxt l.length lo)), g_some hx, hd]
  rw [wrapI (n := 2 * g l q) (by omega) (by omega), wrapI (n := 4 * g l (nxt l.length lo)) (by omega) (by omega), wrapI (n := 4 * g l lo) (by omega) (by omega), wrapI (n := 4 * g l (nxt l.length lo) + 4 * g l lo) (by omega) (by omega), wrapI (n := 3 * g l h) (by omega) (by omega), wrapI (n := g l h / 2) (by omega) (by omega)]
  unfold restS
  rw [show 4 * g l (nxt l.length lo) + 4 * g l lo = 4 * (g l (nxt l.length lo) + g l lo) by omega]
  by_cases c : 2 * g l q < g l h
  · rw [decide_eq_true c, wrapI (n := g l h - g l q) (by omega) (by omega), Int.tdiv_eq_ediv_of_nonneg (by omega), wrapI (by omega) (by omega)]; rfl
  · rw [decide_eq_false c]
    cases besideS l.length h lo
    · by_cases d : 4 * (g l (nxt l.length lo) + g l lo) ≤ 3 * g l h
      · rw [decide_eq_true d]; rfl
      · rw [decide_eq_false d]; rfl
    · rfl

theorem near14 {h lo : Nat} (hh : h < l.length) (hlo : lo < l.length) (z : MV) (k0 : Bool × Int × MV → Option R) :
    j14_4 FUEL k0 (l, ((l.length : Nat) : Int), (h : Int), (lo : Int), z) = k0 ((restS l h lo (nearS l h)).2.1, (restS l h lo (nearS l h)).2.2, (restS l h lo (nearS l h)).1) := by
  have hx := nxt_lt hh
  have hp := prv_lt hh
  simp only [j14_4, tmod_nxt hh hn, tmod_prv hh hn, if_neg (show ¬ ((l.length : Nat) : Int) = 0 by omega), if_pos (Int.natCast_nonneg (nxt l.length h)), if_pos (Int.natCast_nonneg (prv l.length h)), Int.toNat_natCast, g_some hx, g_some hp, rest14 hn hb hh hlo hx, rest14 hn hb hh hlo hp]
  unfold nearS
  cases decide (g l (nxt l.length h) < g l (prv l.length h)) <;> rfl
theorem near16 {h lo : Nat} (hh : h < l.length) (hlo : lo < l.length) (z : MV) (k0 : Bool × Int × MV → Option R) :
    j16_6 FUEL k0 (l, ((l.length : Nat) : Int), (h : Int), (lo : Int), z) = k0 ((restS l h lo (nearS l h)).2.1, (restS l h lo (nearS l h)).2.2, (restS l h lo (nearS l h)).1) := by
  have hx := nxt_lt hh
  have hp := prv_lt hh
  simp only [j16_6, p31_run hh hn, p32_run hh hn, if_pos (Int.natCast_nonneg (nxt l.length h)), if_pos (Int.natCast_nonneg (prv l.length h)), Int.toNat_natCast, g_some hx, g_some hp, rest16 hn hb hh hlo hx, rest16 hn hb hh hlo hp]
  unfold nearS
  cases decide (g l (nxt l.length h) < g l (prv l.length h)) <;> rfl
end

theorem fair_12 {l : List Int} (f : fair l 1 12 = true) : 1 ≤ l.length ∧ l.length ≤ 12 ∧ ∀ x ∈ l, 0 ≤ x ∧ x ≤ 2147483647 := by
  obtain ⟨h1, h2, h3⟩ := fair_inv f
  exact ⟨by omega, by omega, h3⟩

theorem plan14 {l : List Int} (hl : l.length ≤ 9223372036854775806) (f : fair l 1 12 = true) : ∃ h lo, First l h lo ∧ p14 FUEL l = some (planS l h lo) := by
  obtain ⟨h1, hn, hb⟩ := fair_12 f
  obtain ⟨v, h, e1, e2, e3, e4, e5⟩ := most_index l hn h1
  obtain ⟨w, lo, d1, d2, d3, d4, d5⟩ := least_index l hn h1
  refine ⟨h, lo, ⟨e3, d3, e4, e5, d4, d5⟩, ?_⟩
  have b2 := g_bound hb d3
  simp only [p14, p22_eq l hl, f, Bool.not_true, cond_false, e1, e2, d1, d2, j14_0, if_pos (Int.natCast_nonneg h), if_pos (Int.natCast_nonneg lo), Int.toNat_natCast, g_some e3, g_some d3, near14 hn hb e3 d3]
  rw [wrapI (n := 2 * g l lo) (by omega) (by omega)]
  unfold planS calmS
  have e : decide (((l.length : Nat) : Int) = 1) = decide (l.length = 1) := natDec l.length 1
  rw [e]
  cases decide (l.length = 1) <;> cases decide (g l h < 2) <;> cases decide (g l h ≤ 2 * g l lo) <;> rfl

theorem both_run {R : Type} (l : List Int) (hn : l.length ≤ 12) (z : MV) (K : List Int × Int × Int × Int × MV → Option R) : ∀ (n i h lo : Nat), l.length - i < n → 1 ≤ i → i ≤ l.length → h < i → lo < i → (∀ j, j < i → g l j ≤ g l h) → (∀ j, j < h → g l j < g l h) → (∀ j, j < i → g l lo ≤ g l j) → (∀ j, j < lo → g l lo < g l j) →
    ∃ h' lo', First l h' lo' ∧ l16_1 FUEL K n (l, ((l.length : Nat) : Int), (h : Int), (lo : Int), (i : Int), z) = K (l, ((l.length : Nat) : Int), (h' : Int), (lo' : Int), z) := by
  intro n
  induction n with
  | zero => intro i h lo a; omega
  | succ n ih =>
    intro i h lo a h1 hi hh hlo m1 m2 m3 m4
    by_cases e : i < l.length
    · have hs : l16_1 FUEL K (n + 1) (l, ((l.length : Nat) : Int), (h : Int), (lo : Int), (i : Int), z) = l16_1 FUEL K n (l, ((l.length : Nat) : Int), ((bif decide (g l h < g l i) then i else h : Nat) : Int), ((bif decide (g l i < g l lo) then i else lo : Nat) : Int), ((i + 1 : Nat) : Int), z) := by
        refine (condT (decide_eq_true (show (i : Int) < ((l.length : Nat) : Int) by omega))).trans ?_
        simp only [j16_0, if_pos (Int.natCast_nonneg i), if_pos (Int.natCast_nonneg h), if_pos (Int.natCast_nonneg lo), Int.toNat_natCast, g_some e, g_some (show h < l.length by omega), g_some (show lo < l.length by omega), wrapNext i (by omega)]
        cases decide (g l h < g l i) <;> cases decide (g l i < g l lo) <;> rfl
      rw [hs]
      refine ih (i + 1) _ _ (by omega) (by omega) (by omega) ?_ ?_ ?_ ?_ ?_ ?_
      · cases decide (g l h < g l i)
        · show h < i + 1; omega
        · show i < i + 1; omega
      · cases decide (g l i < g l lo)
        · show lo < i + 1; omega
        · show i < i + 1; omega
      · intro j hj
        by_cases c : g l h < g l i
        · rw [decide_eq_true c]
          by_cases d : j = i
          · subst d; exact Int.le_refl _
          · have := m1 j (by omega); show g l j ≤ g l i; omega
        · rw [decide_eq_false c]
          by_cases d : j = i
          · subst d; show g l j ≤ g l h; omega
          · exact m1 j (by omega)
      · intro j hj
        by_cases c : g l h < g l i
        · rw [decide_eq_true c] at hj ⊢
          have := m1 j hj; show g l j < g l i; omega
        · rw [decide_eq_false c] at hj ⊢
          exact m2 j hj
      · intro j hj
        by_cases c : g l i < g l lo
        · rw [decide_eq_true c]
          by_cases d : j = i
          · subst d; exact Int.le_refl _
          · have := m3 j (by omega); show g l i ≤ g l j; omega
        · rw [decide_eq_false c]
          by_cases d : j = i
          · subst d; show g l lo ≤ g l j; omega
          · exact m3 j (by omega)
      · intro j hj
        by_cases c : g l i < g l lo
        · rw [decide_eq_true c] at hj ⊢
          have := m3 j hj; show g l i < g l j; omega
        · rw [decide_eq_false c] at hj ⊢
          exact m4 j hj
    · obtain rfl : i = l.length := by omega
      exact ⟨h, lo, ⟨hh, hlo, m1, m2, m3, m4⟩, condF (decide_eq_false (Int.lt_irrefl _))⟩

theorem plan16 {l : List Int} (hl : l.length ≤ 9223372036854775806) (f : fair l 1 12 = true) : ∃ h lo, First l h lo ∧ p16 FUEL l = some (planS l h lo) := by
  obtain ⟨h1, hn, hb⟩ := fair_12 f
  simp only [p16, p23_eq l hl, f, Bool.not_true, cond_false]
  obtain ⟨h, lo, F, e⟩ := both_run (R := MV × Bool × Int) l hn (0, 0, 0, 0) _ FUEL 1 0 0 (by have := big; omega) (Nat.le_refl _) h1 (by omega) (by omega) (one_le l) (fun j hj => absurd hj (Nat.not_lt_zero _)) (one_ge l) (fun j hj => absurd hj (Nat.not_lt_zero _))
  refine ⟨h, lo, F, e.trans ?_⟩
  have e3 := F.hl
  have d3 := F.lol
  have b2 := g_bound hb d3
  simp only [j16_2, if_pos (Int.natCast_nonneg h), if_pos (Int.natCast_nonneg lo), Int.toNat_natCast, g_some e3, g_some d3, near16 hn hb e3 d3]
  rw [wrapI (n := 2 * g l lo) (by omega) (by omega)]
  unfold planS calmS
  have e : decide (((l.length : Nat) : Int) = 1) = decide (l.length = 1) := natDec l.length 1
  rw [e]
  cases decide (l.length = 1) <;> cases decide (g l h < 2) <;> cases decide (g l h ≤ 2 * g l lo) <;> rfl

theorem plan_both (l : List Int) (hl : l.length ≤ 9223372036854775806) : ∃ y, p14 FUEL l = some y ∧ p16 FUEL l = some y := by
  cases f : fair l 1 12 with
  | false =>
    exact ⟨((0, 0, 0, 0), false, 171), by simp only [p14, p22_eq l hl, f]; rfl, by simp only [p16, p23_eq l hl, f]; rfl⟩
  | true =>
    obtain ⟨h, lo, F, e⟩ := plan14 hl f
    obtain ⟨h', lo', F', e'⟩ := plan16 hl f
    obtain ⟨rfl, rfl⟩ := F.same F'
    exact ⟨_, e, e'⟩
end Go.Am.Ytbbbdckbcicmbaa
