/- In whatever order they come (QuorumOrder). -/
import Derived.Test.YtiecnmmffplgcaaQuorumE
namespace Go.Am.Ytiecnmmffplgcaa

/-- What is heard in the end. -/
def full (a : List An) (k : Int) : Option An := if 0 ≤ k ∧ k < 4 then (match a[k.toNat]? with | some y => if y.2.1 = 0 then none else some (9, y.2) | none => none) else none

def within (F h : Int → Option An) : Prop := ∀ k, h k = none ∨ h k = F k

theorem out_none {m : List (Int × An)} {bs : List Nat} {clk : Nat} (o : Ok m bs clk) {k : Int} (h : ¬ (0 ≤ k ∧ k < 4)) : hd m k = none := by
  cases e : hd m k with
  | none => rfl
  | some a =>
    have := o.among (k, a) (mfind_mem (K := KT) (V := VT) same e)
    simp only at this
    omega

theorem addE_zero {h : Int → Option An} {r k : Int} {a : An} : addE h r k a = 0 ↔ (0 ≤ k ∧ k < 4 ∧ a.2.1 ≠ 0 ∧ a.1 = r ∧ h k = none) := by
  unfold addE
  split
  · rename_i c; constructor
    · intro e; cases e
    · intro e; rcases c with c | c | c
      · omega
      · omega
      · exact absurd c e.2.2.1
  · rename_i c
    rw [not_or, not_or] at c
    split
    · rename_i d; constructor
      · intro e; cases e
      · intro e; exact absurd e.2.2.2.1 d
    · rename_i d
      split
      · rename_i f; constructor
        · intro e; cases e
        · intro e; rw [e.2.2.2.2] at f; cases f
      · rename_i f
        refine ⟨fun _ => ⟨by omega, by omega, c.2.2, Classical.not_not.1 d, ?_⟩, fun _ => rfl⟩
        cases hk : h k with
        | none => rfl
        | some b => rw [hk] at f; exact absurd rfl f
theorem addH_put {h : Int → Option An} {r k : Int} {a : An} (c : 0 ≤ k ∧ k < 4 ∧ a.2.1 ≠ 0 ∧ a.1 = r ∧ h k = none) : addH h r k a = put h k a := if_pos (addE_zero.2 c)
theorem addH_keep {h : Int → Option An} {r k : Int} {a : An} (c : ¬ (0 ≤ k ∧ k < 4 ∧ a.2.1 ≠ 0 ∧ a.1 = r ∧ h k = none)) : addH h r k a = h := if_neg fun e => c (addE_zero.1 e)

theorem within_add {a : List An} {h : Int → Option An} (w : within (full a) h) {i : Nat} (hi : i < 4) {y : An} (hy : a[i]? = some y) :
    within (full a) (addH h 9 i (9, y.2)) ∧ (∀ k, h k = full a k → addH h 9 i (9, y.2) k = full a k) ∧ addH h 9 i (9, y.2) i = full a i := by
  have hF : full a i = if y.2.1 = 0 then none else some (9, y.2) := by
    unfold full
    rw [if_pos (by omega), Int.toNat_natCast, hy]
  by_cases h0 : y.2.1 = 0
  · rw [if_pos h0] at hF
    rw [addH_keep (a := (9, y.2)) (fun c => c.2.2.1 h0)]
    refine ⟨w, fun k hk => hk, ?_⟩
    rcases w i with e | e
    · rw [e, hF]
    · exact e
  · rw [if_neg h0] at hF
    cases hh : h i with
    | some b =>
      rw [addH_keep (a := (9, y.2)) (fun c => by have := c.2.2.2.2; rw [hh] at this; cases this)]
      refine ⟨w, fun k hk => hk, ?_⟩
      rcases w i with e | e
      · rw [hh] at e; cases e
      · exact e
    | none =>
      rw [addH_put (a := (9, y.2)) ⟨by omega, by omega, h0, rfl, hh⟩]
      have at_ : ∀ k, put h i (9, y.2) k = full a k ∨ (k ≠ i ∧ put h i (9, y.2) k = h k) := fun k => by
        unfold put
        by_cases e : k = i
        · rw [if_pos e, e, hF]; exact .inl rfl
        · rw [if_neg e]; exact .inr ⟨e, rfl⟩
      refine ⟨fun k => ?_, fun k hk => ?_, ?_⟩
      · rcases at_ k with e | ⟨_, e⟩
        · exact .inr e
        · rw [e]; exact w k
      · rcases at_ k with e | ⟨_, e⟩
        · exact e
        · rw [e]; exact hk
      · rcases at_ i with e | ⟨e, _⟩
        · exact e
        · exact absurd rfl e

/-- Heard as far as told. -/
structure Part (a : List An) (m : List (Int × An)) (bs : List Nat) (clk : Nat) : Prop where
  ok : Ok m bs clk
  within : within (full a) (hd m)

theorem part_add {a : List An} (ga : ∀ y ∈ a, goodA y) (ha : a.length = 4) {m : List (Int × An)} {bs : List Nat} {clk : Nat} (p : Part a m bs clk) {i : Nat} (hi : i < 4) :
    ∃ m' bs' clk', (∀ y, a[i]? = some y → ∃ c, p10b FUEL ((i : Int), (9, y.2), 5, 9, m, bs, clk) = some (c, 5, 9, m', bs', clk')) ∧ Part a m' bs' clk' ∧ (∀ k, hd m k = full a k → hd m' k = full a k) ∧ hd m' i = full a i := by
  obtain ⟨y, hy⟩ : ∃ y, a[i]? = some y := ⟨a[i]'(by omega), List.getElem?_eq_getElem (by omega)⟩
  have g : goodA (9, y.2) := ga y (List.mem_of_getElem? hy)
  obtain ⟨m', bs', clk', e1, o', h'⟩ := addb_run p.ok 5 9 i g
  obtain ⟨h1, h2, h3⟩ := within_add p.within hi hy
  rw [← h'] at h1 h2 h3
  refine ⟨m', bs', clk', fun z hz => ?_, ⟨o', h1⟩, h2, h3⟩
  rw [hy] at hz; cases hz
  exact ⟨_, e1⟩

abbrev T4 := Int × Int × List An × List Int × List Int × Int × Int × List (Int × An) × List Nat × Nat × Int × Int × List (Int × An) × List Nat × Nat

theorem one_add {a : List An} (ga : ∀ y ∈ a, goodA y) (ha : a.length = 4) {m : List (Int × An)} {bs : List Nat} {clk : Nat} (p : Part a m bs clk) (x y z w : Int) (l1 l2 : List Int) (m2 : List (Int × An)) (b2 : List Nat) (c2 : Nat) (f : Bool)
    (hf : f = true ↔ 0 ≤ z ∧ z < 4) {R : Type} (K : (Int × Int × Int × List An × List Int × List Int × Int × Int × List (Int × An) × List Nat × Nat × Int × Int × List (Int × An) × List Nat × Nat) → Option R) :
    ∃ m' bs' clk', Part a m' bs' clk' ∧ (∀ k, hd m k = full a k → hd m' k = full a k) ∧ (0 ≤ z ∧ z < 4 → hd m' z = full a z) ∧
      j4_0 FUEL K (x, y, z, w, f, a, l1, l2, 5, 9, m, bs, clk, 5, 9, m2, b2, c2) = K (x, y, w, a, l1, l2, 5, 9, m', bs', clk', 5, 9, m2, b2, c2) := by
  cases f with
  | false => exact ⟨m, bs, clk, p, fun _ h => h, fun h => absurd (hf.2 h) (by decide), rfl⟩
  | true =>
    have hz := hf.1 rfl
    obtain ⟨i, rfl⟩ : ∃ i : Nat, z = i := ⟨z.toNat, by omega⟩
    have hi : i < 4 := by omega
    obtain ⟨m', bs', clk', h1, h2, h3, h4⟩ := part_add ga ha p hi
    refine ⟨m', bs', clk', h2, h3, fun _ => h4, ?_⟩
    obtain ⟨v, hv⟩ : ∃ v, a[i]? = some v := ⟨a[i]'(by omega), List.getElem?_eq_getElem (by omega)⟩
    obtain ⟨c, hc⟩ := h1 v hv
    show (if 0 ≤ (i : Int) ∧ (i : Int) < ((4 : Nat) : Int) then (match a[Int.toNat i]? with | some y80 => (match p10b FUEL ((i : Int), ((9 : Int), y80.2), 5, 9, m, bs, clk) with | some z81 => _ | none => none) | none => none) else none) = _
    rw [if_pos (by omega), Int.toNat_natCast, hv]
    simp only
    rw [hc]

theorem two_add {a : List An} (ga : ∀ y ∈ a, goodA y) (ha : a.length = 4) {m : List (Int × An)} {bs : List Nat} {clk : Nat} (p : Part a m bs clk) (x y z : Int) (l1 l2 : List Int) (m2 : List (Int × An)) (b2 : List Nat) (c2 : Nat) (f : Bool)
    (hf : f = true ↔ 0 ≤ z ∧ z < 4) {R : Type} (K : T4 → Option R) :
    ∃ m' bs' clk', Part a m' bs' clk' ∧ (∀ k, hd m k = full a k → hd m' k = full a k) ∧ (0 ≤ z ∧ z < 4 → hd m' z = full a z) ∧
      j4_1 FUEL K (x, y, z, f, a, l1, l2, 5, 9, m2, b2, c2, 5, 9, m, bs, clk) = K (x, y, a, l1, l2, 5, 9, m2, b2, c2, 5, 9, m', bs', clk') := by
  cases f with
  | false => exact ⟨m, bs, clk, p, fun _ h => h, fun h => absurd (hf.2 h) (by decide), rfl⟩
  | true =>
    have hz := hf.1 rfl
    obtain ⟨i, rfl⟩ : ∃ i : Nat, z = i := ⟨z.toNat, by omega⟩
    have hi : i < 4 := by omega
    obtain ⟨m', bs', clk', h1, h2, h3, h4⟩ := part_add ga ha p hi
    refine ⟨m', bs', clk', h2, h3, fun _ => h4, ?_⟩
    obtain ⟨v, hv⟩ : ∃ v, a[i]? = some v := ⟨a[i]'(by omega), List.getElem?_eq_getElem (by omega)⟩
    obtain ⟨c, hc⟩ := h1 v hv
    show (if 0 ≤ (i : Int) ∧ (i : Int) < ((4 : Nat) : Int) then (match a[Int.toNat i]? with | some y80 => (match p10b FUEL ((i : Int), ((9 : Int), y80.2), 5, 9, m, bs, clk) with | some z81 => _ | none => none) | none => none) else none) = _
    rw [if_pos (by omega), Int.toNat_natCast, hv]
    simp only
    rw [hc]

/-- A step of both. -/
theorem both_add {a : List An} (ga : ∀ y ∈ a, goodA y) (ha : a.length = 4) {m1 m2 : List (Int × An)} {b1 b2 : List Nat} {c1 c2 : Nat} (p1 : Part a m1 b1 c1) (p2 : Part a m2 b2 c2) (x y z w : Int) (l1 l2 : List Int) {R : Type} (K : T4 → Option R) :
    ∃ m1' b1' c1' m2' b2' c2', Part a m1' b1' c1' ∧ Part a m2' b2' c2' ∧ (∀ k, hd m1 k = full a k → hd m1' k = full a k) ∧ (∀ k, hd m2 k = full a k → hd m2' k = full a k) ∧ (0 ≤ z ∧ z < 4 → hd m1' z = full a z) ∧ (0 ≤ w ∧ w < 4 → hd m2' w = full a w) ∧
      j4_3 FUEL K (x, y, z, w, a, l1, l2, 5, 9, m1, b1, c1, 5, 9, m2, b2, c2) = K (x, y, a, l1, l2, 5, 9, m1', b1', c1', 5, 9, m2', b2', c2') := by
  have h2 : ∀ m1' b1' c1', ∃ m' bs' clk', Part a m' bs' clk' ∧ (∀ k, hd m2 k = full a k → hd m' k = full a k) ∧ (0 ≤ w ∧ w < 4 → hd m' w = full a w) ∧
      j4_2 FUEL K (x, y, w, a, l1, l2, 5, 9, m1', b1', c1', 5, 9, m2, b2, c2) = K (x, y, a, l1, l2, 5, 9, m1', b1', c1', 5, 9, m', bs', clk') := by
    intro m1' b1' c1'
    by_cases h0 : 0 ≤ w
    · obtain ⟨m', bs', clk', q1, q2, q3, q4⟩ := two_add ga ha p2 x y w l1 l2 m1' b1' c1' (decide (w < 4)) (by rw [decide_eq_true_iff]; omega) K
      exact ⟨m', bs', clk', q1, q2, q3, (condT (decide_eq_true h0)).trans q4⟩
    · obtain ⟨m', bs', clk', q1, q2, q3, q4⟩ := two_add ga ha p2 x y w l1 l2 m1' b1' c1' false (by constructor <;> intro h <;> first | cases h; done | omega) K
      exact ⟨m', bs', clk', q1, q2, q3, (condF (decide_eq_false h0)).trans q4⟩
  by_cases h0 : 0 ≤ z
  · obtain ⟨m', bs', clk', q1, q2, q3, q4⟩ := one_add ga ha p1 x y z w l1 l2 m2 b2 c2 (decide (z < 4)) (by rw [decide_eq_true_iff]; omega) (fun (x82, x83, x84, x85, x86, x87, x88, x89, x90, x91, x92, x93, x94, x95, x96, x97) => (j4_2 FUEL (fun (x179, x180, x181, x182, x183, x184, x185, x186, x187, x188, x189, x190, x191, x192, x193) => (K (x179, x180, x181, x182, x183, x184, x185, x186, x187, x188, x189, x190, x191, x192, x193))) (x82, x83, x84, x85, x86, x87, x88, x89, x90, x91, x92, x93, x94, x95, x96, x97)))
    obtain ⟨m2', b2', c2', r1, r2, r3, r4⟩ := h2 m' bs' clk'
    exact ⟨m', bs', clk', m2', b2', c2', q1, r1, q2, r2, q3, r3, (condT (decide_eq_true h0)).trans (q4.trans r4)⟩
  · obtain ⟨m', bs', clk', q1, q2, q3, q4⟩ := one_add ga ha p1 x y z w l1 l2 m2 b2 c2 false (by constructor <;> intro h <;> first | cases h; done | omega) (fun (x98, x99, x100, x101, x102, x103, x104, x105, x106, x107, x108, x109, x110, x111, x112, x113) => (j4_2 FUEL (fun (x194, x195, x196, x197, x198, x199, x200, x201, x202, x203, x204, x205, x206, x207, x208) => (K (x194, x195, x196, x197, x198, x199, x200, x201, x202, x203, x204, x205, x206, x207, x208))) (x98, x99, x100, x101, x102, x103, x104, x105, x106, x107, x108, x109, x110, x111, x112, x113)))
    obtain ⟨m2', b2', c2', r1, r2, r3, r4⟩ := h2 m' bs' clk'
    exact ⟨m', bs', clk', m2', b2', c2', q1, r1, q2, r2, q3, r3, (condF (decide_eq_false h0)).trans (q4.trans r4)⟩
end Go.Am.Ytiecnmmffplgcaa
