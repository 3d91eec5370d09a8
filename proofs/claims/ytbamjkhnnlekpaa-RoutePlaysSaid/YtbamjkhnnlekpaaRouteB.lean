/- Plain laws of the printed functions of routing: positions, tables, steps. -/
import Derived.Test.YtbamjkhnnlekpaaWalk2
import Derived.Test.YtbamjkhnnlekpaaAmZI
namespace Go.Am.Ytbamjkhnnlekpaa
abbrev Peer := Int × (Int × Int)
theorem condT {α : Type} {b : Bool} {x y : α} (h : b = true) : (bif b then x else y) = x := by rw [h]; rfl
theorem condF {α : Type} {b : Bool} {x y : α} (h : b = false) : (bif b then x else y) = y := by rw [h]; rfl

def lt (x y : Int × Int) : Bool := decide (x.1 < y.1 ∨ x.1 = y.1 ∧ x.2 < y.2)
def eq (x y : Int × Int) : Bool := decide (x.1 = y.1 ∧ x.2 = y.2)
theorem eqB_eq (x y : Int × Int) : Ty.eqB (.pair (.int .u64) (.int .u64)) x y = eq x y := by
  rw [eqB_pair2, eq]
  obtain ⟨a, b⟩ := x
  obtain ⟨c, d⟩ := y
  simp
theorem p41_eq (x y : Int × Int) : p41 FUEL (x, y) = some (lt x y) := by
  simp only [p41, lt]
  by_cases h : x.1 < y.1
  · rw [decide_eq_true h, decide_eq_true (Or.inl h : x.1 < y.1 ∨ x.1 = y.1 ∧ x.2 < y.2)]; rfl
  · by_cases g : x.1 = y.1
    · rw [decide_eq_false h, decide_eq_true g]
      simp only [cond_false, cond_true, g, true_and, false_or, Int.lt_irrefl]
    · rw [decide_eq_false h, decide_eq_false g, decide_eq_false (show ¬ (x.1 < y.1 ∨ x.1 = y.1 ∧ x.2 < y.2) by omega)]; rfl
theorem p22_eq (x y : Int × Int) : p22 FUEL (x, y) = some (lt x y) := by
  simp only [p22, lt]
  by_cases g : x.1 = y.1
  · rw [decide_eq_true g]
    simp only [Bool.not_true, cond_false, g, true_and, false_or, Int.lt_irrefl]
  · rw [decide_eq_false g]
    simp only [Bool.not_false, cond_true, g, false_and, or_false]
theorem lt_t {x y : Int × Int} (h : lt x y = true) : x.1 < y.1 ∨ x.1 = y.1 ∧ x.2 < y.2 := by simpa [lt] using h
theorem lt_f {x y : Int × Int} (h : lt x y = false) : ¬ (x.1 < y.1 ∨ x.1 = y.1 ∧ x.2 < y.2) := by simpa only [lt, decide_eq_false_iff_not] using h
theorem eq_t {x y : Int × Int} (h : eq x y = true) : x.1 = y.1 ∧ x.2 = y.2 := by simpa [eq] using h
theorem eq_f {x y : Int × Int} (h : eq x y = false) : ¬ (x.1 = y.1 ∧ x.2 = y.2) := by simpa only [eq, decide_eq_false_iff_not] using h
/-- Three positions stand one behind the other in one way. -/
inductive Way (x y : Int × Int) : Prop
  | less (h : lt x y = true) (h2 : lt y x = false) (h3 : eq x y = false) (h4 : eq y x = false)
  | same (h : lt x y = false) (h2 : lt y x = false) (h3 : eq x y = true) (h4 : eq y x = true)
  | more (h : lt x y = false) (h2 : lt y x = true) (h3 : eq x y = false) (h4 : eq y x = false)
theorem way (x y : Int × Int) : Way x y := by
  by_cases h : x.1 < y.1 ∨ x.1 = y.1 ∧ x.2 < y.2
  · exact .less (decide_eq_true h) (decide_eq_false (by omega)) (decide_eq_false (by omega)) (decide_eq_false (by omega))
  · by_cases g : x.1 = y.1 ∧ x.2 = y.2
    · exact .same (decide_eq_false h) (decide_eq_false (by omega)) (decide_eq_true g) (decide_eq_true (by omega))
    · exact .more (decide_eq_false h) (decide_eq_true (by omega)) (decide_eq_false g) (decide_eq_false (by omega))
def bt (a x b : Int × Int) : Bool := bif lt a b then lt a x && lt x b else !eq x a && (!eq x b && (lt a x || lt x b))
theorem p33_eq (a x b : Int × Int) : p33 FUEL (a, x, b) = some (bt a x b) := by
  simp only [p33, p41_eq, eqB_eq, bt]
  cases lt a b <;> cases lt a x <;> cases lt x b <;> cases eq x a <;> cases eq x b <;> rfl
theorem p37_eq (a x b : Int × Int) : p37 FUEL (a, x, b) = some (bt a x b) := by
  simp only [p37, p22_eq, eqB_eq, bt]
  rcases way a x with ⟨a1, a2, a3, a4⟩ | ⟨a1, a2, a3, a4⟩ | ⟨a1, a2, a3, a4⟩ <;> rcases way x b with ⟨b1, b2, b3, b4⟩ | ⟨b1, b2, b3, b4⟩ | ⟨b1, b2, b3, b4⟩ <;> rcases way a b with ⟨c1, c2, c3, c4⟩ | ⟨c1, c2, c3, c4⟩ | ⟨c1, c2, c3, c4⟩ <;>
    simp only [a1, a2, a3, a4, b1, b2, b3, b4, c1, c2, c3, c4] <;> first
    | rfl
    | (exfalso
       have a1 := a1; have b1 := b1; have c1 := c1
       first | replace a1 := lt_t a1 | replace a1 := lt_f a1
       first | replace b1 := lt_t b1 | replace b1 := lt_f b1
       first | replace c1 := lt_t c1 | replace c1 := lt_f c1
       first | replace a3 := eq_t a3 | replace a3 := eq_f a3
       first | replace b3 := eq_t b3 | replace b3 := eq_f b3
       first | replace c3 := eq_t c3 | replace c3 := eq_f c3
       omega)

def okN (n : Int) : Bool := decide (0 ≤ n ∧ n ≤ 255)
theorem p24_eq (n : Int) : p24 FUEL n = some (okN n) := by
  simp only [p24, okN]
  by_cases h : 0 ≤ n
  · simp [h]
  · simp [h]
theorem p26_eq (n : Int) : p26 FUEL n = some (okN n) := by
  simp only [p26, okN]
  by_cases h : 0 ≤ n
  · simp [h]
  · simp [h]

abbrev Tab := Peer × (Peer × (Peer × List Peer))
def own (t : Tab) (x : Int × Int) : Bool := decide (t.2.2.1.1 = t.1.1) || (eq x t.1.2 || bt t.2.1.2 x t.1.2)
theorem p23_eq (x : Int × Int) (t : Tab) : p23 FUEL (x, t) = some (own t x, t) := by
  simp only [p23, p25b, p33_eq, eqB_eq, own]
  cases decide (t.2.2.1.1 = t.1.1) <;> cases eq x t.1.2 <;> rfl
theorem p31_eq (x : Int × Int) (s p q : Peer) (f : List Peer) : p31 FUEL (x, s, p, q, f) = some (own (s, (p, (q, f))) x, s, p, q, f) := by
  simp only [p31, p37_eq, eqB_eq, own]
  cases decide (q.1 = s.1) <;> cases eq x s.2 <;> rfl

/-- Who is asked next. -/
def ahead (t : Tab) (x : Int × Int) (f : Peer) : Bool := bt t.1.2 f.2 x
def next (t : Tab) (x : Int × Int) : Peer × Bool × Int :=
  bif own t x then (t.1, true, 0) else bif eq x t.2.2.1.2 || bt t.1.2 x t.2.2.1.2 then (t.2.2.1, true, 0) else
    match (backL t.2.2.2).find? (fun z => ahead t x z.2) with
    | some z => (z.2, false, 0)
    | none => ((0, (0, 0)), false, 131)

theorem l19_1_eq {R : Type} (k0 : (Tab × (Int × Int) × Peer × Bool × Int × Peer) → Option R) (k1 : (Tab × (Int × Int) × Peer × Bool × Int) → Option R) (t : Tab) (x : Int × Int) (a : Peer) (b : Bool) (c : Int) : ∀ l : List (Int × Peer), l19_1 FUEL k0 k1 l (t, x, a, b, c) = match l.find? (fun z => ahead t x z.2) with
    | some z => k0 (t, x, z.2, false, 0, z.2)
    | none => k1 (t, x, a, b, c) := by
  intro l
  induction l with
  | nil => rfl
  | cons z l ih =>
    show s19_1 FUEL (l19_1 FUEL k0 k1 l) k0 k1 z (t, x, a, b, c) = _
    simp only [s19_1, p33_eq, List.find?_cons, ahead]
    cases bt t.1.2 z.2.2 x with
    | true => rfl
    | false => exact ih
theorem p19_eq (x : Int × Int) (t : Tab) (hl : t.2.2.2.length ≤ 4) : p19 FUEL (x, t) = some ((next t x).1, (next t x).2.1, (next t x).2.2, t) := by
  simp only [p19, p23_eq, eqB_eq, next]
  cases own t x with
  | true => rfl
  | false =>
    simp only [cond_false, p33_eq]
    have key : ∀ b : Bool, j19_0 FUEL (fun (x11, x12, x13, x14) => (some (x12, x13, x14, x11))) (fun (x15, x16, x17, x18, x19) => (j19_2 FUEL (fun (x59, x60, x61, x62, x63, x64) => (some (x61, x62, x63, x59))) (fun (x65, x66, x67, x68) => (some (x66, x67, x68, x65))) (x15, x16, x17, x18, x19))) (b, t, x, (0, (0, 0)), false, 0) =
        some ((bif b then (t.2.2.1, true, 0) else match (backL t.2.2.2).find? (fun z => ahead t x z.2) with | some z => (z.2, false, 0) | none => (((0, (0, 0)), false, 131) : Peer × Bool × Int)).1, (bif b then (t.2.2.1, true, 0) else match (backL t.2.2.2).find? (fun z => ahead t x z.2) with | some z => (z.2, false, 0) | none => (((0, (0, 0)), false, 131) : Peer × Bool × Int)).2.1,
          (bif b then (t.2.2.1, true, 0) else match (backL t.2.2.2).find? (fun z => ahead t x z.2) with | some z => (z.2, false, 0) | none => (((0, (0, 0)), false, 131) : Peer × Bool × Int)).2.2, t) := by
      intro b
      cases b with
      | true => rfl
      | false =>
        simp only [j19_0, cond_false, j19_2, p34, j19_1]
        rw [if_pos (by omega), l19_1_eq]
        cases (backL t.2.2.2).find? (fun z => ahead t x z.2) <;> rfl
    cases eq x t.2.2.1.2 with
    | true => exact key true
    | false => simp only [cond_false, Bool.false_or]; exact key _
end Go.Am.Ytbamjkhnnlekpaa
