/- Plain laws of the printed functions of the audit: what must be ahead of what; the order. -/
import Derived.Test.YtmilfdplgemnfaaAuditB
namespace Go.Am.Ytmilfdplgemnfaa
def pair (x y : Item) : Bool := x.2.2.1 && decide (x.2.1 < y.2.1) || y.2.2.1 && decide (x.2.1 ≤ y.2.1)
def hit (b : Done) (x : Item) : Bool := match b.2.2.2.find? (fun y => decide (y.1 = x.1)) with
  | some y => pair x y
  | none => false
def ahP (a b : Done) : Bool := (!decide (a.2.2.1 = 0) && decide (a.2.2.1 < b.2.1)) || a.2.2.2.any (hit b)
theorem forL_any {R α : Type} (p : α → Bool) (no yes : Option R) : ∀ l : List α, forL (fun (_ : Unit) x => bif p x then .inl yes else .inr ()) (fun _ => no) l () = bif l.any p then yes else no
  | [] => rfl
  | x :: l => by
    unfold forL
    cases hp : p x
    · simp only [cond_false, List.any_cons, hp, Bool.false_or]
      exact forL_any p no yes l
    · simp [hp]
theorem l18_0_run (l : List Item) (hl : l.length < 9223372036854775807) (x : Item) : ∀ n i, l.length - i < n → i ≤ l.length → ∃ v : Int, l18_0 FUEL (fun (y : Int × Item) => some (y.1, y.2)) (fun y => some ((-1 : Int), y)) n (l, (l.length : Int), (i : Int), x) = some (v, x) ∧
    ((v = -1 ∧ (l.drop i).find? (fun y => decide (y.1 = x.1)) = none) ∨ ∃ (j : Nat) (y : Item), v = (j : Int) ∧ l[j]? = some y ∧ (l.drop i).find? (fun y => decide (y.1 = x.1)) = some y) := by
  intro n
  induction n with
  | zero => intro i h; omega
  | succ n ih =>
    intro i h hi
    show ∃ v : Int, s18_0 FUEL (l18_0 FUEL _ _ n) _ _ _ = some (v, x) ∧ _
    simp only [s18_0]
    by_cases e : i < l.length
    · rw [decide_eq_true (show (i : Int) < ((l.length : Nat) : Int) by omega), cond_true, if_pos (show (0 : Int) ≤ (i : Int) by omega)]
      simp only [Int.toNat_natCast, List.getElem?_eq_getElem e, p19]
      rw [List.drop_eq_getElem_cons e, List.find?_cons]
      by_cases c : l[i].1 = x.1
      · rw [decide_eq_true c]
        exact ⟨(i : Int), rfl, .inr ⟨i, l[i], rfl, List.getElem?_eq_getElem e, rfl⟩⟩
      · rw [decide_eq_false c, wrapNext i (by omega), cond_false]
        exact ih (i + 1) (by omega) (by omega)
    · rw [decide_eq_false (show ¬ (i : Int) < ((l.length : Nat) : Int) by omega), cond_false, List.drop_eq_nil_of_le (by omega)]
      exact ⟨-1, rfl, .inl ⟨rfl, rfl⟩⟩
theorem p18_eq (l : List Item) (hl : l.length < 9223372036854775807) (x : Item) : ∃ v : Int, p18 FUEL (l, x) = some (v, x) ∧ ((v = -1 ∧ l.find? (fun y => decide (y.1 = x.1)) = none) ∨ ∃ (j : Nat) (y : Item), v = (j : Int) ∧ l[j]? = some y ∧ l.find? (fun y => decide (y.1 = x.1)) = some y) := by
  have hb := big
  exact l18_0_run l hl x FUEL 0 (by omega) (by omega)
theorem l15_0_run {R : Type} (k0 : Bool → Option R) (k1 : Unit → Option R) (b : Done) (hlb : b.2.2.2.length < 9223372036854775807) (l : List Item) (hl : l.length < 9223372036854775807) :
    l15_0 FUEL k0 k1 FUEL (b, l, (l.length : Int), 0) = bif l.any (hit b) then k0 true else k1 () := by
  have hb := big
  refine (list_loop (L := l15_0 FUEL k0 k1) (step := fun F => s15_0 FUEL F k0 k1) (fun _ _ => rfl) l (fun (i : Nat) (_ : Unit) => (b, l, (l.length : Int), (i : Int))) (fun _ => True)
    (fun _ x => bif hit b x then .inl (k0 true) else .inr ()) (fun _ => k1 ()) (fun F i _ hi _ => ?_) (fun F _ _ => ?_) (fun _ _ _ _ _ _ => trivial) () trivial FUEL (by omega)).trans (forL_any _ _ _ l)
  · simp only [s15_0]
    rw [decide_eq_true (show (i : Int) < ((l.length : Nat) : Int) by omega), cond_true, if_pos (show (0 : Int) ≤ (i : Int) by omega)]
    simp only [Int.toNat_natCast, List.getElem?_eq_getElem hi]
    rw [wrapNext i (by omega)]
    generalize l[i] = x
    obtain ⟨v, e1, e2⟩ := p18_eq b.2.2.2 hlb x
    simp only [e1, hit]
    rcases e2 with ⟨rfl, e2⟩ | ⟨j, y, rfl, e2, e3⟩
    · rw [e2]; rfl
    · rw [e3, decide_eq_false (show ¬ (j : Int) < 0 by omega), cond_false, if_pos (show (0 : Int) ≤ (j : Int) by omega)]
      simp only [Int.toNat_natCast, e2, pair]
      cases x.2.2.1 <;> cases y.2.2.1 <;> cases decide (x.2.1 < y.2.1) <;> cases decide (x.2.1 ≤ y.2.1) <;> rfl
  · simp only [s15_0]
    rw [decide_eq_false (show ¬ ((l.length : Nat) : Int) < ((l.length : Nat) : Int) by omega), cond_false]
theorem p15_eq (a b : Done) (ha : a.2.2.2.length < 9223372036854775807) (hb : b.2.2.2.length < 9223372036854775807) : p15 FUEL (a, b) = some (ahP a b) := by
  simp only [p15, j15_1, l15_0_run _ _ b hb a.2.2.2 ha, ahP]
  cases decide (a.2.2.1 = 0) <;> cases decide (a.2.2.1 < b.2.1) <;> cases a.2.2.2.any (hit b) <;> rfl
-- rows as functions
def tab (n : Nat) (f : Nat → Int) : List Int := (List.range n).map f
theorem tab_len (n : Nat) (f : Nat → Int) : (tab n f).length = n := by simp [tab]
theorem tab_get {n : Nat} (f : Nat → Int) {i : Nat} (h : i < n) : (tab n f)[i]? = some (f i) := by simp [tab, h]
theorem tab_set {n : Nat} (f : Nat → Int) {i : Nat} (_ : i < n) (v : Int) : (tab n f).set i v = tab n (fun j => if j = i then v else f j) := by
  apply List.ext_getElem?
  intro j
  rw [List.getElem?_set]
  by_cases hj : j < n
  · rw [tab_get _ hj, tab_get _ hj, tab_len]
    by_cases e : i = j
    · subst e; simp [hj]
    · rw [if_neg e, if_neg (fun g => e g.symm)]
  · have e1 : (tab n f)[j]? = none := List.getElem?_eq_none (by rw [tab_len]; omega)
    have e2 : (tab n (fun j => if j = i then v else f j))[j]? = none := List.getElem?_eq_none (by rw [tab_len]; omega)
    rw [e1, e2, if_neg (by omega)]
theorem tab_ext {n : Nat} {f g : Nat → Int} (h : ∀ j, j < n → f j = g j) : tab n f = tab n g := by
  unfold tab
  exact List.map_congr_left fun j hj => h j (List.mem_range.1 hj)
section
variable (h : List Done)
def A (k i : Nat) : Bool := ahP (h.getD k (0, 0, 0, [])) (h.getD i (0, 0, 0, []))
/-- How many of the first so many must be ahead of one, of those that are not placed. -/
def ind (S : List Nat) (i k : Nat) : Nat := (List.range k).countP fun q => !decide (q = i) && (!S.contains q && A h q i)
theorem ind_succ (S : List Nat) (i k : Nat) : ind h S i (k + 1) = ind h S i k + (if (!decide (k = i) && (!S.contains k && A h k i)) = true then 1 else 0) := by
  unfold ind
  rw [List.range_succ, List.countP_append]
  simp [List.countP_cons]
theorem ind_le (S : List Nat) (i k : Nat) : ind h S i k ≤ k := by
  have := List.countP_le_length (p := fun q => !decide (q = i) && (!S.contains q && A h q i)) (l := List.range k)
  simpa [ind] using this
variable (hi : ∀ d ∈ h, d.2.2.2.length ≤ 3000000000000)
include hi
theorem A_eq {k i : Nat} (hk : k < h.length) (h2 : i < h.length) : p15 FUEL (h[k], h[i]) = some (A h k i) := by
  rw [p15_eq _ _ (by have := hi _ (List.getElem_mem hk); omega) (by have := hi _ (List.getElem_mem h2); omega), A, List.getD_eq_getElem?_getD, List.getD_eq_getElem?_getD, List.getElem?_eq_getElem hk, List.getElem?_eq_getElem h2]
  rfl
variable (hh : h.length ≤ 60)
include hh
theorem l9_1_run {R : Type} (k0 : ((List Done) × Int × Int × (List Int)) → Option R) (a b : Int) (f : Nat → Int) {i : Nat} (h2 : i < h.length) : ∀ n k, h.length - k < n → k ≤ h.length →
    l9_1 FUEL k0 n (h, (i : Int), a, b, (h.length : Int), (k : Int), tab h.length fun j => if j = i then (ind h [] i k : Int) else f j) = k0 (h, a, b, tab h.length fun j => if j = i then (ind h [] i h.length : Int) else f j) := by
  intro n
  induction n with
  | zero => intro k h; omega
  | succ n ih =>
    intro k hn hk
    show s9_1 FUEL (l9_1 FUEL _ n) _ _ = _
    simp only [s9_1]
    by_cases e : k < h.length
    · have ih := ih (k + 1) (by omega) (by omega)
      rw [decide_eq_true (show (k : Int) < ((h.length : Nat) : Int) by omega), cond_true]
      rw [ind_succ] at ih
      have hle := ind_le h [] i k
      by_cases c : k = i
      · subst c
        rw [decide_eq_true rfl, Bool.not_true, cond_false]
        simp only [j9_0, cond_false]
        rw [wrapNext k (by omega)]
        simpa using ih
      · rw [decide_eq_false (show ¬ (i : Int) = (k : Int) by omega), Bool.not_false, cond_true, if_pos (show (0 : Int) ≤ (k : Int) by omega)]
        simp only [Int.toNat_natCast, List.getElem?_eq_getElem e, List.getElem?_eq_getElem h2, if_pos (show (0 : Int) ≤ (i : Int) by omega), A_eq h hi e h2]
        cases hA : A h k i
        · simp only [j9_0, cond_false]
          rw [wrapNext k (by omega)]
          simpa [hA] using ih
        · simp only [j9_0, cond_true, tab_len, Int.toNat_natCast, tab_get _ h2, tab_set _ h2]
          rw [if_pos (by omega), if_pos (by omega), wrapNext k (by omega), if_pos trivial, wrapI (by omega) (by omega)]
          rw [decide_eq_false c, hA] at ih
          refine Eq.trans ?_ ih
          congr 8
          funext j
          by_cases cj : j = i
          · rw [if_pos cj, if_pos cj]; simp
          · rw [if_neg cj, if_neg cj, if_neg cj]
    · rw [decide_eq_false (show ¬ (k : Int) < ((h.length : Nat) : Int) by omega), cond_false, show k = h.length by omega]
theorem l9_2_run {R : Type} (k0 : ((List Done) × (List Int)) → Option R) : ∀ n i, h.length - i < n → i ≤ h.length →
    l9_2 FUEL k0 n (h, (h.length : Int), (i : Int), tab h.length fun j => if j < i then (ind h [] j h.length : Int) else 0) = k0 (h, tab h.length fun j => (ind h [] j h.length : Int)) := by
  have hb := big
  intro n
  induction n with
  | zero => intro i h; omega
  | succ n ih =>
    intro i hn hi'
    show s9_2 FUEL (l9_2 FUEL _ n) _ _ = _
    simp only [s9_2]
    by_cases e : i < h.length
    · rw [decide_eq_true (show (i : Int) < ((h.length : Nat) : Int) by omega), cond_true]
      have run := fun k0 => l9_1_run h hi hh (R := R) k0 (h.length : Int) (i : Int) (fun j => if j < i then (ind h [] j h.length : Int) else 0) e FUEL 0 (by omega) (by omega)
      have e0 : (tab h.length fun j => if j = i then (ind h [] i 0 : Int) else if j < i then (ind h [] j h.length : Int) else 0) = tab h.length fun j => if j < i then (ind h [] j h.length : Int) else 0 := by
        apply tab_ext
        intro j _
        by_cases c : j = i
        · subst c; simp [ind]
        · rw [if_neg c]
      simp only [e0, show ((0 : Nat) : Int) = 0 from rfl] at run
      rw [run, wrapNext i (by omega)]
      refine Eq.trans ?_ (ih (i + 1) (by omega) (by omega))
      refine congrArg (fun W => l9_2 FUEL k0 n (h, (h.length : Int), ((i + 1 : Nat) : Int), W)) (tab_ext fun j _ => ?_)
      by_cases c : j = i
      · subst c; simp
      · rw [if_neg c]
        by_cases d : j < i
        · rw [if_pos d, if_pos (by omega)]
        · rw [if_neg d, if_neg (by omega)]
    · rw [decide_eq_false (show ¬ (i : Int) < ((h.length : Nat) : Int) by omega), cond_false, show i = h.length by omega]
      refine congrArg (fun W => k0 (h, W)) (tab_ext fun j hj => ?_)
      rw [if_pos hj]
/-- What waits say: so many ahead, or -1 for one that is placed. -/
def wl (S : List Nat) (j : Nat) : Int := if S.contains j = true then -1 else (ind h S j h.length : Int)
def dec (z : Nat) (f : Nat → Int) (j : Nat) : Int := if 0 < f j ∧ A h z j = true then f j - 1 else f j
end
section
variable (h : List Done) (hi : ∀ d ∈ h, d.2.2.2.length ≤ 3000000000000) (hh : h.length ≤ 60)
include hi hh
theorem l9_4_run {R : Type} (k0 : ((List Done) × Int × Int × (List Int) × (List Int)) → Option R) (a b : Int) (f : Nat → Int) (hf : ∀ j, -1 ≤ f j ∧ f j ≤ 60) {z : Nat} (hz : z < h.length) (out : List Int) : ∀ n i, h.length - i < n → i ≤ h.length →
    l9_4 FUEL k0 n (h, (z : Int), a, b, (h.length : Int), (i : Int), (tab h.length fun j => if j < i then dec h z f j else f j), out) = k0 (h, a, b, tab h.length (dec h z f), out) := by
  intro n
  induction n with
  | zero => intro i h; omega
  | succ n ih =>
    intro i hn hi'
    show s9_4 FUEL (l9_4 FUEL _ n) _ _ = _
    simp only [s9_4]
    by_cases e : i < h.length
    · have hfi := hf i
      have ih := ih (i + 1) (by omega) (by omega)
      rw [decide_eq_true (show (i : Int) < ((h.length : Nat) : Int) by omega), cond_true, tab_len, if_pos (by omega)]
      simp only [Int.toNat_natCast, tab_get _ e, if_neg (Nat.lt_irrefl i)]
      have same : dec h z f i = f i → (tab h.length fun j => if j < i then dec h z f j else f j) = tab h.length fun j => if j < i + 1 then dec h z f j else f j := fun hs => by
        apply tab_ext
        intro j _
        by_cases c : j = i
        · subst c; rw [if_neg (Nat.lt_irrefl j), if_pos (by omega), hs]
        · by_cases d : j < i
          · rw [if_pos d, if_pos (by omega)]
          · rw [if_neg d, if_neg (by omega)]
      by_cases c : 0 < f i
      · rw [decide_eq_true c, cond_true, if_pos (show (0 : Int) ≤ (z : Int) by omega)]
        simp only [Int.toNat_natCast, List.getElem?_eq_getElem e, List.getElem?_eq_getElem hz, if_pos (show (0 : Int) ≤ (i : Int) by omega), A_eq h hi hz e]
        cases hA : A h z i
        · simp only [j9_3, cond_false]
          rw [wrapNext i (by omega), same (if_neg (by rw [hA]; simp))]
          exact ih
        · simp only [j9_3, cond_true, tab_len, Int.toNat_natCast, tab_get _ e, tab_set _ e, if_neg (Nat.lt_irrefl i)]
          rw [if_pos (by omega), if_pos (by omega), wrapNext i (by omega), wrapI (by omega) (by omega)]
          refine Eq.trans ?_ ih
          refine congrArg (fun W => l9_4 FUEL k0 n (h, (z : Int), a, b, (h.length : Int), ((i + 1 : Nat) : Int), W, out)) (tab_ext fun j _ => ?_)
          by_cases cj : j = i
          · subst cj; rw [if_pos rfl, if_pos (by omega), dec, if_pos ⟨c, hA⟩]
          · rw [if_neg cj]
            by_cases d : j < i
            · rw [if_pos d, if_pos (by omega)]
            · rw [if_neg d, if_neg (by omega)]
      · rw [decide_eq_false c, cond_false]
        simp only [j9_3, cond_false]
        rw [wrapNext i (by omega), same (if_neg (fun g => c g.1))]
        exact ih
    · rw [decide_eq_false (show ¬ (i : Int) < ((h.length : Nat) : Int) by omega), cond_false]
      refine congrArg (fun W => k0 (h, a, b, W, out)) (tab_ext fun j hj => ?_)
      rw [if_pos (by omega)]
end
/-- One more placed. -/
theorem ind_place (h : List Done) (S : List Nat) {z i : Nat} (hz : S.contains z = false) (zi : z ≠ i) : ∀ k, ind h S i k = ind h (S ++ [z]) i k + (if z < k ∧ A h z i = true then 1 else 0)
  | 0 => by simp [ind]
  | k + 1 => by
    rw [ind_succ, ind_succ, ind_place h S hz zi k]
    by_cases c : k = z
    · subst c
      have e1 : (S ++ [k]).contains k = true := by simp
      rw [e1, hz, decide_eq_false zi]
      cases d : A h k i <;> simp
    · have e1 : (S ++ [z]).contains k = S.contains k := by
        rw [List.contains_eq_mem, List.contains_eq_mem]
        simp [c]
      rw [e1]
      have : (z < k ∧ A h z i = true) ↔ (z < k + 1 ∧ A h z i = true) := by
        constructor
        · rintro ⟨a, b⟩; exact ⟨by omega, b⟩
        · rintro ⟨a, b⟩; exact ⟨by omega, b⟩
      by_cases d : z < k ∧ A h z i = true
      · rw [if_pos d, if_pos (this.1 d)]; omega
      · rw [if_neg d, if_neg (fun g => d (this.2 g))]; omega
theorem dec_wl (h : List Done) (S : List Nat) {z : Nat} (hz : z < h.length) (h0 : wl h S z = 0) (j : Nat) : dec h z (fun q => if q = z then -1 else wl h S q) j = wl h (S ++ [z]) j := by
  have hS : S.contains z = false := by
    unfold wl at h0
    split at h0
    · omega
    · rename_i c; simpa using c
  unfold dec wl
  by_cases c : j = z
  · subst c
    simp only [if_true]
    have e1 : (S ++ [j]).contains j = true := by simp
    rw [if_pos e1, if_neg (by omega)]
  · simp only [c, if_false]
    have e1 : (S ++ [z]).contains j = S.contains j := by
      rw [List.contains_eq_mem, List.contains_eq_mem]
      simp [c]
    rw [e1]
    cases hj : S.contains j
    · have e2 := ind_place h S hS (fun g => c g.symm) (i := j) h.length
      simp only [Bool.false_eq_true, if_false]
      by_cases d : A h z j = true
      · rw [if_pos ⟨hz, d⟩] at e2
        rw [if_pos ⟨by omega, d⟩]; omega
      · rw [if_neg (fun g => d g.2)] at e2
        rw [if_neg (fun g => d g.2)]; omega
    · simp
theorem wl_bound (h : List Done) (hh : h.length ≤ 60) (S : List Nat) (j : Nat) : -1 ≤ wl h S j ∧ wl h S j ≤ 60 := by
  unfold wl
  have := ind_le h S j h.length
  split <;> omega
/-- The order, one by one: the first one for which none waits. -/
def kahn (h : List Done) : Nat → List Nat → Option (List Nat)
  | 0, S => some S
  | m + 1, S => match (List.range h.length).find? (fun j => decide (0 = wl h S j)) with
    | some z => kahn h m (S ++ [z])
    | none => none
theorem l16_0_run (n : Nat) (hn : n ≤ 60) (f : Nat → Int) : ∀ m i, n - i < m → i ≤ n → l16_0 FUEL (fun x => some x) (fun _ => some (-1 : Int)) m (tab n f, 0, (n : Int), (i : Int)) = some (match (List.range' i (n - i)).find? (fun j => decide (0 = f j)) with | some z => (z : Int) | none => -1) := by
  intro m
  induction m with
  | zero => intro i h; omega
  | succ m ih =>
    intro i hm hi
    show s16_0 FUEL (l16_0 FUEL _ _ m) _ _ _ = _
    simp only [s16_0]
    by_cases e : i < n
    · rw [decide_eq_true (show (i : Int) < (n : Int) by omega), cond_true, if_pos (show (0 : Int) ≤ (i : Int) by omega)]
      simp only [Int.toNat_natCast, tab_get _ e]
      obtain ⟨q, hq⟩ : ∃ q, n - i = q + 1 := ⟨n - i - 1, by omega⟩
      rw [hq, List.range'_succ, List.find?_cons]
      by_cases c : 0 = f i
      · rw [decide_eq_true c]; rfl
      · rw [decide_eq_false c, wrapNext i (by omega), cond_false, ih (i + 1) (by omega) (by omega), show n - (i + 1) = q by omega]
    · rw [decide_eq_false (show ¬ (i : Int) < (n : Int) by omega), cond_false, show n - i = 0 by omega]; rfl
theorem p16_eq (n : Nat) (hn : n ≤ 60) (f : Nat → Int) : p16 FUEL (tab n f, 0) = some (match (List.range n).find? (fun j => decide (0 = f j)) with | some z => (z : Int) | none => -1) := by
  have hb := big
  have := l16_0_run n hn f FUEL 0 (by omega) (by omega)
  simp only [p16, tab_len]
  rw [List.range_eq_range', ← Nat.sub_zero n]
  exact this
theorem l9_5_run (h : List Done) (hi : ∀ d ∈ h, d.2.2.2.length ≤ 3000000000000) (hh : h.length ≤ 60) {R : Type} (k0 : (Int × (List Int)) → Option R) (k1 : (List Int) → Option R) : ∀ n j (S : List Nat), h.length - j < n → j ≤ h.length → S.length = j →
    l9_5 FUEL k0 k1 n (h, (h.length : Int), (j : Int), tab h.length (wl h S), S.map fun z : Nat => (z : Int)) = match kahn h (h.length - j) S with | some T => k1 (T.map fun z : Nat => (z : Int)) | none => k0 (232, []) := by
  have hb := big
  intro n
  induction n with
  | zero => intro j S h; omega
  | succ n ih =>
    intro j S hn hj hS
    show s9_5 FUEL (l9_5 FUEL _ _ n) _ _ _ = _
    simp only [s9_5]
    by_cases e : j < h.length
    · rw [decide_eq_true (show (j : Int) < ((h.length : Nat) : Int) by omega), cond_true, p16_eq _ hh]
      obtain ⟨m, hm⟩ : ∃ m, h.length - j = m + 1 := ⟨h.length - j - 1, by omega⟩
      rw [hm]
      unfold kahn
      cases hf : (List.range h.length).find? (fun j => decide (0 = wl h S j)) with
      | none => rfl
      | some z =>
        have hz : z < h.length := List.mem_range.1 (List.mem_of_find?_eq_some hf)
        have h0 : wl h S z = 0 := by
          have := List.find?_some hf
          simpa [eq_comm] using this
        simp only
        rw [decide_eq_false (show ¬ (z : Int) < 0 by omega), cond_false, tab_len, if_pos (by omega)]
        simp only [Int.toNat_natCast, tab_get _ hz, tab_set _ hz, List.length_map, List.length_singleton]
        rw [if_pos (by omega)]
        have hfb : ∀ q, -1 ≤ (fun q => if q = z then -1 else wl h S q) q ∧ (fun q => if q = z then -1 else wl h S q) q ≤ 60 := fun q => by
          have := wl_bound h hh S q
          simp only
          split <;> omega
        have run := fun k0 out => l9_4_run h hi hh (R := R) k0 (h.length : Int) (j : Int) (fun q => if q = z then -1 else wl h S q) hfb hz out FUEL 0 (by omega) (by omega)
        have e0 : (tab h.length fun j => if j < 0 then dec h z (fun q => if q = z then -1 else wl h S q) j else (fun q => if q = z then -1 else wl h S q) j) = tab h.length fun q => if q = z then -1 else wl h S q := tab_ext fun j _ => if_neg (by omega)
        simp only [e0, show ((0 : Nat) : Int) = 0 from rfl] at run
        rw [run, wrapNext j (by omega)]
        have ih := ih (j + 1) (S ++ [z]) (by omega) (by omega) (by simp [hS])
        rw [show h.length - (j + 1) = m by omega] at ih
        rw [← ih, List.map_append]
        exact congrArg (fun W => l9_5 FUEL k0 k1 n (h, (h.length : Int), ((j + 1 : Nat) : Int), W, S.map (fun z : Nat => (z : Int)) ++ [(z : Int)])) (tab_ext fun q _ => dec_wl h S hz h0 q)
    · rw [decide_eq_false (show ¬ (j : Int) < ((h.length : Nat) : Int) by omega), cond_false, show h.length - j = 0 by omega]; rfl
/-- The answer. -/
def ordB (h : List Done) : Int × List Int := bif !formB h then (231, []) else bif !tracedB h then (232, []) else match kahn h h.length [] with | some T => (0, T.map fun z : Nat => (z : Int)) | none => (232, [])
theorem p9_eq (h : List Done) (hh : h.length ≤ 60) (hi : ∀ d ∈ h, d.2.2.2.length ≤ 3000000000000) : p9 FUEL h = some (ordB h) := by
  have hb := big
  simp only [p9, p13_eq h (by omega) (fun d hd => by have := hi d hd; omega), p14_eq h hh hi, ordB]
  cases formB h
  · rfl
  · cases tracedB h
    · rfl
    · simp only [Bool.not_true, cond_false]
      rw [if_pos (by omega)]
      have e0 : List.replicate (Int.toNat (h.length : Int)) (0 : Int) = tab h.length fun j => if j < 0 then (ind h [] j h.length : Int) else 0 := by
        rw [Int.toNat_natCast]
        apply List.ext_getElem?
        intro j
        by_cases hj : j < h.length
        · rw [tab_get _ hj, List.getElem?_replicate, if_pos hj, if_neg (by omega)]
        · rw [List.getElem?_eq_none (by rw [List.length_replicate]; omega), List.getElem?_eq_none (by rw [tab_len]; omega)]
      have run2 := fun k0 => l9_2_run h hi hh (R := Int × List Int) k0 FUEL 0 (by omega) (by omega)
      rw [e0]
      simp only [show ((0 : Nat) : Int) = 0 from rfl] at run2
      rw [run2]
      have e1 : (tab h.length fun j => (ind h [] j h.length : Int)) = tab h.length (wl h []) := tab_ext fun j _ => by simp [wl]
      have run5 := l9_5_run h hi hh (R := Int × List Int) (fun x => some (x.1, x.2)) (fun x => some ((0 : Int), x)) FUEL 0 [] (by omega) (by omega) rfl
      simp only [e1]
      refine run5.trans ?_
      rw [Nat.sub_zero]
      cases kahn h h.length [] <;> rfl
end Go.Am.Ytmilfdplgemnfaa
