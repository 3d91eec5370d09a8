/- Plain laws of the printed functions of the audit: what is a history. -/
import Derived.Test.YtmilfdplgemnfaaWalk2
import Derived.Test.YtmilfdplgemnfaaAmZH
namespace Go.Am.Ytmilfdplgemnfaa
theorem condT {α : Type} {b : Bool} (h : b = true) {x y : α} : (bif b then x else y) = x := by rw [h]; rfl
theorem condF {α : Type} {b : Bool} (h : b = false) {x y : α} : (bif b then x else y) = y := by rw [h]; rfl
theorem big : 1180591620717411303424 ≤ FUEL := Nat.le_refl _
theorem p12_eq : p12 FUEL () = some true := by kernel_rfl
abbrev Item := Int × (Int × (Bool × ((List (ByteArray × ByteArray)) × (List Int))))
abbrev Done := Int × (Int × (Int × (List Item)))
def inRange (x : Item) : Bool := !(decide (x.1 < 0) || (decide (64 ≤ x.1) || decide (2147483647 ≤ x.2.1)))
abbrev BM := MD (.int .i64) (.int .i64)
abbrev IM := MD (.int .u64) (.int .i64)
def bAdd (B : BM) (x : Item) : BM := mput (.int .i64) (.int .i64) x.1 (IntKind.wrap .i64 (((mfind (.int .i64) (.int .i64) x.1 B.1).getD (0 : Int)) + (1 : Int))) B
def iAdd (B : IM) (x : Done) : IM := mput (.int .u64) (.int .i64) x.1 (IntKind.wrap .i64 (((mfind (.int .u64) (.int .i64) x.1 B.1).getD (0 : Int)) + (1 : Int))) B
theorem bAdd_keys (l : List Item) : ∀ B : BM, ((l.foldl bAdd B).1.map (·.1) : List Int) = (l.map (·.1)).foldl kadd (B.1.map (·.1)) := by
  induction l with
  | nil => intro B; rfl
  | cons x l ih =>
    intro B
    rw [List.foldl_cons, ih, List.map_cons, List.foldl_cons]
    congr 1
    exact keys_mput (K := .int .i64) (V := .int .i64) (fun _ _ => rfl) _ _ B
theorem iAdd_keys (l : List Done) : ∀ B : IM, ((l.foldl iAdd B).1.map (·.1) : List Int) = (l.map (·.1)).foldl kadd (B.1.map (·.1)) := by
  induction l with
  | nil => intro B; rfl
  | cons x l ih =>
    intro B
    rw [List.foldl_cons, ih, List.map_cons, List.foldl_cons]
    congr 1
    exact keys_mput (K := .int .u64) (V := .int .i64) (fun _ _ => rfl) _ _ B
/-- The items of one: their buckets are counted. -/
theorem l13_0_run {R : Type} (k0 : Bool → Option R) (k1 : ((List Done) × (List Done) × Int × Int × (List (Int × Int)) × (List Nat) × Nat × Done × (List (Int × Int)) × (List Nat) × Nat) → Option R) (h1 h2 : List Done) (n i0 : Int) (M : IM) (d : Done) (l : List Item) (hl : l.length < 9223372036854775807) (B : BM) :
    l13_0 FUEL k0 k1 FUEL (h1, h2, n, i0, l, (l.length : Int), 0, M.1, M.2.1, M.2.2, d, B.1, B.2.1, B.2.2) = bif l.all inRange then k1 (h1, h2, n, i0, M.1, M.2.1, M.2.2, d, (l.foldl bAdd B).1, (l.foldl bAdd B).2.1, (l.foldl bAdd B).2.2) else k0 false := by
  have hb := big
  refine (list_loop (L := l13_0 FUEL k0 k1) (step := fun F => s13_0 FUEL F k0 k1) (fun _ _ => rfl) l (fun (i : Nat) (B : BM) => (h1, h2, n, i0, l, (l.length : Int), (i : Int), M.1, M.2.1, M.2.2, d, B.1, B.2.1, B.2.2)) (fun _ => True)
    (fun B x => bif inRange x then .inr (bAdd B x) else .inl (k0 false)) (fun B => k1 (h1, h2, n, i0, M.1, M.2.1, M.2.2, d, B.1, B.2.1, B.2.2)) (fun F i B hi _ => ?_) (fun F B _ => ?_) (fun _ _ _ _ _ _ => trivial) B trivial FUEL (by omega)).trans (forL_gather _ _ _ _ l B)
  · simp only [s13_0]
    rw [decide_eq_true (show (i : Int) < ((l.length : Nat) : Int) by omega), cond_true, if_pos (show (0 : Int) ≤ (i : Int) by omega)]
    simp only [Int.toNat_natCast, List.getElem?_eq_getElem hi, inRange]
    rw [wrapNext i (by omega)]
    generalize l[i] = x
    by_cases c1 : x.1 < 0
    · rw [decide_eq_true c1]; rfl
    · by_cases c2 : 64 ≤ x.1
      · rw [decide_eq_false c1, decide_eq_true c2]; rfl
      · by_cases c3 : 2147483647 ≤ x.2.1
        · rw [decide_eq_false c1, decide_eq_false c2, decide_eq_true c3]; rfl
        · rw [decide_eq_false c1, decide_eq_false c2, decide_eq_false c3]; rfl
  · simp only [s13_0]
    rw [decide_eq_false (show ¬ ((l.length : Nat) : Int) < ((l.length : Nat) : Int) by omega), cond_false]
def okD (d : Done) : Bool := !(!decide (d.2.2.1 = 0) && decide (d.2.2.1 < d.2.1)) && (d.2.2.2.all inRange && decide (d.2.2.2.map (·.1)).Nodup)
def formB (h : List Done) : Bool := h.all okD && decide (h.map (·.1)).Nodup
theorem short_iff (l : List Item) : decide (((List.length (α := Int × Int) (l.foldl bAdd ([], [], 0)).1 : Nat) : Int) < ((List.length l : Nat) : Int)) = !decide (l.map (·.1)).Nodup := by
  have h1 := bAdd_keys l ([], [], 0)
  have h2 := kadd_len (l.map (·.1)) [] List.nodup_nil
  have h3 : List.length (α := Int × Int) (l.foldl bAdd ([], [], 0)).1 = ((l.map (·.1)).foldl kadd []).length := by
    have := congrArg List.length h1
    rw [List.length_map] at this
    exact this
  rw [List.nil_append, List.length_map, List.length_nil, Nat.zero_add] at h2
  rw [h3]
  by_cases c : (l.map (·.1)).Nodup
  · rw [decide_eq_true c, h2.2.2 c]; simp
  · rw [decide_eq_false c]
    have : ((l.map (·.1)).foldl kadd []).length ≠ l.length := fun e => c (h2.2.1 e)
    exact decide_eq_true (by omega)
theorem p13_eq (h : List Done) (hh : h.length < 9223372036854775807) (hi : ∀ d ∈ h, d.2.2.2.length < 9223372036854775807) : p13 FUEL h = some (formB h) := by
  have hb := big
  simp only [p13]
  refine (list_loop (L := l13_2 FUEL _ _) (step := fun F => s13_2 FUEL F _ _) (fun _ _ => rfl) h (fun (i : Nat) (M : IM) => (h, h, (h.length : Int), (i : Int), M.1, M.2.1, M.2.2)) (fun _ => True)
    (fun M d => bif okD d then .inr (iAdd M d) else .inl (some false)) (fun M => some (decide (((List.length M.1 : Nat) : Int) = ((List.length h : Nat) : Int)))) (fun F i M hi' _ => ?_) (fun F M _ => ?_) (fun _ _ _ _ _ _ => trivial) ([], [], 0) trivial FUEL (by omega)).trans ?_
  · have hm := hi _ (List.getElem_mem hi')
    simp only [s13_2]
    rw [decide_eq_true (show (i : Int) < ((h.length : Nat) : Int) by omega), cond_true, if_pos (show (0 : Int) ≤ (i : Int) by omega)]
    simp only [Int.toNat_natCast, List.getElem?_eq_getElem hi', j13_1]
    generalize h[i] = d at hm
    have run := fun k0 k1 => l13_0_run (R := Bool) k0 k1 h h (h.length : Int) (i : Int) (iAdd M d) d d.2.2.2 hm ([], [], 0)
    unfold iAdd at run
    have hsi := short_iff d.2.2.2
    simp only [run, okD]
    rw [wrapNext i (by omega)]
    by_cases c1 : d.2.2.1 = 0
    · rw [decide_eq_true c1]
      cases d.2.2.2.all inRange
      · rfl
      · cases hn : decide (d.2.2.2.map (·.1)).Nodup <;> rw [hn] at hsi
        · exact condT hsi
        · exact condF hsi
    · by_cases c2 : d.2.2.1 < d.2.1
      · rw [decide_eq_false c1, decide_eq_true c2]; rfl
      · rw [decide_eq_false c1, decide_eq_false c2]
        cases d.2.2.2.all inRange
        · rfl
        · cases hn : decide (d.2.2.2.map (·.1)).Nodup <;> rw [hn] at hsi
          · exact condT hsi
          · exact condF hsi
  · simp only [s13_2]
    rw [decide_eq_false (show ¬ ((h.length : Nat) : Int) < ((h.length : Nat) : Int) by omega), cond_false]
  · rw [forL_gather okD iAdd (some false) _ h ([], [], 0), formB]
    have h1 := iAdd_keys h ([], [], 0)
    have h2 := kadd_len (h.map (·.1)) [] List.nodup_nil
    have h3 : List.length (α := Int × Int) (h.foldl iAdd ([], [], 0)).1 = ((h.map (·.1)).foldl kadd []).length := by
      have := congrArg List.length h1
      rw [List.length_map] at this
      exact this
    rw [List.nil_append, List.length_map, List.length_nil, Nat.zero_add] at h2
    rw [h3]
    cases h.all okD
    · rfl
    · simp only [cond_true, Bool.true_and, Option.some.injEq, decide_eq_decide]
      rw [← h2.2]; omega
end Go.Am.Ytmilfdplgemnfaa
