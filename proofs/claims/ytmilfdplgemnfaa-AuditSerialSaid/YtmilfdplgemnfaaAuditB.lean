/- Plain laws of the printed functions of the audit: is each version that was read made once? -/
import Derived.Test.YtmilfdplgemnfaaAuditA
namespace Go.Am.Ytmilfdplgemnfaa
abbrev KT : Ty := .pair (.int .i64) (.int .u32)
abbrev CM := MD KT (.int .i64)
instance instKT : DecidableEq KT.den := inferInstanceAs (DecidableEq (Int × Int))
theorem same_KT (k k' : KT.den) : KT.eqB k k' = decide (k = k') := eqB_pair2 (k := .i64) (l := .u32) k k'
/-- The version that an item makes. -/
def mk (x : Item) : Int × Int := (x.1, IntKind.wrap .u32 (x.2.1 + 1))
def cget (C : CM) (k : Int × Int) : Int := (mfind KT (.int .i64) k C.1).getD (0 : Int)
def cAdd (C : CM) (x : Item) : CM := bif x.2.2.1 then mput KT (.int .i64) (mk x) (IntKind.wrap .i64 (cget C (mk x) + 1)) C else C
def cnt (l : List Item) (k : Int × Int) : Nat := l.countP fun x => x.2.2.1 && decide (mk x = k)
def allItems (h : List Done) : List Item := h.flatMap (·.2.2.2)
theorem whole_cAdd (C : CM) (x : Item) (w : Whole C) : Whole (cAdd C x) := by
  unfold cAdd
  cases x.2.2.1
  · exact w
  · exact whole_mput _ _ C w
theorem cget_cAdd (C : CM) (x : Item) (hb : 0 ≤ cget C (mk x) ∧ cget C (mk x) < 9223372036854775807) (k : Int × Int) : cget (cAdd C x) k = cget C k + (if (x.2.2.1 && decide (mk x = k)) = true then 1 else 0) := by
  unfold cAdd
  cases x.2.2.1
  · simp
  · simp only [cond_true, Bool.true_and, decide_eq_true_eq]
    show (mfind KT (.int .i64) k (mput KT (.int .i64) (mk x) (IntKind.wrap .i64 (cget C (mk x) + 1)) C).1).getD (0 : Int) = _
    rw [mfind_mput same_KT]
    by_cases e : k = mk x
    · subst e
      rw [if_pos rfl, if_pos rfl, Option.getD_some, wrapI (by omega) (by omega)]
    · rw [if_neg e, if_neg (fun g => e g.symm), Int.add_zero]; rfl
theorem cAdd_run : ∀ (l : List Item) (C : CM), Whole C → (∀ k, 0 ≤ cget C k ∧ cget C k + (l.length : Int) < 9223372036854775807) → Whole (l.foldl cAdd C) ∧ ∀ k, cget (l.foldl cAdd C) k = cget C k + (cnt l k : Int)
  | [], C, w, _ => ⟨w, fun k => by simp [cnt]⟩
  | x :: l, C, w, hb => by
    have h1 := cget_cAdd C x ⟨(hb (mk x)).1, by have := (hb (mk x)).2; simp only [List.length_cons] at this; omega⟩
    rw [List.foldl_cons]
    have ih := cAdd_run l (cAdd C x) (whole_cAdd C x w) fun k => by
      rw [h1 k]
      have := hb k
      simp only [List.length_cons] at this
      split <;> omega
    refine ⟨ih.1, fun k => ?_⟩
    rw [ih.2 k, h1 k]
    unfold cnt
    rw [List.countP_cons]
    split <;> omega
theorem l14_0_run {R : Type} (k0 : ((List Done) × (List Done) × Int × Int × (List ((Int × Int) × Int)) × (List Nat) × Nat) → Option R) (h1 h2 : List Done) (n i0 : Int) (l : List Item) (hl : l.length < 9223372036854775807) (C : CM) (w : Whole C) :
    l14_0 FUEL k0 FUEL (h1, h2, n, i0, l, (l.length : Int), 0, C.1, C.2.1, C.2.2) = k0 (h1, h2, n, i0, (l.foldl cAdd C).1, (l.foldl cAdd C).2.1, (l.foldl cAdd C).2.2) := by
  have hb := big
  refine (list_loop (L := l14_0 FUEL k0) (step := fun F => s14_0 FUEL F k0) (fun _ _ => rfl) l (fun (i : Nat) (C : CM) => (h1, h2, n, i0, l, (l.length : Int), (i : Int), C.1, C.2.1, C.2.2)) (fun C => Whole C)
    (fun C x => .inr (cAdd C x)) (fun C => k0 (h1, h2, n, i0, C.1, C.2.1, C.2.2)) (fun F i C hi w => ?_) (fun F C _ => ?_) (fun x C C' _ w e => by cases e; exact whole_cAdd C x w) C w FUEL (by omega)).trans (forL_fold _ _ l C)
  · simp only [s14_0]
    rw [decide_eq_true (show (i : Int) < ((l.length : Nat) : Int) by omega), cond_true, if_pos (show (0 : Int) ≤ (i : Int) by omega)]
    simp only [Int.toNat_natCast, List.getElem?_eq_getElem hi]
    rw [wrapNext i (by omega)]
    generalize l[i] = x
    unfold cAdd
    cases x.2.2.1
    · rfl
    · have bump := bump_eq (K := KT) (V := .int .i64) (fun k k' e => by rw [same_KT] at e; exact of_decide_eq_true e) (mk x) (0 : Int) (IntKind.wrap .i64 (cget C (mk x) + 1)) C w
      simp only [cond_true]
      unfold mk cget at bump
      generalize hE : ment KT (.int .i64) (x.1, IntKind.wrap .u32 (x.2.1 + 1)) (0 : Int) C = E at bump
      have bump' : mstore KT (.int .i64) E.1.2 (IntKind.wrap .i64 ((mfind KT (.int .i64) (x.1, IntKind.wrap .u32 (x.2.1 + 1)) C.1).getD (0 : Int) + 1)) (E.2.1, E.2.2.1, E.2.2.2) = _ := bump
      rw [bump']
      rfl
  · simp only [s14_0]
    rw [decide_eq_false (show ¬ ((l.length : Nat) : Int) < ((l.length : Nat) : Int) by omega), cond_false]
theorem fold_all (h : List Done) : ∀ C : CM, h.foldl (fun C d => d.2.2.2.foldl cAdd C) C = (allItems h).foldl cAdd C := by
  induction h with
  | nil => intro C; rfl
  | cons d h ih => intro C; rw [List.foldl_cons, ih]; simp [allItems, List.foldl_append]
theorem whole_fold : ∀ (l : List Item) (C : CM), Whole C → Whole (l.foldl cAdd C)
  | [], _, w => w
  | x :: l, C, w => whole_fold l _ (whole_cAdd C x w)
theorem l14_1_run {R : Type} (k0 : ((List Done) × (List ((Int × Int) × Int)) × (List Nat) × Nat) → Option R) (h : List Done) (hh : h.length < 9223372036854775807) (hi : ∀ d ∈ h, d.2.2.2.length < 9223372036854775807) (C : CM) (w : Whole C) :
    l14_1 FUEL k0 FUEL (h, h, (h.length : Int), 0, C.1, C.2.1, C.2.2) = k0 (h, ((allItems h).foldl cAdd C).1, ((allItems h).foldl cAdd C).2.1, ((allItems h).foldl cAdd C).2.2) := by
  have hb := big
  refine (list_loop (L := l14_1 FUEL k0) (step := fun F => s14_1 FUEL F k0) (fun _ _ => rfl) h (fun (i : Nat) (C : CM) => (h, h, (h.length : Int), (i : Int), C.1, C.2.1, C.2.2)) (fun C => Whole C)
    (fun C d => .inr (d.2.2.2.foldl cAdd C)) (fun C => k0 (h, C.1, C.2.1, C.2.2)) (fun F i C hi' w => ?_) (fun F C _ => ?_) (fun x C C' _ w e => by cases e; exact whole_fold _ C w) C w FUEL (by omega)).trans (by rw [forL_fold, fold_all])
  · simp only [s14_1]
    rw [decide_eq_true (show (i : Int) < ((h.length : Nat) : Int) by omega), cond_true, if_pos (show (0 : Int) ≤ (i : Int) by omega)]
    simp only [Int.toNat_natCast, List.getElem?_eq_getElem hi']
    have hm := hi _ (List.getElem_mem hi')
    generalize h[i] = d at hm
    rw [l14_0_run _ h h _ _ d.2.2.2 hm C w, wrapNext i (by omega)]
  · simp only [s14_1]
    rw [decide_eq_false (show ¬ ((h.length : Nat) : Int) < ((h.length : Nat) : Int) by omega), cond_false]
/-- Is what was read made, and what is made made once? -/
def okT (c : Int × Int → Int) (x : Item) : Bool := !(decide (0 < x.2.1) && decide (c (x.1, x.2.1) = 0)) && !(x.2.2.1 && decide (1 < c (mk x)))
theorem l14_2_run {R : Type} (k0 : Bool → Option R) (k1 : ((List Done) × Int × Int × (List ((Int × Int) × Int)) × (List Nat) × Nat) → Option R) (h1 : List Done) (n i0 : Int) (l : List Item) (hl : l.length < 9223372036854775807) (C : CM) :
    l14_2 FUEL k0 k1 FUEL (h1, n, i0, l, (l.length : Int), 0, C.1, C.2.1, C.2.2) = bif l.all (okT (cget C)) then k1 (h1, n, i0, C.1, C.2.1, C.2.2) else k0 false := by
  have hb := big
  refine (list_loop (L := l14_2 FUEL k0 k1) (step := fun F => s14_2 FUEL F k0 k1) (fun _ _ => rfl) l (fun (i : Nat) (_ : Unit) => (h1, n, i0, l, (l.length : Int), (i : Int), C.1, C.2.1, C.2.2)) (fun _ => True)
    (fun _ x => bif okT (cget C) x then .inr () else .inl (k0 false)) (fun _ => k1 (h1, n, i0, C.1, C.2.1, C.2.2)) (fun F i _ hi _ => ?_) (fun F _ _ => ?_) (fun _ _ _ _ _ _ => trivial) () trivial FUEL (by omega)).trans (forL_all _ _ _ l)
  · simp only [s14_2]
    rw [decide_eq_true (show (i : Int) < ((l.length : Nat) : Int) by omega), cond_true, if_pos (show (0 : Int) ≤ (i : Int) by omega)]
    simp only [Int.toNat_natCast, List.getElem?_eq_getElem hi]
    rw [wrapNext i (by omega)]
    generalize l[i] = x
    unfold okT mk cget
    cases decide (0 < x.2.1)
    · cases x.2.2.1
      · rfl
      · simp only [cond_true, cond_false]
        cases decide (1 < (mfind KT (.int .i64) (x.1, IntKind.wrap .u32 (x.2.1 + 1)) C.1).getD (0 : Int)) <;> rfl
    · simp only [cond_true]
      cases decide ((mfind KT (.int .i64) (x.1, x.2.1) C.1).getD (0 : Int) = 0)
      · simp only [cond_false]
        cases x.2.2.1
        · rfl
        · simp only [cond_true]
          cases decide (1 < (mfind KT (.int .i64) (x.1, IntKind.wrap .u32 (x.2.1 + 1)) C.1).getD (0 : Int)) <;> rfl
      · rfl
  · simp only [s14_2]
    rw [decide_eq_false (show ¬ ((l.length : Nat) : Int) < ((l.length : Nat) : Int) by omega), cond_false]
def tracedB (h : List Done) : Bool := h.all fun d => d.2.2.2.all (okT fun k => (cnt (allItems h) k : Int))
theorem all_len (h : List Done) (hi : ∀ d ∈ h, d.2.2.2.length ≤ 3000000000000) : (allItems h).length ≤ h.length * 3000000000000 := by
  induction h with
  | nil => simp [allItems]
  | cons d h ih =>
    have h1 := hi d (by simp)
    have h2 := ih fun e he => hi e (by simp [he])
    have : allItems (d :: h) = d.2.2.2 ++ allItems h := by simp [allItems]
    rw [this, List.length_append, List.length_cons]; omega
theorem p14_eq (h : List Done) (hh : h.length ≤ 60) (hi : ∀ d ∈ h, d.2.2.2.length ≤ 3000000000000) : p14 FUEL h = some (tracedB h) := by
  have hb := big
  have hal := all_len h hi
  simp only [p14]
  rw [l14_1_run _ h (by omega) (fun d hd => by have := hi d hd; omega) ([], [], 0) whole_nil]
  have hc := (cAdd_run (allItems h) ([], [], 0) whole_nil fun k => by
    show (0 : Int) ≤ 0 ∧ (0 : Int) + _ < _
    omega).2
  generalize (allItems h).foldl cAdd ([], [], 0) = C at hc
  have hc : cget C = fun k => (cnt (allItems h) k : Int) := by
    funext k
    rw [hc k]
    show (0 : Int) + _ = _
    omega
  refine (list_loop (L := l14_3 FUEL _ _) (step := fun F => s14_3 FUEL F _ _) (fun _ _ => rfl) h (fun (i : Nat) (_ : Unit) => (h, (h.length : Int), (i : Int), C.1, C.2.1, C.2.2)) (fun _ => True)
    (fun _ d => bif d.2.2.2.all (okT (cget C)) then .inr () else .inl (some false)) (fun _ => some true) (fun F i _ hi' _ => ?_) (fun F _ _ => ?_) (fun _ _ _ _ _ _ => trivial) () trivial FUEL (by omega)).trans ?_
  · simp only [s14_3]
    rw [decide_eq_true (show (i : Int) < ((h.length : Nat) : Int) by omega), cond_true, if_pos (show (0 : Int) ≤ (i : Int) by omega)]
    simp only [Int.toNat_natCast, List.getElem?_eq_getElem hi']
    have hm := hi _ (List.getElem_mem hi')
    generalize h[i] = d at hm
    rw [l14_2_run _ _ h _ _ d.2.2.2 (by omega) C, wrapNext i (by omega)]
    cases d.2.2.2.all (okT (cget C)) <;> rfl
  · simp only [s14_3]
    rw [decide_eq_false (show ¬ ((h.length : Nat) : Int) < ((h.length : Nat) : Int) by omega), cond_false]
  · rw [forL_all, tracedB, hc]
    cases h.all fun d => d.2.2.2.all (okT fun k => (cnt (allItems h) k : Int)) <;> rfl
end Go.Am.Ytmilfdplgemnfaa
