/- Plain laws of the printed functions of the audit: any history has the order that the document says. -/
import Derived.Test.YtmilfdplgemnfaaAuditJ
namespace Go.Am.Ytmilfdplgemnfaa
theorem l17_0_run {R : Type} (k0 : (Int × (List Int)) → Option R) (k1 : ((List Done) × Int) → Option R) (h : List Done) (hh : h.length ≤ 60) (hi : ∀ d ∈ h, d.2.2.2.length ≤ 3000000000000) {i : Nat} (h2 : i < h.length) :
    l17_0 FUEL k0 k1 FUEL (h, (i : Int), 0) = bif h[i].2.2.2.all (okT fun k => (cnt (allItems h) k : Int)) then k1 (h, (i : Int)) else k0 (232, []) := by
  have hb := big
  have hm := hi _ (List.getElem_mem h2)
  refine (list_loop (L := l17_0 FUEL k0 k1) (step := fun F => s17_0 FUEL F k0 k1) (fun _ _ => rfl) h[i].2.2.2 (fun (k : Nat) (_ : Unit) => (h, (i : Int), (k : Int))) (fun _ => True)
    (fun _ x => bif okT (fun k => (cnt (allItems h) k : Int)) x then .inr () else .inl (k0 (232, []))) (fun _ => k1 (h, (i : Int))) (fun F k _ hk _ => ?_) (fun F _ _ => ?_) (fun _ _ _ _ _ _ => trivial) () trivial FUEL (by omega)).trans (forL_all _ _ _ _)
  · simp only [s17_0, if_pos (show (0 : Int) ≤ (i : Int) by omega), Int.toNat_natCast, List.getElem?_eq_getElem h2]
    rw [decide_eq_true (show (k : Int) < ((h[i].2.2.2.length : Nat) : Int) by omega), cond_true, if_pos (show (0 : Int) ≤ (k : Int) by omega)]
    simp only [List.getElem?_eq_getElem hk, p21_eq h hh hi]
    rw [wrapNext k (by omega)]
    generalize h[i].2.2.2[k] = x
    unfold okT mk
    cases x.2.2.1 <;> cases decide ((1 : Int) < (cnt (allItems h) (x.1, IntKind.wrap .u32 (x.2.1 + 1)) : Int)) <;> cases decide (0 < x.2.1) <;> cases decide ((cnt (allItems h) (x.1, x.2.1) : Int) = 0) <;> rfl
  · simp only [s17_0, if_pos (show (0 : Int) ≤ (i : Int) by omega), Int.toNat_natCast, List.getElem?_eq_getElem h2]
    rw [decide_eq_false (show ¬ ((h[i].2.2.2.length : Nat) : Int) < ((h[i].2.2.2.length : Nat) : Int) by omega), cond_false]
theorem l17_1_run {R : Type} (k0 : (Int × (List Int)) → Option R) (k1 : List Done → Option R) (h : List Done) (hh : h.length ≤ 60) (hi : ∀ d ∈ h, d.2.2.2.length ≤ 3000000000000) :
    l17_1 FUEL k0 k1 FUEL (h, 0) = bif tracedB h then k1 h else k0 (232, []) := by
  have hb := big
  refine (list_loop (L := l17_1 FUEL k0 k1) (step := fun F => s17_1 FUEL F k0 k1) (fun _ _ => rfl) h (fun (i : Nat) (_ : Unit) => (h, (i : Int))) (fun _ => True)
    (fun _ d => bif d.2.2.2.all (okT fun k => (cnt (allItems h) k : Int)) then .inr () else .inl (k0 (232, []))) (fun _ => k1 h) (fun F i _ h2 _ => ?_) (fun F _ _ => ?_) (fun _ _ _ _ _ _ => trivial) () trivial FUEL (by omega)).trans (forL_all _ _ _ _)
  · simp only [s17_1]
    rw [decide_eq_true (show (i : Int) < ((h.length : Nat) : Int) by omega), cond_true, l17_0_run _ _ h hh hi h2, wrapNext i (by omega)]
    cases h[i].2.2.2.all (okT fun k => (cnt (allItems h) k : Int)) <;> rfl
  · simp only [s17_1]
    rw [decide_eq_false (show ¬ ((h.length : Nat) : Int) < ((h.length : Nat) : Int) by omega), cond_false]
def ok1 (h : List Done) (S : List Nat) (i q : Nat) : Bool := !(!decide (q = i) && (!S.contains q && A h q i))
section
variable (h : List Done) (hh : h.length ≤ 60) (hi : ∀ d ∈ h, d.2.2.2.length ≤ 3000000000000) (hn : ∀ d ∈ h, (d.2.2.2.map (·.1)).Nodup)
include hh hi hn
omit hh in
theorem A_ref {k i : Nat} (hk : k < h.length) (h2 : i < h.length) : p22 FUEL (h[k], h[i]) = some (A h k i) := by
  rw [p22_eq _ _ (by have := hi _ (List.getElem_mem hk); omega) (by have := hi _ (List.getElem_mem h2); omega) (hn _ (List.getElem_mem h2)), A, getD_of hk, getD_of h2]
theorem l17_2_run {R : Type} (k0 : ((List Done) × Int × Int × Bool × (List Int) × (List Bool)) → Option R) (nx : Int) (out : List Int) (S : List Nat) {i : Nat} (h2 : i < h.length) : ∀ m k, h.length - k < m → k ≤ h.length →
    l17_2 FUEL k0 m (h, nx, (i : Int), true, (k : Int), out, tabB h.length fun j => S.contains j) = k0 (h, nx, (i : Int), (List.range' k (h.length - k)).all (ok1 h S i), out, tabB h.length fun j => S.contains j) := by
  intro m
  induction m with
  | zero => intro k h; omega
  | succ m ih =>
    intro k hm hk
    show s17_2 FUEL (l17_2 FUEL _ m) _ _ = _
    simp only [s17_2]
    by_cases e : k < h.length
    · have ih := ih (k + 1) (by omega) (by omega)
      obtain ⟨q, hq⟩ : ∃ q, h.length - k = q + 1 := ⟨h.length - k - 1, by omega⟩
      rw [show h.length - (k + 1) = q by omega] at ih
      rw [hq, List.range'_succ, List.all_cons, decide_eq_true (show (k : Int) < ((h.length : Nat) : Int) by omega), cond_true, cond_true]
      by_cases c : k = i
      · subst c
        rw [decide_eq_true rfl, Bool.not_true, cond_false, wrapNext k (by omega), ih, show ok1 h S k k = true by simp [ok1], Bool.true_and]
      · rw [decide_eq_false (show ¬ (k : Int) = (i : Int) by omega), Bool.not_false, cond_true, tabB_len, if_pos (by omega)]
        simp only [Int.toNat_natCast, tabB_get _ e, List.getElem?_eq_getElem e, List.getElem?_eq_getElem h2, if_pos (show (0 : Int) ≤ (k : Int) by omega), if_pos (show (0 : Int) ≤ (i : Int) by omega), A_ref h hi hn e h2]
        rw [wrapNext k (by omega)]
        have eo : ok1 h S i k = !(!S.contains k && A h k i) := by simp [ok1, c]
        rw [eo]
        cases hS : S.contains k
        · cases hA : A h k i
          · simp only [Bool.not_false, cond_true, ih]; rfl
          · simp only [Bool.not_false, cond_true, Bool.not_true]
            -- the next round ends it
            obtain ⟨m, rfl⟩ : ∃ p, m = p + 1 := ⟨m - 1, by omega⟩
            show s17_2 FUEL (l17_2 FUEL _ m) _ _ = _
            simp only [s17_2, cond_false]
            cases decide (((k + 1 : Nat) : Int) < ((h.length : Nat) : Int)) <;> rfl
        · simp only [Bool.not_true, cond_false, ih]; rfl
    · rw [decide_eq_false (show ¬ (k : Int) < ((h.length : Nat) : Int) by omega), cond_false, show h.length - k = 0 by omega]; rfl
omit hh hi hn in
theorem free_eq (S : List Nat) (i : Nat) : (!S.contains i && (List.range' 0 h.length).all (ok1 h S i)) = decide (0 = wl h S i) := by
  unfold wl
  cases hS : S.contains i
  · simp only [Bool.not_false, Bool.true_and, Bool.false_eq_true, if_false]
    rw [Bool.eq_iff_iff, decide_eq_true_eq, List.all_eq_true]
    have : (0 : Int) = (ind h S i h.length : Int) ↔ ind h S i h.length = 0 := by omega
    rw [this]
    unfold ind
    rw [List.countP_eq_zero, List.range_eq_range']
    constructor
    · intro g q hq
      have := g q hq
      unfold ok1 at this
      simpa only [Bool.not_eq_true', Bool.not_eq_true] using this
    · intro g q hq
      have := g q hq
      unfold ok1
      simpa only [Bool.not_eq_true', Bool.not_eq_true] using this
  · simp
theorem l17_3_run {R : Type} (k0 : ((List Done) × Int × (List Int) × (List Bool)) → Option R) (out : List Int) (S : List Nat) : ∀ m i, h.length - i < m → i ≤ h.length →
    l17_3 FUEL k0 m (h, -1, (i : Int), out, tabB h.length fun j => S.contains j) = k0 (h, (match (List.range' i (h.length - i)).find? (fun j => decide (0 = wl h S j)) with | some z => (z : Int) | none => -1), out, tabB h.length fun j => S.contains j) := by
  have hb := big
  intro m
  induction m with
  | zero => intro i h; omega
  | succ m ih =>
    intro i hm hi'
    show s17_3 FUEL (l17_3 FUEL _ m) _ _ = _
    simp only [s17_3]
    by_cases e : i < h.length
    · have ih := ih (i + 1) (by omega) (by omega)
      obtain ⟨q, hq⟩ : ∃ q, h.length - i = q + 1 := ⟨h.length - i - 1, by omega⟩
      rw [show h.length - (i + 1) = q by omega] at ih
      rw [hq, List.range'_succ, List.find?_cons, decide_eq_true (show (i : Int) < ((h.length : Nat) : Int) by omega), cond_true, decide_eq_true (show (-1 : Int) < 0 by omega), cond_true, tabB_len, if_pos (by omega)]
      simp only [Int.toNat_natCast, tabB_get _ e]
      have fe := free_eq h S i
      have fin : ∀ (b : Bool), b = decide (0 = wl h S i) → (bif b then l17_3 FUEL k0 m (h, (i : Int), IntKind.wrap .i64 ((i : Int) + 1), out, tabB h.length fun j => S.contains j) else l17_3 FUEL k0 m (h, -1, IntKind.wrap .i64 ((i : Int) + 1), out, tabB h.length fun j => S.contains j)) =
          k0 (h, (match (match decide (0 = wl h S i) with | true => some i | false => (List.range' (i + 1) q).find? (fun j => decide (0 = wl h S j))) with | some z => (z : Int) | none => -1), out, tabB h.length fun j => S.contains j) := by
        rintro b rfl
        rw [wrapNext i (by omega)]
        cases decide (0 = wl h S i)
        · exact ih
        · simp only [cond_true]
          obtain ⟨m, rfl⟩ : ∃ p, m = p + 1 := ⟨m - 1, by omega⟩
          show s17_3 FUEL (l17_3 FUEL _ m) _ _ = _
          simp only [s17_3]
          rw [decide_eq_false (show ¬ (i : Int) < 0 by omega)]
          cases decide (((i + 1 : Nat) : Int) < ((h.length : Nat) : Int)) <;> rfl
      cases hS : S.contains i
      · rw [hS] at fe
        have run := fun k0 => l17_2_run h hh hi hn (R := R) k0 (-1) out S e FUEL 0 (by omega) (by omega)
        simp only [show ((0 : Nat) : Int) = 0 from rfl, Nat.sub_zero] at run
        simp only [Bool.not_false, run]
        exact fin _ (by simpa using fe)
      · rw [hS] at fe
        have f1 : ∀ (k0 : ((List Done) × Int × Int × Bool × (List Int) × (List Bool)) → Option R), l17_2 FUEL k0 FUEL (h, -1, (i : Int), false, 0, out, tabB h.length fun j => S.contains j) = k0 (h, -1, (i : Int), false, out, tabB h.length fun j => S.contains j) := by
          intro k0
          have step : ∀ m F, m = F + 1 → l17_2 FUEL k0 m (h, -1, (i : Int), false, 0, out, tabB h.length fun j => S.contains j) = s17_2 FUEL (l17_2 FUEL k0 F) k0 (h, -1, (i : Int), false, 0, out, tabB h.length fun j => S.contains j) := by
            rintro _ F rfl; rfl
          rw [step FUEL (FUEL - 1) (by omega)]
          simp only [s17_2, cond_false]
          cases decide ((0 : Int) < ((h.length : Nat) : Int)) <;> rfl
        simp only [Bool.not_true, f1]
        exact fin false (by simpa using fe)
    · rw [decide_eq_false (show ¬ (i : Int) < ((h.length : Nat) : Int) by omega), cond_false, show h.length - i = 0 by omega]; rfl
theorem l17_4_run {R : Type} (k0 : (Int × (List Int)) → Option R) (k1 : (List Int) → Option R) : ∀ n (S : List Nat), h.length - S.length < n → S.length ≤ h.length →
    l17_4 FUEL k0 k1 n (h, S.map fun z : Nat => (z : Int), tabB h.length fun j => S.contains j) = match kahn h (h.length - S.length) S with | some T => k1 (T.map fun z : Nat => (z : Int)) | none => k0 (232, []) := by
  have hb := big
  intro n
  induction n with
  | zero => intro S h; omega
  | succ n ih =>
    intro S hn' hS
    show s17_4 FUEL (l17_4 FUEL _ _ n) _ _ _ = _
    simp only [s17_4, List.length_map]
    by_cases e : S.length < h.length
    · obtain ⟨m, hm⟩ : ∃ m, h.length - S.length = m + 1 := ⟨h.length - S.length - 1, by omega⟩
      have run := fun k0 => l17_3_run h hh hi hn (R := R) k0 (S.map fun z : Nat => (z : Int)) S FUEL 0 (by omega) (by omega)
      simp only [show ((0 : Nat) : Int) = 0 from rfl, Nat.sub_zero, ← List.range_eq_range'] at run
      rw [decide_eq_true (show (S.length : Int) < ((h.length : Nat) : Int) by omega), cond_true, run, hm]
      unfold kahn
      cases hf : (List.range h.length).find? (fun j => decide (0 = wl h S j)) with
      | none => rfl
      | some z =>
        have hz : z < h.length := List.mem_range.1 (List.mem_of_find?_eq_some hf)
        simp only
        rw [decide_eq_false (show ¬ (z : Int) < 0 by omega), cond_false, tabB_len, if_pos (by omega)]
        simp only [Int.toNat_natCast, tabB_get _ hz, tabB_set _ hz, List.length_map, List.length_singleton]
        rw [if_pos (by omega)]
        have ih := ih (S ++ [z]) (by simp; omega) (by simp; omega)
        rw [List.length_append, List.length_singleton, show h.length - (S.length + 1) = m by omega] at ih
        rw [← ih, List.map_append]
        refine congrArg (fun W => l17_4 FUEL k0 k1 n (h, S.map (fun z : Nat => (z : Int)) ++ [(z : Int)], W)) (tabB_ext fun j _ => ?_)
        rw [List.contains_eq_mem, List.contains_eq_mem]
        by_cases c : j = z
        · simp [c]
        · simp [c]
    · rw [decide_eq_false (show ¬ (S.length : Int) < ((h.length : Nat) : Int) by omega), cond_false, show h.length - S.length = 0 by omega]; rfl
end
theorem p17_eq (h : List Done) (hh : h.length ≤ 60) (hi : ∀ d ∈ h, d.2.2.2.length ≤ 3000000000000) : p17 FUEL h = some (ordB h) := by
  have hb := big
  simp only [p17, p20_eq h (by omega) (fun d hd => by have := hi d hd; omega), ordB]
  cases hf : formB h
  · rfl
  · have hn : ∀ d ∈ h, (d.2.2.2.map (·.1)).Nodup := fun d hd => (form_of hf hd).2
    simp only [Bool.not_true, cond_false, l17_1_run _ _ h hh hi]
    cases tracedB h
    · rfl
    · simp only [cond_true, Bool.not_true, cond_false]
      rw [if_pos (by omega)]
      have e0 : List.replicate (Int.toNat (h.length : Int)) false = tabB h.length fun j => ([] : List Nat).contains j := by
        rw [Int.toNat_natCast]
        apply List.ext_getElem?
        intro j
        by_cases hj : j < h.length
        · rw [tabB_get _ hj, List.getElem?_replicate, if_pos hj]; rfl
        · rw [List.getElem?_eq_none (by rw [List.length_replicate]; omega), List.getElem?_eq_none (by rw [tabB_len]; omega)]
      have run := l17_4_run h hh hi hn (R := Int × List Int) (fun x => some (x.1, x.2)) (fun x => some ((0 : Int), x)) FUEL [] (by rw [List.length_nil]; omega) (Nat.zero_le _)
      rw [e0]
      refine run.trans ?_
      rw [List.length_nil, Nat.sub_zero]
      cases kahn h h.length [] <;> rfl
theorem p11_self (l : List Int) (hl : l.length < 9223372036854775807) : p11 FUEL (l, l) = some true := by
  have hb := big
  simp only [p11, decide_true, Bool.not_true, cond_false]
  refine (list_loop (L := l11_0 FUEL _ _) (step := fun F => s11_0 FUEL F _ _) (fun _ _ => rfl) l (fun (i : Nat) (_ : Unit) => (l, l, (i : Int))) (fun _ => True)
    (fun _ _ => bif true then .inr () else .inl (some false)) (fun _ => some true) (fun F i _ hi _ => ?_) (fun F _ _ => ?_) (fun _ _ _ _ _ _ => trivial) () trivial FUEL (by omega)).trans ((forL_all (fun _ => true) (some false) (some true) l).trans (by rw [show l.all (fun _ => true) = true from List.all_eq_true.2 (fun _ _ => rfl)]; rfl))
  · simp only [s11_0]
    rw [decide_eq_true (show (i : Int) < ((l.length : Nat) : Int) by omega), cond_true, if_pos (show (0 : Int) ≤ (i : Int) by omega)]
    simp only [Int.toNat_natCast, List.getElem?_eq_getElem hi, decide_true, Bool.not_true, cond_false]
    rw [if_pos (show (0 : Int) ≤ (i : Int) by omega), wrapNext i (by omega)]; rfl
  · simp only [s11_0]
    rw [decide_eq_false (show ¬ ((l.length : Nat) : Int) < ((l.length : Nat) : Int) by omega), cond_false]
theorem ordB_len (h : List Done) : (ordB h).2.length ≤ h.length := by
  unfold ordB
  cases formB h
  · simp
  cases tracedB h
  · simp
  simp only [Bool.not_true, cond_false]
  cases hk : kahn h h.length [] with
  | none => simp
  | some T =>
    have := (kahn_ord h _ _ _ (ord_nil h) hk).2
    simp only [List.length_map, this]; simp
theorem orders (h : List Done) (w : Ty.wr (.slice DT) h) : p3 FUEL h = some true := by
  have hb := big
  have hl : (h.take 60).length ≤ 60 := by rw [List.length_take]; omega
  have hi : ∀ d ∈ h.take 60, d.2.2.2.length ≤ 3000000000000 := fun d hd => by
    have := (w.2 d (List.mem_of_mem_take hd)).2.2.2.1.2
    have : d.2.2.2.length * 53 ≤ 140737488351232 := this
    omega
  have h10 : p10 FUEL (h.take 60) = some (ordB (h.take 60)) := by simp only [p10, p17_eq _ hl hi]
  have := ordB_len (h.take 60)
  simp only [p3, p8_eq, p9_eq _ hl hi, h10, p12_eq, p11_self (ordB (h.take 60)).2 (by omega), cond_true, decide_true]
end Go.Am.Ytmilfdplgemnfaa
