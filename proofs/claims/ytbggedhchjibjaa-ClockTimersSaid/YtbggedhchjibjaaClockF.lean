/- Plain law of the printed functions of the clock: each timer is told once, not ahead of its time, by the first asking behind it, and in order (ClockTimers). -/
import Derived.Test.YtbggedhchjibjaaClockE
namespace Go.Am.Ytbggedhchjibjaa
theorem pick_run (x n : Int) (h1 : -9223372036854775808 ≤ x) (h2 : x < 9223372036854775808) (hn : 0 < n) : ∃ r, p8 FUEL (x, n) = some r ∧ 0 ≤ r ∧ r < n := by
  simp only [p8, j8_0]
  have h0 : ¬ n = 0 := by omega
  by_cases c : x < 0
  · rw [decide_eq_true c, cond_true, if_neg h0, wrapI (n := x + 1) (by omega) (by omega), wrapI (by omega) (by omega), tmod_pos (by omega)]
    exact ⟨_, rfl, Int.emod_nonneg _ h0, Int.emod_lt_of_pos _ hn⟩
  · rw [decide_eq_false c, cond_false, if_neg h0, tmod_pos (by omega)]
    exact ⟨_, rfl, Int.emod_nonneg _ h0, Int.emod_lt_of_pos _ hn⟩

/-- The timer j. -/
def TT (D : List Int) (j : Nat) : TM := ((j : Int), (D.getD j 0, (j : Int)))
theorem TT_inj {D D' : List Int} {j k : Nat} (h : TT D j = TT D' k) : j = k := by
  have := congrArg Prod.fst h
  have : (j : Int) = (k : Int) := this
  omega
theorem D_some {D : List Int} {j : Nat} (h : j < D.length) : D[j]? = some (D.getD j 0) := by
  rw [List.getD_eq_getElem?_getD, List.getElem?_eq_getElem h]; rfl
theorem B_some {D : List Bool} {j : Nat} (h : j < D.length) : D[j]? = some (D.getD j true) := by
  rw [List.getD_eq_getElem?_getD, List.getElem?_eq_getElem h]; rfl

/-- What is known while timers are set. -/
structure Sets (i : Nat) (D : List Int) (h : List TM) (m : MM) : Prop where
  tidy : Tidy h m
  len : D.length = i
  small : ∀ d ∈ D, 0 ≤ d ∧ d < 300
  mem : ∀ t, t ∈ h ↔ ∃ j, j < i ∧ t = TT D j
  few : h.length = i

theorem sets_loop {R : Type} {K0 : Bool → Option R} {K1 : _ → Option R} (dues passes : List Int) (hd : ∀ x ∈ dues, -9223372036854775808 ≤ x ∧ x < 9223372036854775808) (N : Nat) (hN : N ≤ 256) (hN2 : N ≤ dues.length) (r mi : Int) : ∀ (n i : Nat) (D : List Int) (h : List TM) (m : MM), N - i < n → i ≤ N → Sets i D h m →
    ∃ (D' : List Int) (h' : List TM) (m' : MM), l4_0 FUEL K0 K1 n (dues, passes, (N : Int), (i : Int), r, mi, (i : Int), h, m.1, m.2.1, m.2.2, D) = K1 (passes, (N : Int), r, mi, (N : Int), h', m'.1, m'.2.1, m'.2.2, D') ∧ Sets N D' h' m' := by
  intro n
  induction n with
  | zero => intro i D h m a; omega
  | succ n ih =>
    intro i D h m hn hi S
    by_cases e : i < N
    · have hil : i < dues.length := by omega
      obtain ⟨x1, x2⟩ := hd _ (List.getElem_mem hil)
      obtain ⟨d, ed, d0, d1⟩ := pick_run dues[i] 300 x1 x2 (by omega)
      have hid : at_ m (i : Int) = none := by
        cases hq : at_ m (i : Int) with
        | none => rfl
        | some v =>
          obtain ⟨j, hj, _, ej⟩ := (S.tidy.placed.at_iff _ _).1 hq
          obtain ⟨k, hk, ek⟩ := (S.mem _).1 (H_mem hj)
          rw [ek] at ej
          have : (k : Int) = (i : Int) := ej
          omega
      obtain ⟨h', m', e1, e2, e3⟩ := set_new S.tidy (by rw [S.few]; omega) (id := (i : Int)) (due := d) d0 (by omega) hid (r := r) (mi := mi) (s := (i : Int)) (by omega) (by omega)
      have hlen := S.len
      have hT : ∀ j, j < i → TT (D ++ [d]) j = TT D j := fun j hj => by
        unfold TT; rw [List.getD_eq_getElem?_getD, List.getElem?_append_left (by omega), List.getD_eq_getElem?_getD]
      have hTi : TT (D ++ [d]) i = ((i : Int), (d, (i : Int))) := by
        unfold TT; rw [List.getD_eq_getElem?_getD]
        have : (D ++ [d])[i]? = some d := by rw [← hlen]; simp
        rw [this]; rfl
      have S' : Sets (i + 1) (D ++ [d]) h' m' := by
        refine ⟨e2, by simp [hlen], fun x hx => ?_, fun t => ?_, by rw [e3.length_eq]; simp [S.few]⟩
        · rcases List.mem_append.1 hx with hx | hx
          · exact S.small x hx
          · simp at hx; subst hx; exact ⟨d0, d1⟩
        · rw [e3.mem_iff, List.mem_append, S.mem]
          constructor
          · rintro (⟨j, hj, rfl⟩ | ht)
            · exact ⟨j, by omega, (hT j hj).symm⟩
            · simp at ht
              exact ⟨i, by omega, by rw [hTi]; exact ht⟩
          · rintro ⟨j, hj, rfl⟩
            by_cases c : j < i
            · exact .inl ⟨j, c, hT j c⟩
            · have : j = i := by omega
              subst this
              right; rw [hTi]; simp
      obtain ⟨D2, h2, m2, r1, r2⟩ := ih (i + 1) (D ++ [d]) h' m' (by omega) (by omega) S'
      refine ⟨D2, h2, m2, ?_, r2⟩
      refine Eq.trans ?_ r1
      refine (condT (decide_eq_true (show (i : Int) < (N : Int) by omega))).trans ?_
      have hg : (D ++ [d])[i]? = some d := by rw [← hlen]; simp
      have hl2 : (D ++ [d]).length = i + 1 := by simp [hlen]
      simp only [if_pos (Int.natCast_nonneg i), Int.toNat_natCast, List.getElem?_eq_getElem hil, ed, if_pos (show (D.length + List.length [d]) * 8 ≤ 140737488355328 by simp; omega), hl2, if_pos (show (0 : Int) ≤ (i : Int) ∧ (i : Int) < ((i + 1 : Nat) : Int) by omega), hg, wrapU' (n := (i : Int)) (by omega) (by omega), e1, decide_true, Bool.not_true, cond_false, wrapNext i (by omega)]
      rfl
    · obtain rfl : i = N := by omega
      exact ⟨D, h, m, condF (decide_eq_false (Int.lt_irrefl _)), S⟩

/-- What is known between two askings. -/
structure Asks (N : Nat) (D : List Int) (told : List Bool) (many : Int) (h : List TM) (m : MM) : Prop where
  tidy : Tidy h m
  len : D.length = N
  small : ∀ d ∈ D, 0 ≤ d ∧ d < 300
  tlen : told.length = N
  mem : ∀ t, t ∈ h ↔ ∃ j, j < N ∧ told.getD j true = false ∧ t = TT D j
  count : many + (h.length : Int) = (N : Int)

theorem B_set {l : List Bool} {j q : Nat} (hj : j < l.length) : (l.set j true).getD q true = if q = j then true else l.getD q true := by
  rw [List.getD_eq_getElem?_getD, List.getElem?_set]
  by_cases e : j = q
  · rw [if_pos e, if_pos hj, if_pos e.symm]; rfl
  · rw [if_neg e, if_neg (fun x => e x.symm), List.getD_eq_getElem?_getD]

theorem told_loop {R : Type} {K0 : Bool → Option R} {K1 : _ → Option R} (passes : List Int) (N : Nat) (hN : N ≤ 256) (k now r mi s : Int) (h : List TM) (m1 : List (Int × Int)) (m2 : List Nat) (m3 : Nat) (D : List Int) (hD : D.length = N) (told0 : List Bool) (P : List TM) (hP : P.length ≤ 256) (nd : P.Nodup) (srt : P.Pairwise le) (due : ∀ t ∈ P, t.2.1 ≤ now)
    (hm : ∀ t ∈ P, ∃ j, j < N ∧ told0.getD j true = false ∧ t = TT D j) : ∀ (n i : Nat) (many : Int) (told : List Bool), P.length - i < n → i ≤ P.length → 0 ≤ many → many ≤ 1000000 + i → told.length = N → (∀ j, j < N → (told.getD j true = false ↔ told0.getD j true = false ∧ TT D j ∉ P.take i)) →
    ∃ told' : List Bool, l4_2 FUEL K0 K1 n (passes, (N : Int), many, k, now, (i : Int), r, mi, s, h, m1, m2, m3, D, told, P.map (·.1)) = K1 (passes, (N : Int), many + ((P.length - i : Nat) : Int), k, now, r, mi, s, h, m1, m2, m3, D, told') ∧ told'.length = N ∧ ∀ j, j < N → (told'.getD j true = false ↔ told0.getD j true = false ∧ TT D j ∉ P) := by
  intro n
  induction n with
  | zero => intro i many told a; omega
  | succ n ih =>
    intro i many told hn hi y0 y1 hl hT
    have hlen : (P.map (·.1)).length = P.length := List.length_map _
    by_cases e : i < P.length
    · obtain ⟨j, hj, ht0, et⟩ := hm _ (List.getElem_mem e)
      have hout : (P.map (·.1))[i]? = some (j : Int) := by rw [List.getElem?_map, List.getElem?_eq_getElem e, et]; rfl
      have hnot : TT D j ∉ P.take i := by
        intro hx
        obtain ⟨q, hq, eq⟩ := List.mem_iff_getElem.1 hx
        rw [List.length_take] at hq
        rw [List.getElem_take] at eq
        unfold List.Nodup at nd
        rw [List.pairwise_iff_getElem] at nd
        exact nd q i (by omega) e (by omega) (by rw [eq, et])
      have htold : told.getD j true = false := (hT j hj).2 ⟨ht0, hnot⟩
      have hdue : D.getD j 0 ≤ now := by have := due _ (List.getElem_mem e); rw [et] at this; exact this
      have hset : (told.set j true).length = N := by rw [List.length_set]; exact hl
      have hT' : ∀ q, q < N → ((told.set j true).getD q true = false ↔ told0.getD q true = false ∧ TT D q ∉ P.take (i + 1)) := by
        intro q hq
        rw [B_set (by omega), List.take_add_one, List.getElem?_eq_getElem e, et]
        by_cases c : q = j
        · subst c
          rw [if_pos rfl]
          constructor
          · intro x; cases x
          · rintro ⟨_, x⟩; exact absurd (by simp) x
        · rw [if_neg c, hT q hq]
          constructor
          · rintro ⟨a, b⟩
            refine ⟨a, fun x => ?_⟩
            rcases List.mem_append.1 x with x | x
            · exact b x
            · simp at x; exact c (TT_inj x)
          · rintro ⟨a, b⟩
            exact ⟨a, fun x => b (List.mem_append_left _ x)⟩
      obtain ⟨told', r1, r2, r3⟩ := ih (i + 1) (many + 1) (told.set j true) (by omega) (by omega) (by omega) (by omega) hset hT'
      refine ⟨told', ?_, r2, r3⟩
      rw [show many + ((P.length - i : Nat) : Int) = many + 1 + ((P.length - (i + 1) : Nat) : Int) by omega]
      refine Eq.trans ?_ r1
      refine (condT (decide_eq_true (show (i : Int) < (((P.map (·.1)).length : Nat) : Int) by omega))).trans ?_
      have hjr : (0 : Int) ≤ (j : Int) ∧ (j : Int) < ((N : Nat) : Int) := by omega
      have hir : (0 : Int) ≤ (i : Int) ∧ (i : Int) < ((P.length : Nat) : Int) := by omega
      have hDj := D_some (D := D) (j := j) (by omega)
      have hBj := B_some (D := told) (j := j) (by omega)
      rw [htold] at hBj
      simp only [hlen, if_pos hir, Int.toNat_natCast, hout, wrapI (n := (j : Int)) (by omega) (by omega), hl, hD, if_pos hjr, hDj, hBj, j4_1, wrapNext i (by omega), wrapI (n := many + 1) (by omega) (by omega)]
      rw [decide_eq_false (show ¬ (j : Int) < 0 by omega), decide_eq_false (show ¬ ((N : Nat) : Int) ≤ (j : Int) by omega), decide_eq_false (show ¬ now < D.getD j 0 by omega)]
      simp only [cond_false]
      by_cases i0 : 0 < i
      · have hpi : i - 1 < P.length := by omega
        obtain ⟨j', hj', _, et'⟩ := hm _ (List.getElem_mem hpi)
        have hout' : (P.map (·.1))[i - 1]? = some (j' : Int) := by rw [List.getElem?_map, List.getElem?_eq_getElem hpi, et']; rfl
        have hle : le (TT D j') (TT D j) := by
          rw [List.pairwise_iff_getElem] at srt
          have := srt (i - 1) i hpi e (by omega)
          rw [et, et'] at this; exact this
        have hle : D.getD j' 0 < D.getD j 0 ∨ (D.getD j' 0 = D.getD j 0 ∧ (j' : Int) ≤ (j : Int)) := hle
        have hDj' := D_some (D := D) (j := j') (by omega)
        have ew : IntKind.wrap .i64 ((i : Int) - 1) = ((i - 1 : Nat) : Int) := by rw [wrapI (by omega) (by omega)]; omega
        rw [decide_eq_true (show (0 : Int) < (i : Int) by omega)]
        simp only [cond_true, ew, if_pos (show (0 : Int) ≤ ((i - 1 : Nat) : Int) ∧ ((i - 1 : Nat) : Int) < ((P.length : Nat) : Int) by omega), Int.toNat_natCast, hout', if_pos (show (0 : Int) ≤ (j' : Int) ∧ (j' : Int) < ((N : Nat) : Int) by omega), hDj']
        rw [decide_eq_false (show ¬ D.getD j 0 < D.getD j' 0 by omega)]
        simp only [cond_false]
        by_cases c : D.getD j' 0 = D.getD j 0
        · rw [decide_eq_true c, decide_eq_false (show ¬ (j : Int) < (j' : Int) by omega)]; rfl
        · rw [decide_eq_false c]; rfl
      · rw [decide_eq_false (show ¬ (0 : Int) < (i : Int) by omega)]; rfl
    · obtain rfl : i = P.length := by omega
      refine ⟨told, ?_, hl, fun j hj => ?_⟩
      · rw [Nat.sub_self, show many + ((0 : Nat) : Int) = many by omega]
        exact condF (decide_eq_false (show ¬ ((P.length : Nat) : Int) < (((P.map (·.1)).length : Nat) : Int) by rw [hlen]; exact Int.lt_irrefl _))
      · rw [hT j hj, List.take_of_length_le (Nat.le_refl _)]

theorem late_loop {R : Type} {K0 : Bool → Option R} {K1 : _ → Option R} (passes : List Int) (N : Nat) (hN : N ≤ 256) (many k now r mi s : Int) (h : List TM) (m1 : List (Int × Int)) (m2 : List Nat) (m3 : Nat) (D : List Int) (hD : D.length = N) (told : List Bool) (hl : told.length = N) (late : ∀ j, j < N → told.getD j true = false → now < D.getD j 0) :
    l4_3 FUEL K0 K1 FUEL (passes, (N : Int), many, k, now, 0, r, mi, s, h, m1, m2, m3, D, told) = K1 (passes, (N : Int), many, k, r, mi, s, h, m1, m2, m3, D, told) := by
  have key := for_loop (S := Unit) (L := fun n y => l4_3 FUEL K0 K1 n y) (step := fun F => s4_3 FUEL F K0 K1) (fun n x => rfl)
    (fun j _ => (passes, (N : Int), many, k, now, (j : Int), r, mi, s, h, m1, m2, m3, D, told)) N (fun _ _ => True) (fun _ _ => .inr ()) (fun _ => K1 (passes, (N : Int), many, k, r, mi, s, h, m1, m2, m3, D, told))
    (fun F j _ hj _ => by
      refine (condT (decide_eq_true (show (j : Int) < (N : Int) by omega))).trans ?_
      simp only [hl, hD, if_pos (show (0 : Int) ≤ (j : Int) ∧ (j : Int) < ((N : Nat) : Int) by omega), Int.toNat_natCast, B_some (D := told) (j := j) (by omega), D_some (D := D) (j := j) (by omega), wrapNext j (by omega)]
      cases hb : told.getD j true with
      | true => rfl
      | false =>
        have := late j hj hb
        rw [decide_eq_false (show ¬ D.getD j 0 ≤ now by omega)]; rfl)
    (fun F _ _ => condF (decide_eq_false (Int.lt_irrefl _))) (fun _ _ _ _ _ _ => trivial) N 0 () FUEL (Nat.zero_add _) (by have := big; omega) trivial
  rw [forI_fold] at key
  exact key

theorem ask_run {R : Type} {K0 : Bool → Option R} {K1 : _ → Option R} (passes : List Int) (N : Nat) (hN : N ≤ 256) (k p c s : Int) (hp : 0 ≤ p) (hp2 : p ≤ 400) (c0 : 0 ≤ c) (c1 : c ≤ 100000) (D : List Int) (told : List Bool) (many : Int) (m0 : 0 ≤ many) (h : List TM) (m : MM) (A : Asks N D told many h m) :
    ∃ (told' : List Bool) (many' : Int) (h' : List TM) (m' : MM), j4_4 FUEL K0 K1 (passes, (N : Int), many, k, p, 1000, 1000 * c, s, h, m.1, m.2.1, m.2.2, D, told) = K1 (passes, (N : Int), many', k, 1000, 1000 * (c + p), s, h', m'.1, m'.2.1, m'.2.2, D, told') ∧ Asks N D told' many' h' m' ∧ 0 ≤ many' ∧ (p = 400 → h' = []) := by
  have hcount := A.count
  have e11 : p11b FUEL (p, 1000, 1000 * c, s, h, m.1, m.2.1, m.2.2) = some (0, 1000, 1000 * (c + p), s, h, m.1, m.2.1, m.2.2) := by
    simp only [p11b]
    rw [decide_eq_false (show ¬ p < 0 by omega), decide_eq_false (show ¬ (2199023255552 : Int) < p by omega), wrapI (n := p * 1000) (by omega) (by omega), wrapI (n := 1000 * c + p * 1000) (by omega) (by omega), tdiv_pos (by omega), wrapI (n := (1000 * c + p * 1000) / 1000) (by omega) (by omega), decide_eq_false (show ¬ (1099511627776 : Int) < (1000 * c + p * 1000) / 1000 by omega), show 1000 * c + p * 1000 = 1000 * (c + p) by omega]
    rfl
  have en : 1000 * (c + p) / 1000 = c + p := by omega
  obtain ⟨P, h', m', e13, w', hperm, srt, due, late⟩ := due_run A.tidy (by omega) 1000 (1000 * (c + p)) s (by omega) (by omega)
  rw [en] at due late
  have nd := (hperm.nodup_iff).1 (tidy_nodup A.tidy)
  have nd2 := List.nodup_append.1 nd
  have hlen := hperm.length_eq
  rw [List.length_append] at hlen
  obtain ⟨told', t1, t2, t3⟩ := told_loop (K0 := fun x159 => K0 x159) (K1 := fun (x160, x161, x162, x163, x164, x165, x166, x167, x168, x169, x170, x171, x172, x173) => (l4_3 FUEL (fun x191 => (K0 x191)) (fun (x192, x193, x194, x195, x196, x197, x198, x199, x200, x201, x202, x203, x204) => (K1 (x192, x193, x194, x195, x196, x197, x198, x199, x200, x201, x202, x203, x204))) FUEL (x160, x161, x162, x163, x164, (0 : Int), x165, x166, x167, x168, x169, x170, x171, x172, x173))) passes N hN k (c + p) 1000 (1000 * (c + p)) s h' m'.1 m'.2.1 m'.2.2 D A.len told P (by omega) nd2.1 srt due
    (fun t ht => (A.mem t).1 (hperm.mem_iff.2 (List.mem_append_left _ ht))) FUEL 0 many told (by have := big; omega) (Nat.zero_le _) m0 (by omega) A.tlen (fun j _ => by simp)
  have hmem : ∀ t, t ∈ h' ↔ ∃ j, j < N ∧ told'.getD j true = false ∧ t = TT D j := by
    intro t
    constructor
    · intro ht
      obtain ⟨j, hj, hf, e⟩ := (A.mem t).1 (hperm.mem_iff.2 (List.mem_append_right _ ht))
      refine ⟨j, hj, (t3 j hj).2 ⟨hf, fun hP => ?_⟩, e⟩
      rw [← e] at hP
      exact nd2.2.2 t hP t ht rfl
    · rintro ⟨j, hj, hf, e⟩
      obtain ⟨f1, f2⟩ := (t3 j hj).1 hf
      have := hperm.mem_iff.1 ((A.mem t).2 ⟨j, hj, f1, e⟩)
      rcases List.mem_append.1 this with x | x
      · rw [e] at x; exact absurd x f2
      · exact x
  refine ⟨told', many + ((P.length - 0 : Nat) : Int), h', m', ?_, ⟨w', A.len, A.small, t2, hmem, by omega⟩, by omega, fun hp4 => ?_⟩
  · simp only [j4_4, e11, decide_true, Bool.not_true, cond_false, now_run 1000 (1000 * (c + p)) s h m (by omega) (by omega), en, e13]
    refine t1.trans ?_
    exact late_loop passes N hN _ k (c + p) 1000 (1000 * (c + p)) s h' m'.1 m'.2.1 m'.2.2 D A.len told' t2 (fun j hj hf => by
      have := late (TT D j) ((hmem _).2 ⟨j, hj, hf, rfl⟩)
      exact this)
  · cases hh : h' with
    | nil => rfl
    | cons t l =>
      have ht : t ∈ h' := by rw [hh]; simp
      have h1 := late t ht
      obtain ⟨j, hj, _, e⟩ := (hmem t).1 ht
      have hdj := A.small (D.getD j 0) (List.mem_of_getElem? (D_some (by rw [A.len]; exact hj)))
      rw [e] at h1
      have h1 : c + p < D.getD j 0 := h1
      omega

theorem asks_loop {K0 : Bool → Option Bool} {K1 : _ → Option Bool} (passes : List Int) (hpl : passes.length < 9223372036854775807) (hpass : ∀ x ∈ passes, -9223372036854775808 ≤ x ∧ x < 9223372036854775808) (N : Nat) (hN : N ≤ 256) (s : Int) (D : List Int)
    (hK : ∀ (many c : Int) (h : List TM) (m : MM), many + (h.length : Int) = (N : Int) → 0 ≤ many → (600 ≤ passes.length ∨ h = []) → K1 (passes, (N : Int), many, 1000, 1000 * c, s, h, m.1, m.2.1, m.2.2) = some true) :
    ∀ (n k : Nat) (c many : Int) (told : List Bool) (h : List TM) (m : MM), 601 - k < n → k ≤ 600 → k ≤ passes.length + 1 → 0 ≤ c → c ≤ (k : Int) * 60 + 400 → (k ≤ passes.length → c ≤ (k : Int) * 60) → (k = passes.length + 1 → h = []) → 0 ≤ many → Asks N D told many h m →
    l4_5 FUEL K0 K1 n (passes, (N : Int), many, (k : Int), 1000, 1000 * c, s, h, m.1, m.2.1, m.2.2, D, told) = some true := by
  intro n
  induction n with
  | zero => intro k c many told h m a; omega
  | succ n ih =>
    intro k c many told h m hn hk hk2 c0 c1 c2 hlast y0 A
    by_cases e : k ≤ passes.length
    · have c3 := c2 e
      by_cases g : k < 600
      · refine (condT (decide_eq_true (show (k : Int) ≤ ((passes.length : Nat) : Int) by omega))).trans ?_
        refine (condT (decide_eq_true (show (k : Int) < 600 by omega))).trans ?_
        by_cases b : k < passes.length
        · refine (condT (decide_eq_true (show (k : Int) < ((passes.length : Nat) : Int) by omega))).trans ?_
          obtain ⟨x1, x2⟩ := hpass _ (List.getElem_mem b)
          obtain ⟨p, ep, p0, p1⟩ := pick_run passes[k] 60 x1 x2 (by omega)
          obtain ⟨told', many', h', m', r1, r2, r3, _⟩ := ask_run (K0 := fun x205 => K0 x205) (K1 := fun (x206, x207, x208, x209, x210, x211, x212, x213, x214, x215, x216, x217, x218) => (l4_5 FUEL K0 K1 n (x206, x207, x208, (IntKind.wrap .i64 (x209 + (1 : Int))), x210, x211, x212, x213, x214, x215, x216, x217, x218))) passes N hN (k : Int) p c s p0 (by omega) c0 (by omega) D told many y0 h m A
          simp only [if_pos (Int.natCast_nonneg k), Int.toNat_natCast, List.getElem?_eq_getElem b, ep]
          refine Eq.trans r1 ?_
          simp only [wrapNext k (by omega)]
          exact ih (k + 1) (c + p) many' told' h' m' (by omega) (by omega) (by omega) (by omega) (by omega) (fun _ => by omega) (fun x => by omega) r3 r2
        · refine (condF (decide_eq_false (show ¬ (k : Int) < ((passes.length : Nat) : Int) by omega))).trans ?_
          obtain ⟨told', many', h', m', r1, r2, r3, r4⟩ := ask_run (K0 := fun x219 => K0 x219) (K1 := fun (x220, x221, x222, x223, x224, x225, x226, x227, x228, x229, x230, x231, x232) => (l4_5 FUEL K0 K1 n (x220, x221, x222, (IntKind.wrap .i64 (x223 + (1 : Int))), x224, x225, x226, x227, x228, x229, x230, x231, x232))) passes N hN (k : Int) 400 c s (by omega) (by omega) c0 (by omega) D told many y0 h m A
          refine Eq.trans r1 ?_
          simp only [wrapNext k (by omega)]
          exact ih (k + 1) (c + 400) many' told' h' m' (by omega) (by omega) (by omega) (by omega) (by omega) (fun _ => by omega) (fun _ => r4 rfl) r3 r2
      · refine (condT (decide_eq_true (show (k : Int) ≤ ((passes.length : Nat) : Int) by omega))).trans ?_
        refine (condF (decide_eq_false (show ¬ (k : Int) < 600 by omega))).trans ?_
        exact hK many c h m A.count y0 (.inl (by omega))
    · refine (condF (decide_eq_false (show ¬ (k : Int) ≤ ((passes.length : Nat) : Int) by omega))).trans ?_
      exact hK many c h m A.count y0 (.inr (hlast (by omega)))
end Go.Am.Ytbggedhchjibjaa
