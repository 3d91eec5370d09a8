/- Plain law of the printed functions of the audit: what was done in a row has an order, however it is shuffled. -/
import Derived.Test.YtmilfdplgemnfaaAuditL
import Derived.Test.YtmilfdplgemnfaaAuditE
namespace Go.Am.Ytmilfdplgemnfaa
abbrev Step := (List Int) × ((List Bool) × Int)
/-- The items of one, while they are gathered. -/
structure Mid (w w' : Nat → Int) (u : Nat → Bool) (L : List Item) (k : Nat) : Prop where
  its : Its w L
  now : ∀ b, b < 64 → w' b = w b + wrt L b
  used : ∀ b, b < 64 → (u b = true ↔ ∃ x ∈ L, x.1 = (b : Int))
  len : L.length ≤ k
theorem mid_add {w w' : Nat → Int} {u : Nat → Bool} {L : List Item} {k : Nat} (M : Mid w w' u L k) {b : Nat} (hb : b < 64) (hu : u b = false) (wr : Bool) (data : List (ByteArray × ByteArray)) (incs : List Int) :
    Mid w (fun j => if wr = true ∧ j = b then w' b + 1 else w' j) (fun j => if j = b then true else u j) (L ++ [((b : Int), (w' b, (wr, (data, incs))))]) (k + 1) := by
  have nb : ∀ x ∈ L, x.1 ≠ (b : Int) := fun x hx e => by
    have := (M.used b hb).2 ⟨x, hx, e⟩
    rw [hu] at this; cases this
  have w0 : wrt L b = 0 := by
    unfold wrt
    rw [show L.any (fun y => y.2.2.1 && decide (y.1 = (b : Int))) = false from ?_]
    · rfl
    · rw [List.any_eq_false]
      intro y hy g
      rw [Bool.and_eq_true, decide_eq_true_eq] at g
      exact nb y hy g.2
  have wb : w' b = w b := by rw [M.now b hb, w0]; omega
  have ww : ∀ j, wrt (L ++ [((b : Int), (w' b, (wr, (data, incs))))]) j = wrt L j + (if wr = true ∧ j = b then 1 else 0) := by
    intro j
    by_cases e : j = b
    · subst e
      rw [w0]
      unfold wrt
      rw [List.any_append]
      unfold wrt at w0
      cases ha : L.any (fun y => y.2.2.1 && decide (y.1 = (j : Int)))
      · cases wr <;> simp
      · rw [ha] at w0; cases w0
    · rw [if_neg (fun g => e g.2)]
      unfold wrt
      rw [List.any_append]
      have : ([((b : Int), (w' b, (wr, (data, incs))))] : List Item).any (fun y => y.2.2.1 && decide (y.1 = (j : Int))) = false := by
        simp
        intro _; omega
      rw [this, Bool.or_false]; omega
  refine ⟨⟨fun x hx => ?_, ?_, fun x hx => ?_⟩, fun j hj => ?_, fun j hj => ?_, by rw [List.length_append, List.length_singleton]; have := M.len; omega⟩
  · rcases List.mem_append.1 hx with hx | hx
    · exact M.its.rng x hx
    · rw [List.mem_singleton] at hx; subst hx; exact ⟨by show (0 : Int) ≤ (b : Int); omega, by show (b : Int) < 64; omega⟩
  · rw [List.map_append, List.nodup_append]
    refine ⟨M.its.nd, by simp, fun a ha c hc => ?_⟩
    obtain ⟨x, hx, rfl⟩ := List.mem_map.1 ha
    have : c = (b : Int) := by simpa using hc
    rw [this]; exact nb x hx
  · rcases List.mem_append.1 hx with hx | hx
    · exact M.its.ver x hx
    · rw [List.mem_singleton] at hx; subst hx
      show w' b = w (Int.toNat (b : Int))
      rw [Int.toNat_natCast]; exact wb
  · rw [ww]
    by_cases e : wr = true ∧ j = b
    · rw [if_pos e, if_pos e, e.2, wb, w0]; omega
    · rw [if_neg e, if_neg e, M.now j hj]; omega
  · by_cases e : j = b
    · rw [if_pos e]
      simp only [true_iff]
      exact ⟨_, List.mem_append_right _ (List.mem_singleton.2 rfl), by rw [e]⟩
    · rw [if_neg e, M.used j hj]
      constructor
      · rintro ⟨x, hx, e2⟩; exact ⟨x, List.mem_append_left _ hx, e2⟩
      · rintro ⟨x, hx, e2⟩
        rcases List.mem_append.1 hx with hx | hx
        · exact ⟨x, hx, e2⟩
        · rw [List.mem_singleton] at hx; subst hx
          have : (b : Int) = (j : Int) := e2
          omega
theorem l5_3_run {R : Type} (k0 : ((List Step) × (List Int) × Int × (List Int) × (List Done) × Int × Int × Int × (List Item)) → Option R) (st : List Step) (mix : List Int) {i : Nat} (hi : i < st.length) (hx : ∀ x ∈ st[i].1, -9223372036854775808 ≤ x ∧ x < 9223372036854775808) (h : List Done) (a b c : Int)
    (w : Nat → Int) (hw : ∀ j, j < 64 → 0 ≤ w j ∧ w j ≤ 30) : ∀ (n k : Nat) (w' : Nat → Int) (u : Nat → Bool) (L : List Item), 8 - k < n → k ≤ 8 → Mid w w' u L k →
      ∃ w2 u2 L2, Mid w w2 u2 L2 8 ∧ l5_3 FUEL k0 n (st, mix, (i : Int), (k : Int), tab 64 w', h, a, b, c, L, tabB 64 u) = k0 (st, mix, (i : Int), tab 64 w2, h, a, b, c, L2) := by
  intro n
  induction n with
  | zero => intro k w' u L h; omega
  | succ n ih =>
    intro k w' u L hn hk M
    show ∃ w2 u2 L2, _ ∧ s5_3 FUEL (l5_3 FUEL _ n) _ _ = _
    have done : ∃ w2 u2 L2, Mid w w2 u2 L2 8 ∧ k0 (st, mix, (i : Int), tab 64 w', h, a, b, c, L) = k0 (st, mix, (i : Int), tab 64 w2, h, a, b, c, L2) := ⟨w', u, L, ⟨M.its, M.now, M.used, by have := M.len; omega⟩, rfl⟩
    simp only [s5_3, if_pos (show (0 : Int) ≤ (i : Int) by omega), Int.toNat_natCast, List.getElem?_eq_getElem hi]
    by_cases e : k < st[i].1.length
    · rw [decide_eq_true (show (k : Int) < ((st[i].1.length : Nat) : Int) by omega), cond_true]
      by_cases g : k < 8
      · rw [decide_eq_true (show (k : Int) < 8 by omega), cond_true, if_pos (show (0 : Int) ≤ (k : Int) by omega)]
        obtain ⟨x1, x2⟩ := hx _ (List.getElem_mem e)
        simp only [List.getElem?_eq_getElem e]
        -- from the bucket on
        have go : ∀ (y : Int), 0 ≤ y → ∃ w2 u2 L2, Mid w w2 u2 L2 8 ∧ j5_2 FUEL (fun x => l5_3 FUEL k0 n (x.1, x.2.1, x.2.2.1, IntKind.wrap .i64 (x.2.2.2.1 + 1), x.2.2.2.2.1, x.2.2.2.2.2.1, x.2.2.2.2.2.2.1, x.2.2.2.2.2.2.2.1, x.2.2.2.2.2.2.2.2.1, x.2.2.2.2.2.2.2.2.2.1, x.2.2.2.2.2.2.2.2.2.2)) (fun x => l5_3 FUEL k0 n (x.1, x.2.1, x.2.2.1, IntKind.wrap .i64 (x.2.2.2.1 + 1), x.2.2.2.2.1, x.2.2.2.2.2.1, x.2.2.2.2.2.2.1, x.2.2.2.2.2.2.2.1, x.2.2.2.2.2.2.2.2.1, x.2.2.2.2.2.2.2.2.2.1, x.2.2.2.2.2.2.2.2.2.2)) (st, mix, (i : Int), (k : Int), y, tab 64 w', h, a, b, c, L, tabB 64 u) = k0 (st, mix, (i : Int), tab 64 w2, h, a, b, c, L2) := by
          intro y hy
          have ey : Int.tmod y 64 = ((y.toNat % 64 : Nat) : Int) := by
            rw [tmod_pos hy]; omega
          have hb : y.toNat % 64 < 64 := Nat.mod_lt _ (by omega)
          simp only [j5_2, ey]
          generalize y.toNat % 64 = q at hb
          simp only [if_pos (show (0 : Int) ≤ (q : Int) ∧ (q : Int) < ((64 : Nat) : Int) by omega), Int.toNat_natCast, tabB_get _ hb]
          cases hu : u q
          · have hq := hw q hb
            have hnow := M.now q hb
            have hlen := M.len
            have h01 := wrt_01 L q
            have add : ∀ wr : Bool, ∃ w2 u2 L2, Mid w w2 u2 L2 8 ∧ j5_1 FUEL (fun x => l5_3 FUEL k0 n (x.1, x.2.1, x.2.2.1, IntKind.wrap .i64 (x.2.2.2.1 + 1), x.2.2.2.2.1, x.2.2.2.2.2.1, x.2.2.2.2.2.2.1, x.2.2.2.2.2.2.2.1, x.2.2.2.2.2.2.2.2.1, x.2.2.2.2.2.2.2.2.2.1, x.2.2.2.2.2.2.2.2.2.2)) (st, mix, (i : Int), (k : Int), (q : Int), tab 64 w', h, a, b, c, L, (tabB 64 u).set q true, (q : Int), w' q, wr, [0, 0, 0, 0]) = k0 (st, mix, (i : Int), tab 64 w2, h, a, b, c, L2) := by
              intro wr
              have M' := mid_add M hb hu wr [] [0, 0, 0, 0]
              obtain ⟨w2, u2, L2, m, e2⟩ := ih (k + 1) _ _ _ (by omega) (by omega) M'
              refine ⟨w2, u2, L2, m, ?_⟩
              rw [← e2, tabB_set _ hb]
              simp only [j5_1, j5_0, List.length_singleton]
              cases wr
              · simp only [cond_false]
                rw [if_pos (by omega), wrapNext k (by omega)]
                refine congrArg (fun W => l5_3 FUEL k0 n (st, mix, (i : Int), ((k + 1 : Nat) : Int), W, h, a, b, c, L ++ [((q : Int), (w' q, (false, ([], [0, 0, 0, 0]))))], tabB 64 fun j => if j = q then true else u j)) (tab_ext fun j _ => ?_)
                rw [if_neg (fun g => by cases g.1)]
              · simp only [cond_true, if_pos (show (0 : Int) ≤ (q : Int) ∧ (q : Int) < ((64 : Nat) : Int) by omega), Int.toNat_natCast, tab_get _ hb, tab_set _ hb]
                rw [if_pos (by omega), wrapNext k (by omega), wrapU32 (by omega) (by omega)]
                refine congrArg (fun W => l5_3 FUEL k0 n (st, mix, (i : Int), ((k + 1 : Nat) : Int), W, h, a, b, c, L ++ [((q : Int), (w' q, (true, ([], [0, 0, 0, 0]))))], tabB 64 fun j => if j = q then true else u j)) (tab_ext fun j _ => ?_)
                by_cases cj : j = q
                · rw [if_pos cj, if_pos ⟨trivial, cj⟩]
                · rw [if_neg cj, if_neg (fun g => cj g.2)]
            simp only [cond_false, tab_get _ hb, if_pos (show (0 : Int) ≤ (i : Int) by omega), List.getElem?_eq_getElem hi]
            by_cases d : k < st[i].2.1.length
            · rw [decide_eq_true (show (k : Int) < ((st[i].2.1.length : Nat) : Int) by omega), cond_true]
              simp only [if_pos (show (0 : Int) ≤ (k : Int) by omega), List.getElem?_eq_getElem d]
              exact add _
            · rw [decide_eq_false (show ¬ (k : Int) < ((st[i].2.1.length : Nat) : Int) by omega), cond_false]
              exact add false
          · simp only [cond_true]
            rw [wrapNext k (by omega)]
            exact ih (k + 1) w' u L (by omega) (by omega) ⟨M.its, M.now, M.used, by have := M.len; omega⟩
        by_cases d : st[i].1[k] < 0
        · rw [decide_eq_true d, cond_true, wrapI (n := st[i].1[k] + 1) (by omega) (by omega), wrapI (n := 0 - (st[i].1[k] + 1)) (by omega) (by omega)]
          exact go _ (by omega)
        · rw [decide_eq_false d, cond_false]
          exact go _ (by omega)
      · rw [decide_eq_false (show ¬ (k : Int) < 8 by omega), cond_false]
        exact done
    · rw [decide_eq_false (show ¬ (k : Int) < ((st[i].1.length : Nat) : Int) by omega), cond_false]
      exact done
theorem l5_4_run {R : Type} (k0 : ((List Int) × (List Done)) → Option R) (st : List Step) (hx : ∀ s ∈ st, ∀ x ∈ s.1, -9223372036854775808 ≤ x ∧ x < 9223372036854775808) (hlg : ∀ s ∈ st, 0 ≤ s.2.2) (mix : List Int) :
    ∀ (n i : Nat) (w : Nat → Int) (h : List Done), 30 - i < n → i ≤ 30 → h.length = i → Ser h w → ∃ h', h'.length ≤ 30 ∧ (∃ w', Ser h' w') ∧ (∀ d ∈ h', d ∈ h ∨ d.2.2.2.length ≤ 8) ∧ l5_4 FUEL k0 n (st, mix, (i : Int), tab 64 w, h) = k0 (mix, h') := by
  have hb := big
  intro n
  induction n with
  | zero => intro i w h hn; omega
  | succ n ih =>
    intro i w h hn hi hl S
    show ∃ h', _ ∧ _ ∧ _ ∧ s5_4 FUEL (l5_4 FUEL _ n) _ _ = _
    have done : ∃ h', h'.length ≤ 30 ∧ (∃ w', Ser h' w') ∧ (∀ d ∈ h', d ∈ h ∨ d.2.2.2.length ≤ 8) ∧ k0 (mix, h) = k0 (mix, h') := ⟨h, by omega, ⟨w, S⟩, fun d hd => .inl hd, rfl⟩
    simp only [s5_4]
    by_cases e : i < st.length
    · rw [decide_eq_true (show (i : Int) < ((st.length : Nat) : Int) by omega), cond_true]
      by_cases g : i < 30
      · rw [decide_eq_true (show (i : Int) < 30 by omega), cond_true, if_pos (show (0 : Int) ≤ (i : Int) by omega)]
        simp only [Int.toNat_natCast, List.getElem?_eq_getElem e]
        have hlo := hlg _ (List.getElem_mem e)
        have hm0 : 0 ≤ Int.tmod st[i].2.2 1000 ∧ Int.tmod st[i].2.2 1000 < 1000 := by
          rw [tmod_pos hlo]; omega
        generalize Int.tmod st[i].2.2 1000 = q at hm0
        have e1 : IntKind.wrap .i64 (100 * (i : Int)) = 100 * (i : Int) := wrapI (by omega) (by omega)
        have e2 : IntKind.wrap .i64 (10000 + 100 * (i : Int)) = 10000 + 100 * (i : Int) := wrapI (by omega) (by omega)
        have e3 : IntKind.wrap .u32 (10000 + 100 * (i : Int)) = 10000 + 100 * (i : Int) := wrapU32 (by omega) (by omega)
        have e4 : IntKind.wrap .u32 (10000 + 100 * (i : Int) - q) = 10000 + 100 * (i : Int) - q := wrapU32 (by omega) (by omega)
        have e5 : IntKind.wrap .u32 (10000 + 100 * (i : Int) + q) = 10000 + 100 * (i : Int) + q := wrapU32 (by omega) (by omega)
        have e6 : IntKind.wrap .u64 (IntKind.wrap .i64 ((i : Int) + 1)) = (i : Int) + 1 := by rw [wrapI (by omega) (by omega), wrapU' (by omega) (by omega)]
        simp only [e1, e2, e3, e4, e5, e6]
        have hw := ser_w S
        have e7 : List.replicate 64 false = tabB 64 fun _ => false := by decide
        obtain ⟨w2, u2, L2, M, run⟩ := l5_3_run (R := R) (fun x => if (List.length x.2.2.2.2.1 + List.length [(x.2.2.2.2.2.1, (x.2.2.2.2.2.2.1, (x.2.2.2.2.2.2.2.1, x.2.2.2.2.2.2.2.2)))]) * 40 ≤ 140737488355328 then l5_4 FUEL k0 n (x.1, x.2.1, IntKind.wrap .i64 (x.2.2.1 + 1), x.2.2.2.1, x.2.2.2.2.1 ++ [(x.2.2.2.2.2.1, (x.2.2.2.2.2.2.1, (x.2.2.2.2.2.2.2.1, x.2.2.2.2.2.2.2.2)))]) else none) st mix e (hx _ (List.getElem_mem e)) h ((i : Int) + 1) (10000 + 100 * (i : Int) - q) (10000 + 100 * (i : Int) + q) w (fun j _ => by have := hw j; omega) FUEL 0 w (fun _ => false) [] (by omega) (by omega) ⟨⟨fun x hx => (by cases hx), List.nodup_nil, fun x hx => (by cases hx)⟩, fun b _ => by simp [wrt], fun b _ => by simp, by simp⟩
        rw [e7]
        simp only [show ((0 : Nat) : Int) = 0 from rfl] at run
        have S' := Ser.snoc S (((i : Int) + 1), (10000 + 100 * (i : Int) - q), (10000 + 100 * (i : Int) + q), L2) (by rw [hl]) (by show 10000 + 100 * (i : Int) - q ≤ _; rw [hl]; omega) (by show _ ≤ 10000 + 100 * (i : Int) + q; rw [hl]; omega) M.its
        obtain ⟨h', p1, p2, p3, p4⟩ := ih (i + 1) _ _ (by omega) (by omega) (by rw [List.length_append, List.length_singleton, hl]) S'
        refine ⟨h', p1, p2, fun d hd => ?_, ?_⟩
        · rcases p3 d hd with g | g
          · rcases List.mem_append.1 g with g | g
            · exact .inl g
            · rw [List.mem_singleton] at g; subst g; exact .inr M.len
          · exact .inr g
        · refine run.trans ?_
          simp only [List.length_singleton]
          rw [if_pos (by omega), wrapNext i (by omega), ← p4]
          exact congrArg (fun W => l5_4 FUEL k0 n (st, mix, ((i + 1 : Nat) : Int), W, h ++ [((i : Int) + 1, 10000 + 100 * (i : Int) - q, 10000 + 100 * (i : Int) + q, L2)])) (tab_ext fun j hj => M.now j hj)
      · rw [decide_eq_false (show ¬ (i : Int) < 30 by omega), cond_false]
        exact done
    · rw [decide_eq_false (show ¬ (i : Int) < ((st.length : Nat) : Int) by omega), cond_false]
      exact done
theorem j5_5_run {R : Type} (k0 : ((List Int) × Int × (List Done)) → Option R) (mix : List Int) (i : Nat) (a : Int) (a0 : 0 ≤ a) (g : List Done) (hg : 0 < g.length) : ∃ g', List.Perm g' g ∧ j5_5 FUEL k0 (mix, (i : Int), a, g) = k0 (mix, (i : Int), g') := by
  have n0 : ¬ ((g.length : Nat) : Int) = 0 := by omega
  have ea : Int.tmod a (g.length : Int) = ((a.toNat % g.length : Nat) : Int) := by
    rw [tmod_pos a0]
    obtain ⟨a, rfl⟩ : ∃ n : Nat, a = (n : Int) := ⟨a.toNat, by omega⟩
    rw [Int.toNat_natCast]; rfl
  have eb : Int.tmod (i : Int) (g.length : Int) = ((i % g.length : Nat) : Int) := by
    rw [tmod_pos (by omega)]; rfl
  have ha : a.toNat % g.length < g.length := Nat.mod_lt _ hg
  have hb : i % g.length < g.length := Nat.mod_lt _ hg
  simp only [j5_5, ea, eb, if_neg n0]
  generalize a.toNat % g.length = p at ha
  generalize i % g.length = q at hb
  simp only [if_pos (show (0 : Int) ≤ (p : Int) ∧ (p : Int) < ((g.length : Nat) : Int) by omega), if_pos (show (0 : Int) ≤ (q : Int) ∧ (q : Int) < ((g.length : Nat) : Int) by omega), Int.toNat_natCast, List.getElem?_eq_getElem ha, List.getElem?_eq_getElem hb, List.length_set]
  have hb' : q < (g.set p g[q]).length := by rw [List.length_set]; exact hb
  rw [List.getElem?_eq_getElem hb']
  exact ⟨_, List.set_set_perm ha hb, rfl⟩
theorem l5_6_run {R : Type} (k0 : (List Done) → Option R) (mix : List Int) (hm : mix.length < 9223372036854775807) (hx : ∀ x ∈ mix, -9223372036854775808 ≤ x ∧ x < 9223372036854775808) : ∀ n i (g : List Done), mix.length - i < n → ∃ g', List.Perm g' g ∧ l5_6 FUEL k0 n (mix, (i : Int), g) = k0 g' := by
  intro n
  induction n with
  | zero => intro i g h; omega
  | succ n ih =>
    intro i g hn
    show ∃ g', List.Perm g' g ∧ s5_6 FUEL (l5_6 FUEL _ n) _ _ = _
    simp only [s5_6]
    by_cases e : i < mix.length
    · rw [decide_eq_true (show (i : Int) < ((mix.length : Nat) : Int) by omega), cond_true]
      by_cases c : 0 < g.length
      · rw [decide_eq_true (show (0 : Int) < ((g.length : Nat) : Int) by omega), cond_true, if_pos (show (0 : Int) ≤ (i : Int) by omega)]
        obtain ⟨b1, b2⟩ := hx _ (List.getElem_mem e)
        simp only [Int.toNat_natCast, List.getElem?_eq_getElem e]
        generalize mix[i] = x at b1 b2
        by_cases d : x < 0
        · rw [decide_eq_true d, cond_true, wrapI (n := x + 1) (by omega) (by omega), wrapI (n := 0 - (x + 1)) (by omega) (by omega)]
          obtain ⟨g1, p1, e1⟩ := j5_5_run (fun x : ((List Int) × Int × (List Done)) => l5_6 FUEL k0 n (x.1, IntKind.wrap .i64 (x.2.1 + 1), x.2.2)) mix i (0 - (x + 1)) (by omega) g c
          obtain ⟨g2, p2, e2⟩ := ih (i + 1) g1 (by omega)
          refine ⟨g2, p2.trans p1, ?_⟩
          rw [e1]
          simp only
          rw [wrapNext i (by omega)]; exact e2
        · rw [decide_eq_false d, cond_false]
          obtain ⟨g1, p1, e1⟩ := j5_5_run (fun x : ((List Int) × Int × (List Done)) => l5_6 FUEL k0 n (x.1, IntKind.wrap .i64 (x.2.1 + 1), x.2.2)) mix i x (by omega) g c
          obtain ⟨g2, p2, e2⟩ := ih (i + 1) g1 (by omega)
          refine ⟨g2, p2.trans p1, ?_⟩
          rw [e1]
          simp only
          rw [wrapNext i (by omega)]; exact e2
      · rw [decide_eq_false (show ¬ (0 : Int) < ((g.length : Nat) : Int) by omega), cond_false]
        exact ⟨g, List.Perm.refl g, rfl⟩
    · rw [decide_eq_false (show ¬ (i : Int) < ((mix.length : Nat) : Int) by omega), cond_false]
      exact ⟨g, List.Perm.refl g, rfl⟩
theorem ordB_full {h : List Done} (e : (ordB h).1 = 0) : (ordB h).2.length = h.length := by
  unfold ordB at e ⊢
  cases hf : formB h
  · rw [hf] at e; cases e
  cases ht : tracedB h
  · rw [hf, ht] at e; cases e
  rw [hf, ht] at e
  cases hk : kahn h h.length [] with
  | none => rw [hk] at e; cases e
  | some T =>
    have := (kahn_ord h _ _ _ (ord_nil h) hk).2
    simp only [Bool.not_true, cond_false, List.length_map, this]; simp
theorem serial (st : List Step) (ws : Ty.wr (.slice (.pair (.slice (.int .i64)) (.pair (.slice .bool) (.int .u32)))) st) (mix : List Int) (wm : Ty.wr (.slice (.int .i64)) mix) : p5 FUEL (st, mix) = some true := by
  have hb := big
  have hm : mix.length * 8 ≤ 140737488351232 := wm.1.2
  have e1 : List.replicate 64 (0 : Int) = tab 64 (fun _ => 0) := by decide
  simp only [p5, e1]
  have run4 := fun (k0 : ((List Int) × (List Done)) → Option Bool) => l5_4_run k0 st (fun s hs x hx => wf_i64 ((ws.2 s hs).1.2 x hx)) (fun s hs => (wf_u32 (ws.2 s hs).2.2).1) mix FUEL 0 (fun _ => 0) [] (by omega) (by omega) rfl Ser.nil
  obtain ⟨h', p1, ⟨w', S⟩, p3, p4⟩ := run4 (fun x => l5_6 FUEL (fun x197 => match p9b FUEL x197 with
    | some z198 => match p12 FUEL () with
      | some z199 => bif z199 then bif decide (z198.1 = 0) then some (decide (((List.length z198.2 : Nat) : Int) = ((List.length x197 : Nat) : Int))) else some false else some false
      | none => none
    | none => none) FUEL (x.1, 0, x.2))
  refine p4.trans ?_
  obtain ⟨g, p, e⟩ := l5_6_run (R := Bool) (fun x197 => match p9b FUEL x197 with
    | some z198 => match p12 FUEL () with
      | some z199 => bif z199 then bif decide (z198.1 = 0) then some (decide (((List.length z198.2 : Nat) : Int) = ((List.length x197 : Nat) : Int))) else some false else some false
      | none => none
    | none => none) mix (by omega) (fun x hx => wf_i64 (wm.2 x hx)) FUEL 0 h' (by omega)
  refine e.trans ?_
  have hg : g.length ≤ 60 := by rw [p.length_eq]; omega
  have hgi : ∀ d ∈ g, d.2.2.2.length ≤ 3000000000000 := fun d hd => by
    rcases p3 d (p.mem_iff.1 hd) with k | k
    · cases k
    · omega
  have code : (ordB g).1 = 0 := by rw [perm_code p]; exact ser_code S p1
  simp only [same9b, p9_eq g hg hgi, p12_eq, cond_true, code, ordB_full code, decide_true]
end Go.Am.Ytmilfdplgemnfaa
