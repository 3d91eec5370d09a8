/- Plain law of the top rows: TopSlides. -/
import Derived.Test.YtioacppahkhbhaaTSlides
namespace Go.Am.Ytioacppahkhbhaa
open Runs
abbrev XT := Int × (List Int × List Int)

theorem give_loop {K0 : Bool → Option Bool} {K1 : Int × Tab → Option Bool} (n : Nat) (h0 : 4 ≤ n) (h1 : n ≤ 12) (x : XT) (ha : ∀ y ∈ x.2.1, -9223372036854775808 ≤ y ∧ y < 9223372036854775808) (hb : ∀ y ∈ x.2.2, -9223372036854775808 ≤ y ∧ y < 9223372036854775808)
    (hK : ∀ (t : Tab) (f : Nat → Nat) (L : List Int), TI n t f L → t.1 ≤ 41 → K1 ((n : Int), t) = some true) : ∀ (m i : Nat) (t : Tab) (f : Nat → Nat) (L : List Int), 40 - i < m → i ≤ 40 → TI n t f L → t.1 ≤ 1 + (i : Int) →
    l3_0 FUEL K0 K1 m ((n : Int), (i : Int), x, t) = some true := by
  intro m
  induction m with
  | zero => intro i t f L h; omega
  | succ m ih =>
    intro i t f L hm hi I hv
    by_cases e1 : i < x.2.1.length
    · refine (condT (decide_eq_true (show (i : Int) < ((x.2.1.length : Nat) : Int) by omega))).trans ?_
      by_cases e2 : i < x.2.2.length
      · refine (condT (decide_eq_true (show (i : Int) < ((x.2.2.length : Nat) : Int) by omega))).trans ?_
        by_cases e3 : i < 40
        · refine (condT (decide_eq_true (show (i : Int) < 40 by omega))).trans ?_
          obtain ⟨a1, a2⟩ := ha _ (List.getElem_mem e1)
          obtain ⟨b1, b2⟩ := hb _ (List.getElem_mem e2)
          obtain ⟨r, er, r0, r1⟩ := share_run x.2.1[i] (n : Int) a1 a2 (by omega)
          obtain ⟨h, rfl⟩ := Int.eq_ofNat_of_zero_le r0
          have hh : h < n := by omega
          have hl := I.neck.len
          have hm' := I.neck.most hh
          have pr : (0 : Int) ≤ (h : Int) ∧ (h : Int) < ((L.length : Nat) : Int) := by omega
          simp only [if_pos (Int.natCast_nonneg i), Int.toNat_natCast, List.getElem?_eq_getElem e1, List.getElem?_eq_getElem e2, er, loads_run I.neck I.good.owner, if_pos pr, g_some (show h < L.length by omega), wrapNext i (by omega)]
          by_cases c : g L h < 2
          · rw [decide_eq_true c]
            exact ih (i + 1) t f L (by omega) (by omega) I (by omega)
          · rw [decide_eq_false c, cond_false, if_neg (show ¬ (n : Int) = 0 by omega), wrapI (n := g L h - 1) (by omega) (by omega)]
            obtain ⟨z, ez, z0, z1⟩ := share_run x.2.2[i] (g L h - 1) b1 b2 (by omega)
            have hne : h ≠ nxt n h := fun e => nxt_ne (n := n) (a := h) (by omega) e.symm
            obtain ⟨g1, g2⟩ := give_run I (by omega) hh (nxt_lt hh) hne (.inl rfl) (c := 1 + z) (by omega) (by omega)
            simp only [ez, tmod_nxt hh h1, wrapI (n := 1 + z) (by omega) (by omega), border_run I.neck I.good.owner hh 1 (c := 1 + z) (by omega) (by omega), g1, Bool.not_true, cond_false, decide_true]
            exact ih (i + 1) _ _ _ (by omega) (by omega) g2 (by show t.1 + 1 ≤ _; omega)
        · refine (condF (decide_eq_false (show ¬ (i : Int) < 40 by omega))).trans ?_
          exact hK t f L I (by omega)
      · refine (condF (decide_eq_false (show ¬ (i : Int) < ((x.2.2.length : Nat) : Int) by omega))).trans ?_
        exact hK t f L I (by omega)
    · refine (condF (decide_eq_false (show ¬ (i : Int) < ((x.2.1.length : Nat) : Int) by omega))).trans ?_
      exact hK t f L I (by omega)

theorem sum_loop {R : Type} (K : Int × Tab × List Int → Option R) (n : Nat) (hn : n ≤ 12) (t : Tab) (inc : List Int) (L : List Int) (hl : L.length = n) (h1 : ∀ x ∈ L, 0 ≤ x ∧ x ≤ 64) : ∀ (m k : Nat) (s : Int), n - k < m → k ≤ n → 0 ≤ s → s + sumF one (L.drop k) = 64 →
    l3_1 FUEL K m ((n : Int), s, (k : Int), t, inc, L) = K (64, t, inc) := by
  intro m
  induction m with
  | zero => intro k s h; omega
  | succ m ih =>
    intro k s hm hk s0 hs
    by_cases e : k < n
    · have hkl : k < L.length := by omega
      have hd : L.drop k = g L k :: L.drop (k + 1) := by rw [List.drop_eq_getElem_cons hkl, g_get hkl]
      rw [hd] at hs
      have hs : s + (g L k + sumF one (L.drop (k + 1))) = 64 := hs
      have hg := h1 _ (g_mem hkl)
      have h2 : 0 ≤ sumF one (L.drop (k + 1)) := sumF_nonneg fun x hx => (h1 x (List.mem_of_mem_drop hx)).1
      refine Eq.trans ?_ (ih (k + 1) (s + g L k) (by omega) (by omega) (by omega) (by omega))
      refine (condT (decide_eq_true (show (k : Int) < (n : Int) by omega))).trans ?_
      simp only [if_pos (show (0 : Int) ≤ (k : Int) ∧ (k : Int) < ((L.length : Nat) : Int) by omega), Int.toNat_natCast, g_some hkl, wrapI (n := s + g L k) (by omega) (by omega), wrapNext k (by omega)]
    · obtain rfl : k = n := by omega
      rw [List.drop_eq_nil_of_le (by omega)] at hs
      have : s = 64 := by
        have hs : s + 0 = 64 := hs
        omega
      subst this
      exact condF (decide_eq_false (Int.lt_irrefl _))

theorem same_loop {R : Type} {K0 : Bool → Option R} {K1 : Int × Int × Tab × List Int × Tab → Option R} (n : Nat) (hn : n ≤ 12) (i : Int) (t : Tab) (inc : List Int) (L : List Int) (hl : L.length = n) (u : Tab) (hu : u.2.2.2.1.length = 12) (here : ∀ k : Nat, k < n → nth u.2.2.2.1 (k : Int) = true) :
    l3_3 FUEL K0 K1 FUEL ((n : Int), i, 0, t, inc, L, u, L) = K1 ((n : Int), i, t, inc, u) := by
  have key := for_loop (S := Unit) (L := fun m y => l3_3 FUEL K0 K1 m y) (step := fun F => s3_3 FUEL F K0 K1) (fun n x => rfl)
    (fun k _ => ((n : Int), i, (k : Int), t, inc, L, u, L)) n (fun _ _ => True) (fun _ _ => .inr ()) (fun _ => K1 ((n : Int), i, t, inc, u))
    (fun F k _ hk _ => by
      have hm := nth_get (l := u.2.2.2.1) (i := (k : Int)) (by omega) (by omega)
      rw [Int.toNat_natCast, here k hk] at hm
      refine (condT (decide_eq_true (show (k : Int) < (n : Int) by omega))).trans ?_
      simp only [if_pos (show (0 : Int) ≤ (k : Int) ∧ (k : Int) < ((L.length : Nat) : Int) by omega), if_pos (show (0 : Int) ≤ (k : Int) ∧ (k : Int) < ((12 : Nat) : Int) by omega), Int.toNat_natCast, g_some (show k < L.length by omega), hm, decide_true, Bool.not_true, cond_false, wrapNext k (by omega)])
    (fun F _ _ => condF (decide_eq_false (Int.lt_irrefl _))) (fun _ _ _ _ _ _ => trivial) n 0 () FUEL (Nat.zero_add _) (by have := big; omega) trivial
  rw [forI_fold] at key
  exact key

theorem plan_cases (L : List Int) (h lo : Nat) : (planS L h lo).2.2 = 0 ∧ ((planS L h lo).2.1 = false ∨ ((planS L h lo).2.1 = true ∧ (planS L h lo).1.1 ≠ 1) ∨
    ((planS L h lo).2.1 = true ∧ 2 * g L (nearS L h) < g L h ∧ (planS L h lo).1 = (1, ((h : Int), ((nearS L h : Int), (g L h - g L (nearS L h)) / 2))))) := by
  unfold planS
  cases calmS L h lo with
  | true => exact ⟨rfl, .inl rfl⟩
  | false =>
    simp only [cond_false]
    unfold restS
    by_cases d : 2 * g L (nearS L h) < g L h
    · rw [decide_eq_true d]
      exact ⟨rfl, .inr (.inr ⟨rfl, d, rfl⟩)⟩
    · rw [decide_eq_false d]
      simp only [cond_false]
      cases (!besideS L.length h lo && decide (4 * (g L (nxt L.length lo) + g L lo) ≤ 3 * g L h)) with
      | true => exact ⟨rfl, .inr (.inl ⟨rfl, (by show (2 : Int) ≠ 1; decide)⟩)⟩
      | false => exact ⟨rfl, .inl rfl⟩

theorem plan_head (fu : Nat) {K0 : Bool → Option Bool} {K1 : Unit → Option Bool} (hK0 : K0 true = some true) (n : Nat) (inc : List Int)
    (A7 : ∀ (t : Tab) (f : Nat → Nat) (L : List Int), TI n t f L → p7 fu (t, (n : Int)) = some L)
    (A10 : ∀ L : List Int, L.length ≤ 12 → fair L 1 12 = true → ∃ h lo, First L h lo ∧ p10 fu L = some (planS L h lo))
    (A1 : ∀ (K : Int × Tab × List Int → Option Bool) (t : Tab) (L : List Int), L.length = n → (∀ x ∈ L, 0 ≤ x ∧ x ≤ 64) → sumF one L = 64 → l3_1 fu K fu ((n : Int), 0, 0, t, inc, L) = K (64, t, inc))
    (A11 : ∀ (L : List Int) (m : MV), fair L 1 12 = true → p11 fu (L, m) = some (applyS L m))
    (A8 : ∀ (t : Tab) (f : Nat → Nat) (L : List Int) (h to : Nat) (c : Int), TI n t f L → h < n → 1 ≤ c → c < g L h → p8 fu (t, (1, ((h : Int), ((to : Int), c))), (n : Int)) = some (gives n f L h to c, true))
    (A9 : ∀ (t : Tab) (f : Nat → Nat) (L : List Int) (h to : Nat) (c : Int), TI n t f L → t.1 < 2147483647 → h < n → to < n → h ≠ to → (nxt n h = to ∨ nxt n to = h) → 1 ≤ c → c < g L h →
      p9 fu (t, (2, ((to : Int), ((h : Int), (gives n f L h to c, (0, 0)))))) = some (after t n f L h to c, 0) ∧ TI n (after t n f L h to c) (moved n f h to c) (slideS L h to c))
    (A3 : ∀ (K0 : Bool → Option Bool) (K1 : Int × Int × Tab × List Int × Tab → Option Bool) (i : Int) (t : Tab) (L : List Int) (u : Tab), L.length = n → u.2.2.2.1.length = 12 → (∀ k : Nat, k < n → nth u.2.2.2.1 (k : Int) = true) → l3_3 fu K0 K1 fu ((n : Int), i, 0, t, inc, L, u, L) = K1 ((n : Int), i, t, inc, u)) : ∀ (m i : Nat) (t : Tab) (f : Nat → Nat) (L : List Int), 1600 - i < m → TI n t f L → t.1 ≤ 41 + (i : Int) → t.2.2.1 = inc → sumF sq L + 4 * (i : Int) ≤ 4096 →
    l3_5 fu K0 K1 m ((n : Int), (i : Int), t, inc) = some true := by
  intro m
  induction m with
  | zero => intro i t f L h; omega
  | succ m ih =>
    intro i t f L hm I hv hinc hQ
    have N := I.neck
    have hn := N.few
    have hl := N.len
    have hfair := N.fair
    obtain ⟨f1, f2, fb⟩ := fair_12 hfair
    have hq0 := sumQ_nonneg L
    have hi : i < 1600 := by omega
    obtain ⟨h, lo, F, e10⟩ := A10 L (by omega) hfair
    obtain ⟨p1, p2⟩ := plan_cases L h lo
    have hsm : ∀ y ∈ L, 0 ≤ y ∧ y ≤ 64 := fun y hy => by
      obtain ⟨k, hk, e⟩ := mem_g hy
      have h1 := N.one_ k (by omega)
      have h2 := N.most (k := k) (by omega)
      rw [← e]; omega
    -- the end
    have done : ∀ (k1 : Int × Int × Tab × List Int × List Int × MV → Option Bool) (mv : MV), j3_2 fu K0 k1 ((n : Int), (i : Int), true, t, inc, L, mv) = some true := by
      intro k1 mv
      simp only [j3_2, cond_true]
      rw [A1 _ t L hl hsm N.all]
      simp only [decide_true, cond_true]
      rw [hinc, eqB_self (.arr 64 (.int .u32)) rfl]; exact hK0
    show s3_5 fu (l3_5 fu K0 K1 m) K0 K1 _ = _
    simp only [s3_5]
    rw [decide_eq_true (show (i : Int) < 1600 by omega)]
    simp only [cond_true, A7 t f L I, e10, p1, decide_true, Bool.not_true, cond_false]
    rcases p2 with p2 | ⟨p2, p3⟩ | ⟨p2, p3, p4⟩
    · rw [p2]
      refine (condT (show (!false) = true from rfl)).trans ?_
      exact done _ _
    · rw [p2, decide_eq_false p3]
      refine (condF (show (!true) = false from rfl)).trans ?_
      exact done _ _
    · -- a slide
      have hP := planned hfair F p2
      obtain ⟨M, ha, hq⟩ := hP
      have bh := g_bound fb F.hl
      have hnear := nearS_lt F.hl
      have bn := g_bound fb hnear
      have hh : h < n := by have := F.hl; omega
      have ht : nearS L h < n := by omega
      have hne : h ≠ nearS L h := by
        intro e; rw [← e] at p3; omega
      have side : nxt n h = nearS L h ∨ nxt n (nearS L h) = h := by
        unfold nearS
        cases decide (g L (nxt L.length h) < g L (prv L.length h)) with
        | true => left; rw [hl]; rfl
        | false => right; rw [hl]; exact (prv_nxt hh (prv_lt hh)).1 rfl
      rw [p4] at M hq
      have hc1 : 1 ≤ (g L h - g L (nearS L h)) / 2 := by omega
      have hc2 : (g L h - g L (nearS L h)) / 2 < g L h := by omega
      have e11 := A11 L (1, ((h : Int), ((nearS L h : Int), (g L h - g L (nearS L h)) / 2))) hfair
      have eA : applyS L (1, ((h : Int), ((nearS L h : Int), (g L h - g L (nearS L h)) / 2))) = (0, slideS L h (nearS L h) ((g L h - g L (nearS L h)) / 2)) := by
        unfold applyS; rw [M.goes]; rfl
      rw [eA] at e11
      have hd : doneS L (1, ((h : Int), ((nearS L h : Int), (g L h - g L (nearS L h)) / 2))) = slideS L h (nearS L h) ((g L h - g L (nearS L h)) / 2) := rfl
      rw [hd] at hq
      obtain ⟨g1, g2⟩ := A9 t f L h (nearS L h) _ I (by omega) hh ht hne side hc1 hc2
      have hb := A8 t f L h (nearS L h) _ I hh hc1 hc2
      -- the squares fall
      have hsum := sum_le (l := L) (a := g L h) (fun y hy => by obtain ⟨k, hk, e⟩ := mem_g hy; rw [← e]; exact F.most k hk)
      have hlm : (L.length : Int) * g L h ≤ 12 * g L h := Int.mul_le_mul_of_nonneg_right (by omega) bh.1
      rw [N.all] at hsum
      have h6 : 6 * 6 ≤ g L h * g L h := Int.mul_le_mul (by omega) (by omega) (by omega) (by omega)
      rw [p2, p4]
      simp only [Bool.not_true, cond_false, decide_true, j3_2, j3_4, e11, hb, g1, A7 _ _ _ g2]
      rw [A3 _ _ (i : Int) t _ _ (by rw [slide_len]; exact hl) g2.good.member g2.here]
      simp only [wrapNext i (by omega)]
      exact ih (i + 1) _ _ _ (by omega) g2 (by show t.1 + 1 ≤ _; omega) hinc (by omega)

theorem plan_loop {K0 : Bool → Option Bool} {K1 : Unit → Option Bool} (hK0 : K0 true = some true) (n : Nat) (hn : n ≤ 12) (inc : List Int) (t : Tab) (f : Nat → Nat) (L : List Int) (I : TI n t f L) (hv : t.1 ≤ 41) (hinc : t.2.2.1 = inc) (hQ : sumF sq L ≤ 4096) :
    l3_5 FUEL K0 K1 FUEL ((n : Int), 0, t, inc) = some true :=
  plan_head FUEL hK0 n inc (fun t f L I => loads_run I.neck I.good.owner) (fun L h f => plan14 (by omega) f)
    (fun K t L hl h1 hs => sum_loop K n hn t inc L hl h1 FUEL 0 0 (by have := big; omega) (Nat.zero_le _) (Int.le_refl _) (by rw [List.drop_zero]; omega))
    (fun L m f => by
      obtain ⟨f1, f2, fb⟩ := fair_12 f
      exact apply15 f2 fb f1 m f)
    (fun t f L h to c I hh c1 c2 => border_run I.neck I.good.owner hh 1 c1 c2)
    (fun t f L h to c I hv hh ht hne side c1 c2 => give_run I hv hh ht hne side c1 c2)
    (fun K0 K1 i t L u hl hu here => same_loop n hn i t inc L hl u hu here)
    FUEL 0 t f L (by have := big; omega) I (by omega) hinc (by omega)

theorem topSlides (x : XT) (w : Ty.wr (.pair (.int .i64) (.pair (.slice (.int .i64)) (.slice (.int .i64)))) x) : p3 FUEL x = some true := by
  have hn := wf_i64 (Ty.wr.wf (.int .i64) w.1)
  have ha : ∀ y ∈ x.2.1, -9223372036854775808 ≤ y ∧ y < 9223372036854775808 := fun y hy => wf_i64 (Ty.wr.wf (.int .i64) (w.2.1.2 y hy))
  have hb : ∀ y ∈ x.2.2, -9223372036854775808 ≤ y ∧ y < 9223372036854775808 := fun y hy => wf_i64 (Ty.wr.wf (.int .i64) (w.2.2.2 y hy))
  obtain ⟨r, er, r0, r1⟩ := share_run x.1 9 hn.1 hn.2 (by omega)
  obtain ⟨k, rfl⟩ := Int.eq_ofNat_of_zero_le r0
  have hw : IntKind.wrap .i64 (4 + (k : Int)) = ((4 + k : Nat) : Int) := by rw [wrapI (by omega) (by omega)]; omega
  have fin := give_loop (K0 := fun x16 => some x16) (K1 := fun (x17, x18) => (l3_5 FUEL (fun x93 => (some x93)) (fun _ => (some false)) FUEL (x17, (0 : Int), x18, x18.2.2.1))) (4 + k) (by omega) (by omega) x ha hb
    (fun t f L I hv => by
      have hQ : sumF sq L ≤ 4096 := by
        have h1 := sumQ_le (l := L) fun y hy => by
          obtain ⟨i, hi, e⟩ := mem_g hy
          have := I.neck.one_ i (by have := I.neck.len; omega)
          rw [← e]; omega
        rw [I.neck.all] at h1
        exact h1
      exact plan_loop (K0 := fun x93 => some x93) (K1 := fun _ => some false) rfl (4 + k) (by omega) t.2.2.1 t f L I hv rfl hQ)
    FUEL 0 (newN (4 + k)) (f0 (4 + k)) (L0 (4 + k)) (by have := big; omega) (by omega) (first (by omega) (by omega)) (by show (1 : Int) ≤ 1 + ((0 : Nat) : Int); omega)
  simp only [p3, er, hw, p6_eq (4 + k) (by omega) (by omega), decide_true, Bool.not_true, cond_false]
  exact fin
end Go.Am.Ytioacppahkhbhaa
