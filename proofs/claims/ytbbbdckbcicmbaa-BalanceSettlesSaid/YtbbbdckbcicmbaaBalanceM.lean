/- Plain law of the printed functions of balance: moves keep the sum, lessen the squares, and end (BalanceSettles). -/
import Derived.Test.YtbbbdckbcicmbaaBalanceL
namespace Go.Am.Ytbbbdckbcicmbaa
theorem fine_loop {R : Type} {l : List Int} (hn : l.length ≤ 12) (hb : ∀ x ∈ l, 0 ≤ x ∧ x ≤ 2147483647) (K0 : Bool → Option R) (K1 : List Int × Int × List MV × List Int → Option R) (e : Int) (mv : List MV) (en : List Int) :
    l6_2 FUEL K0 K1 FUEL (l, e, 0, mv, en) = K1 (l, e, mv, en) := by
  have key := for_loop (S := Unit) (L := fun n y => l6_2 FUEL K0 K1 n y) (step := fun F => s6_2 FUEL F K0 K1) (fun n x => rfl)
    (fun i _ => (l, e, (i : Int), mv, en)) l.length (fun _ _ => True) (fun _ _ => .inr ()) (fun _ => K1 (l, e, mv, en))
    (fun F i _ hi _ => by
      have bx := g_bound hb hi
      refine (condT (decide_eq_true (show (i : Int) < ((l.length : Nat) : Int) by omega))).trans ?_
      simp only [if_pos (Int.natCast_nonneg i), Int.toNat_natCast, g_some hi, j6_1, wrapNext i (by omega)]
      rw [decide_eq_false (show ¬ g l i < 0 by omega), decide_eq_false (show ¬ 2147483647 < g l i by omega)]; rfl)
    (fun F _ _ => condF (decide_eq_false (Int.lt_irrefl _))) (fun _ _ _ _ _ _ => trivial) l.length 0 () FUEL (Nat.zero_add _) (by have := big; omega) trivial
  rw [forI_fold] at key
  exact key
theorem bad_loop {R : Type} {l : List Int} (hn : l.length ≤ 12) (K0 : Bool → Option R) (K1 : List Int × Int × List MV × List Int → Option R) : ∀ (n i : Nat), l.length - i < n → (∃ j, i ≤ j ∧ j < l.length ∧ (g l j < 0 ∨ 2147483647 < g l j)) →
    l6_2 FUEL K0 K1 n (l, 171, (i : Int), [], []) = K0 true := by
  intro n
  induction n with
  | zero => intro i h; omega
  | succ n ih =>
    intro i h ⟨j, hij, hj, hbad⟩
    have e : i < l.length := by omega
    refine (condT (decide_eq_true (show (i : Int) < ((l.length : Nat) : Int) by omega))).trans ?_
    simp only [if_pos (Int.natCast_nonneg i), Int.toNat_natCast, g_some e, j6_1, wrapNext i (by omega)]
    by_cases a : g l i < 0
    · rw [decide_eq_true a]; rfl
    · rw [decide_eq_false a]
      by_cases b : 2147483647 < g l i
      · rw [decide_eq_true b]; rfl
      · rw [decide_eq_false b]
        have : i ≠ j := by intro c; subst c; omega
        exact ih (i + 1) (by omega) ⟨j, by omega, hj, hbad⟩

theorem chain_loop {R : Type} (K0 : Bool → Option R) (K1 : List Int × List Int → Option R) (l0 : List Int) (en : List Int) (moves : List MV) (hm : moves.length ≤ 1152) : ∀ (ms : List MV) (now : List Int) (i n : Nat), moves.drop i = ms → i ≤ moves.length → now.length = l0.length → chain now ms en → ms.length < n →
    l6_3 FUEL K0 K1 n (l0, now, (i : Int), moves, en) = K1 (en, en) := by
  intro ms
  induction ms with
  | nil =>
    intro now i n hd hi hl hc hn
    obtain ⟨n, rfl⟩ : ∃ k, n = k + 1 := ⟨n - 1, by omega⟩
    have : now = en := hc
    subst this
    have : moves.length ≤ i := by
      have := congrArg List.length hd
      rw [List.length_drop, List.length_nil] at this; omega
    exact condF (decide_eq_false (show ¬ (i : Int) < ((moves.length : Nat) : Int) by omega))
  | cons m ms ih =>
    intro now i n hd hi hl hc hn
    obtain ⟨n, rfl⟩ : ∃ k, n = k + 1 := ⟨n - 1, by omega⟩
    rw [List.length_cons] at hn
    have hlen := congrArg List.length hd
    rw [List.length_drop, List.length_cons] at hlen
    have hlt : i < moves.length := by omega
    rw [List.drop_eq_getElem_cons hlt] at hd
    have h1 := (List.cons.inj hd).1
    have h2 := (List.cons.inj hd).2
    obtain ⟨st, hc⟩ := hc
    obtain ⟨n1, nn, nb⟩ := fair_12 st.was
    obtain ⟨d1, dn, db⟩ := fair_12 st.fair
    have e15 := apply15 nn nb n1 m st.was
    have eA : applyS now m = (0, doneS now m) := by unfold applyS; rw [st.goes]; rfl
    rw [eA] at e15
    obtain ⟨a1, a2, s1, s2, s3, s4⟩ := sums_run nn nb
    obtain ⟨b1, b2, t1, t2, t3, t4⟩ := sums_run dn db
    obtain ⟨M, m1, m2, m3, m4⟩ := most_run (l := now) nn
    obtain ⟨M', k1, k2, k3, k4⟩ := most_run (l := doneS now m) dn
    have hless := st.less
    have hM : M' ≤ M := by
      rcases k4 with k4 | k4
      · omega
      · obtain ⟨y, hy, hxy⟩ := st.most _ k4
        have := m3 y hy; omega
    have hrest := ih (doneS now m) (i + 1) n h2 (by omega) (by rw [st.len]; exact hl) hc (by omega)
    refine Eq.trans ?_ hrest
    refine (condT (decide_eq_true (show (i : Int) < ((moves.length : Nat) : Int) by omega))).trans ?_
    have hdl : (doneS now m).length = l0.length := by rw [st.len]; exact hl
    simp only [if_pos (show (0 : Int) ≤ (i : Int) ∧ (i : Int) < ((moves.length : Nat) : Int) by omega), Int.toNat_natCast, List.getElem?_eq_getElem hlt, h1, apply15b, e15, sums_b, most_b, s1, t1, m1, k1, st.sum, hdl, decide_true, Bool.not_true, cond_false, wrapNext i (by omega)]
    rw [decide_eq_false (show ¬ a1 < b1 by omega), decide_eq_false (show ¬ M < M' by omega)]
    by_cases c : b1 = a1
    · rw [decide_eq_true c, decide_eq_false (show ¬ a2 ≤ b2 by omega)]; rfl
    · rw [decide_eq_false c]; rfl

theorem same_run2 (l : List Int) (hl : l.length ≤ 12) : p18c FUEL (l, l) = some true := by
  have key := for_loop (S := Unit) (L := fun n y => l18c_0 FUEL (fun x9 => some x9) (fun _ => some true) n y) (step := fun F => s18c_0 FUEL F (fun x9 => some x9) (fun _ => some true)) (fun n x => rfl)
    (fun i _ => (l, l, (i : Int))) l.length (fun _ _ => True) (fun _ _ => .inr ()) (fun _ => some true)
    (fun F i _ hi _ => by
      refine (condT (decide_eq_true (show (i : Int) < ((l.length : Nat) : Int) by omega))).trans ?_
      simp only [if_pos (Int.natCast_nonneg i), Int.toNat_natCast, g_some hi, decide_true, Bool.not_true, cond_false, wrapNext i (by omega)])
    (fun F _ _ => condF (decide_eq_false (Int.lt_irrefl _))) (fun _ _ _ _ _ _ => trivial) l.length 0 () FUEL (Nat.zero_add _) (by have := big; omega) trivial
  rw [forI_fold] at key
  simp only [p18c, decide_true, Bool.not_true, cond_false]
  exact key

theorem end_loop {R : Type} {l : List Int} (hn : l.length ≤ 12) (K : Int × Int × List Int → Option R) : ∀ (n i h : Nat) (m : Int), l.length - i < n → i ≤ l.length → h < l.length → (∀ j, j < i → g l j ≤ g l h) → (∀ j, j < h → g l j < g l h) → (∀ j, j < i → m ≤ g l j) → (∃ j, j < l.length ∧ g l j = m) →
    ∃ (h' : Nat) (m' : Int), l6_5 FUEL K n ((h : Int), m, (i : Int), l) = K ((h' : Int), m', l) ∧ h' < l.length ∧ (∀ j, j < l.length → g l j ≤ g l h') ∧ (∀ j, j < h' → g l j < g l h') ∧ (∀ j, j < l.length → m' ≤ g l j) ∧ ∃ j, j < l.length ∧ g l j = m' := by
  intro n
  induction n with
  | zero => intro i h m a; omega
  | succ n ih =>
    intro i h m a hi hh m1 m2 m3 m4
    by_cases e : i < l.length
    · have hs : l6_5 FUEL K (n + 1) ((h : Int), m, (i : Int), l) = l6_5 FUEL K n (((bif decide (g l h < g l i) then i else h : Nat) : Int), (if g l i < m then g l i else m), ((i + 1 : Nat) : Int), l) := by
        refine (condT (decide_eq_true (show (i : Int) < ((l.length : Nat) : Int) by omega))).trans ?_
        simp only [j6_4, if_pos (show (0 : Int) ≤ (i : Int) ∧ (i : Int) < ((l.length : Nat) : Int) by omega), if_pos (show (0 : Int) ≤ (h : Int) ∧ (h : Int) < ((l.length : Nat) : Int) by omega), Int.toNat_natCast, g_some e, g_some hh, wrapNext i (by omega)]
        cases decide (g l h < g l i) <;> rfl
      rw [hs]
      refine ih (i + 1) _ _ (by omega) (by omega) ?_ ?_ ?_ ?_ ?_
      · cases decide (g l h < g l i)
        · exact hh
        · exact e
      · intro j hj
        by_cases c : g l h < g l i
        · rw [decide_eq_true c]
          by_cases d : j = i
          · subst d; exact Int.le_refl _
          · have := m1 j (by omega); show g l j ≤ g l i; omega
        · rw [decide_eq_false c]
          by_cases d : j = i
          · subst d; show g l j ≤ g l h; omega
          · exact m1 j (by omega)
      · intro j hj
        by_cases c : g l h < g l i
        · rw [decide_eq_true c] at hj ⊢
          have := m1 j hj; show g l j < g l i; omega
        · rw [decide_eq_false c] at hj ⊢
          exact m2 j hj
      · intro j hj
        by_cases d : j = i
        · subst d; split <;> omega
        · have := m3 j (by omega); split <;> omega
      · split
        · exact ⟨i, e, rfl⟩
        · exact m4
    · obtain rfl : i = l.length := by omega
      exact ⟨h, m, condF (decide_eq_false (Int.lt_irrefl _)), hh, m1, m2, m3, m4⟩

theorem calm_end {l : List Int} (hn : l.length ≤ 12) (hb : ∀ x ∈ l, 0 ≤ x ∧ x ≤ 2147483647) (E : Ends l) {h : Nat} {m : Int} (hh : h < l.length) (h1 : ∀ j, j < l.length → g l j ≤ g l h) (h2 : ∀ j, j < h → g l j < g l h) (h3 : ∀ j, j < l.length → m ≤ g l j) (h4 : ∃ j, j < l.length ∧ g l j = m) :
    g l h < 2 ∨ g l h ≤ 2 * m ∨ (g l h ≤ 2 * g l (nxt l.length h) ∧ g l h ≤ 2 * g l (prv l.length h)) := by
  obtain ⟨h0, lo, F, his⟩ := E
  have e : h0 = h := by
    rcases Nat.lt_trichotomy h0 h with c | c | c
    · have := h2 h0 c; have := F.most h hh; omega
    · exact c
    · have := F.first h c; have := h1 h0 F.hl; omega
  subst e
  have elo : g l lo = m := by
    obtain ⟨j, hj, e⟩ := h4
    have := h3 lo F.lol; have := F.least j hj; omega
  have bh := g_bound hb hh
  unfold planS at his
  cases hc : calmS l h0 lo with
  | true =>
    unfold calmS at hc
    simp only [Bool.or_eq_true, decide_eq_true_eq] at hc
    rcases hc with c | c | c
    · obtain ⟨j, hj, e⟩ := h4
      have : j = h0 := by omega
      subst this
      right; left; omega
    · exact .inl c
    · right; left; omega
  | false =>
    rw [hc] at his
    simp only [cond_false] at his
    unfold restS at his
    by_cases d : 2 * g l (nearS l h0) < g l h0
    · rw [decide_eq_true d] at his; cases his
    · right; right
      unfold nearS at d
      by_cases c : g l (nxt l.length h0) < g l (prv l.length h0)
      · rw [decide_eq_true c] at d
        simp only [cond_true] at d
        omega
      · rw [decide_eq_false c] at d
        simp only [cond_false] at d
        omega

theorem settle_head (f : Nat) (l : List Int) (ms : List MV) (en : List Int) (own : List Int) (A : p7 f () = some true) (B : p10 f l = some (0, l.length, own)) (T : List.take l.length (List.drop 0 own) = l) (C : p19 f l = some (0, ms, en)) (D : p13 f (0, l.length, l, own) = some (true, own)) (h1 : 1 ≤ l.length) (hn : l.length ≤ 12)
    (E : j6_6 f (fun x => some x) (l, 0, ms, en) = some true) : p6 f l = some true := by
  simp only [p6, A, B, T, C, D, Bool.not_true, cond_false]
  rw [decide_eq_false (show ¬ ((l.length : Nat) : Int) < 1 by omega), decide_eq_false (show ¬ (12 : Int) < ((l.length : Nat) : Int) by omega)]
  exact E

theorem settles (l : List Int) (w : Ty.wr (.slice (.int .i64)) l) : p6 FUEL l = some true := by
  have hl : l.length * 8 ≤ 140737488351232 := w.1.2
  cases fr : fair l 1 12 with
  | false =>
    have e19 : p19 FUEL l = some (171, [], []) := by simp only [p19, p22_eq l (by omega), fr]; rfl
    simp only [p6, p7_eq, p10_eq l (by omega), take_own, e19, p13_eq l (by omega), Bool.not_true, cond_false, j6_0, j6_6]
    by_cases a : ((l.length : Nat) : Int) < 1
    · rw [decide_eq_true a]; rfl
    · rw [decide_eq_false a]
      by_cases b : (12 : Int) < ((l.length : Nat) : Int)
      · rw [decide_eq_true b]; rfl
      · rw [decide_eq_false b]
        have hbad : ∃ j, 0 ≤ j ∧ j < l.length ∧ (g l j < 0 ∨ 2147483647 < g l j) := by
          unfold fair at fr
          rw [decide_eq_true (show (1 : Int) ≤ (l.length : Int) by omega), decide_eq_true (show (l.length : Int) ≤ 12 by omega), Bool.true_and, Bool.true_and] at fr
          have fr : l.any bad = true := by simpa using fr
          obtain ⟨x, hx, hxb⟩ := List.any_eq_true.1 fr
          obtain ⟨j, hj, e⟩ := mem_g hx
          unfold bad at hxb
          simp only [Bool.or_eq_true, decide_eq_true_eq] at hxb
          exact ⟨j, Nat.zero_le _, hj, by rw [e]; exact hxb⟩
        simp only [cond_false]
        exact bad_loop (by omega) _ _ FUEL 0 (by have := big; omega) hbad
  | true =>
    obtain ⟨h1, hn, hb⟩ := fair_12 fr
    obtain ⟨ms, en, e19, hch, hend, fe, hms⟩ := settled fr
    obtain ⟨e1, e12, eb⟩ := fair_12 fe
    refine settle_head FUEL l ms en _ p7_eq (p10_eq l (by omega)) (take_own l) e19 (p13_eq l (by omega)) h1 hn ?_
    simp only [j6_6]
    rw [fine_loop hn hb]
    simp only [decide_true, Bool.not_true, cond_false]
    rw [decide_eq_false (show ¬ (1500 : Int) < ((ms.length : Nat) : Int) by omega)]
    simp only [cond_false]
    rw [show (0 : Int) = ((0 : Nat) : Int) from rfl, chain_loop _ _ l en ms (by omega) ms l 0 FUEL rfl (Nat.zero_le _) rfl hch (by have := big; omega)]
    simp only [same_run2 en e12, Bool.not_true, cond_false]
    obtain ⟨h', m', r1, r2, r3, r4, r5, r6⟩ := end_loop (l := en) e12 (fun (x93, x94, x95) => (if 0 ≤ x93 ∧ x93 < ((List.length x95 : Nat) : Int) then (match (x95)[(Int.toNat x93)]? with | some y96 => (bif (decide (y96 < (2 : Int))) then (some true) else (if 0 ≤ x93 ∧ x93 < ((List.length x95 : Nat) : Int) then (match (x95)[(Int.toNat x93)]? with | some y97 => (bif (decide (y97 ≤ (IntKind.wrap .i64 ((2 : Int) * x94)))) then (some true) else (if 0 ≤ x93 ∧ x93 < ((List.length x95 : Nat) : Int) then (match (x95)[(Int.toNat x93)]? with | some y98 => (if ((List.length x95 : Nat) : Int) = 0 then none else let v99 := (Int.tmod (IntKind.wrap .i64 (x93 + (1 : Int))) ((List.length x95 : Nat) : Int)); (if 0 ≤ v99 ∧ v99 < ((List.length x95 : Nat) : Int) then (match (x95)[(Int.toNat v99)]? with | some y100 => (bif (decide (y98 ≤ (IntKind.wrap .i64 ((2 : Int) * y100)))) then (if 0 ≤ x93 ∧ x93 < ((List.length x95 : Nat) : Int) then (match (x95)[(Int.toNat x93)]? with | some y101 => let v102 := (IntKind.wrap .i64 ((IntKind.wrap .i64 (x93 + ((List.length x95 : Nat) : Int))) - (1 : Int))); (if ((List.length x95 : Nat) : Int) = 0 then none else (if 0 ≤ (Int.tmod v102 ((List.length x95 : Nat) : Int)) ∧ (Int.tmod v102 ((List.length x95 : Nat) : Int)) < ((List.length x95 : Nat) : Int) then (match (x95)[(Int.toNat (Int.tmod v102 ((List.length x95 : Nat) : Int)))]? with | some y103 => (some (decide (y101 ≤ (IntKind.wrap .i64 ((2 : Int) * y103))))) | none => none) else none)) | none => none) else none) else (some false)) | none => none) else none)) | none => none) else none)) | none => none) else none)) | none => none) else none)) FUEL 0 0 (g en 0) (by have := big; omega) (Nat.zero_le _) (by omega) (fun j hj => absurd hj (Nat.not_lt_zero _)) (fun j hj => absurd hj (Nat.not_lt_zero _)) (fun j hj => absurd hj (Nat.not_lt_zero _)) ⟨0, by omega, rfl⟩
    have c0 : ((0 : Nat) : Int) ≤ ((0 : Nat) : Int) ∧ ((0 : Nat) : Int) < ((en.length : Nat) : Int) := by omega
    rw [if_pos c0, show Int.toNat ((0 : Nat) : Int) = 0 from rfl, g_some (show 0 < en.length by omega)]
    refine Eq.trans r1 ?_
    have hx := nxt_lt r2
    have hp := prv_lt r2
    have bh := g_bound eb r2
    have bx := g_bound eb hx
    have bp := g_bound eb hp
    have bm : 0 ≤ m' ∧ m' ≤ 2147483647 := by obtain ⟨j, hj, e⟩ := r6; rw [← e]; exact g_bound eb hj
    have hfin := calm_end e12 eb hend r2 r3 r4 r5 r6
    simp only [if_pos (show (0 : Int) ≤ (h' : Int) ∧ (h' : Int) < ((en.length : Nat) : Int) by omega), Int.toNat_natCast, g_some r2, tmod_nxt r2 e12, tmod_prv r2 e12, if_neg (show ¬ ((en.length : Nat) : Int) = 0 by omega), if_pos (show (0 : Int) ≤ ((nxt en.length h' : Nat) : Int) ∧ ((nxt en.length h' : Nat) : Int) < ((en.length : Nat) : Int) by omega), if_pos (show (0 : Int) ≤ ((prv en.length h' : Nat) : Int) ∧ ((prv en.length h' : Nat) : Int) < ((en.length : Nat) : Int) by omega), g_some hx, g_some hp]
    rw [wrapI (n := 2 * m') (by omega) (by omega), wrapI (n := 2 * g en (nxt en.length h')) (by omega) (by omega), wrapI (n := 2 * g en (prv en.length h')) (by omega) (by omega)]
    by_cases a : g en h' < 2
    · rw [decide_eq_true a]; rfl
    · rw [decide_eq_false a]
      by_cases b : g en h' ≤ 2 * m'
      · rw [decide_eq_true b]; rfl
      · rw [decide_eq_false b]
        obtain ⟨k1, k2⟩ := (hfin.resolve_left a).resolve_left b
        rw [decide_eq_true k1, decide_eq_true k2]; rfl
end Go.Am.Ytbbbdckbcicmbaa
