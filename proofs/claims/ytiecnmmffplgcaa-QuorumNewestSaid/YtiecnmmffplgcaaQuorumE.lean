/- Any answers, in any order (QuorumPlays). -/
import Derived.Test.YtiecnmmffplgcaaQuorumD
namespace Go.Am.Ytiecnmmffplgcaa

theorem spoil_in {R : Type} (K : (List (Int × An) × Bool × Int × Int × Int × Int × List (Int × An) × List Nat × Nat × RS × (Int × An)) → Option R) (a : List (Int × An)) (b : Bool) (c d e f : Int) (m : List (Int × An)) (bs : List Nat) (clk : Nat) (w : RS) (o : Int × An) (u v x : Int) (l : LE)
    (hl : l.length < 9223372036854775807) : l5_5 FUEL K FUEL (a, b, c, d, 0, e, f, m, bs, clk, w, o, u, v, x, l) = K (a, b, c, d, e, f, m, bs, clk, w, o) := by
  have key := for_loop (S := LE) (R := R) (L := fun n y => l5_5 FUEL K n y) (step := fun F => s5_5 FUEL F K) (fun n x => rfl)
    (fun i s => (a, b, c, d, (i : Int), e, f, m, bs, clk, w, o, u, v, x, s)) l.length (fun _ s => s.length = l.length) (fun i s => .inr (s.set i ((⟨#[115, 112, 111, 105, 108, 116]⟩ : ByteArray), ByteArray.empty))) (fun _ => K (a, b, c, d, e, f, m, bs, clk, w, o))
    (fun F i s hi hs => by
      refine (condT (decide_eq_true (show ((i : Nat) : Int) < (s.length : Nat) by omega))).trans ?_
      rw [if_pos (by omega), Int.toNat_natCast, List.getElem?_eq_getElem (show i < s.length by omega)]
      simp only [wrapNext i (by omega)])
    (fun F s hs => by
      refine (condF (decide_eq_false (show ¬ ((l.length : Nat) : Int) < (s.length : Nat) by omega))).trans rfl)
    (fun i s s' hi hs h => by
      simp only [Sum.inr.injEq] at h
      subst h
      rw [List.length_set]; exact hs) l.length 0 l FUEL (Nat.zero_add _) (Nat.lt_trans hl (by unfold FUEL; decide)) rfl
  rw [forI_fold] at key
  exact key

theorem spoil_out {R : Type} (K : (List (Int × An) × Bool × Int × Int × Int × Bool × Bool × Int × Int × List (Int × An) × List Nat × Nat × RS) → Option R) (a : List (Int × An)) (b : Bool) (c d e : Int) (f g : Bool) (u v : Int) (m : List (Int × An)) (bs : List Nat) (clk : Nat) (w : RS) (l : LE)
    (hl : l.length < 9223372036854775807) : l5_6 FUEL K FUEL (a, b, c, d, e, f, g, 0, u, v, m, bs, clk, w, l) = K (a, b, c, d, e, f, g, u, v, m, bs, clk, w) := by
  have key := for_loop (S := LE) (R := R) (L := fun n y => l5_6 FUEL K n y) (step := fun F => s5_6 FUEL F K) (fun n x => rfl)
    (fun i s => (a, b, c, d, e, f, g, (i : Int), u, v, m, bs, clk, w, s)) l.length (fun _ s => s.length = l.length) (fun i s => .inr (s.set i ((⟨#[115, 112, 111, 105, 108, 116]⟩ : ByteArray), ByteArray.empty))) (fun _ => K (a, b, c, d, e, f, g, u, v, m, bs, clk, w))
    (fun F i s hi hs => by
      refine (condT (decide_eq_true (show ((i : Nat) : Int) < (s.length : Nat) by omega))).trans ?_
      rw [if_pos (by omega), Int.toNat_natCast, List.getElem?_eq_getElem (show i < s.length by omega)]
      simp only [wrapNext i (by omega)])
    (fun F s hs => by
      refine (condF (decide_eq_false (show ¬ ((l.length : Nat) : Int) < (s.length : Nat) by omega))).trans rfl)
    (fun i s s' hi hs h => by
      simp only [Sum.inr.injEq] at h
      subst h
      rw [List.length_set]; exact hs) l.length 0 l FUEL (Nat.zero_add _) (Nat.lt_trans hl (by unfold FUEL; decide)) rfl
  rw [forI_fold] at key
  exact key

theorem which_len (p : Int → Bool) : (whichOf p).length < 9223372036854775807 := Nat.lt_of_le_of_lt (List.length_filter_le _ _) (by decide)

theorem Ok.heard {m : List (Int × An)} {bs : List Nat} {clk : Nat} (o : Ok m bs clk) (k : Int) (a : An) (h : hd m k = some a) : goodA a := o.good (k, a) (mfind_mem (K := KT) (V := VT) same h)

/-- What both Results say, and that they say the same. -/
theorem both_results {m : List (Int × An)} {bs : List Nat} {clk : Nat} (o : Ok m bs clk) (b r : Int) : ∃ (t : Int) (v : Int) (l : List Int) (e : Int) (d : LE),
    p11 FUEL (b, r, m, bs, clk) = some (t, v, false, l, e, b, r, m, bs, clk, d) ∧ p17 FUEL (W b r (hd m)) = some (t, v, false, l, e, W b r (hd m), d) ∧ d.length < 9223372036854775807 := by
  by_cases h : m.length < 3
  · exact ⟨_, _, _, _, _, few_run h b r, rresult_few b r (hd m) (by rw [← o.len]; exact h), by decide⟩
  · refine ⟨_, _, _, _, _, result_run o (by omega) b r, rresult_run b r (hd m) o.heard (by rw [← o.len]; omega), ?_⟩
    obtain ⟨k, l, a, h1, h2, h3, h4, _⟩ := first_there o (by omega)
    have hdata : dataOf (hd m) = a.2.2.2 := by unfold dataOf; rw [h1]; simp only; rw [h2]
    rw [hdata]
    have := h4.2
    omega

abbrev OpT : Ty := .pair (.int .i64) VT
theorem wr_good {y : Int × An} (h : Ty.wr OpT y) : goodA y.2 := by
  obtain ⟨_, _, _, h3, h4⟩ := h
  refine ⟨(wf_u32 (Ty.wr.wf (.int .u32) h3)).1, ?_⟩
  have := h4.1.2
  have e : Ty.lo (.pair .str .str) = 32 := rfl
  rw [e] at this
  unfold reachBytes at this
  exact Nat.le_trans this (by decide)

theorem plays_loop (b r : Int) (L : List (Int × An)) (hL : ∀ y ∈ L, Ty.wr OpT y) (hlen : L.length < 9223372036854775807) (K0 : Bool → Option Bool) (K1 : Unit → Option Bool) :
    ∀ (k i n : Nat) (m : List (Int × An)) (bs : List Nat) (clk : Nat), Ok m bs clk → (L.length ≤ i + k ∨ 100 ≤ i + k) → k < n →
      l5_7 FUEL K0 K1 n (L, true, (i : Int), b, r, m, bs, clk, W b r (hd m)) = K1 () := by
  intro k
  induction k with
  | zero =>
    intro i n m bs clk o hi hn
    obtain ⟨n, rfl⟩ : ∃ q, n = q + 1 := ⟨n - 1, by omega⟩
    show s5_7 FUEL _ K0 K1 _ = _
    by_cases h : i < L.length
    · refine (condT (decide_eq_true (show ((i : Nat) : Int) < (L.length : Nat) by omega))).trans ?_
      exact (condF (decide_eq_false (show ¬ ((i : Nat) : Int) < 100 by omega))).trans rfl
    · exact (condF (decide_eq_false (show ¬ ((i : Nat) : Int) < (L.length : Nat) by omega))).trans rfl
  | succ k ih =>
    intro i n m bs clk o hi hn
    obtain ⟨n, rfl⟩ : ∃ q, n = q + 1 := ⟨n - 1, by omega⟩
    show s5_7 FUEL _ K0 K1 _ = _
    by_cases h : i < L.length
    case neg => exact (condF (decide_eq_false (show ¬ ((i : Nat) : Int) < (L.length : Nat) by omega))).trans rfl
    refine (condT (decide_eq_true (show ((i : Nat) : Int) < (L.length : Nat) by omega))).trans ?_
    by_cases h2 : i < 100
    case neg => exact (condF (decide_eq_false (show ¬ ((i : Nat) : Int) < 100 by omega))).trans rfl
    refine (condT (decide_eq_true (show ((i : Nat) : Int) < 100 by omega))).trans ?_
    simp only [cond_true]
    rw [if_pos (by omega), Int.toNat_natCast, List.getElem?_eq_getElem h]
    generalize hy : L[i] = y
    have ga : goodA y.2 := wr_good (hL y (hy ▸ List.getElem_mem h))
    simp only
    rw [if_pos (by have := ga.2; simpa using this)]
    obtain ⟨m', bs', clk', e1, o', h'⟩ := add_run o b r y.1 ga
    have e1' : p10 FUEL (y.1, (y.2.1, (y.2.2.1, (y.2.2.2.1, (([] : List (ByteArray × ByteArray)) ++ y.2.2.2.2)))), b, r, m, bs, clk) = some (addE (hd m) r y.1 y.2, b, r, m', bs', clk') := e1
    rw [e1']
    simp only
    rw [spoil_in _ _ _ _ _ _ _ _ _ _ _ _ _ _ _ _ (by have := ga.2; simp; omega)]
    simp only
    have e2 := radd_run b r (hd m) y.1 ga
    rw [e2, ← h']
    simp only [decide_true, Bool.not_true, cond_false]
    obtain ⟨t, v, l, e, d, q1, q2, q3⟩ := both_results o' b r
    rw [q1]; simp only
    rw [q2]; simp only
    rw [item_self _ (by simp)]; simp only
    rw [entries_self d q3]; simp only
    rw [spoil_out _ _ _ _ _ _ _ _ _ _ _ _ _ _ _ q3]
    simp only
    rw [missing_run]; simp only
    rw [rmissing_run]; simp only
    rw [ints_self _ (which_len _)]; simp only
    rw [stale_run o']; simp only
    rw [rstale_run]; simp only
    rw [ints_self _ (which_len _)]
    simp only [decide_true, Bool.not_true, cond_false]
    rw [wrapNext i (by omega)]
    exact ih (i + 1) n m' bs' clk' o' (by omega) (by omega)

theorem plays_none (L : List (Int × An)) (f : Nat) (K0 : Bool → Option Bool) (K1 : Unit → Option Bool) (w : RS) (n : Nat) (hn : 0 < n) : l5_2 f K0 K1 n (L, false, 0, w) = K1 () := by
  obtain ⟨n, rfl⟩ : ∃ q, n = q + 1 := ⟨n - 1, by omega⟩
  show s5_2 f _ K0 K1 _ = _
  unfold s5_2
  simp only [cond_false]
  cases decide ((0 : Int) < ((L.length : Nat) : Int)) <;> rfl

theorem j9_run (x0 x1 : Int) (x2 : List (Int × An)) (h : x2.length < 9223372036854775807) (w : ∀ y ∈ x2, Ty.wr OpT y) (K : Bool → Option Bool) : j5_9 FUEL K (x0, x1, x2, 0, true, x0, x1, [], [], 0) = K true := by
  have key := plays_loop x0 x1 x2 w h (fun x176 => (fun x177 => K x177) x176) (fun _ => (fun x177 => K x177) true) 100 0 FUEL [] [] 0 Ok.nil (.inr (by omega)) (by unfold FUEL; decide)
  have e0 : ((0 : Nat) : Int) = 0 := rfl
  have eW : W x0 x1 (hd []) = (x0, (x1, ([false, false, false, false], [(0, (0, (0, []))), (0, (0, (0, []))), (0, (0, (0, []))), (0, (0, (0, [])))]))) := rfl
  rw [e0, eW] at key
  unfold j5_9
  simp only [alive_run, Bool.not_true, cond_false, decide_true, beq_self_eq_true]
  exact key
theorem j4_run (x0 x1 : Int) (x2 : List (Int × An)) (K : Bool → Option Bool) : j5_4 FUEL K (x0, x1, x2, 1, false) = K true := by
  have key := plays_none x2 FUEL (fun x69 => (fun x70 => K x70) x69) (fun _ => (fun x70 => K x70) true) (x0, (x1, ([false, false, false, false], [(0, (0, (0, []))), (0, (0, (0, []))), (0, (0, (0, []))), (0, (0, (0, [])))]))) FUEL (by unfold FUEL; decide)
  unfold j5_4
  simp only [alive_run, Bool.not_true, cond_false]
  exact key

theorem quorumPlays (x0 : Int) (_ : Ty.wr (.int .i64) x0) (x1 : Int) (_ : Ty.wr (.int .u32) x1) (x2 : List (Int × An)) (w2 : Ty.wr (.slice OpT) x2) : p5 FUEL (x0, x1, x2) = some true := by
  have hl : x2.length < 9223372036854775807 := by
    have h : x2.length * 44 ≤ reachBytes := w2.1.2
    unfold reachBytes at h
    omega
  unfold p5
  simp only
  by_cases h : 0 ≤ x0 ∧ x0 < 64 ∧ x1 ≠ 0
  · rw [new_run h]
    simp only
    rw [decide_eq_true h.1, decide_eq_true h.2.1, decide_eq_false h.2.2]
    simp only [cond_true, Bool.not_false]
    rw [j9_run x0 x1 x2 hl w2.2]
  · rw [new_no h]
    simp only
    by_cases h1 : 0 ≤ x0
    · rw [decide_eq_true h1]
      by_cases h2 : x0 < 64
      · rw [decide_eq_true h2]
        have h3 : x1 = 0 := Classical.byContradiction fun h3 => h ⟨h1, h2, h3⟩
        rw [decide_eq_true h3]
        simp only [cond_true, Bool.not_true]
        rw [j4_run]
      · rw [decide_eq_false h2]
        simp only [cond_true, cond_false]
        rw [j4_run]
    · rw [decide_eq_false h1]
      simp only [cond_false]
      rw [j4_run]
end Go.Am.Ytiecnmmffplgcaa
