/- Who is behind is told (QuorumStale): the law. -/
import Derived.Test.YtiecnmmffplgcaaQuorumH
namespace Go.Am.Ytiecnmmffplgcaa

theorem mark_eq (p : Int → Bool) : (whichOf p).foldl (fun (s : List Bool) (y : Int) => s.set y.toNat true) [false, false, false, false] = ks4.map p := by
  simp only [whichOf, ks4, List.filter, List.map]
  cases p 0 <;> cases p 1 <;> cases p 2 <;> cases p 3 <;> rfl

theorem which_in {p : Int → Bool} {y : Int} (h : y ∈ whichOf p) : 0 ≤ y ∧ y < 4 := by
  have := (mem_which.1 h).1
  simp only [ks4, List.mem_cons, List.not_mem_nil, or_false] at this
  omega

theorem mark_stale {R : Type} (p : Int → Bool) (n : Int) (a : List An) (l : List Bool) (b r : Int) (m : List (Int × An)) (bs : List Nat) (clk : Nat) (mi : List Bool) (M : List Int) (K : (Int × List An × List Bool × Int × Int × List (Int × An) × List Nat × Nat × List Bool × List Bool × List Int) → Option R) :
    l7_1 FUEL K FUEL (n, 0, a, l, b, r, m, bs, clk, [false, false, false, false], mi, whichOf p, M) = K (n, a, l, b, r, m, bs, clk, ks4.map p, mi, M) := by
  have key := list_loop (R := R) (L := fun n y => l7_1 FUEL K n y) (step := fun F => s7_1 FUEL F K) (fun n x => rfl)
    (whichOf p) (fun i (s : List Bool) => (n, (i : Int), a, l, b, r, m, bs, clk, s, mi, whichOf p, M)) (fun s => s.length = 4) (fun s y => .inr (s.set y.toNat true)) (fun s => K (n, a, l, b, r, m, bs, clk, s, mi, M))
    (fun F i s h hs => by
      have hb := which_len p
      refine (condT (decide_eq_true (show ((i : Nat) : Int) < ((whichOf p).length : Nat) by omega))).trans ?_
      rw [if_pos (by omega), Int.toNat_natCast, List.getElem?_eq_getElem h]
      have hy := which_in (List.getElem_mem h)
      simp only
      rw [if_pos (by omega), List.getElem?_eq_getElem (show (whichOf p)[i].toNat < s.length by omega)]
      simp only [wrapNext i (by omega)])
    (fun F s _ => by
      refine (condF (decide_eq_false (show ¬ (((whichOf p).length : Nat) : Int) < ((whichOf p).length : Nat) by omega))).trans rfl)
    (fun y s s' _ hs e => by simp only [Sum.inr.injEq] at e; subst e; rw [List.length_set]; exact hs) [false, false, false, false] rfl FUEL (Nat.lt_trans (which_len p) (by unfold FUEL; decide))
  rw [forL_fold, mark_eq] at key
  exact key
theorem mark_missing {R : Type} (p : Int → Bool) (n : Int) (a : List An) (l : List Bool) (b r : Int) (m : List (Int × An)) (bs : List Nat) (clk : Nat) (st : List Bool) (K : (Int × List An × List Bool × Int × Int × List (Int × An) × List Nat × Nat × List Bool × List Bool × List Int) → Option R) :
    l7_2 FUEL K FUEL (n, 0, a, l, b, r, m, bs, clk, st, [false, false, false, false], whichOf p) = K (n, a, l, b, r, m, bs, clk, st, ks4.map p, whichOf p) := by
  have key := list_loop (R := R) (L := fun n y => l7_2 FUEL K n y) (step := fun F => s7_2 FUEL F K) (fun n x => rfl)
    (whichOf p) (fun i (s : List Bool) => (n, (i : Int), a, l, b, r, m, bs, clk, st, s, whichOf p)) (fun s => s.length = 4) (fun s y => .inr (s.set y.toNat true)) (fun s => K (n, a, l, b, r, m, bs, clk, st, s, whichOf p))
    (fun F i s h hs => by
      have hb := which_len p
      refine (condT (decide_eq_true (show ((i : Nat) : Int) < ((whichOf p).length : Nat) by omega))).trans ?_
      rw [if_pos (by omega), Int.toNat_natCast, List.getElem?_eq_getElem h]
      have hy := which_in (List.getElem_mem h)
      simp only
      rw [if_pos (by omega), List.getElem?_eq_getElem (show (whichOf p)[i].toNat < s.length by omega)]
      simp only [wrapNext i (by omega)])
    (fun F s _ => by
      refine (condF (decide_eq_false (show ¬ (((whichOf p).length : Nat) : Int) < ((whichOf p).length : Nat) by omega))).trans rfl)
    (fun y s s' _ hs e => by simp only [Sum.inr.injEq] at e; subst e; rw [List.length_set]; exact hs) [false, false, false, false] rfl FUEL (Nat.lt_trans (which_len p) (by unfold FUEL; decide))
  rw [forL_fold, mark_eq] at key
  exact key

def below (a : List An) (l : List Bool) (i : Int) : Bool := ks4.any fun k => inAt l k && decide ((anAt a i).2.2.1 < (anAt a k).2.2.1)

theorem below_run {R : Type} {a : List An} (ha : a.length = 4) {l : List Bool} (hl : l.length = 4) {i : Nat} (hi : i < 4) (n : Int) (b r : Int) (m : List (Int × An)) (bs : List Nat) (clk : Nat) (st mi : List Bool) (M : List Int)
    (K : (Int × Int × Bool × List An × List Bool × Int × Int × List (Int × An) × List Nat × Nat × List Bool × List Bool × List Int) → Option R) :
    l7_3 FUEL K FUEL (n, (i : Int), false, 0, a, l, b, r, m, bs, clk, st, mi, M) = K (n, (i : Int), below a l i, a, l, b, r, m, bs, clk, st, mi, M) := by
  have hci : (0 : Int) ≤ i ∧ (i : Int) < ((4 : Nat) : Int) := by omega
  have key := for_loop (S := Bool) (R := R) (L := fun n y => l7_3 FUEL K n y) (step := fun F => s7_3 FUEL F K) (fun n x => rfl)
    (fun k s => (n, (i : Int), s, (k : Int), a, l, b, r, m, bs, clk, st, mi, M)) 4 (fun _ _ => True) (fun k s => .inr (s || (inAt l (k : Int) && decide ((anAt a i).2.2.1 < (anAt a (k : Int)).2.2.1)))) (fun s => K (n, (i : Int), s, a, l, b, r, m, bs, clk, st, mi, M))
    (fun F k s hk _ => by
      have hck : (0 : Int) ≤ k ∧ (k : Int) < ((4 : Nat) : Int) := by omega
      refine (condT (decide_eq_true (show ((k : Nat) : Int) < 4 by omega))).trans ?_
      cases s with
      | true => simp only [cond_true, Bool.true_or, wrapNext k (by omega)]
      | false =>
        simp only [cond_false, Bool.false_or]
        rw [if_pos hck, Int.toNat_natCast, inAt_get hl hk]
        simp only
        cases inAt l (k : Int) with
        | false => simp only [cond_false, Bool.false_and, wrapNext k (by omega)]
        | true =>
          simp only [cond_true, Bool.true_and]
          rw [if_pos hck, anAt_get ha hk]
          simp only
          rw [if_pos hci, Int.toNat_natCast, anAt_get ha hi]
          simp only [wrapNext k (by omega)])
    (fun F s _ => rfl) (fun _ _ _ _ _ _ => trivial) 4 0 false FUEL rfl (by unfold FUEL; decide) trivial
  rw [forI_fold] at key
  refine Eq.trans key ?_
  simp only [foldI, below, ks4, List.any]
  rw [show ((0 + 1 : Nat) : Int) = 1 from rfl, show ((0 + 1 + 1 : Nat) : Int) = 2 from rfl, show ((0 + 1 + 1 + 1 : Nat) : Int) = 3 from rfl, show ((0 : Nat) : Int) = 0 from rfl]
  simp only [Bool.false_or, Bool.or_false, Bool.or_assoc]

theorem upTo4 {a : List An} {l : List Bool} {k : Int} : upTo a l 4 k = if inAt l k = true then some (said (anAt a k)) else none := by
  unfold upTo
  by_cases h : inAt l k = true
  · rw [if_pos h, if_pos]
    refine ⟨h, ?_⟩
    unfold inAt at h
    rw [Bool.and_eq_true, decide_eq_true_iff] at h
    omega
  · rw [if_neg h, if_neg (fun c => h c.1)]

theorem stale_is {a : List An} (ga : ∀ k : Int, goodA (anAt a k)) {l : List Bool} {i : Int} (hi : i ∈ ks4) : behind (upTo a l 4) (top (upTo a l 4)) i = (inAt l i && below a l i) := by
  unfold behind
  rw [upTo4]
  cases h : inAt l i with
  | false => rfl
  | true =>
    simp only [if_true, Bool.true_and]
    have hsome : upTo a l 4 i = some (said (anAt a i)) := by rw [upTo4, if_pos h]
    rw [Bool.eq_iff_iff, decide_eq_true_iff]
    unfold below
    rw [List.any_eq_true]
    constructor
    · intro hlt
      obtain ⟨j, hj, c, h1, h2⟩ := top_in (upTo a l 4) hi hsome (ga i).1
      refine ⟨j, hj, ?_⟩
      rw [upTo4] at h1
      split at h1
      · rename_i h3
        cases h1
        rw [Bool.and_eq_true, decide_eq_true_iff]
        refine ⟨h3, ?_⟩
        have e : (anAt a j).2.2.1 = top (upTo a l 4) := h2
        rw [e]; exact hlt
      · cases h1
    · rintro ⟨j, hj, h1⟩
      rw [Bool.and_eq_true, decide_eq_true_iff] at h1
      have := top_ge (upTo a l 4) hj (show upTo a l 4 j = some (said (anAt a j)) by rw [upTo4, if_pos h1.1])
      have e : (said (anAt a j)).2.2.1 = (anAt a j).2.2.1 := rfl
      have e2 : (said (anAt a i)).2.2.1 = (anAt a i).2.2.1 := rfl
      omega

theorem map_get (p : Int → Bool) {i : Nat} (hi : i < 4) : (ks4.map p)[i]? = some (p i) := by
  have : i = 0 ∨ i = 1 ∨ i = 2 ∨ i = 3 := by omega
  rcases this with rfl | rfl | rfl | rfl <;> rfl
theorem in_ks4 {i : Nat} (hi : i < 4) : (i : Int) ∈ ks4 := by
  simp only [ks4, List.mem_cons, List.not_mem_nil, or_false]; omega

theorem checks_run {R : Type} {a : List An} (ga : ∀ k : Int, goodA (anAt a k)) (ha : a.length = 4) {l : List Bool} (hl : l.length = 4) (n : Int) (b r : Int) (m : List (Int × An)) (bs : List Nat) (clk : Nat) (M : List Int) (K0 : Bool → Option R)
    (K1 : (Int × Int × Int × List (Int × An) × List Nat × Nat × List Int) → Option R) :
    l7_4 FUEL K0 K1 FUEL (n, 0, a, l, b, r, m, bs, clk, ks4.map (behind (upTo a l 4) (top (upTo a l 4))), ks4.map (gap (upTo a l 4)), M) = K1 (n, b, r, m, bs, clk, M) := by
  have key := for_loop (S := Unit) (R := R) (L := fun n y => l7_4 FUEL K0 K1 n y) (step := fun F => s7_4 FUEL F K0 K1) (fun n x => rfl)
    (fun i _ => (n, (i : Int), a, l, b, r, m, bs, clk, ks4.map (behind (upTo a l 4) (top (upTo a l 4))), ks4.map (gap (upTo a l 4)), M)) 4 (fun _ _ => True) (fun _ _ => .inr ()) (fun _ => K1 (n, b, r, m, bs, clk, M))
    (fun F i s hi _ => by
      have hci : (0 : Int) ≤ i ∧ (i : Int) < ((4 : Nat) : Int) := by omega
      refine (condT (decide_eq_true (show ((i : Nat) : Int) < 4 by omega))).trans ?_
      rw [below_run ha hl hi]
      have hg : gap (upTo a l 4) i = !inAt l i := by
        unfold gap
        rw [upTo4]
        cases inAt l (i : Int) <;> rfl
      have hb := stale_is ga (l := l) (in_ks4 hi)
      simp only [hci, and_self, if_true, Int.toNat_natCast, map_get _ hi, inAt_get hl hi, hg, hb, wrapNext i (by omega)]
      cases inAt l (i : Int) <;> cases below a l i <;> rfl)
    (fun F s _ => rfl) (fun _ _ _ _ _ _ => trivial) 4 0 () FUEL rfl (by unfold FUEL; decide) trivial
  rw [forI_fold] at key
  exact key

theorem stale_fin {a : List An} (ga : ∀ k : Int, goodA (anAt a k)) (ha : a.length = 4) {l : List Bool} (hl : l.length = 4) {K0 : Bool → Option Bool} {K1 : (Int × List An × List Bool × Int × Int × List (Int × An) × List Nat × Nat) → Option Bool}
    (hK : ∀ m bs clk, Ok m bs clk → hd m = upTo a l 4 → K1 (((numIn l 4 : Nat) : Int), a, l, 63, 1, m, bs, clk) = some true) : l7_0 FUEL K0 K1 FUEL (0, 0, a, l, 63, 1, [], [], 0) = some true := by
  have h0 : hd [] = upTo a l 0 := by
    funext k
    unfold upTo
    rw [if_neg]
    · rfl
    · rintro ⟨h1, h2⟩
      unfold inAt at h1
      rw [Bool.and_eq_true, decide_eq_true_iff] at h1
      omega
  obtain ⟨m, bs, clk, o, hh, e⟩ := hear_all ga ha hl K0 K1 4 0 FUEL [] [] 0 rfl (by unfold FUEL; decide) Ok.nil h0
  rw [show ((numIn l 0 : Nat) : Int) = 0 from rfl, show ((0 : Nat) : Int) = 0 from rfl] at e
  rw [e]
  exact hK m bs clk o hh

theorem stale_end {a : List An} (ga : ∀ k : Int, goodA (anAt a k)) (ha : a.length = 4) {l : List Bool} (hl : l.length = 4) {m : List (Int × An)} {bs : List Nat} {clk : Nat} (o : Ok m bs clk) (hh : hd m = upTo a l 4) :
    ∃ (e : Int) (t v : Int) (q : List Int) (d : LE), p11 FUEL (63, 1, m, bs, clk) = some (t, v, false, q, e, 63, 1, m, bs, clk, d) ∧
      ((decide (e = 0)) == (decide ((3 : Int) ≤ ((numIn l 4 : Nat) : Int)))) = true ∧ decide (((List.length (whichOf (gap (upTo a l 4))) : Nat) : Int) = IntKind.wrap .i64 ((4 : Int) - ((numIn l 4 : Nat) : Int))) = true := by
  have hc : m.length = numIn l 4 := by
    rw [o.len, hh]
    unfold count numIn ks4
    simp only [List.filterMap, List.take, List.filter, upTo4]
    cases inAt l 0 <;> cases inAt l 1 <;> cases inAt l 2 <;> cases inAt l 3 <;> rfl
  have hmiss : (whichOf (gap (upTo a l 4))).length = 4 - numIn l 4 ∧ numIn l 4 ≤ 4 := by
    unfold whichOf numIn ks4
    simp only [List.take, List.filter, gap, upTo4]
    cases inAt l 0 <;> cases inAt l 1 <;> cases inAt l 2 <;> cases inAt l 3 <;> exact ⟨rfl, by decide⟩
  have hw : IntKind.wrap .i64 (4 - ((numIn l 4 : Nat) : Int)) = 4 - ((numIn l 4 : Nat) : Int) := wrapI (by omega) (by omega)
  by_cases h3 : m.length < 3
  · refine ⟨_, _, _, _, _, few_run h3 63 1, ?_, ?_⟩
    · rw [decide_eq_false (show ¬ ((3 : Int) ≤ ((numIn l 4 : Nat) : Int)) by omega)]; rfl
    · rw [hw, decide_eq_true (by omega)]
  · refine ⟨_, _, _, _, _, result_run o (by omega) 63 1, ?_, ?_⟩
    · rw [decide_eq_true (show ((3 : Int) ≤ ((numIn l 4 : Nat) : Int)) by omega)]; rfl
    · rw [hw, decide_eq_true (by omega)]

noncomputable def K7c (fuel : Nat) : (Int × Int × Int × List (Int × An) × List Nat × Nat × List Int) → Option Bool := fun (x128, x129, x130, x131, x132, x133, x134) => (match p11 fuel (x129, x130, x131, x132, x133) with | some z135 => (bif ((decide (z135.2.2.2.2.1 = (0 : Int))) == (decide ((3 : Int) ≤ x128))) then let v136 := (decide (((List.length x134 : Nat) : Int) = (IntKind.wrap .i64 ((4 : Int) - x128)))); (some v136) else (some false)) | none => none)
noncomputable def K7b (fuel : Nat) : (Int × List An × List Bool × Int × Int × List (Int × An) × List Nat × Nat × List Bool × List Bool × List Int) → Option Bool := fun (x70, x71, x72, x73, x74, x75, x76, x77, x78, x79, x80) => (l7_4 fuel (fun x127 => (some x127)) (K7c fuel) fuel (x70, (0 : Int), x71, x72, x73, x74, x75, x76, x77, x78, x79, x80))
noncomputable def K7a (fuel : Nat) : (Int × List An × List Bool × Int × Int × List (Int × An) × List Nat × Nat × List Bool × List Bool × List Int) → Option Bool := fun (x45, x46, x47, x48, x49, x50, x51, x52, x53, x54, x55) => (l7_2 fuel (K7b fuel) fuel (x45, (0 : Int), x46, x47, x48, x49, x50, x51, x52, x53, x54, x55))
noncomputable def K7 (fuel : Nat) : (Int × List An × List Bool × Int × Int × List (Int × An) × List Nat × Nat) → Option Bool := fun (x20, x21, x22, x23, x24, x25, x26, x27) => (match p19b fuel (x23, x24, x25, x26, x27) with | some z28 => (match p15 fuel (z28.1, z28.2.1, z28.2.2.1, z28.2.2.2.1, z28.2.2.2.2.1) with | some z29 => (l7_1 fuel (K7a fuel) fuel (x20, (0 : Int), x21, x22, z29.1, z29.2.1, z29.2.2.1, z29.2.2.2.1, z29.2.2.2.2.1, [false, false, false, false], [false, false, false, false], z28.2.2.2.2.2, z29.2.2.2.2.2)) | none => none) | none => none)
theorem p7_eq (fuel : Nat) : p7 fuel = fun (x1, x2) => (match p8 fuel ((63 : Int), (1 : Int)) with | some (.inl z3) => (match p9 fuel () with | some z5 => (bif (!z5) then (some false) else (some false)) | none => none) | some (.inr z4) => (match p9 fuel () with | some z6 => (bif (!z6) then (some false) else (bif (!decide (z4.1 = (0 : Int))) then (some false) else (l7_0 fuel (fun x19 => (some x19)) (K7 fuel) fuel ((0 : Int), (0 : Int), x1, x2, z4.2.1, z4.2.2.1, z4.2.2.2.1, z4.2.2.2.2.1, z4.2.2.2.2.2)))) | none => none) | none => none) := by kernel_rfl
theorem zA_good : goodA zA := ⟨Int.le_refl _, by simp [zA]⟩

theorem stale_law (f : Nat) (x0 : List An) (x1 : List Bool)
    (E0 : ∀ K0 K1, (∀ m bs clk, Ok m bs clk → hd m = upTo x0 x1 4 → K1 (((numIn x1 4 : Nat) : Int), x0, x1, 63, 1, m, bs, clk) = some true) → l7_0 f K0 K1 f (0, 0, x0, x1, 63, 1, [], [], 0) = some true)
    (E1 : p9 f () = some true) (E2 : p8 f (63, 1) = some (.inr (0, 63, 1, [], [], 0)))
    (E3 : ∀ m bs clk, Ok m bs clk → p19b f (63, 1, m, bs, clk) = some (63, 1, m, bs, clk, whichOf (behind (hd m) (top (hd m)))))
    (E4 : ∀ m bs clk, p15 f (63, 1, m, bs, clk) = some (63, 1, m, bs, clk, whichOf (gap (hd m))))
    (E5 : ∀ p n a l m bs clk mi M (K : _ → Option Bool), l7_1 f K f (n, 0, a, l, 63, 1, m, bs, clk, [false, false, false, false], mi, whichOf p, M) = K (n, a, l, 63, 1, m, bs, clk, ks4.map p, mi, M))
    (E6 : ∀ p n a l m bs clk st (K : _ → Option Bool), l7_2 f K f (n, 0, a, l, 63, 1, m, bs, clk, st, [false, false, false, false], whichOf p) = K (n, a, l, 63, 1, m, bs, clk, st, ks4.map p, whichOf p))
    (E7 : ∀ n m bs clk M (K0 : Bool → Option Bool) K1, l7_4 f K0 K1 f (n, 0, x0, x1, 63, 1, m, bs, clk, ks4.map (behind (upTo x0 x1 4) (top (upTo x0 x1 4))), ks4.map (gap (upTo x0 x1 4)), M) = K1 (n, 63, 1, m, bs, clk, M))
    (E8 : ∀ m bs clk, Ok m bs clk → hd m = upTo x0 x1 4 → ∃ (e : Int) (t v : Int) (q : List Int) (d : LE), p11 f (63, 1, m, bs, clk) = some (t, v, false, q, e, 63, 1, m, bs, clk, d) ∧
      ((decide (e = 0)) == (decide ((3 : Int) ≤ ((numIn x1 4 : Nat) : Int)))) = true ∧ decide (((List.length (whichOf (gap (upTo x0 x1 4))) : Nat) : Int) = IntKind.wrap .i64 ((4 : Int) - ((numIn x1 4 : Nat) : Int))) = true) :
    p7 f (x0, x1) = some true := by
  rw [p7_eq]
  simp only [E2, E1, Bool.not_true, cond_false, decide_true]
  refine E0 _ _ fun m bs clk o hh => ?_
  obtain ⟨e, t, v, q, d, e1, e2, e3⟩ := E8 m bs clk o hh
  have g3 := E3 m bs clk o
  have g4 := E4 m bs clk
  rw [hh] at g3 g4
  unfold K7
  simp only [g3, g4]
  rw [E5]
  unfold K7a
  simp only
  rw [E6]
  unfold K7b
  simp only
  rw [E7]
  unfold K7c
  simp only [e1]
  rw [e2, e3]
  rfl

theorem quorumStale (x0 : List An) (w0 : Ty.wr (.arr 4 VT) x0) (x1 : List Bool) (w1 : Ty.wr (.arr 4 .bool) x1) : p7 FUEL (x0, x1) = some true := by
  have ga : ∀ k : Int, goodA (anAt x0 k) := fun k => by
    unfold anAt
    rw [List.getD_eq_getElem?_getD]
    cases h : x0[k.toNat]? with
    | none => exact zA_good
    | some y => exact wr_goodA (w0.2 y (List.mem_of_getElem? h))
  exact stale_law FUEL x0 x1 (fun K0 K1 => stale_fin (K0 := K0) (K1 := K1) ga w0.1 w1.1) alive_run (new_run (by decide)) (fun m bs clk o => stale_run o 63 1) (fun m bs clk => missing_run m bs clk 63 1)
    (fun p n a l m bs clk mi M K => mark_stale p n a l 63 1 m bs clk mi M K) (fun p n a l m bs clk st K => mark_missing p n a l 63 1 m bs clk st K) (fun n m bs clk M K0 K1 => checks_run ga w0.1 w1.1 n 63 1 m bs clk M K0 K1) (fun m bs clk o hh => stale_end ga w0.1 w1.1 o hh)
end Go.Am.Ytiecnmmffplgcaa
