/- Plain laws of the printed functions of the store: a yes answers to no fenced incarnation (StoreFenced). -/
import Derived.Test.YtkfmnkpajjnpoaaStoreP
import Derived.Test.YtkfmnkpajjnpoaaWalkFenced
namespace Go.Am.Ytkfmnkpajjnpoaa

theorem getD4 {l : List Int} (h : l.length = 4) {r : Int} (h0 : 0 ≤ r) (h1 : r < 4) : l[Int.toNat r]? = some (l.getD (Int.toNat r) 0) := by
  rw [List.getD_eq_getElem?_getD, List.getElem?_eq_getElem (by omega)]; rfl

/-- A fence: refused, or as it was asked. -/
theorem fence_run (r n inc ver : Int) (f : List Int) (hf : f.length = 4) (d : List En) (ls : List LK) (vs : List (Int × Int)) (h : Fits d ls vs) :
    (∃ e : Int, e ≠ 0 ∧ p26b FUEL (0, 0, r, n, (0, 0), 2, inc, ver, f, d, ls, vs) = some (0, 0, 0, [0, 0, 0, 0], e, (0, 0), 2, inc, ver, f, d, ls, vs, [], [], [])) ∨
    (0 ≤ r ∧ r < 4 ∧ ¬ n < f.getD (Int.toNat r) 0 ∧ p26b FUEL (0, 0, r, n, (0, 0), 2, inc, ver, f, d, ls, vs) = some (2, inc, ver, f.set (Int.toNat r) n, 0, (0, 0), 2, inc, ver, f.set (Int.toNat r) n, d, ls, vs, d, ls, vs)) := by
  simp only [p26b]
  by_cases h1 : r < 0
  · rw [decide_eq_true h1]; exact .inl ⟨1, by decide, rfl⟩
  rw [decide_eq_false h1, cond_false]
  by_cases h2 : 4 ≤ r
  · rw [decide_eq_true h2]; exact .inl ⟨1, by decide, rfl⟩
  rw [decide_eq_false h2, cond_false]
  by_cases h3 : r = 0
  · rw [decide_eq_true h3]; exact .inl ⟨1, by decide, rfl⟩
  rw [decide_eq_false h3, cond_false]
  by_cases h4 : n = 0
  · rw [decide_eq_true h4]; exact .inl ⟨1, by decide, rfl⟩
  rw [decide_eq_false h4, cond_false]
  have hr : 0 ≤ r ∧ r < ((4 : Nat) : Int) := by omega
  simp only [p43b, j43b_0, p47b, eqKey, decide_true, cond_true, Bool.not_true, cond_false, if_pos hr, getD4 hf hr.1 (by omega)]
  by_cases h5 : n < f.getD (Int.toNat r) 0
  · rw [decide_eq_true h5]; exact .inl ⟨153, by decide, rfl⟩
  · rw [decide_eq_false h5, cond_false, copied_run 2 inc ver (f.set (Int.toNat r) n) d ls vs h]
    exact .inr ⟨by omega, by omega, h5, rfl⟩

/-- The lock of an act, on the bucket 0, for the incarnation 1. -/
def opFk (o : OP) : LK := (o.2.2.2.2.2.2.1.1, (o.2.2.2.2.2.2.1.2.1, (0, (o.2.2.2.2.2.2.1.2.2.2.1, (o.2.2.2.2.2.2.1.2.2.2.2.1, (o.2.2.2.2.2.2.1.2.2.2.2.2.1, (List.set o.2.2.2.2.2.2.1.2.2.2.2.2.2 0 1)))))))
theorem opFk_ok {o : OP} (w : Ty.wr OPT o) : LkOk (opFk o) := by
  obtain ⟨h1, h2⟩ := (op_ok w).1
  exact ⟨by show (List.set _ _ _).length = 4; rw [List.length_set]; exact h1, h2⟩

/-- Was the transaction voted on? -/
theorem known_loop {R : Type} {K : (List OP × Int × Bool × (Int × Int) × Int × Int × Int × List Int × List En × List LK × List (Int × Int) × List Int × OP) → Option R}
    (x0 : List OP) (i : Int) (k : Int × Int) (s inc ver : Int) (f : List Int) (d : List En) (ls : List LK) (vs : List (Int × Int)) (g : List Int) (o : OP) (s' inc' ver' : Int) (f' : List Int) (d' : List En) (ls' : List LK) (vs' : List (Int × Int)) (hl : vs'.length ≤ 64) :
    l8_0 FUEL K FUEL (x0, i, false, 0, k, s, inc, ver, f, d, ls, vs, g, o, s', inc', ver', f', d', ls', vs') = K (x0, i, vs'.any (fun v => decide (v.1 = o.2.2.2.2.2.2.1.1)), k, s, inc, ver, f, d, ls, vs, g, o) := by
  have key := list_loop (R := R) (L := fun n y => l8_0 FUEL K n y) (step := fun F => s8_0 FUEL F K) (fun n x => rfl) vs'
    (fun j (b : Bool) => (x0, i, b, (j : Int), k, s, inc, ver, f, d, ls, vs, g, o, s', inc', ver', f', d', ls', vs')) (fun _ => True) (fun b v => .inr (b || decide (v.1 = o.2.2.2.2.2.2.1.1))) (fun b => K (x0, i, b, k, s, inc, ver, f, d, ls, vs, g, o))
    (fun F j b hj _ => by
      refine (condT (decide_eq_true (show (j : Int) < ((vs'.length : Nat) : Int) by omega))).trans ?_
      simp only [if_pos (show (0 : Int) ≤ (j : Int) ∧ (j : Int) < ((vs'.length : Nat) : Int) by omega), Int.toNat_natCast, List.getElem?_eq_getElem hj, wrapNext j (by omega)]
      cases b with
      | true => rw [Bool.true_or]; rfl
      | false => rw [Bool.false_or]; rfl)
    (fun F b _ => condF (decide_eq_false (Int.lt_irrefl _))) (fun _ _ _ _ _ _ => trivial) false trivial FUEL (by have := big; omega)
  rw [forL_fold] at key
  refine key.trans ?_
  have : ∀ (l : List (Int × Int)) (b : Bool), l.foldl (fun b v => b || decide (v.1 = o.2.2.2.2.2.2.1.1)) b = (b || l.any (fun v => decide (v.1 = o.2.2.2.2.2.2.1.1))) := by
    intro l
    induction l with
    | nil => intro b; simp
    | cons v l ih => intro b; rw [List.foldl_cons, ih, List.any_cons, Bool.or_assoc]
  rw [this, Bool.false_or]

theorem behind_run {R : Type} {K0 : Bool → Option R} {K1 : (List OP × Int × (Int × Int) × Int × Int × Int × List Int × List En × List LK × List (Int × Int) × List Int) → Option R}
    (x0 : List OP) (i : Int) (kn : Bool) (k : Int × Int) (s inc ver : Int) (f : List Int) (d : List En) (ls : List LK) (vs : List (Int × Int)) (g : List Int) (o : OP) (hg : g.length = 4) (ho : o.2.2.2.2.2.2.1.2.2.2.2.2.2.length = 4)
    (h : kn = false → ∀ j : Nat, 1 ≤ j → j < 4 → o.2.2.2.2.2.2.1.2.2.2.2.2.2.getD j 0 = 0 ∨ ¬ o.2.2.2.2.2.2.1.2.2.2.2.2.2.getD j 0 < g.getD j 0) :
    l8_1 FUEL K0 K1 FUEL (x0, i, kn, 1, k, s, inc, ver, f, d, ls, vs, g, o) = K1 (x0, i, k, s, inc, ver, f, d, ls, vs, g) := by
  have key := for_loop (S := Unit) (L := fun n y => l8_1 FUEL K0 K1 n y) (step := fun F => s8_1 FUEL F K0 K1) (fun n x => rfl)
    (fun j _ => (x0, i, kn, (j : Int), k, s, inc, ver, f, d, ls, vs, g, o)) 4 (fun j _ => 1 ≤ j) (fun _ _ => bif kn then .inl (K1 (x0, i, k, s, inc, ver, f, d, ls, vs, g)) else .inr ()) (fun _ => K1 (x0, i, k, s, inc, ver, f, d, ls, vs, g))
    (fun F j _ hj h1 => by
      refine (condT (decide_eq_true (show (j : Int) < 4 by omega))).trans ?_
      have e1 : o.2.2.2.2.2.2.1.2.2.2.2.2.2[j]? = some (o.2.2.2.2.2.2.1.2.2.2.2.2.2.getD j 0) := by rw [List.getD_eq_getElem?_getD, List.getElem?_eq_getElem (by omega)]; rfl
      have e2 : g[j]? = some (g.getD j 0) := by rw [List.getD_eq_getElem?_getD, List.getElem?_eq_getElem (by omega)]; rfl
      cases hk : kn with
      | true => rfl
      | false =>
        have hh := h hk j h1 hj
        simp only [Bool.not_false, cond_true, if_pos (show (0 : Int) ≤ (j : Int) ∧ (j : Int) < ((4 : Nat) : Int) by omega), Int.toNat_natCast, e1, e2, wrapNext j (by omega), cond_false]
        by_cases h2 : o.2.2.2.2.2.2.1.2.2.2.2.2.2.getD j 0 = 0
        · rw [decide_eq_true h2]; rfl
        · rw [decide_eq_false h2, decide_eq_false (hh.resolve_left h2)]; rfl)
    (fun F _ _ => rfl) (fun _ _ _ _ h _ => by omega) 3 1 () FUEL rfl (by have := big; omega) (Nat.le_refl _)
  refine key.trans ?_
  cases kn <;> rfl

theorem yes_new {l : LK} {inc ver : Int} {f : List Int} {ls : List LK} {vs : List (Int × Int)} (h1 : (voteS l 2 inc ver f ls vs).2.1 = 0) (h2 : (voteS l 2 inc ver f ls vs).1 = 1) (h3 : vs.any (fun v => decide (v.1 = l.1)) = false) :
    stale 0 f l.2.2.2.2.2.2 = false := by
  have hv : voted vs l.1 = 0 := by
    unfold voted
    rw [show vs.find? (fun v => decide (v.1 = l.1)) = none from List.find?_eq_none.2 fun v hv => by
      have := List.any_eq_false.1 h3 v hv
      simpa using this]
  unfold voteS at h1 h2
  by_cases hr : refused l 2 = 0
  · rw [if_neg (fun c => c hr)] at h1 h2
    split at h1
    · cases h1
    · rename_i h4
      rw [if_neg h4, if_neg (fun c => c hv)] at h2
      split at h2
      · cases hb : bad l ver f ls with
        | true => rw [hb] at h2; cases h2
        | false =>
          unfold bad at hb
          simp only [Bool.or_eq_false_iff] at hb
          exact hb.2.2.1
      · cases h2
  · rw [if_pos hr] at h1
    exact absurd h1 hr

theorem stale_none {f is : List Int} (h : stale 0 f is = false) (j : Nat) (h1 : 1 ≤ j) (h4 : j < 4) : is.getD j 0 = 0 ∨ ¬ is.getD j 0 < f.getD j 0 := by
  unfold stale at h
  have := List.any_eq_false.1 h j (List.mem_range.2 h4)
  by_cases h0 : is.getD j 0 = 0
  · exact .inl h0
  · right
    intro hl
    apply this
    rw [decide_eq_false (show ¬ (j : Int) = 0 by omega), decide_eq_false h0, decide_eq_true hl]; rfl

theorem fenced_loop (x0 : List OP) (hx : ∀ o ∈ x0, Ty.wr OPT o) (hl : x0.length < 9223372036854775807) : ∀ (n i : Nat) (f : List Int) (ls : List LK) (vs : List (Int × Int)), 200 - i < n → i ≤ 200 → f.length = 4 → Kept 0 [] ls vs →
    l8_2 FUEL (fun x89 => some x89) (fun _ => some true) n (x0, (i : Int), (0, 0), 2, 1, 0, f, [], ls, vs, f) = some true := by
  intro n
  induction n with
  | zero => intro i f ls vs h; omega
  | succ n ih =>
    intro i f ls vs h hi hf k
    by_cases e : i < x0.length
    · by_cases e2 : i < 200
      · have ho := hx _ (List.getElem_mem e)
        have ok := opFk_ok ho
        have ok4 : x0[i].2.2.2.2.2.2.1.2.2.2.2.2.2.length = 4 := (op_ok ho).1.incs
        have hb1 := k.locks
        have hb2 := k.votes
        refine (condT (decide_eq_true (show (i : Int) < ((x0.length : Nat) : Int) by omega))).trans ?_
        refine (condT (decide_eq_true (show (i : Int) < 200 by omega))).trans ?_
        rw [if_pos (show (0 : Int) ≤ (i : Int) by omega), Int.toNat_natCast, List.getElem?_eq_getElem e]
        simp only
        rw [List.getElem?_eq_getElem (show 0 < x0[i].2.2.2.2.2.2.1.2.2.2.2.2.2.length by omega)]
        simp only
        by_cases h6 : x0[i].1 = 6
        · rw [decide_eq_true h6, cond_true]
          rcases fence_run x0[i].2.2.2.1 x0[i].2.2.2.2.1 1 0 f hf [] ls vs k.fits with ⟨er, he, hrun⟩ | ⟨r0, r4, hn, hrun⟩
          · rw [hrun]
            simp only [decide_eq_false he, cond_false, wrapNext i (by omega)]
            exact ih (i + 1) f ls vs (by omega) (by omega) hf k
          · rw [hrun]
            have hr : 0 ≤ x0[i].2.2.2.1 ∧ x0[i].2.2.2.1 < ((4 : Nat) : Int) := by omega
            have hs : (f.set (Int.toNat x0[i].2.2.2.1) x0[i].2.2.2.2.1).length = 4 := by rw [List.length_set]; exact hf
            have hget : (f.set (Int.toNat x0[i].2.2.2.1) x0[i].2.2.2.2.1)[Int.toNat x0[i].2.2.2.1]? = some x0[i].2.2.2.2.1 := List.getElem?_set_self (by omega)
            simp only [decide_true, cond_true, if_pos hr, getD4 hf r0 r4, hget]
            rw [decide_eq_false hn]
            simp only [cond_false, Bool.not_true, decide_true, wrapNext i (by omega)]
            exact ih (i + 1) _ ls vs (by omega) (by omega) hs k
        · rw [decide_eq_false h6, cond_false, extract_run 2 1 0 f [] ls vs k.fits]
          simp only
          have hrun := vote_run (opFk x0[i]) ok 2 1 0 f hf [] ls (by omega) vs (by omega)
          have hrun' : p22b FUEL (0, (x0[i].2.2.2.2.2.2.1.1, (x0[i].2.2.2.2.2.2.1.2.1, ((0 : Int), (x0[i].2.2.2.2.2.2.1.2.2.2.1, (x0[i].2.2.2.2.2.2.1.2.2.2.2.1, (x0[i].2.2.2.2.2.2.1.2.2.2.2.2.1, (List.set x0[i].2.2.2.2.2.2.1.2.2.2.2.2.2 0 1))))))), (0, 0), 2, 1, 0, f, [], ls, vs) = _ := hrun
          have k1 := kept_vote k (opFk x0[i]) 1 f
          have hy := yes_new (l := opFk x0[i]) (inc := 1) (ver := 0) (f := f) (ls := ls) (vs := vs)
          rw [hrun']
          simp only
          generalize hW : voteS (opFk x0[i]) 2 1 0 f ls vs = W at k1 hy ⊢
          obtain ⟨vo, er, ls', vs'⟩ := W
          simp only at k1 hy ⊢
          have hk1 := ih (i + 1) f ls' vs' (by omega) (by omega) hf k1
          by_cases he : er = 0
          · rw [decide_eq_true he]
            simp only [Bool.not_true, cond_false]
            by_cases hv : vo = 1
            · rw [decide_eq_true hv]
              simp only [Bool.not_true, cond_false]
              rw [known_loop x0 i (0, 0) 2 1 0 f [] ls' vs' f _ 2 1 0 f [] ls vs (by omega)]
              simp only
              refine (behind_run x0 i (vs.any (fun v => decide (v.1 = (opFk x0[i]).1))) (0, 0) 2 1 0 f [] ls' vs' f (x0[i].1, x0[i].2.1, x0[i].2.2.1, x0[i].2.2.2.1, x0[i].2.2.2.2.1, x0[i].2.2.2.2.2.1, opFk x0[i], x0[i].2.2.2.2.2.2.2) hf ok.incs (fun hn j h1 h4 => stale_none (hy he hv hn) j h1 h4)).trans ?_
              simp only [wrapNext i (by omega)]
              exact hk1
            · rw [decide_eq_false hv]
              simp only [Bool.not_false, cond_true, wrapNext i (by omega)]
              exact hk1
          · rw [decide_eq_false he]
            simp only [Bool.not_false, cond_true, wrapNext i (by omega)]
            exact hk1
      · refine (condT (decide_eq_true (show (i : Int) < ((x0.length : Nat) : Int) by omega))).trans ?_
        exact condF (decide_eq_false (show ¬ (i : Int) < 200 by omega))
    · exact condF (decide_eq_false (show ¬ (i : Int) < ((x0.length : Nat) : Int) by omega))

theorem fenced_head (f : Nat) (x0 : List OP) (A : p13 f () = some true) (O : p17 f (0, 0, 1, true) = some (.inr (0, (0, 0), 2, 1, 0, [0, 0, 0, 0], [], [], [])))
    (E : l8_2 f (fun x89 => some x89) (fun _ => some true) f (x0, 0, (0, 0), 2, 1, 0, [0, 0, 0, 0], [], [], [], [0, 0, 0, 0]) = some true) : p8 f x0 = some true := by
  simp only [p8, p16, A, O]
  exact E

theorem script_few {x0 : List OP} (w0 : Ty.wr (.slice OPT) x0) : x0.length < 9223372036854775807 := by
  have h : x0.length * Ty.lo OPT ≤ reachBytes := w0.1.2
  have h3 : 1 ≤ Ty.lo OPT := by decide
  have : x0.length ≤ x0.length * Ty.lo OPT := Nat.le_mul_of_pos_right _ h3
  unfold reachBytes at h; omega

theorem storeFenced (x0 : List OP) (w0 : Ty.wr (.slice OPT) x0) : p8 FUEL x0 = some true :=
  fenced_head FUEL x0 alive_run (open_run 1 (by decide)) (fenced_loop x0 w0.2 (script_few w0) FUEL 0 [0, 0, 0, 0] [] [] (by have := big; omega) (by omega) rfl Kept.nil)
end Go.Am.Ytkfmnkpajjnpoaa
