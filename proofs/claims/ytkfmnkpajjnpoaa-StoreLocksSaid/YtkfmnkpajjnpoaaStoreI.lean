/- Plain laws of the printed functions of the store: locks are never at odds, a vote stays, versions never fall (StoreLocks). -/
import Derived.Test.YtkfmnkpajjnpoaaStoreP
import Derived.Test.YtkfmnkpajjnpoaaWalkLocks
namespace Go.Am.Ytkfmnkpajjnpoaa

theorem pair_loop {K0 : Bool → Option Bool} {R1 : (List OP × Int × Int × Int × (Int × Int) × Int × Int × Int × List Int × List En × List LK × List (Int × Int) × List (Int × Int) × Int × Int × Int × List Int × List En × List LK × List (Int × Int)) → Option Bool}
    (x0 : List OP) (v i : Int) (a : Nat) (k : Int × Int) (s inc ver : Int) (f : List Int) (d : List En) (ls : List LK) (vs g : List (Int × Int)) (hls : ls.length ≤ 16) (hp : ls.Pairwise Apart) (ha : a < ls.length) :
    l6_3 FUEL K0 R1 FUEL (x0, v, i, (a : Int), 0, k, s, inc, ver, f, d, ls, vs, g, s, inc, ver, f, d, ls, vs) = R1 (x0, v, i, (a : Int), k, s, inc, ver, f, d, ls, vs, g, s, inc, ver, f, d, ls, vs) := by
  rw [List.pairwise_iff_getElem] at hp
  have key := for_loop (S := Unit) (L := fun n y => l6_3 FUEL K0 R1 n y) (step := fun F => s6_3 FUEL F K0 R1) (fun n x => rfl)
    (fun b _ => (x0, v, i, (a : Int), (b : Int), k, s, inc, ver, f, d, ls, vs, g, s, inc, ver, f, d, ls, vs)) a (fun _ _ => True) (fun _ _ => .inr ()) (fun _ => R1 (x0, v, i, (a : Int), k, s, inc, ver, f, d, ls, vs, g, s, inc, ver, f, d, ls, vs))
    (fun F b _ hb _ => by
      have hb2 : b < ls.length := by omega
      obtain ⟨h1, h2⟩ := hp b a hb2 ha hb
      rw [Bool.or_eq_false_iff] at h1
      refine (condT (decide_eq_true (show (b : Int) < (a : Int) by omega))).trans ?_
      rw [if_pos (show (0 : Int) ≤ (a : Int) ∧ (a : Int) < ((ls.length : Nat) : Int) by omega), Int.toNat_natCast, List.getElem?_eq_getElem ha]
      simp only [if_pos (show (0 : Int) ≤ (b : Int) ∧ (b : Int) < ((ls.length : Nat) : Int) by omega), Int.toNat_natCast, List.getElem?_eq_getElem hb2, p24, h1.1, h1.2, cond_false]
      rw [if_pos (show (0 : Int) ≤ (a : Int) ∧ (a : Int) < ((ls.length : Nat) : Int) by omega), decide_eq_false (fun e => h2 e.symm), wrapNext b (by omega)]
      rfl)
    (fun F _ _ => condF (decide_eq_false (Int.lt_irrefl _))) (fun _ _ _ _ _ _ => trivial) a 0 () FUEL (Nat.zero_add _) (by have := big; omega) trivial
  rw [forI_fold] at key
  exact key

theorem pairs_loop {K0 : Bool → Option Bool} {K1 : (List OP × Int × Int × (Int × Int) × Int × Int × Int × List Int × List En × List LK × List (Int × Int) × List (Int × Int)) → Option Bool}
    (x0 : List OP) (v i : Int) (k : Int × Int) (s inc ver : Int) (f : List Int) (d : List En) (ls : List LK) (vs g : List (Int × Int)) (hls : ls.length ≤ 16) (hp : ls.Pairwise Apart) :
    l6_4 FUEL K0 K1 FUEL (x0, v, i, 0, k, s, inc, ver, f, d, ls, vs, g, s, inc, ver, f, d, ls, vs) = K1 (x0, v, i, k, s, inc, ver, f, d, ls, vs, g) := by
  have key := for_loop (S := Unit) (L := fun n y => l6_4 FUEL K0 K1 n y) (step := fun F => s6_4 FUEL F K0 K1) (fun n x => rfl)
    (fun a _ => (x0, v, i, (a : Int), k, s, inc, ver, f, d, ls, vs, g, s, inc, ver, f, d, ls, vs)) ls.length (fun _ _ => True) (fun _ _ => .inr ()) (fun _ => K1 (x0, v, i, k, s, inc, ver, f, d, ls, vs, g))
    (fun F a _ ha _ => by
      refine (condT (decide_eq_true (show (a : Int) < ((ls.length : Nat) : Int) by omega))).trans ?_
      rw [pair_loop x0 v i a k s inc ver f d ls vs g hls hp ha]
      simp only [wrapNext a (by omega)])
    (fun F _ _ => condF (decide_eq_false (Int.lt_irrefl _))) (fun _ _ _ _ _ _ => trivial) ls.length 0 () FUEL (Nat.zero_add _) (by have := big; omega) trivial
  rw [forI_fold] at key
  exact key

theorem check_run {K0 : Bool → Option Bool} {K1 : (List OP × Int × Int × (Int × Int) × Int × Int × Int × List Int × List En × List LK × List (Int × Int) × List (Int × Int)) → Option Bool}
    (x0 : List OP) (v i : Int) (inc ver : Int) (f : List Int) (d : List En) (ls : List LK) (vs g : List (Int × Int)) (k : Kept ver d ls vs) (hv : v ≤ ver) :
    j6_5 FUEL K0 K1 (x0, v, i, (0, 0), 2, inc, ver, f, d, ls, vs, g) = K1 (x0, ver, i, (0, 0), 2, inc, ver, f, d, ls, vs, g) := by
  have h1 := k.votes
  have h2 := k.locks
  simp only [j6_5, extract_run 2 inc ver f d ls vs k.fits, decide_true, Bool.not_true, cond_false]
  rw [decide_eq_false (show ¬ ver < v by omega), decide_eq_false (show ¬ (64 : Int) < ((vs.length : Nat) : Int) by omega), decide_eq_false (show ¬ (16 : Int) < ((ls.length : Nat) : Int) by omega)]
  simp only [cond_false]
  exact pairs_loop x0 ver i (0, 0) 2 inc ver f d ls vs g h2 k.apart

/-- The last vote that was noted on a transaction. -/
def noted (g : List (Int × Int)) (tx : Int) : Int := g.foldl (fun w x => if x.1 = tx then x.2 else w) 0
theorem noted_mem (g : List (Int × Int)) (tx : Int) : noted g tx = 0 ∨ (tx, noted g tx) ∈ g := by
  unfold noted
  suffices H : ∀ (g g' : List (Int × Int)) (w : Int), (w = 0 ∨ (tx, w) ∈ g') → (∀ x ∈ g, x ∈ g') → (g.foldl (fun w x => if x.1 = tx then x.2 else w) w = 0 ∨ (tx, g.foldl (fun w x => if x.1 = tx then x.2 else w) w) ∈ g') from H g g 0 (.inl rfl) (fun _ h => h)
  intro g
  induction g with
  | nil => intro g' w hw _; exact hw
  | cons x g ih =>
    intro g' w hw hs
    rw [List.foldl_cons]
    refine ih g' _ ?_ (fun y hy => hs y (by simp [hy]))
    split
    · rename_i e
      refine .inr ?_
      have := hs x (by simp)
      rw [← e]; exact this
    · exact hw

theorem noted_loop {R : Type} {K : (List OP × Int × Int × Int × Int × Int × (Int × Int) × Int × Int × Int × List Int × List En × List LK × List (Int × Int) × List (Int × Int) × OP) → Option R}
    (x0 : List OP) (v i vo e : Int) (k : Int × Int) (s inc ver : Int) (f : List Int) (d : List En) (ls : List LK) (vs g : List (Int × Int)) (o : OP) (hg : g.length ≤ 1000) :
    l6_0 FUEL K FUEL (x0, v, i, vo, e, 0, 0, k, s, inc, ver, f, d, ls, vs, g, o) = K (x0, v, i, vo, e, noted g o.2.2.2.2.2.2.1.1, k, s, inc, ver, f, d, ls, vs, g, o) := by
  have key := list_loop (R := R) (L := fun n y => l6_0 FUEL K n y) (step := fun F => s6_0 FUEL F K) (fun n x => rfl) g
    (fun j (w : Int) => (x0, v, i, vo, e, w, (j : Int), k, s, inc, ver, f, d, ls, vs, g, o)) (fun _ => True) (fun w x => .inr (if x.1 = o.2.2.2.2.2.2.1.1 then x.2 else w)) (fun w => K (x0, v, i, vo, e, w, k, s, inc, ver, f, d, ls, vs, g, o))
    (fun F j w hj _ => by
      refine (condT (decide_eq_true (show (j : Int) < ((g.length : Nat) : Int) by omega))).trans ?_
      simp only [if_pos (show (0 : Int) ≤ (j : Int) ∧ (j : Int) < ((g.length : Nat) : Int) by omega), Int.toNat_natCast, List.getElem?_eq_getElem hj, wrapNext j (by omega)]
      by_cases h : g[j].1 = o.2.2.2.2.2.2.1.1
      · rw [decide_eq_true h, if_pos h]; rfl
      · rw [decide_eq_false h, if_neg h]; rfl)
    (fun F w _ => condF (decide_eq_false (Int.lt_irrefl _))) (fun _ _ _ _ _ _ => trivial) 0 trivial FUEL (by have := big; omega)
  rw [forL_fold] at key
  exact key

/-- What is known between two acts. -/
structure LInv (i : Nat) (ver : Int) (d : List En) (ls : List LK) (vs g : List (Int × Int)) : Prop extends Kept ver d ls vs where
  few : g.length ≤ i
  true_ : ∀ x ∈ g, voted vs x.1 = x.2 ∧ x.2 ≠ 0

theorem vote_told {l : LK} {inc ver : Int} {f : List Int} {ls : List LK} {vs : List (Int × Int)} (hs : ∀ v ∈ vs, v.2 ≠ 0) (h : (voteS l 2 inc ver f ls vs).2.1 = 0) :
    (voteS l 2 inc ver f ls vs).1 ≠ 0 ∧ voted (voteS l 2 inc ver f ls vs).2.2.2 l.1 = (voteS l 2 inc ver f ls vs).1 ∧ (voted vs l.1 ≠ 0 → (voteS l 2 inc ver f ls vs).1 = voted vs l.1) := by
  unfold voteS at *
  by_cases hr : refused l 2 = 0
  · rw [if_neg (fun c => c hr)] at h ⊢
    split at h
    · cases h
    · rename_i h1
      rw [if_neg h1]
      split at h
      · rename_i h2
        rw [if_pos h2]
        exact ⟨h2, rfl, fun _ => rfl⟩
      · rename_i h2
        rw [if_neg h2]
        have hv : voted vs l.1 = 0 := by simpa using h2
        split at h
        · rename_i h3
          rw [if_pos h3]
          cases bad l ver f ls with
          | true => exact ⟨by show (2 : Int) ≠ 0; decide, voted_none hs hv 2, fun c => absurd hv c⟩
          | false => exact ⟨by show (1 : Int) ≠ 0; decide, voted_none hs hv 1, fun c => absurd hv c⟩
        · cases h
  · rw [if_pos hr] at h
    exact absurd h hr

theorem voteS_grows (l : LK) (inc ver : Int) (f : List Int) (ls : List LK) (vs : List (Int × Int)) {tx v : Int} (h : voted vs tx = v) (hv : v ≠ 0) : voted (voteS l 2 inc ver f ls vs).2.2.2 tx = v := by
  unfold voteS
  split
  · exact h
  · split
    · exact h
    · split
      · exact h
      · split
        · cases bad l ver f ls with
          | true => exact voted_stays h hv _
          | false => exact voted_stays h hv _
        · exact h
theorem decideS_grows (l : LK) (c : Bool) (ver : Int) (d : List En) (ls : List LK) (vs : List (Int × Int)) {tx v : Int} (h : voted vs tx = v) (hv : v ≠ 0) : voted (decideS l c 2 ver d ls vs).2.2.2.2 tx = v := by
  unfold decideS
  split
  · exact h
  · exact votesD_stays h hv

theorem locks_loop (x0 : List OP) (hx : ∀ o ∈ x0, Ty.wr OPT o) (hl : x0.length < 9223372036854775807) : ∀ (n i : Nat) (ver : Int) (d : List En) (ls : List LK) (vs g : List (Int × Int)), 200 - i < n → i ≤ 200 → LInv i ver d ls vs g →
    l6_6 FUEL (fun x294 => some x294) (fun _ => some true) n (x0, ver, (i : Int), (0, 0), 2, 1, ver, [0, 0, 0, 0], d, ls, vs, g) = some true := by
  intro n
  induction n with
  | zero => intro i ver d ls vs g h; omega
  | succ n ih =>
    intro i ver d ls vs g h hi I
    by_cases e : i < x0.length
    · by_cases e2 : i < 200
      · have ho := hx _ (List.getElem_mem e)
        obtain ⟨ok, v0, v1⟩ := op_ok ho
        have hb1 := I.locks
        have hb2 := I.votes
        refine (condT (decide_eq_true (show (i : Int) < ((x0.length : Nat) : Int) by omega))).trans ?_
        refine (condT (decide_eq_true (show (i : Int) < 200 by omega))).trans ?_
        rw [if_pos (show (0 : Int) ≤ (i : Int) by omega), Int.toNat_natCast, List.getElem?_eq_getElem e]
        simp only
        by_cases h5 : x0[i].1 = 5
        · have hrun := decide_run (opLk x0[i]) ok v0 x0[i].2.2.2.2.2.1 2 1 ver [0, 0, 0, 0] d ls (by omega) vs (by omega)
          have hrun' : p18 FUEL (0, (x0[i].2.2.2.2.2.2.1.1, (x0[i].2.2.2.2.2.2.1.2.1, ((0 : Int), x0[i].2.2.2.2.2.2.1.2.2.2))), x0[i].2.2.2.2.2.1, (0, 0), 2, 1, ver, [0, 0, 0, 0], d, ls, vs) = _ := hrun
          obtain ⟨k1, k2⟩ := kept_decide I.toKept (opLk x0[i]) x0[i].2.2.2.2.2.1
          rw [decide_eq_true h5, cond_true, hrun']
          simp only
          rw [check_run x0 ver i 1 _ _ _ _ _ g k1 k2]
          simp only [wrapNext i (by omega)]
          exact ih (i + 1) _ _ _ _ g (by omega) (by omega) ⟨k1, Nat.le_succ_of_le I.few, fun x hx => ⟨decideS_grows _ _ _ _ _ _ (I.true_ x hx).1 (I.true_ x hx).2, (I.true_ x hx).2⟩⟩
        · have hrun := vote_run (opLk x0[i]) ok 2 1 ver [0, 0, 0, 0] rfl d ls (by omega) vs (by omega)
          have hrun' : p22b FUEL (0, (x0[i].2.2.2.2.2.2.1.1, (x0[i].2.2.2.2.2.2.1.2.1, ((0 : Int), x0[i].2.2.2.2.2.2.1.2.2.2))), (0, 0), 2, 1, ver, [0, 0, 0, 0], d, ls, vs) = _ := hrun
          have k1 := kept_vote I.toKept (opLk x0[i]) 1 [0, 0, 0, 0]
          have grows := fun (x : Int × Int) (hx : x ∈ g) => voteS_grows (opLk x0[i]) 1 ver [0, 0, 0, 0] ls vs (I.true_ x hx).1 (I.true_ x hx).2
          have told := vote_told (l := opLk x0[i]) (inc := 1) (ver := ver) (f := [0, 0, 0, 0]) (ls := ls) I.some_
          rw [decide_eq_false h5, cond_false, hrun']
          simp only
          have hfew := I.few
          rw [noted_loop x0 ver i _ _ _ _ _ _ _ _ _ _ g _ (by omega)]
          simp only
          have htx : (opLk x0[i]).1 = x0[i].2.2.2.2.2.2.1.1 := rfl
          rw [← htx]
          generalize hW : voteS (opLk x0[i]) 2 1 ver [0, 0, 0, 0] ls vs = W at k1 grows told ⊢
          obtain ⟨vo, er, ls', vs'⟩ := W
          simp only at k1 grows told ⊢
          -- behind the vote
          have go : ∀ g', g'.length ≤ i + 1 → (∀ x ∈ g', voted vs' x.1 = x.2 ∧ x.2 ≠ 0) → j6_5 FUEL (fun x255 => some x255) (fun (x256, x257, x258, x259, x260, x261, x262, x263, x264, x265, x266, x267) => (l6_6 FUEL (fun x294 => some x294) (fun _ => some true) n (x256, x257, (IntKind.wrap .i64 (x258 + (1 : Int))), x259, x260, x261, x262, x263, x264, x265, x266, x267))) (x0, ver, (i : Int), (0, 0), 2, 1, ver, [0, 0, 0, 0], d, ls', vs', g') = some true := by
            intro g' h1 h2
            rw [check_run x0 ver i 1 _ _ _ _ _ g' k1 (Int.le_refl _)]
            simp only [wrapNext i (by omega)]
            exact ih (i + 1) _ _ _ _ g' (by omega) (by omega) ⟨k1, h1, h2⟩
          have stay : ∀ x ∈ g, voted vs' x.1 = x.2 ∧ x.2 ≠ 0 := fun x hx => ⟨grows x hx, (I.true_ x hx).2⟩
          by_cases her : er = 0
          · obtain ⟨t1, t2, t3⟩ := told her
            have hwas := noted_mem g (opLk x0[i]).1
            rw [decide_eq_true her, cond_true]
            by_cases hw : noted g (opLk x0[i]).1 = 0
            · rw [decide_eq_true hw]
              simp only [Bool.not_true, cond_false]
              rw [decide_eq_false t1]
              simp only [cond_false, j6_2, decide_eq_true her, cond_true, decide_eq_true hw, j6_1]
              rw [if_pos (by simp; omega)]
              refine go (g ++ [((opLk x0[i]).1, vo)]) (by simp; omega) fun x hx => ?_
              rcases List.mem_append.1 hx with hx | hx
              · exact stay x hx
              · simp at hx; subst hx; exact ⟨t2, t1⟩
            · rw [decide_eq_false hw]
              have hm := (hwas.resolve_left hw)
              have hm2 := I.true_ _ hm
              have hvo : vo = noted g (opLk x0[i]).1 := by rw [t3 (by rw [hm2.1]; exact hm2.2)]; exact hm2.1
              simp only [Bool.not_false, cond_true, ← hvo, decide_true, Bool.not_true, cond_false]
              rw [decide_eq_false t1]
              simp only [cond_false, j6_2, decide_eq_true her, cond_true, decide_eq_false t1, j6_1]
              exact go g (by omega) stay
          · rw [decide_eq_false her]
            simp only [cond_false, j6_2, decide_eq_false her, j6_1]
            exact go g (by omega) stay
      · refine (condT (decide_eq_true (show (i : Int) < ((x0.length : Nat) : Int) by omega))).trans ?_
        exact condF (decide_eq_false (show ¬ (i : Int) < 200 by omega))
    · exact condF (decide_eq_false (show ¬ (i : Int) < ((x0.length : Nat) : Int) by omega))

theorem locks_head (f : Nat) (x0 : List OP) (A : p13 f () = some true) (O : p17 f (0, 0, 1, true) = some (.inr (0, (0, 0), 2, 1, 0, [0, 0, 0, 0], [], [], [])))
    (E : l6_6 f (fun x294 => some x294) (fun _ => some true) f (x0, 0, 0, (0, 0), 2, 1, 0, [0, 0, 0, 0], [], [], [], []) = some true) : p6 f x0 = some true := by
  simp only [p6, p16, A, O]
  exact E

theorem script_len {x0 : List OP} (w0 : Ty.wr (.slice OPT) x0) : x0.length < 9223372036854775807 := by
  have h : x0.length * Ty.lo OPT ≤ reachBytes := w0.1.2
  have h3 : 1 ≤ Ty.lo OPT := by decide
  have : x0.length ≤ x0.length * Ty.lo OPT := Nat.le_mul_of_pos_right _ h3
  unfold reachBytes at h; omega

theorem storeLocks (x0 : List OP) (w0 : Ty.wr (.slice OPT) x0) : p6 FUEL x0 = some true :=
  locks_head FUEL x0 alive_run (open_run 1 (by decide)) (locks_loop x0 w0.2 (script_len w0) FUEL 0 0 [] [] [] [] (by have := big; omega) (by omega) ⟨Kept.nil, by simp, fun _ h => by cases h⟩)
end Go.Am.Ytkfmnkpajjnpoaa
