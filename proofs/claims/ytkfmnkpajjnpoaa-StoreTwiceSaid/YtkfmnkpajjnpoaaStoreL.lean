/- Plain laws of the printed functions of the store: a decision counts once (StoreTwice). -/
import Derived.Test.YtkfmnkpajjnpoaaStoreP
import Derived.Test.YtkfmnkpajjnpoaaWalkTwice
namespace Go.Am.Ytkfmnkpajjnpoaa

theorem same_self2 (d : List En) (hd : d.length < 9223372036854775807) : p20b FUEL (d, d) = some true := by
  simp only [p20b, decide_true, Bool.not_true, cond_false]
  refine same_self_loop d hd (L := fun n y => l20b_0 FUEL (fun x9 => some x9) (fun _ => some true) n y) (step := fun F => s20b_0 FUEL F (fun x9 => some x9) (fun _ => some true)) (fun n x => rfl) (fun F i h => ?_) (fun F => ?_)
  · refine (condT (decide_eq_true (show (i : Int) < ((d.length : Nat) : Int) by omega))).trans ?_
    simp only [if_pos (show (0 : Int) ≤ (i : Int) by omega), Int.toNat_natCast, List.getElem?_eq_getElem h, en_self, wrapNext i (by omega)]
    rfl
  · exact condF (decide_eq_false (Int.lt_irrefl _))

theorem item_self (x : IT) (h : x.2.2.2.1.length < 9223372036854775807) : p71 FUEL (x, x) = some true := by
  simp only [p71, same_self2 _ h, decide_true, cond_true, eqB_self (.arr 4 (.int .u32)) rfl, beq_self_eq_true]

theorem locks_self (ls : List LK) (hl : ls.length < 9223372036854775807) (he : ∀ l ∈ ls, l.2.2.2.2.2.1.length < 9223372036854775807) : p49 FUEL (ls, ls) = some true := by
  simp only [p49, decide_true, Bool.not_true, cond_false]
  have key := for_loop (S := Unit) (L := fun n y => l49_0 FUEL (fun x14 => some x14) (fun _ => some true) n y) (step := fun F => s49_0 FUEL F (fun x14 => some x14) (fun _ => some true)) (fun n x => rfl)
    (fun i _ => (ls, ls, (i : Int))) ls.length (fun _ _ => True) (fun _ _ => .inr ()) (fun _ => some true)
    (fun F i _ hi _ => by
      refine (condT (decide_eq_true (show (i : Int) < ((ls.length : Nat) : Int) by omega))).trans ?_
      simp only [if_pos (show (0 : Int) ≤ (i : Int) by omega), Int.toNat_natCast, List.getElem?_eq_getElem hi, item_self _ (he _ (List.getElem_mem hi)), decide_true, Bool.not_true, cond_false, eqB_self (.arr 3 (.int .i64)) rfl, wrapNext i (by omega)])
    (fun F _ _ => condF (decide_eq_false (Int.lt_irrefl _))) (fun _ _ _ _ _ _ => trivial) ls.length 0 () FUEL (Nat.zero_add _) (by have := big; omega) trivial
  rw [forI_fold] at key
  exact key

theorem copy_self (x : CP) (h1 : x.2.2.2.1.length < 9223372036854775807) (h2 : x.2.2.2.2.1.length < 9223372036854775807) (h3 : ∀ l ∈ x.2.2.2.2.1, l.2.2.2.2.2.1.length < 9223372036854775807) (h4 : x.2.2.2.2.2.2.length < 9223372036854775807) : p25 FUEL (x, x) = some true := by
  simp only [p25, same_self2 _ h1, locks_self _ h2 h3, decide_true, Bool.not_true, cond_false, eqB_self (.arr 4 (.int .u32)) rfl]
  have key := for_loop (S := Unit) (L := fun n y => l25_0 FUEL (fun x11 => some x11) (fun _ => some true) n y) (step := fun F => s25_0 FUEL F (fun x11 => some x11) (fun _ => some true)) (fun n x => rfl)
    (fun i _ => ((i : Int), x, x)) x.2.2.2.2.2.2.length (fun _ _ => True) (fun _ _ => .inr ()) (fun _ => some true)
    (fun F i _ hi _ => by
      refine (condT (decide_eq_true (show (i : Int) < ((x.2.2.2.2.2.2.length : Nat) : Int) by omega))).trans ?_
      simp only [if_pos (show (0 : Int) ≤ (i : Int) by omega), Int.toNat_natCast, List.getElem?_eq_getElem hi, eqB_self (.pair (.int .u64) (.int .i64)) rfl, Bool.not_true, cond_false, wrapNext i (by omega)])
    (fun F _ _ => condF (decide_eq_false (Int.lt_irrefl _))) (fun _ _ _ _ _ _ => trivial) x.2.2.2.2.2.2.length 0 () FUEL (Nat.zero_add _) (by have := big; omega) trivial
  rw [forI_fold] at key
  exact key

/-- A vote that is asked for twice. -/
theorem vote_twice (l : LK) (s inc ver : Int) (f : List Int) (ls : List LK) (vs : List (Int × Int)) (hs : ∀ v ∈ vs, v.2 ≠ 0) :
    voteS l s inc ver f (voteS l s inc ver f ls vs).2.2.1 (voteS l s inc ver f ls vs).2.2.2 = voteS l s inc ver f ls vs := by
  by_cases hr : refused l s = 0
  · by_cases h1 : l.2.2.2.2.2.2.getD 0 0 = inc
    · by_cases h2 : voted vs l.1 = 0
      · by_cases h3 : vs.length < 64
        · cases hb : bad l ver f ls with
          | true =>
            have e : voteS l s inc ver f ls vs = (2, 0, ls, vs ++ [(l.1, 2)]) := by
              unfold voteS; rw [if_neg (fun c => c hr), if_neg (fun c => c h1), if_neg (fun c => c h2), if_pos h3, hb]; rfl
            rw [e]
            unfold voteS
            rw [if_neg (fun c => c hr), if_neg (fun c => c h1), if_pos (by rw [voted_none hs h2]; decide), voted_none hs h2]
          | false =>
            have e : voteS l s inc ver f ls vs = (1, 0, ls ++ [l], vs ++ [(l.1, 1)]) := by
              unfold voteS; rw [if_neg (fun c => c hr), if_neg (fun c => c h1), if_neg (fun c => c h2), if_pos h3, hb]; rfl
            rw [e]
            unfold voteS
            rw [if_neg (fun c => c hr), if_neg (fun c => c h1), if_pos (by rw [voted_none hs h2]; decide), voted_none hs h2]
        · have e : voteS l s inc ver f ls vs = (0, 154, ls, vs) := by
            unfold voteS; rw [if_neg (fun c => c hr), if_neg (fun c => c h1), if_neg (fun c => c h2), if_neg h3]
          rw [e]; exact e
      · have e : voteS l s inc ver f ls vs = (voted vs l.1, 0, ls, vs) := by
          unfold voteS; rw [if_neg (fun c => c hr), if_neg (fun c => c h1), if_pos h2]
        rw [e]; exact e
    · have e : voteS l s inc ver f ls vs = (0, 153, ls, vs) := by
        unfold voteS; rw [if_neg (fun c => c hr), if_pos h1]
      rw [e]; exact e
  · have e : voteS l s inc ver f ls vs = (0, refused l s, ls, vs) := by
      unfold voteS; rw [if_pos hr]
    rw [e]; exact e

theorem verD_twice (l : LK) (c : Bool) (ver : Int) : verD l c (verD l c ver) = verD l c ver := by
  unfold verD
  by_cases h : c = true ∧ l.2.2.2.2.1 = true ∧ ver ≤ l.2.2.2.1
  · rw [if_pos h, if_neg (fun g => absurd g.2.2 (by omega))]
  · rw [if_neg h, if_neg h]
theorem dataD_twice (l : LK) (c : Bool) (ver : Int) (d : List En) : dataD l c (verD l c ver) (dataD l c ver d) = dataD l c ver d := by
  unfold verD dataD
  by_cases h : c = true ∧ l.2.2.2.2.1 = true ∧ ver ≤ l.2.2.2.1
  · rw [if_pos h, if_pos h]; split <;> rfl
  · rw [if_neg h, if_neg h, if_neg h]
theorem votesD_twice (l : LK) (vs : List (Int × Int)) (hs : ∀ v ∈ vs, v.2 ≠ 0) : votesD l (votesD l vs) = votesD l vs := by
  by_cases h : voted vs l.1 = 0
  · by_cases h3 : vs.length < 64
    · have e : votesD l vs = vs ++ [(l.1, 2)] := by unfold votesD; rw [if_pos h, if_pos h3]
      rw [e]
      unfold votesD
      rw [voted_none hs h, if_neg (by decide)]
    · have e : votesD l vs = vs := by unfold votesD; rw [if_pos h, if_neg h3]
      rw [e]; exact e
  · have e : votesD l vs = vs := by unfold votesD; rw [if_neg h]
    rw [e]; exact e

/-- A decision that comes twice. -/
theorem decide_twice (l : LK) (c : Bool) (s ver : Int) (d : List En) (ls : List LK) (vs : List (Int × Int)) (hs : ∀ v ∈ vs, v.2 ≠ 0) :
    decideS l c s (decideS l c s ver d ls vs).2.1 (decideS l c s ver d ls vs).2.2.1 (decideS l c s ver d ls vs).2.2.2.1 (decideS l c s ver d ls vs).2.2.2.2 = decideS l c s ver d ls vs := by
  by_cases hr : refused l s = 0
  · have e : ∀ ver d ls vs, decideS l c s ver d ls vs = (0, verD l c ver, dataD l c ver d, ls.filter (other l.1), votesD l vs) := by
      intro ver d ls vs; unfold decideS; rw [if_neg (fun c => c hr)]
    rw [e ver d ls vs, e]
    simp only
    rw [verD_twice, dataD_twice, votesD_twice l vs hs, List.filter_filter]
    simp
  · have e : ∀ ver d ls vs, decideS l c s ver d ls vs = (refused l s, ver, d, ls, vs) := by
      intro ver d ls vs; unfold decideS; rw [if_pos hr]
    rw [e ver d ls vs, e]

theorem twice_loop {K1 : _ → Option Bool} (x0 : List OP) (hx : ∀ o ∈ x0, Ty.wr OPT o) (hl : x0.length < 9223372036854775807)
    (hK : ∀ (ver : Int) (d : List En) (ls : List LK) (vs : List (Int × Int)), Kept ver d ls vs → K1 ((0, 0), 2, 1, ver, [0, 0, 0, 0], d, ls, vs, (0, 0), 2, 1, ver, [0, 0, 0, 0], d, ls, vs) = some true) :
    ∀ (n i : Nat) (ver : Int) (d : List En) (ls : List LK) (vs : List (Int × Int)), 200 - i < n → i ≤ 200 → Kept ver d ls vs →
    l7_1 FUEL (fun x96 => some x96) K1 n (x0, (i : Int), (0, 0), 2, 1, ver, [0, 0, 0, 0], d, ls, vs, (0, 0), 2, 1, ver, [0, 0, 0, 0], d, ls, vs) = some true := by
  intro n
  induction n with
  | zero => intro i ver d ls vs h; omega
  | succ n ih =>
    intro i ver d ls vs h hi k
    by_cases e : i < x0.length
    · by_cases e2 : i < 200
      · have ho := hx _ (List.getElem_mem e)
        obtain ⟨ok, v0, v1⟩ := op_ok ho
        have hb1 := k.locks
        have hb2 := k.votes
        refine (condT (decide_eq_true (show (i : Int) < ((x0.length : Nat) : Int) by omega))).trans ?_
        refine (condT (decide_eq_true (show (i : Int) < 200 by omega))).trans ?_
        simp only [j7_0, if_pos (show (0 : Int) ≤ (i : Int) by omega), Int.toNat_natCast, List.getElem?_eq_getElem e]
        by_cases h5 : x0[i].1 = 5
        · have hrun : ∀ ver d ls vs, ls.length ≤ 16 → vs.length ≤ 64 → p18 FUEL (0, (x0[i].2.2.2.2.2.2.1.1, (x0[i].2.2.2.2.2.2.1.2.1, ((0 : Int), x0[i].2.2.2.2.2.2.1.2.2.2))), x0[i].2.2.2.2.2.1, (0, 0), 2, 1, ver, [0, 0, 0, 0], d, ls, vs) = some ((decideS (opLk x0[i]) x0[i].2.2.2.2.2.1 2 ver d ls vs).1, (0, 0), 2, 1, (decideS (opLk x0[i]) x0[i].2.2.2.2.2.1 2 ver d ls vs).2.1, [0, 0, 0, 0], (decideS (opLk x0[i]) x0[i].2.2.2.2.2.1 2 ver d ls vs).2.2.1, (decideS (opLk x0[i]) x0[i].2.2.2.2.2.1 2 ver d ls vs).2.2.2.1, (decideS (opLk x0[i]) x0[i].2.2.2.2.2.1 2 ver d ls vs).2.2.2.2) :=
            fun ver d ls vs h1 h2 => decide_run (opLk x0[i]) ok v0 x0[i].2.2.2.2.2.1 2 1 ver [0, 0, 0, 0] d ls (by omega) vs (by omega)
          obtain ⟨k1, k2⟩ := kept_decide k (opLk x0[i]) x0[i].2.2.2.2.2.1
          have tw := decide_twice (opLk x0[i]) x0[i].2.2.2.2.2.1 2 ver d ls vs k.some_
          rw [decide_eq_true h5, cond_true, hrun ver d ls vs hb1 hb2]
          simp only
          rw [hrun _ _ _ _ k1.locks k1.votes, tw]
          simp only [decide_true, Bool.not_true, cond_false, wrapNext i (by omega)]
          exact ih (i + 1) _ _ _ _ (by omega) (by omega) k1
        · have hrun : ∀ ls vs, ls.length ≤ 16 → vs.length ≤ 64 → p22b FUEL (0, (x0[i].2.2.2.2.2.2.1.1, (x0[i].2.2.2.2.2.2.1.2.1, ((0 : Int), x0[i].2.2.2.2.2.2.1.2.2.2))), (0, 0), 2, 1, ver, [0, 0, 0, 0], d, ls, vs) = some ((voteS (opLk x0[i]) 2 1 ver [0, 0, 0, 0] ls vs).1, (voteS (opLk x0[i]) 2 1 ver [0, 0, 0, 0] ls vs).2.1, (0, 0), 2, 1, ver, [0, 0, 0, 0], d, (voteS (opLk x0[i]) 2 1 ver [0, 0, 0, 0] ls vs).2.2.1, (voteS (opLk x0[i]) 2 1 ver [0, 0, 0, 0] ls vs).2.2.2) :=
            fun ls vs h1 h2 => vote_run (opLk x0[i]) ok 2 1 ver [0, 0, 0, 0] rfl d ls (by omega) vs (by omega)
          have k1 := kept_vote k (opLk x0[i]) 1 [0, 0, 0, 0]
          have tw := vote_twice (opLk x0[i]) 2 1 ver [0, 0, 0, 0] ls vs k.some_
          rw [decide_eq_false h5, cond_false, hrun ls vs hb1 hb2]
          simp only
          rw [hrun _ _ k1.locks k1.votes, tw]
          simp only [decide_true, Bool.not_true, cond_false, wrapNext i (by omega)]
          exact ih (i + 1) _ _ _ _ (by omega) (by omega) k1
      · refine (condT (decide_eq_true (show (i : Int) < ((x0.length : Nat) : Int) by omega))).trans ?_
        refine (condF (decide_eq_false (show ¬ (i : Int) < 200 by omega))).trans ?_
        exact hK ver d ls vs k
    · refine (condF (decide_eq_false (show ¬ (i : Int) < ((x0.length : Nat) : Int) by omega))).trans ?_
      exact hK ver d ls vs k

theorem twice_head (f : Nat) (x0 : List OP) (A : p13 f () = some true) (O : p17 f (0, 0, 1, true) = some (.inr (0, (0, 0), 2, 1, 0, [0, 0, 0, 0], [], [], [])))
    (C : ∀ (ver : Int) (d : List En) (ls : List LK) (vs : List (Int × Int)), Kept ver d ls vs → p23b f (0, 0, (0, 0), 2, 1, ver, [0, 0, 0, 0], d, ls, vs) = some (2, 1, ver, [0, 0, 0, 0], 0, (0, 0), 2, 1, ver, [0, 0, 0, 0], d, ls, vs, d, ls, vs))
    (S : ∀ (ver : Int) (d : List En) (ls : List LK) (vs : List (Int × Int)), Kept ver d ls vs → p25 f ((2, (1, (ver, (d, (ls, ([0, 0, 0, 0], vs)))))), (2, (1, (ver, (d, (ls, ([0, 0, 0, 0], vs))))))) = some true)
    (E : ∀ K1 : _ → Option Bool, (∀ (ver : Int) (d : List En) (ls : List LK) (vs : List (Int × Int)), Kept ver d ls vs → K1 ((0, 0), 2, 1, ver, [0, 0, 0, 0], d, ls, vs, (0, 0), 2, 1, ver, [0, 0, 0, 0], d, ls, vs) = some true) →
      l7_1 f (fun x96 => some x96) K1 f (x0, 0, (0, 0), 2, 1, 0, [0, 0, 0, 0], [], [], [], (0, 0), 2, 1, 0, [0, 0, 0, 0], [], [], []) = some true) : p7 f x0 = some true := by
  simp only [p7, p16, A, O]
  refine E _ fun ver d ls vs k => ?_
  simp only [C ver d ls vs k, decide_true, cond_true, S ver d ls vs k]

theorem script_len {x0 : List OP} (w0 : Ty.wr (.slice OPT) x0) : x0.length < 9223372036854775807 := by
  have h : x0.length * Ty.lo OPT ≤ reachBytes := w0.1.2
  have h3 : 1 ≤ Ty.lo OPT := by decide
  have : x0.length ≤ x0.length * Ty.lo OPT := Nat.le_mul_of_pos_right _ h3
  unfold reachBytes at h; omega

theorem storeTwice (x0 : List OP) (w0 : Ty.wr (.slice OPT) x0) : p7 FUEL x0 = some true := by
  refine twice_head FUEL x0 alive_run (open_run 1 (by decide)) (fun ver d ls vs k => extract_run 2 1 ver _ d ls vs k.fits) (fun ver d ls vs k => ?_) (fun K1 hK => twice_loop x0 w0.2 (script_len w0) hK FUEL 0 0 [] [] [] (by have := big; omega) (by omega) Kept.nil)
  have h1 := k.data
  have h2 := k.locks
  have h4 := k.votes
  exact copy_self _ (by show d.length < _; omega) (by show ls.length < _; omega) (fun l hl => by have := k.each l hl; omega) (by show vs.length < _; omega)
end Go.Am.Ytkfmnkpajjnpoaa
