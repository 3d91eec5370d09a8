/- Plain laws of the printed functions of the store: a replica holds the newest that it was told (StoreNewest). -/
import Derived.Test.YtkfmnkpajjnpoaaStoreO
import Derived.Test.YtkfmnkpajjnpoaaWalkNewest
namespace Go.Am.Ytkfmnkpajjnpoaa
theorem same_self (d : List En) (hd : d.length < 9223372036854775807) : p20 FUEL (d, d) = some true := by
  simp only [p20, decide_true, Bool.not_true, cond_false]
  refine same_self_loop d hd (L := fun n y => l20_0 FUEL (fun x9 => some x9) (fun _ => some true) n y) (step := fun F => s20_0 FUEL F (fun x9 => some x9) (fun _ => some true)) (fun n x => rfl) (fun F i h => ?_) (fun F => ?_)
  · refine (condT (decide_eq_true (show (i : Int) < ((d.length : Nat) : Int) by omega))).trans ?_
    simp only [if_pos (show (0 : Int) ≤ (i : Int) by omega), Int.toNat_natCast, List.getElem?_eq_getElem h, en_self, wrapNext i (by omega)]
    rfl
  · exact condF (decide_eq_false (Int.lt_irrefl _))

/-- Behind an act: version, entries, votes. -/
def newS (o : OP) (s : Int × List En × List (Int × Int)) : Int × List En × List (Int × Int) :=
  if refused (opLk o) 2 = 0 then (verD (opLk o) o.2.2.2.2.2.1 s.1, dataD (opLk o) o.2.2.2.2.2.1 s.1 s.2.1, votesD (opLk o) s.2.2) else s

theorem votesD_len {l : LK} {vs : List (Int × Int)} (h : vs.length ≤ 64) : (votesD l vs).length ≤ 64 := by
  unfold votesD
  split
  · split
    · rw [List.length_append]; simp; omega
    · exact h
  · exact h

theorem ver_no {l : LK} {c : Bool} {ver : Int} (h : ¬ (c = true ∧ l.2.2.2.2.1 = true ∧ ver ≤ l.2.2.2.1)) : verD l c ver = ver := if_neg h
theorem data_no {l : LK} {c : Bool} {ver : Int} {d : List En} (h : ¬ (c = true ∧ l.2.2.2.2.1 = true ∧ ver ≤ l.2.2.2.1)) : dataD l c ver d = d := if_neg h
theorem ver_yes {l : LK} {c : Bool} {ver : Int} (h : c = true ∧ l.2.2.2.2.1 = true ∧ ver ≤ l.2.2.2.1) : verD l c ver = l.2.2.2.1 + 1 := if_pos h
theorem data_yes {l : LK} {c : Bool} {ver : Int} {d : List En} (h : c = true ∧ l.2.2.2.2.1 = true ∧ ver ≤ l.2.2.2.1) : dataD l c ver d = l.2.2.2.2.2.1 := if_pos h

theorem newest_loop (x0 : List OP) (hx : ∀ o ∈ x0, Ty.wr OPT o) (hl : x0.length < 9223372036854775807) :
    l4_2 FUEL (fun x126 => some x126) (fun _ => some true) FUEL (x0, 0, [], 0, (0, 0), 2, 1, 0, [0, 0, 0, 0], [], [], []) = some true := by
  have key := for_loop (S := Int × List En × List (Int × Int)) (L := fun n y => l4_2 FUEL (fun x126 => some x126) (fun _ => some true) n y) (step := fun F => s4_2 FUEL F (fun x126 => some x126) (fun _ => some true)) (fun n x => rfl)
    (fun i s => (x0, s.1, s.2.1, (i : Int), ((0, 0) : Int × Int), 2, 1, s.1, [0, 0, 0, 0], s.2.1, [], s.2.2)) (min x0.length 200) (fun _ s => s.2.1.length ≤ 8 ∧ s.2.2.length ≤ 64)
    (fun i s => match x0[i]? with | some o => .inr (newS o s) | none => .inr s) (fun _ => some true)
    (fun F i s hi hs => by
      have hi2 : i < x0.length := by omega
      have ho := hx _ (List.getElem_mem hi2)
      obtain ⟨ok, v0, v1⟩ := op_ok ho
      have hrun := decide_run (opLk x0[i]) ok v0 x0[i].2.2.2.2.2.1 2 1 s.1 [0, 0, 0, 0] s.2.1 [] (by decide) s.2.2 (by omega)
      have hrun' : p18 FUEL (0, (x0[i].2.2.2.2.2.2.1.1, (x0[i].2.2.2.2.2.2.1.2.1, ((0 : Int), x0[i].2.2.2.2.2.2.1.2.2.2))), x0[i].2.2.2.2.2.1, (0, 0), 2, 1, s.1, [0, 0, 0, 0], s.2.1, [], s.2.2) = _ := hrun
      refine (condT (decide_eq_true (show ((i : Nat) : Int) < ((x0.length : Nat) : Int) by omega))).trans ?_
      refine (condT (decide_eq_true (show ((i : Nat) : Int) < 200 by omega))).trans ?_
      simp only [if_pos (show (0 : Int) ≤ (i : Int) by omega), Int.toNat_natCast, List.getElem?_eq_getElem hi2, hrun', decideS, wrapNext i (by omega), newS]
      by_cases hr : refused (opLk x0[i]) 2 = 0
      · have r := refused_zero hr
        have hri := right_inv r.2.1
        simp only [if_neg (fun c => c hr : ¬ refused (opLk x0[i]) 2 ≠ 0), if_pos hr, decide_true, Bool.not_true, cond_false, List.filter_nil]
        -- behind the decision the reading tells that
        have rd : ∀ (ver : Int) (d : List En) (vs : List (Int × Int)), d.length ≤ 8 → ∀ k1 : _ → Option Bool, j4_1 FUEL (fun x126 => some x126) k1 (x0, ver, d, (i : Int), (0, 0), 2, 1, ver, [0, 0, 0, 0], d, [], vs) = k1 (x0, ver, d, (i : Int), (0, 0), 2, 1, ver, [0, 0, 0, 0], d, [], vs) := by
          intro ver d vs hd k1
          simp only [j4_1, read_run 1 ver [0, 0, 0, 0] d (by omega), same_self d (by omega), decide_true, Bool.not_true, cond_false]
        have hv : (opLk x0[i]).2.2.2.1 = x0[i].2.2.2.2.2.2.1.2.2.2.1 := rfl
        have hw : (opLk x0[i]).2.2.2.2.1 = x0[i].2.2.2.2.2.2.1.2.2.2.2.1 := rfl
        have hdt : (opLk x0[i]).2.2.2.2.2.1 = x0[i].2.2.2.2.2.2.1.2.2.2.2.2.1 := rfl
        rw [← hv, ← hw, wrapU32 (by omega) (by omega)]
        cases hc : x0[i].2.2.2.2.2.1 with
        | false =>
          rw [ver_no (fun c => absurd c.1 (by decide)), data_no (fun c => absurd c.1 (by decide))]
          simp only [cond_true, cond_false, j4_0]
          refine (rd _ _ _ hs.1 _).trans ?_
          simp only [wrapNext i (by omega)]
        | true =>
          cases hww : (opLk x0[i]).2.2.2.2.1 with
          | false =>
            rw [ver_no (fun c => absurd c.2.1 (by rw [hww]; decide)), data_no (fun c => absurd c.2.1 (by rw [hww]; decide))]
            simp only [cond_true, cond_false, j4_0]
            refine (rd _ _ _ hs.1 _).trans ?_
            simp only [wrapNext i (by omega)]
          | true =>
            by_cases h3 : s.1 ≤ (opLk x0[i]).2.2.2.1
            · rw [decide_eq_true (show s.1 < (opLk x0[i]).2.2.2.1 + 1 by omega), ver_yes ⟨rfl, hww, h3⟩, data_yes ⟨rfl, hww, h3⟩]
              simp only [cond_true, j4_0, ← hv, ← hdt]
              rw [wrapU32 (by omega) (by omega)]
              refine (rd _ _ _ hri.2.2.2 _).trans ?_
              simp only [wrapNext i (by omega)]
            · rw [decide_eq_false (show ¬ s.1 < (opLk x0[i]).2.2.2.1 + 1 by omega), ver_no (fun c => h3 c.2.2), data_no (fun c => h3 c.2.2)]
              simp only [cond_true, cond_false, j4_0]
              refine (rd _ _ _ hs.1 _).trans ?_
              simp only [wrapNext i (by omega)]
      · simp only [if_pos (show refused (opLk x0[i]) 2 ≠ 0 from hr), if_neg hr, decide_eq_false hr, Bool.not_false, cond_true])
    (fun F s _ => by
      by_cases h : x0.length ≤ 200
      · rw [Nat.min_eq_left h]
        exact condF (decide_eq_false (Int.lt_irrefl _))
      · rw [Nat.min_eq_right (by omega)]
        refine (condT (decide_eq_true (show ((200 : Nat) : Int) < ((x0.length : Nat) : Int) by omega))).trans ?_
        rfl)
    (fun i s s' hi hs e => by
      have hi2 : i < x0.length := by omega
      simp only [List.getElem?_eq_getElem hi2, Sum.inr.injEq] at e
      subst e
      unfold newS
      split
      · rename_i hr
        refine ⟨?_, votesD_len hs.2⟩
        simp only [dataD]
        split
        · exact (right_inv (refused_zero hr).2.1).2.2.2
        · exact hs.1
      · exact hs) (min x0.length 200) 0 (0, [], []) FUEL (Nat.zero_add _) (by have := big; omega) ⟨by simp, by simp⟩
  refine key.trans ?_
  have : ∀ (k i : Nat) (s : Int × List En × List (Int × Int)), forI (fun i s => match x0[i]? with | some o => (.inr (newS o s) : Option Bool ⊕ _) | none => .inr s) (fun _ => some true) k i s = some true := by
    intro k
    induction k with
    | zero => intro i s; rfl
    | succ k ih =>
      intro i s
      simp only [forI]
      cases x0[i]? with
      | none => exact ih _ _
      | some o => exact ih _ _
  exact this _ _ _

theorem newest_head (f : Nat) (x0 : List OP) (A : p13 f () = some true) (O : p17 f (0, 0, 1, true) = some (.inr (0, (0, 0), 2, 1, 0, [0, 0, 0, 0], [], [], [])))
    (E : l4_2 f (fun x126 => some x126) (fun _ => some true) f (x0, 0, [], 0, (0, 0), 2, 1, 0, [0, 0, 0, 0], [], [], []) = some true) : p4 f x0 = some true := by
  simp only [p4, p16, A, O]
  exact E

theorem storeNewest (x0 : List OP) (w0 : Ty.wr (.slice OPT) x0) : p4 FUEL x0 = some true := by
  have h : x0.length * Ty.lo OPT ≤ reachBytes := w0.1.2
  have h2 : x0.length * 416 ≤ reachBytes ∨ True := .inr trivial
  exact newest_head FUEL x0 alive_run (open_run 1 (by decide)) (newest_loop x0 w0.2 (by
    have h3 : 1 ≤ Ty.lo OPT := by decide
    have : x0.length ≤ x0.length * Ty.lo OPT := Nat.le_mul_of_pos_right _ h3
    unfold reachBytes at h; omega))
end Go.Am.Ytkfmnkpajjnpoaa
