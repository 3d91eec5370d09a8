/- Plain laws of the printed functions of the store: a vote, a decision, a reading, of the replica (0, 0). -/
import Derived.Test.YtkfmnkpajjnpoaaStoreB
namespace Go.Am.Ytkfmnkpajjnpoaa

theorem eqKey (a b : Int × Int) : Ty.eqB (.pair (.int .i64) (.int .i64)) a b = decide (a = b) := eqB_pair2 a b

/-- A lock as it is handed in. -/
structure LkOk (l : LK) : Prop where
  incs : l.2.2.2.2.2.2.length = 4
  data : l.2.2.2.2.2.1.length < 9223372036854775807

/-- Is a vote to be no? -/
def bad (l : LK) (ver : Int) (f : List Int) (ls : List LK) : Bool := decide (l.2.2.2.1 < ver) || (decide (16 ≤ ls.length) || (stale 0 f l.2.2.2.2.2.2 || odds ls l.2.2.2.2.1))

/-- What keeps a vote or a decision from being taken. -/
def refused (l : LK) (s : Int) : Int := if l.1 = 0 then 155 else if right l.2.2 = false then 155 else if l.2.2.1 = 0 then (if s = 2 then 0 else 152) else 151

def voteS (l : LK) (s inc ver : Int) (f : List Int) (ls : List LK) (vs : List (Int × Int)) : Int × Int × List LK × List (Int × Int) :=
  if refused l s ≠ 0 then (0, refused l s, ls, vs)
  else if l.2.2.2.2.2.2.getD 0 0 ≠ inc then (0, 153, ls, vs)
  else if voted vs l.1 ≠ 0 then (voted vs l.1, 0, ls, vs)
  else if vs.length < 64 then (bif bad l ver f ls then (2, 0, ls, vs ++ [(l.1, 2)]) else (1, 0, ls ++ [l], vs ++ [(l.1, 1)]))
  else (0, 154, ls, vs)

theorem locked_run (l : LK) (h : LkOk l) (s inc ver : Int) (f : List Int) (d : List En) (ls : List LK) (vs : List (Int × Int)) :
    p37b FUEL (0, (0, 0), s, inc, ver, f, d, ls, vs, l) = some (if refused l s ≠ 0 then .inl (refused l s, (0, 0), s, inc, ver, f, d, ls, vs, l) else .inr (0, (0, 0), s, inc, ver, f, d, ls, vs, l)) := by
  simp only [p37b, right_run l.2.2 h.incs h.data]
  by_cases h1 : l.1 = 0
  · have e : refused l s = 155 := by unfold refused; rw [if_pos h1]
    rw [e, decide_eq_true h1]; rfl
  · rw [decide_eq_false h1, cond_false]
    cases h2 : right l.2.2 with
    | false =>
      have e : refused l s = 155 := by unfold refused; rw [if_neg h1, if_pos h2]
      rw [e]; rfl
    | true =>
      have e0 : refused l s = if l.2.2.1 = 0 then (if s = 2 then 0 else 152) else 151 := by unfold refused; rw [if_neg h1, if_neg (by rw [h2]; decide)]
      simp only [Bool.not_true, cond_false, p43b, j43b_0, p47b, eqKey]
      by_cases h3 : l.2.2.1 = 0
      · rw [if_pos h3] at e0
        rw [decide_eq_true (show ((l.2.2.1, 0) : Int × Int) = (0, 0) by rw [h3])]
        simp only [cond_true, decide_true]
        by_cases h4 : s = 2
        · rw [if_pos h4] at e0
          rw [e0, decide_eq_true h4]; rfl
        · rw [if_neg h4] at e0
          rw [e0, decide_eq_false h4]; rfl
      · rw [if_neg h3] at e0
        rw [e0, decide_eq_false (show ¬ ((l.2.2.1, 0) : Int × Int) = (0, 0) by intro e; exact h3 (congrArg Prod.fst e))]; rfl

theorem refused_zero {l : LK} {s : Int} (h : refused l s = 0) : l.1 ≠ 0 ∧ right l.2.2 = true ∧ l.2.2.1 = 0 ∧ s = 2 := by
  unfold refused at h
  split at h
  · cases h
  · split at h
    · cases h
    · rename_i h1 h2
      split at h
      · split at h
        · rename_i h3 h4; exact ⟨h1, by simpa using h2, h3, h4⟩
        · cases h
      · cases h

theorem vote_run (l : LK) (h : LkOk l) (s inc ver : Int) (f : List Int) (hf : f.length = 4) (d : List En) (ls : List LK) (hls : ls.length < 9223372036854775807) (vs : List (Int × Int)) (hvs : vs.length < 9223372036854775807) :
    p22b FUEL (0, l, (0, 0), s, inc, ver, f, d, ls, vs) = some ((voteS l s inc ver f ls vs).1, (voteS l s inc ver f ls vs).2.1, (0, 0), s, inc, ver, f, d, (voteS l s inc ver f ls vs).2.2.1, (voteS l s inc ver f ls vs).2.2.2) := by
  have e0 : l.2.2.2.2.2.2[0]? = some (l.2.2.2.2.2.2.getD 0 0) := by rw [List.getD_eq_getElem?_getD, List.getElem?_eq_getElem (by have := h.incs; omega)]; rfl
  simp only [p22b, locked_run l h, voteS]
  by_cases hr : refused l s = 0
  · rw [if_neg (fun c => c hr), if_neg (fun c => c hr)]
    obtain ⟨r1, r2, r3, r4⟩ := refused_zero hr
    have hdl : l.2.2.2.2.2.1.length ≤ 8 := (right_inv r2).2.2.2
    simp only [decide_true, Bool.not_true, cond_false]
    rw [if_pos (show (0 : Int) ≤ 0 ∧ (0 : Int) < ((4 : Nat) : Int) by omega), show Int.toNat 0 = 0 from rfl, e0]
    simp only
    by_cases h1 : l.2.2.2.2.2.2.getD 0 0 = inc
    · rw [decide_eq_true h1, if_neg (fun c => c h1)]
      simp only [Bool.not_true, cond_false, voted_run _ _ _ _ _ _ _ _ hvs]
      by_cases h2 : voted vs l.1 = 0
      · rw [decide_eq_true h2, if_neg (fun c => c h2)]
        simp only [Bool.not_true, cond_false, keep_run, stale_run 0 s inc ver f hf d ls vs l h.incs, odds_run s inc ver f d ls vs l hls, own_run l (by omega), bad]
        by_cases h3 : l.2.2.2.1 < ver
        · rw [decide_eq_true h3]
          by_cases h7 : vs.length < 64
          · simp only [decide_eq_true h7, if_pos h7]; first | done | rfl
          · simp only [decide_eq_false h7, if_neg h7]; first | done | rfl
        · rw [decide_eq_false h3]
          by_cases h4 : 16 ≤ ls.length
          · rw [decide_eq_true h4, decide_eq_true (show (16 : Int) ≤ ((ls.length : Nat) : Int) by omega)]
            by_cases h7 : vs.length < 64
            · simp only [decide_eq_true h7, if_pos h7]; first | done | rfl
            · simp only [decide_eq_false h7, if_neg h7]; first | done | rfl
          · rw [decide_eq_false h4, decide_eq_false (show ¬ (16 : Int) ≤ ((ls.length : Nat) : Int) by omega)]
            simp only [cond_false, Bool.false_or]
            cases h5 : stale 0 f l.2.2.2.2.2.2 with
            | true =>
              by_cases h7 : vs.length < 64
              · simp only [decide_eq_true h7, if_pos h7]; first | done | rfl
              · simp only [decide_eq_false h7, if_neg h7]; first | done | rfl
            | false =>
              simp only [cond_false, Bool.false_or]
              cases h6 : odds ls l.2.2.2.2.1 with
              | true =>
                by_cases h7 : vs.length < 64
                · simp only [decide_eq_true h7, if_pos h7]; first | done | rfl
                · simp only [decide_eq_false h7, if_neg h7]; first | done | rfl
              | false =>
                simp only [cond_false]
                by_cases h7 : vs.length < 64
                · simp only [decide_eq_true h7, if_pos h7, Bool.not_true, cond_false, List.length_singleton]
                  rw [if_pos (by omega)]
                · simp only [decide_eq_false h7, if_neg h7]; first | done | rfl
      · rw [decide_eq_false h2, if_pos h2]; first | done | rfl
    · rw [decide_eq_false h1, if_pos h1]; first | done | rfl
  · rw [if_pos hr, if_pos hr]
    simp only [decide_eq_false hr, Bool.not_false, cond_true]

/-! ### A decision -/
theorem find_tx {R : Type} (ls : List LK) (l : LK) (hl : ls.length < 9223372036854775807) (K0 : (Int × LK) → Option R) (K1 : LK → Option R) : ∀ (n i : Nat), ls.length - i < n → i ≤ ls.length →
    ∃ r : Option Nat, l65b_0 FUEL K0 K1 n (ls, (ls.length : Int), (i : Int), l) = (match r with | some j => K0 ((j : Int), l) | none => K1 l) ∧
      (match r with | some j => i ≤ j ∧ ∃ h : j < ls.length, (ls[j]'h).1 = l.1 ∧ (ls.drop i).take (j - i) = ((ls.drop i).take (j - i)).filter (fun x => !decide (x.1 = l.1)) | none => (ls.drop i).filter (fun x => !decide (x.1 = l.1)) = ls.drop i) := by
  intro n
  induction n with
  | zero => intro i h; omega
  | succ n ih =>
    intro i h hi
    by_cases e : i < ls.length
    · have hs : l65b_0 FUEL K0 K1 (n + 1) (ls, (ls.length : Int), (i : Int), l) = if ls[i].1 = l.1 then K0 ((i : Int), l) else l65b_0 FUEL K0 K1 n (ls, (ls.length : Int), ((i + 1 : Nat) : Int), l) := by
        refine (condT (decide_eq_true (show (i : Int) < ((ls.length : Nat) : Int) by omega))).trans ?_
        rw [if_pos (show (0 : Int) ≤ (i : Int) by omega), Int.toNat_natCast, List.getElem?_eq_getElem e]
        simp only [p40, wrapNext i (by omega)]
        by_cases h1 : ls[i].1 = l.1
        · rw [decide_eq_true h1, if_pos h1]; rfl
        · rw [decide_eq_false h1, if_neg h1]; rfl
      rw [hs]
      by_cases h1 : ls[i].1 = l.1
      · rw [if_pos h1]
        exact ⟨some i, rfl, Nat.le_refl _, e, h1, by simp⟩
      · rw [if_neg h1]
        obtain ⟨r, h2, h3⟩ := ih (i + 1) (by omega) (by omega)
        refine ⟨r, h2, ?_⟩
        cases r with
        | none =>
          simp only at h3 ⊢
          rw [List.drop_eq_getElem_cons e, List.filter_cons, decide_eq_false h1]
          simp only [Bool.not_false, if_true, h3]
        | some j =>
          simp only at h3 ⊢
          obtain ⟨h4, h5, h6, h7⟩ := h3
          refine ⟨by omega, h5, h6, ?_⟩
          rw [List.drop_eq_getElem_cons e, show j - i = (j - (i + 1)) + 1 by omega, List.take_succ_cons, List.filter_cons, decide_eq_false h1]
          simp only [Bool.not_false, if_true]
          rw [← h7]
    · refine ⟨none, ?_, ?_⟩
      · exact condF (decide_eq_false (show ¬ (i : Int) < ((ls.length : Nat) : Int) by omega))
      · simp only; rw [List.drop_eq_nil_of_le (by omega)]; rfl

def other (tx : Int) (x : LK) : Bool := !decide (x.1 = tx)

theorem del_loop (l : LK) (ls : List LK) (hl : ls.length < 9223372036854775807) : ∀ (n i j : Nat) (arr : List LK), ls.length - j < n → i < j → j ≤ ls.length → arr.length = ls.length → arr.drop j = ls.drop j → arr.take i = (ls.take j).filter (other l.1) →
    ∃ (i' : Nat) (arr' : List LK), i' ≤ ls.length ∧ arr'.length = ls.length ∧ arr'.take i' = ls.filter (other l.1) ∧ ∀ {R : Type} (K : (Int × List LK × LK) → Option R), l39_0 FUEL K n ((i : Int), (j : Int), arr, l) = K ((i' : Int), arr', l) := by
  intro n
  induction n with
  | zero => intro i j arr h; omega
  | succ n ih =>
    intro i j arr h hij hj ha hd ht
    by_cases e : j < ls.length
    · have hx : arr[j]? = some ls[j] := by
        have := congrArg (fun l => l[0]?) hd
        simp only [List.getElem?_drop, Nat.add_zero] at this
        rw [this, List.getElem?_eq_getElem e]
      have hstep : ls.take (j + 1) = ls.take j ++ [ls[j]] := by rw [List.take_add_one, List.getElem?_eq_getElem e]; rfl
      by_cases h1 : ls[j].1 = l.1
      · obtain ⟨i', arr', q1, q2, q3, q4⟩ := ih i (j + 1) arr (by omega) (by omega) (by omega) ha (by rw [← List.drop_drop, ← List.drop_drop, hd]) (by rw [hstep, List.filter_append, ht]; simp [other, h1])
        refine ⟨i', arr', q1, q2, q3, fun K => ?_⟩
        refine (condT (decide_eq_true (show (j : Int) < ((arr.length : Nat) : Int) by omega))).trans ?_
        rw [if_pos (by omega), Int.toNat_natCast, hx]
        simp only [p40b, decide_eq_true h1, Bool.not_true, cond_false, wrapNext j (by omega)]
        exact q4 K
      · have hi2 : i < arr.length := by omega
        obtain ⟨i', arr', q1, q2, q3, q4⟩ := ih (i + 1) (j + 1) (arr.set i ls[j]) (by omega) (by omega) (by omega) (by rw [List.length_set]; exact ha)
          (by rw [List.drop_set_of_lt (by omega), ← List.drop_drop, ← List.drop_drop, hd])
          (by
            rw [hstep, List.filter_append, ← ht, List.take_add_one, List.getElem?_set_self hi2, List.take_set_of_le (Nat.le_refl _)]
            simp [other, h1])
        refine ⟨i', arr', q1, q2, q3, fun K => ?_⟩
        refine (condT (decide_eq_true (show (j : Int) < ((arr.length : Nat) : Int) by omega))).trans ?_
        rw [if_pos (by omega), Int.toNat_natCast, hx]
        simp only [p40b, decide_eq_false h1, Bool.not_false, cond_true]
        rw [if_pos (by omega), Int.toNat_natCast, List.getElem?_eq_getElem hi2]
        simp only [wrapNext j (by omega), wrapNext i (by omega)]
        exact q4 K
    · refine ⟨i, arr, by omega, ha, ?_, fun K => ?_⟩
      · rw [ht, List.take_of_length_le (by omega)]
      · exact condF (decide_eq_false (show ¬ (j : Int) < ((arr.length : Nat) : Int) by omega))

theorem delete_run (ls : List LK) (l : LK) (hl : ls.length < 9223372036854775807) : p39 FUEL (ls, l) = some (ls.filter (other l.1), l) := by
  obtain ⟨r, h1, h2⟩ := find_tx ls l hl (fun (x9, x10) => some (x9, x10)) (fun x11 => some ((-1 : Int), x11)) FUEL 0 (by have := big; omega) (Nat.zero_le _)
  simp only [p39, p65b, show ((0 : Nat) : Int) = 0 from rfl] at h1 ⊢
  rw [h1]
  cases r with
  | none =>
    simp only [List.drop_zero] at h2 ⊢
    rw [show ls.filter (other l.1) = ls from h2]
    rfl
  | some j =>
    simp only [List.drop_zero, Nat.sub_zero] at h2 ⊢
    obtain ⟨_, h3, h4, h5⟩ := h2
    rw [decide_eq_false (by omega), cond_false, wrapNext j (by omega)]
    obtain ⟨i', arr', q1, q2, q3, q4⟩ := del_loop l ls hl
      FUEL j (j + 1) ls (by have := big; omega) (by omega) (by omega) rfl rfl (by
        rw [List.take_add_one, List.getElem?_eq_getElem h3, List.filter_append]
        show _ = (ls.take j).filter (other l.1) ++ _
        rw [show (ls.take j).filter (other l.1) = ls.take j from h5.symm]
        simp [other, h4])
    rw [q4]
    simp only [Int.toNat_natCast]
    rw [if_pos (by omega)]
    have hlen : (List.take i' arr' ++ List.replicate (arr'.length - i') ((0 : Int), ([(0 : Int), (0 : Int), (0 : Int)], ((0 : Int), ((0 : Int), (false, (([] : List (ByteArray × ByteArray)), [(0 : Int), (0 : Int), (0 : Int), (0 : Int)])))))) ++ List.drop (i' + (arr'.length - i')) arr').length = ls.length := by
      simp only [List.length_append, List.length_take, List.length_replicate, List.length_drop]; omega
    rw [if_pos (by rw [hlen]; omega), hlen, show Nat.blt 0 ls.length = true by rw [Nat.blt_eq]; omega, cond_true, List.append_assoc, List.take_append_of_le_length (by rw [List.length_take]; omega), List.take_take, Nat.min_self, q3]

/-- Behind a decision: version, entries, locks, votes. -/
def verD (l : LK) (c : Bool) (ver : Int) : Int := if c = true ∧ l.2.2.2.2.1 = true ∧ ver ≤ l.2.2.2.1 then l.2.2.2.1 + 1 else ver
def dataD (l : LK) (c : Bool) (ver : Int) (d : List En) : List En := if c = true ∧ l.2.2.2.2.1 = true ∧ ver ≤ l.2.2.2.1 then l.2.2.2.2.2.1 else d
def votesD (l : LK) (vs : List (Int × Int)) : List (Int × Int) := if voted vs l.1 = 0 then (if vs.length < 64 then vs ++ [(l.1, 2)] else vs) else vs

def decideS (l : LK) (c : Bool) (s ver : Int) (d : List En) (ls : List LK) (vs : List (Int × Int)) : Int × Int × List En × List LK × List (Int × Int) :=
  if refused l s ≠ 0 then (refused l s, ver, d, ls, vs) else (0, verD l c ver, dataD l c ver d, ls.filter (other l.1), votesD l vs)

theorem decide_run (l : LK) (h : LkOk l) (h0 : 0 ≤ l.2.2.2.1) (c : Bool) (s inc ver : Int) (f : List Int) (d : List En) (ls : List LK) (hls : ls.length < 9223372036854775807) (vs : List (Int × Int)) (hvs : vs.length < 9223372036854775807) :
    p18 FUEL (0, l, c, (0, 0), s, inc, ver, f, d, ls, vs) = some ((decideS l c s ver d ls vs).1, (0, 0), s, inc, (decideS l c s ver d ls vs).2.1, f, (decideS l c s ver d ls vs).2.2.1, (decideS l c s ver d ls vs).2.2.2.1, (decideS l c s ver d ls vs).2.2.2.2) := by
  simp only [p18, locked_run l h, decideS]
  by_cases hr : refused l s = 0
  · rw [if_neg (fun c => c hr), if_neg (fun c => c hr)]
    obtain ⟨r1, r2, r3, r4⟩ := refused_zero hr
    have hv := right_inv r2
    have hdl : l.2.2.2.2.2.1.length ≤ 8 := hv.2.2.2
    -- behind the version
    have tail : ∀ (ver' : Int) (d' : List En) , j18_3 FUEL (fun (x101, x102, x103, x104, x105, x106, x107, x108, x109) => some (x101, x102, x103, x104, x105, x106, x107, x108, x109)) ((0, 0), s, inc, ver', f, d', ls, vs, l) = some (0, (0, 0), s, inc, ver', f, d', ls.filter (other l.1), votesD l vs) := by
      intro ver' d'
      simp only [j18_3, delete_run ls l hls, voted_run _ _ _ _ _ _ _ _ hvs, keep_run, votesD]
      by_cases h2 : voted vs l.1 = 0
      · rw [decide_eq_true h2, if_pos h2]; rfl
      · rw [decide_eq_false h2, if_neg h2]; rfl
    simp only [decide_true, Bool.not_true, cond_false, j18_2, clone_run _ (show l.2.2.2.2.2.1.length * 32 ≤ 140737488355328 by omega), verD, dataD]
    cases c with
    | false =>
      rw [if_neg (by simp), if_neg (by simp)]
      exact tail ver d
    | true =>
      cases hw : l.2.2.2.2.1 with
      | false =>
        rw [if_neg (by simp), if_neg (by simp)]
        exact tail ver d
      | true =>
        by_cases h3 : ver ≤ l.2.2.2.1
        · rw [decide_eq_true h3, if_pos ⟨rfl, rfl, h3⟩, if_pos ⟨rfl, rfl, h3⟩, wrapU32 (by omega) (by have := hv.2.2.1; omega)]
          exact tail _ _
        · rw [decide_eq_false h3, if_neg (by simp [h3]), if_neg (by simp [h3])]
          exact tail ver d
  · rw [if_pos hr, if_pos hr]
    simp only
    rw [decide_eq_false hr]; rfl

theorem read_run (inc ver : Int) (f : List Int) (d : List En) (hd : d.length * 32 ≤ 140737488355328) (ls : List LK) (vs : List (Int × Int)) :
    p19b FUEL (0, 0, (0, 0), 2, inc, ver, f, d, ls, vs) = some (0, inc, ver, 0, (0, 0), 2, inc, ver, f, d, ls, vs, d) := by
  simp only [p19b, p43b, j43b_0, p47b, eqKey, decide_true, cond_true, Bool.not_true, cond_false, clone_run2 d hd]

theorem open_run (inc : Int) (hi : inc ≠ 0) : p17 FUEL (0, 0, inc, true) = some (.inr (0, (0, 0), 2, inc, 0, [0, 0, 0, 0], [], [], [])) := by
  simp only [p17, p35, j17_0, p36]
  rw [decide_eq_false hi]
  rfl

theorem alive_run : p13 FUEL () = some true := by
  have ok : ∀ (tx ver : Int) (w : Bool) (is : List Int), is.length = 4 → LkOk (tx, ([0, 1, 2], (0, (ver, (w, ([], is)))))) := fun tx ver w is h => ⟨h, by simp⟩
  have e21 : ∀ (tx ver : Int) (w : Bool) (is : List Int), p21 FUEL (tx, ver, w, is) = some (tx, ([0, 1, 2], (0, (ver, (w, ([], is)))))) := fun tx ver w is => rfl
  simp only [p13, p16, open_run 1 (by decide), e21]
  rw [vote_run _ (ok _ _ _ _ rfl) _ _ _ _ rfl _ _ (by decide) _ (by decide)]
  have v1 : voteS (7, ([0, 1, 2], (0, (0, (true, ([], [1, 1, 1, 0])))))) 2 1 0 [0, 0, 0, 0] [] [] = (1, 0, [(7, ([0, 1, 2], (0, (0, (true, ([], [1, 1, 1, 0]))))))], [(7, 1)]) := by rfl
  rw [v1]
  simp only
  rw [vote_run _ (ok _ _ _ _ rfl) _ _ _ _ rfl _ _ (by decide) _ (by decide)]
  have v2 : voteS (8, ([0, 1, 2], (0, (0, (false, ([], [1, 1, 1, 0])))))) 2 1 0 [0, 0, 0, 0] [(7, ([0, 1, 2], (0, (0, (true, ([], [1, 1, 1, 0]))))))] [(7, 1)] = (2, 0, [(7, ([0, 1, 2], (0, (0, (true, ([], [1, 1, 1, 0]))))))], [(7, 1), (8, 2)]) := by rfl
  rw [v2]
  simp only
  rw [decide_run _ (ok _ _ _ _ rfl) (by decide) _ _ _ _ _ _ _ (by decide) _ (by decide)]
  have v3 : decideS (7, ([0, 1, 2], (0, (0, (true, ([], [1, 1, 1, 0])))))) true 2 0 [] [(7, ([0, 1, 2], (0, (0, (true, ([], [1, 1, 1, 0]))))))] [(7, 1), (8, 2)] = (0, 1, [], [], [(7, 1), (8, 2)]) := by rfl
  rw [v3]
  simp only
  rw [read_run _ _ _ _ (by decide)]
  simp only
  rw [vote_run _ (ok _ _ _ _ rfl) _ _ _ _ rfl _ _ (by decide) _ (by decide)]
  have v4 : (voteS (9, ([0, 1, 2], (0, (1, (true, ([], [2, 1, 1, 1])))))) 2 1 1 [0, 0, 0, 0] [] [(7, 1), (8, 2)]).2.1 = 153 := by rfl
  rw [v4]
  rfl
end Go.Am.Ytkfmnkpajjnpoaa
