/- Plain laws of the printed functions of the store: all that a replica holds. -/
import Derived.Test.YtkfmnkpajjnpoaaStoreO
import Derived.Test.YtkfmnkpajjnpoaaWalkB
namespace Go.Am.Ytkfmnkpajjnpoaa
theorem own_run2 (l : LK) (h : l.2.2.2.2.2.1.length * 32 ≤ 140737488355328) : p46b FUEL l = some l := by
  simp only [p46b, clone_run2 _ h]
theorem votes_run (x : List (Int × Int)) (h : x.length * 16 ≤ 140737488355328) : p70 FUEL x = some x := by
  have e : j70_0 FUEL (fun x => some x) x = some x := by
    simp only [j70_0, List.length_nil, Nat.zero_add, List.nil_append]
    rw [if_pos h]
  simp only [p70, e]
  cases x with
  | nil => exact fork_self _
  | cons a l => rfl

/-- A copy that is not too large. -/
structure Fits (d : List En) (ls : List LK) (vs : List (Int × Int)) : Prop where
  data : d.length * 32 ≤ 140737488355328
  locks : ls.length * 88 ≤ 140737488355328
  each : ∀ l ∈ ls, l.2.2.2.2.2.1.length * 32 ≤ 140737488355328
  votes : vs.length * 16 ≤ 140737488355328

theorem copied_run (s inc ver : Int) (f : List Int) (d : List En) (ls : List LK) (vs : List (Int × Int)) (h : Fits d ls vs) : p48 FUEL (s, (inc, (ver, (d, (ls, (f, vs)))))) = some (s, inc, ver, f, d, ls, vs) := by
  simp only [p48, clone_run2 d h.data, votes_run vs h.votes]
  have hL := h.locks
  have key := list_loop (S := List LK) (L := fun n y => l48_0 FUEL (fun (x21, x22, x23, x24, x25, x26, x27, x28, x29, x30, x31, x32) => some (x21, x22, x23, x25, x26, x32, x27)) n y)
    (step := fun F => s48_0 FUEL F (fun (x21, x22, x23, x24, x25, x26, x27, x28, x29, x30, x31, x32) => some (x21, x22, x23, x25, x26, x32, x27))) (fun n x => rfl) ls
    (fun i acc => (ls, ((ls.length : Nat) : Int), (i : Int), s, inc, ver, ls, f, d, vs, 0, 0, 0, [0, 0, 0, 0], acc)) (fun _ => True) (fun acc l => if acc.length < ls.length then .inr (acc ++ [l]) else .inr acc) (fun acc => some (s, inc, ver, f, d, acc, vs))
  have key2 := for_loop (S := Unit) (L := fun n y => l48_0 FUEL (fun (x21, x22, x23, x24, x25, x26, x27, x28, x29, x30, x31, x32) => some (x21, x22, x23, x25, x26, x32, x27)) n y)
    (step := fun F => s48_0 FUEL F (fun (x21, x22, x23, x24, x25, x26, x27, x28, x29, x30, x31, x32) => some (x21, x22, x23, x25, x26, x32, x27))) (fun n x => rfl)
    (fun i _ => (ls, ((ls.length : Nat) : Int), (i : Int), s, inc, ver, ls, f, d, vs, 0, 0, 0, [0, 0, 0, 0], ls.take i)) ls.length (fun _ _ => True) (fun _ _ => .inr ()) (fun _ => some (s, inc, ver, f, d, ls, vs))
    (fun F i _ hi _ => by
      refine (condT (decide_eq_true (show (i : Int) < ((ls.length : Nat) : Int) by omega))).trans ?_
      rw [if_pos (show (0 : Int) ≤ (i : Int) by omega), Int.toNat_natCast, List.getElem?_eq_getElem hi]
      simp only [own_run2 _ (h.each _ (List.getElem_mem hi)), wrapNext i (by omega)]
      rw [if_pos (by rw [List.length_take, List.length_singleton]; omega)]
      rw [List.take_add_one, List.getElem?_eq_getElem hi]; rfl)
    (fun F _ _ => by
      refine (condF (decide_eq_false (Int.lt_irrefl _))).trans ?_
      rw [List.take_of_length_le (Nat.le_refl _)])
    (fun _ _ _ _ _ _ => trivial) ls.length 0 () FUEL (Nat.zero_add _) (by have := big; omega) trivial
  clear key
  rw [forI_fold] at key2
  exact key2

theorem extract_run (s inc ver : Int) (f : List Int) (d : List En) (ls : List LK) (vs : List (Int × Int)) (h : Fits d ls vs) :
    p23b FUEL (0, 0, (0, 0), s, inc, ver, f, d, ls, vs) = some (s, inc, ver, f, 0, (0, 0), s, inc, ver, f, d, ls, vs, d, ls, vs) := by
  simp only [p23b, p47b, eqKey, decide_true, cond_true, Bool.not_true, cond_false, copied_run s inc ver f d ls vs h]

/-! ### What votes and decisions keep -/
/-- Two locks are not at odds, and of two transactions. -/
def Apart (x y : LK) : Prop := (x.2.2.2.2.1 || y.2.2.2.2.1) = false ∧ x.1 ≠ y.1

structure Kept (ver : Int) (d : List En) (ls : List LK) (vs : List (Int × Int)) : Prop where
  ver : 0 ≤ ver
  data : d.length ≤ 8
  locks : ls.length ≤ 16
  each : ∀ l ∈ ls, l.2.2.2.2.2.1.length ≤ 8
  votes : vs.length ≤ 64
  some_ : ∀ v ∈ vs, v.2 ≠ 0
  apart : ls.Pairwise Apart
  told : ∀ l ∈ ls, voted vs l.1 ≠ 0

theorem Kept.fits {ver : Int} {d : List En} {ls : List LK} {vs : List (Int × Int)} (k : Kept ver d ls vs) : Fits d ls vs :=
  ⟨by have := k.data; omega, by have := k.locks; omega, fun l hl => by have := k.each l hl; omega, by have := k.votes; omega⟩
theorem Kept.nil : Kept 0 [] [] [] := 
  { ver := Int.le_refl _, data := by simp, locks := by simp, each := (by intro _ h; cases h), votes := by simp, some_ := (by intro _ h; cases h), apart := List.Pairwise.nil, told := (by intro _ h; cases h) }

theorem voted_some {vs : List (Int × Int)} {tx : Int} (h : voted vs tx ≠ 0) (l : List (Int × Int)) : voted (vs ++ l) tx = voted vs tx := by
  unfold voted at *
  rw [List.find?_append]
  cases hf : vs.find? (fun v => decide (v.1 = tx)) with
  | none => rw [hf] at h; exact absurd rfl h
  | some v => rfl
theorem voted_none {vs : List (Int × Int)} (hs : ∀ v ∈ vs, v.2 ≠ 0) {tx : Int} (h : voted vs tx = 0) (v : Int) : voted (vs ++ [(tx, v)]) tx = v := by
  unfold voted at *
  rw [List.find?_append]
  cases hf : vs.find? (fun v => decide (v.1 = tx)) with
  | none => simp
  | some w =>
    rw [hf] at h
    exact absurd h (hs w (List.mem_of_find?_eq_some hf))
theorem voted_other {vs : List (Int × Int)} {tx t : Int} (h : t ≠ tx) (v : Int) : voted (vs ++ [(t, v)]) tx = voted vs tx := by
  unfold voted
  rw [List.find?_append]
  cases vs.find? (fun v => decide (v.1 = tx)) with
  | none => simp [h]
  | some w => rfl
theorem voted_stays {vs : List (Int × Int)} {tx v : Int} (h : voted vs tx = v) (hv : v ≠ 0) (l : List (Int × Int)) : voted (vs ++ l) tx = v := by
  rw [voted_some (by rw [h]; exact hv), h]

theorem kept_vote {ver : Int} {d : List En} {ls : List LK} {vs : List (Int × Int)} (k : Kept ver d ls vs) (l : LK) (inc : Int) (f : List Int) :
    Kept ver d (voteS l 2 inc ver f ls vs).2.2.1 (voteS l 2 inc ver f ls vs).2.2.2 := by
  unfold voteS
  by_cases hr : refused l 2 = 0
  · rw [if_neg (fun c => c hr)]
    obtain ⟨r1, r2, r3, r4⟩ := refused_zero hr
    have hri := right_inv r2
    split
    · exact k
    · split
      · exact k
      · rename_i hv
        have hv : voted vs l.1 = 0 := by simpa using hv
        split
        · rename_i h64
          have snoc : ∀ v : Int, v ≠ 0 → (vs ++ [(l.1, v)]).length ≤ 64 ∧ (∀ w ∈ vs ++ [(l.1, v)], w.2 ≠ 0) ∧ ∀ x ∈ ls, voted (vs ++ [(l.1, v)]) x.1 ≠ 0 := by
            intro v hv0
            refine ⟨by simp; omega, fun w hw => ?_, fun x hx => ?_⟩
            · rcases List.mem_append.1 hw with h | h
              · exact k.some_ w h
              · simp at h; subst h; exact hv0
            · rw [voted_some (k.told x hx)]; exact k.told x hx
          cases hb : bad l ver f ls with
          | true =>
            obtain ⟨q1, q2, q3⟩ := snoc 2 (by decide)
            exact ⟨k.ver, k.data, k.locks, k.each, q1, q2, k.apart, q3⟩
          | false =>
            obtain ⟨q1, q2, q3⟩ := snoc 1 (by decide)
            unfold bad at hb
            simp only [Bool.or_eq_false_iff, decide_eq_false_iff_not] at hb
            obtain ⟨b1, b2, b3, b4⟩ := hb
            refine ⟨k.ver, k.data, by simp; omega, fun x hx => ?_, q1, q2, ?_, fun x hx => ?_⟩
            · rcases List.mem_append.1 hx with h | h
              · exact k.each x h
              · simp at h; subst h; exact hri.2.2.2
            · refine List.pairwise_append.2 ⟨k.apart, List.pairwise_singleton _ _, fun x hx y hy => ?_⟩
              simp at hy; subst hy
              unfold odds at b4
              rw [List.any_eq_false] at b4
              refine ⟨by simpa using b4 x hx, fun e => ?_⟩
              have := k.told x hx
              rw [e] at this; exact this hv
            · rcases List.mem_append.1 hx with h | h
              · exact q3 x h
              · simp at h; subst h
                show voted (vs ++ [(x.1, 1)]) x.1 ≠ 0
                rw [voted_none k.some_ hv]; decide
        · exact k
  · rw [if_pos hr]; exact k

theorem verD_le (l : LK) (c : Bool) (ver : Int) : ver ≤ verD l c ver := by
  unfold verD
  split
  · rename_i h; have := h.2.2; omega
  · exact Int.le_refl _

theorem kept_decide {ver : Int} {d : List En} {ls : List LK} {vs : List (Int × Int)} (k : Kept ver d ls vs) (l : LK) (c : Bool) :
    Kept (decideS l c 2 ver d ls vs).2.1 (decideS l c 2 ver d ls vs).2.2.1 (decideS l c 2 ver d ls vs).2.2.2.1 (decideS l c 2 ver d ls vs).2.2.2.2 ∧ ver ≤ (decideS l c 2 ver d ls vs).2.1 := by
  unfold decideS
  by_cases hr : refused l 2 = 0
  · rw [if_neg (fun c => c hr)]
    obtain ⟨r1, r2, r3, r4⟩ := refused_zero hr
    have hri := right_inv r2
    have hver := verD_le l c ver
    have hd : (dataD l c ver d).length ≤ 8 := by
      unfold dataD
      split
      · exact hri.2.2.2
      · exact k.data
    have hvs : (votesD l vs).length ≤ 64 ∧ (∀ v ∈ votesD l vs, v.2 ≠ 0) ∧ ∀ t, voted vs t ≠ 0 → voted (votesD l vs) t ≠ 0 := by
      unfold votesD
      split
      · split
        · refine ⟨by simp; omega, fun w hw => ?_, fun t ht => by rw [voted_some ht]; exact ht⟩
          rcases List.mem_append.1 hw with h | h
          · exact k.some_ w h
          · simp at h; subst h; show (2 : Int) ≠ 0; decide
        · exact ⟨k.votes, k.some_, fun _ h => h⟩
      · exact ⟨k.votes, k.some_, fun _ h => h⟩
    refine ⟨⟨Int.le_trans k.ver hver, hd, Nat.le_trans (List.length_filter_le _ _) k.locks, fun x hx => k.each x (List.mem_filter.1 hx).1, hvs.1, hvs.2.1, k.apart.filter _, fun x hx => hvs.2.2 _ (k.told x (List.mem_filter.1 hx).1)⟩, hver⟩
  · rw [if_pos hr]; exact ⟨k, Int.le_refl _⟩

theorem votesD_stays {l : LK} {vs : List (Int × Int)} {tx v : Int} (h : voted vs tx = v) (hv : v ≠ 0) : voted (votesD l vs) tx = v := by
  unfold votesD
  split
  · split
    · exact voted_stays h hv _
    · exact h
  · exact h
end Go.Am.Ytkfmnkpajjnpoaa
