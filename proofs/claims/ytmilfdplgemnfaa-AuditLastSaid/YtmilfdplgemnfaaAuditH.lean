/- Plain law of the printed functions of the audit: without the last one the rest stands. -/
import Derived.Test.YtmilfdplgemnfaaAuditG
import Derived.Test.YtmilfdplgemnfaaWalk3
namespace Go.Am.Ytmilfdplgemnfaa
/-- The history without one. -/
def less (h : List Done) (z : Nat) : List Done := h.take z ++ h.drop (z + 1)
theorem less_sub (h : List Done) (z : Nat) : (less h z).Sublist h := by
  unfold less
  rw [← List.eraseIdx_eq_take_drop_succ]
  exact List.eraseIdx_sublist h z
theorem less_len (h : List Done) {z : Nat} (hz : z < h.length) : (less h z).length + 1 = h.length := by
  unfold less
  rw [← List.eraseIdx_eq_take_drop_succ, List.length_eraseIdx_of_lt hz]; omega
theorem less_mem {h : List Done} {z : Nat} {d : Done} : d ∈ less h z ↔ ∃ q, ∃ (hq : q < h.length), q ≠ z ∧ h[q] = d := by
  unfold less
  rw [← List.eraseIdx_eq_take_drop_succ, List.mem_eraseIdx_iff_getElem]
theorem all_sub {l1 l2 : List Done} (s : l1.Sublist l2) : (allItems l1).Sublist (allItems l2) := by
  induction s with
  | slnil => exact List.Sublist.refl _
  | cons a _ ih =>
    refine ih.trans ?_
    simp only [allItems, List.flatMap_cons]
    exact List.sublist_append_right _ _
  | cons_cons a _ ih =>
    simp only [allItems, List.flatMap_cons]
    exact List.Sublist.append (List.Sublist.refl _) ih
theorem form_less {h : List Done} (hf : formB h = true) (z : Nat) : formB (less h z) = true := by
  simp only [formB, Bool.and_eq_true, decide_eq_true_eq] at hf ⊢
  refine ⟨List.all_eq_true.2 fun d hd => List.all_eq_true.1 hf.1 d ((less_sub h z).subset hd), hf.2.sublist ((less_sub h z).map _)⟩
theorem traced_less {h : List Done} (hf : formB h = true) (ht : tracedB h = true) (hv : ∀ d ∈ h, ∀ x ∈ d.2.2.2, 0 ≤ x.2.1) {T : List Nat} (hT : Ord h T) (hl : T.length = h.length) {P : List Nat} {z : Nat} (e : T = P ++ [z]) : tracedB (less h z) = true := by
  have hz : z < h.length := (hT P z [] e).1
  obtain ⟨t1, t2⟩ := ord_nodup hT
  have hle : ∀ k, cnt (allItems (less h z)) k ≤ cnt (allItems h) k := fun k => by
    unfold cnt
    exact List.Sublist.countP_le (all_sub (less_sub h z))
  unfold tracedB
  rw [List.all_eq_true]
  intro d hd
  rw [List.all_eq_true]
  intro x hx
  have hdh := (less_sub h z).subset hd
  have ok := List.all_eq_true.1 (List.all_eq_true.1 ht d hdh) x hx
  simp only [okT, Bool.and_eq_true, Bool.not_eq_true', Bool.and_eq_false_iff, decide_eq_false_iff_not] at ok ⊢
  refine ⟨?_, ok.2.imp id fun g => by have := hle (mk x); omega⟩
  by_cases c : 0 < x.2.1
  · refine .inr ?_
    obtain ⟨e', he', y, hy, y1, y2, y3⟩ := made_of ht hf hv hdh hx c
    have hin : e' ∈ less h z := by
      obtain ⟨p, hp, rfl⟩ := List.getElem_of_mem he'
      rw [less_mem]
      refine ⟨p, hp, fun pz => ?_, rfl⟩
      subst pz
      -- the last one would have to be ahead
      obtain ⟨q, hq, qz, e3⟩ := less_mem.1 hd
      have mq := all_in t1 t2 hl hq
      rw [e] at mq
      have qP : q ∈ P := by
        rcases List.mem_append.1 mq with g | g
        · exact g
        · simp at g; exact absurd g qz
      obtain ⟨P1, P2, e4⟩ := List.append_of_mem qP
      have e5 : T = P1 ++ q :: (P2 ++ [p]) := by rw [e, e4]; simp
      have hA := (hT _ _ _ e5).2.2 p hp (fun g => qz g.symm) fun g => (hT P p [] e).2.1 (by rw [e4]; simp [g])
      unfold A at hA
      rw [getD_of hp, getD_of hq, e3] at hA
      have := ah_of hy hx (form_of hf hdh).2 y2.symm (by unfold pair; rw [y1, decide_eq_true (show y.2.1 < x.2.1 by omega)]; simp)
      rw [this] at hA; cases hA
    have hpos : 0 < cnt (allItems (less h z)) (x.1, x.2.1) := by
      unfold cnt
      rw [List.countP_pos_iff]
      refine ⟨y, List.mem_flatMap.2 ⟨e', hin, hy⟩, ?_⟩
      have b1 := (form_of hf he').1 y hy
      have b2 := hv _ he' y hy
      simp only [y1, Bool.true_and, decide_eq_true_eq, mk, y2, Prod.mk.injEq, true_and]
      rw [wrapU32 (by omega) (by omega)]; exact y3
    omega
  · exact .inl c
/-- What an order says, told from its code. -/
theorem ordB_ok {h : List Done} (e : (ordB h).1 = 0) : formB h = true ∧ tracedB h = true ∧ ∃ T, Ord h T ∧ T.length = h.length ∧ ordB h = (0, T.map fun z : Nat => (z : Int)) ∧ Good h := by
  unfold ordB at e ⊢
  cases hf : formB h
  · rw [hf] at e; cases e
  cases ht : tracedB h
  · rw [hf, ht] at e; cases e
  rw [hf, ht] at e
  cases hk : kahn h h.length [] with
  | none => rw [hk] at e; cases e
  | some T =>
    have hn : (h.map (·.1)).Nodup := by
      simp only [formB, Bool.and_eq_true, decide_eq_true_eq] at hf
      exact hf.2
    obtain ⟨hT, hl⟩ := kahn_ord h _ _ _ (ord_nil h) hk
    exact ⟨rfl, rfl, T, hT, by simpa using hl, rfl, good_of_kahn hn hk⟩
theorem last_step {h : List Done} (hv : ∀ d ∈ h, ∀ x ∈ d.2.2.2, 0 ≤ x.2.1) {T : List Nat} (hf : formB h = true) (ht : tracedB h = true) (hT : Ord h T) (hl : T.length = h.length) (G : Good h) {P : List Nat} {z : Nat} (e : T = P ++ [z]) : (ordB (less h z)).1 = 0 := by
  rw [ordB_code, if_pos (form_less hf z), if_pos ⟨traced_less hf ht hv hT hl e, good_mem (fun d hd => (less_sub h z).subset hd) G⟩]
theorem l7_0_run (k1 : Unit → Option Bool) : ∀ (n : Nat) (h : List Done), h.length < n → h.length ≤ 60 → (∀ d ∈ h, d.2.2.2.length ≤ 3000000000000) → (∀ d ∈ h, ∀ x ∈ d.2.2.2, 0 ≤ x.2.1) →
    l7_0 FUEL (fun x => some x) k1 n (h, (ordB h).1, (ordB h).2) = k1 () := by
  intro n
  induction n with
  | zero => intro h hn; omega
  | succ n ih =>
    intro h hn hh hi hv
    show s7_0 FUEL (l7_0 FUEL _ _ n) _ _ _ = _
    simp only [s7_0]
    by_cases e : (ordB h).1 = 0
    · rw [decide_eq_true e, cond_true]
      obtain ⟨hf, ht, T, hT, hl, he, G⟩ := ordB_ok e
      have he2 : (ordB h).2 = T.map fun z : Nat => (z : Int) := by rw [he]
      rw [he2, List.length_map]
      rcases List.eq_nil_or_concat T with rfl | ⟨P, z, rfl⟩
      · rfl
      · rw [List.concat_eq_append] at hT hl
        simp only [List.concat_eq_append]
        rw [List.length_append, List.length_singleton] at hl
        have hz : z < h.length := (hT P z [] rfl).1
        have hget : (List.map (fun z : Nat => (z : Int)) (P ++ [z]))[P.length]? = some (z : Int) := by simp
        rw [List.length_append, List.length_singleton, decide_eq_true (by omega), cond_true, wrapI (by omega) (by omega), if_pos (by omega), show (((P.length + 1 : Nat) : Int) - 1).toNat = P.length by omega, hget]
        simp only
        have e1 : List.drop 0 (List.take (Int.toNat (z : Int)) h) = h.take z := by rw [Int.toNat_natCast, List.drop_zero]
        have e2 : List.drop (Int.toNat ((z + 1 : Nat) : Int)) (List.take h.length h) = h.drop (z + 1) := by rw [Int.toNat_natCast, List.take_length]
        rw [if_pos (by omega), wrapNext z (by omega), e1, e2, if_pos (by rw [List.length_take]; omega), if_pos (by omega)]
        have hll := less_len h hz
        have hlh : (less h z).length ≤ 60 := by omega
        have sub := (less_sub h z).subset
        rw [if_pos (by rw [List.length_take, List.length_drop]; omega)]
        have hp : p9b FUEL (h.take z ++ h.drop (z + 1)) = some (ordB (less h z)) := by
          rw [same9b]
          exact p9_eq (less h z) hlh fun d hd => hi d (sub hd)
        rw [hp]
        have code := last_step hv hf ht hT (by simpa using hl) G rfl
        obtain ⟨_, _, T2, hT2, hl2, he3, _⟩ := ordB_ok code
        simp only [code, decide_true, Bool.not_true, cond_false]
        have e4 : (ordB (less h z)).2.length = (less h z).length := by rw [he3, List.length_map, hl2]
        rw [e4, show (h.take z ++ h.drop (z + 1)) = less h z from rfl, decide_eq_true rfl, Bool.not_true, cond_false]
        have := ih (less h z) (by omega) hlh (fun d hd => hi d (sub hd)) fun d hd => hv d (sub hd)
        rw [code] at this
        exact this
    · rw [decide_eq_false e, cond_false]
theorem last (h : List Done) (w : Ty.wr (.slice DT) h) : p7 FUEL h = some true := by
  have hb := big
  have hl : (h.take 60).length ≤ 60 := by rw [List.length_take]; omega
  have hi : ∀ d ∈ h.take 60, d.2.2.2.length ≤ 3000000000000 := fun d hd => by
    have := (w.2 d (List.mem_of_mem_take hd)).2.2.2.1.2
    have : d.2.2.2.length * 53 ≤ 140737488351232 := this
    omega
  have hv : ∀ d ∈ h.take 60, ∀ x ∈ d.2.2.2, 0 ≤ x.2.1 := fun d hd x hx => (wf_u32 ((w.2 d (List.mem_of_mem_take hd)).2.2.2.2 x hx).2.1).1
  simp only [p7, p8_eq, p9_eq _ hl hi, p12_eq]
  exact l7_0_run (fun _ => some true) FUEL (h.take 60) (by omega) hl hi hv
end Go.Am.Ytmilfdplgemnfaa
