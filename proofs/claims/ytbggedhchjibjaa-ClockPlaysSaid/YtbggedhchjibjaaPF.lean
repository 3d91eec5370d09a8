/- Plain laws of the printed functions of the clock: the clock and the document's, side by side: setting, stopping, the next. -/
import Derived.Test.YtbggedhchjibjaaPE
namespace Go.Am.Ytbggedhchjibjaa
/-- A timer as the document has it. -/
def strip (t : TM) : Int × Int := (t.1, t.2.1)
/-- Another name than this? -/
def other (id : Int) (t : TM) : Bool := !decide (t.1 = id)

theorem set_perm : ∀ (l : List TM) (i : Nat) (t : TM), i < l.length → ∃ rest, l.Perm (H l i :: rest) ∧ (l.set i t).Perm (t :: rest)
  | [], i, t, h => by simp at h
  | x :: l, 0, t, _ => ⟨l, List.Perm.refl _, List.Perm.refl _⟩
  | x :: l, i + 1, t, h => by
    obtain ⟨rest, h1, h2⟩ := set_perm l i t (by simpa using h)
    exact ⟨x :: rest, (List.Perm.cons x h1).trans (List.Perm.swap _ _ _), (List.Perm.cons x h2).trans (List.Perm.swap _ _ _)⟩

theorem ids_nodup {h : List TM} {m : MM} (w : Tidy h m) : (h.map (·.1)).Nodup := by
  unfold List.Nodup
  rw [List.pairwise_iff_getElem]
  intro i j hi hj hij e
  rw [List.length_map] at hi hj
  rw [List.getElem_map, List.getElem_map, H_get hi, H_get hj] at e
  have := w.placed.inj hi hj e
  omega

theorem filter_rest {h rest : List TM} {x : TM} (hp : h.Perm (x :: rest)) (nd : (h.map (·.1)).Nodup) : (h.filter (other x.1)).Perm rest := by
  have nd2 : ((x :: rest).map (·.1)).Nodup := ((hp.map (·.1)).nodup_iff).1 nd
  rw [List.map_cons, List.nodup_cons] at nd2
  have h1 : (h.filter (other x.1)).Perm ((x :: rest).filter (other x.1)) := hp.filter _
  have h2 : (x :: rest).filter (other x.1) = rest := by
    rw [List.filter_cons_of_neg (by simp [other]), List.filter_eq_self]
    intro t ht
    unfold other
    have : t.1 ≠ x.1 := fun e => nd2.1 (List.mem_map.2 ⟨t, ht, e⟩)
    simp [this]
  rw [h2] at h1
  exact h1

/-- The clock and the document's. -/
structure Rl (s : Int) (h : List TM) (m : MM) (L' : List TM) : Prop where
  tidy : Tidy h m
  perm : h.Perm L'
  few : h.length ≤ 256
  ordered : L'.Pairwise (fun a b => a.2.2 < b.2.2)
  below : ∀ t ∈ L', t.2.2 < s
  s0 : 0 ≤ s

theorem Rl.nodup {s : Int} {h : List TM} {m : MM} {L' : List TM} (R : Rl s h m L') : (L'.map (·.1)).Nodup := ((R.perm.map (·.1)).nodup_iff).1 (ids_nodup R.tidy)
theorem Rl.len {s : Int} {h : List TM} {m : MM} {L' : List TM} (R : Rl s h m L') : L'.length = h.length := R.perm.length_eq.symm

theorem without_run (L' : List TM) (hl : L'.length ≤ 256) (id : Int) : p31 FUEL (L'.map strip, id) = some (L'.any (fun t => decide (t.1 = id)), (L'.filter (other id)).map strip) := by
  have hlen : (L'.map strip).length = L'.length := List.length_map _
  have key := for_loop (S := Bool × List (Int × Int)) (L := fun n y => l31_0 FUEL (fun (x10, x11) => some (x10, x11)) n y) (step := fun F => s31_0 FUEL F (fun (x10, x11) => some (x10, x11))) (fun n x => rfl)
    (fun i q => (L'.map strip, id, q.1, (i : Int), q.2)) L'.length (fun i q => q.2.length ≤ i)
    (fun i q => .inr (bif decide ((H L' i).1 = id) then (true, q.2) else (q.1, q.2 ++ [strip (H L' i)]))) (fun q => some q)
    (fun F i q hi hq => by
      refine (condT (decide_eq_true (show (i : Int) < (((L'.map strip).length : Nat) : Int) by omega))).trans ?_
      have hg : (L'.map strip)[i]? = some (strip (H L' i)) := by rw [List.getElem?_map, H_some hi]; rfl
      simp only [if_pos (Int.natCast_nonneg i), Int.toNat_natCast, hg, wrapNext i (by omega)]
      have e1 : (strip (H L' i)).1 = (H L' i).1 := rfl
      rw [e1]
      cases decide ((H L' i).1 = id) with
      | true => rfl
      | false =>
        simp only [cond_false]
        rw [if_pos (by simp; omega)])
    (fun F q _ => condF (decide_eq_false (by rw [hlen]; exact Int.lt_irrefl _)))
    (fun i q q' _ hq he => by
      have he := Sum.inr.inj he
      rw [← he]
      cases decide ((H L' i).1 = id)
      · simp; omega
      · exact Nat.le_succ_of_le hq) L'.length 0 (false, []) FUEL (Nat.zero_add _) (by have := big; omega) (Nat.le_refl _)
  rw [forI_fold] at key
  simp only [p31]
  refine key.trans ?_
  have fold := foldI_list L' (fun (q : Bool × List (Int × Int)) (t : TM) => bif decide (t.1 = id) then (true, q.2) else (q.1, q.2 ++ [strip t])) (0, (0, 0)) L'.length 0 (false, []) (by omega)
  refine (congrArg some fold).trans ?_
  rw [List.drop_zero]
  have gen : ∀ (l : List TM) (q : Bool × List (Int × Int)), l.foldl (fun (q : Bool × List (Int × Int)) (t : TM) => bif decide (t.1 = id) then (true, q.2) else (q.1, q.2 ++ [strip t])) q = (q.1 || l.any (fun t => decide (t.1 = id)), q.2 ++ (l.filter (other id)).map strip) := by
    intro l
    induction l with
    | nil => intro q; simp
    | cons t l ih =>
      intro q
      rw [List.foldl_cons, ih, List.any_cons]
      cases hd : decide (t.1 = id) with
      | true =>
        rw [List.filter_cons_of_neg (by unfold other; rw [hd]; decide)]
        simp
      | false =>
        rw [List.filter_cons_of_pos (by unfold other; rw [hd]; decide), List.map_cons]
        simp
  rw [gen]
  simp

theorem any_iff {s : Int} {h : List TM} {m : MM} {L' : List TM} (R : Rl s h m L') (id : Int) : L'.any (fun t => decide (t.1 = id)) = (at_ m id).isSome := by
  cases ha : at_ m id with
  | some v =>
    obtain ⟨i, hi, _, e⟩ := (R.tidy.placed.at_iff id v).1 ha
    exact List.any_eq_true.2 ⟨H h i, R.perm.mem_iff.1 (H_mem hi), decide_eq_true e⟩
  | none =>
    show _ = false
    rw [List.any_eq_false]
    intro t ht
    obtain ⟨i, hi, e⟩ := mem_H (R.perm.mem_iff.2 ht)
    intro hc
    have hc := of_decide_eq_true hc
    have := (R.tidy.placed.at_iff id i).2 ⟨i, hi, rfl, by rw [e]; exact hc⟩
    rw [ha] at this; cases this

/-- A timer that is there is set anew. -/
theorem set_old {h : List TM} {m : MM} (w : Tidy h m) (hl : h.length ≤ 256) {i : Nat} (hi : i < h.length) {due : Int} (d0 : 0 ≤ due) (d1 : due ≤ 1099511627776) {r mi s : Int} (s0 : 0 ≤ s) (s1 : s < 4294967296) :
    ∃ (h' : List TM) (m' : MM), p12 FUEL ((H h i).1, due, r, mi, s, h, m.1, m.2.1, m.2.2) = some (0, r, mi, s + 1, h', m'.1, m'.2.1, m'.2.2) ∧ Tidy h' m' ∧ h'.Perm (h.set i ((H h i).1, (due, s))) := by
  have hH : ∀ j, j ≠ i → H (h.set i ((H h i).1, (due, s))) j = H h j := fun j hj => by
    unfold H; rw [List.getD_eq_getElem?_getD, List.getElem?_set_ne (fun e => hj e.symm), List.getD_eq_getElem?_getD]
  have hHi : H (h.set i ((H h i).1, (due, s))) i = ((H h i).1, (due, s)) := by
    unfold H; rw [List.getD_eq_getElem?_getD, List.getElem?_set_self hi]; rfl
  have hid : ∀ j, (H (h.set i ((H h i).1, (due, s))) j).1 = (H h j).1 := fun j => by
    by_cases e : j = i
    · subst e; rw [hHi]
    · rw [hH j e]
  have hsl : (h.set i ((H h i).1, (due, s))).length = h.length := List.length_set
  have pl : Placed (h.set i ((H h i).1, (due, s))) m := by
    refine ⟨w.placed.sound, fun k v => ?_⟩
    rw [w.placed.at_iff, hsl]
    constructor
    · rintro ⟨j, hj, hv, e⟩; exact ⟨j, hj, hv, by rw [hid]; exact e⟩
    · rintro ⟨j, hj, hv, e⟩; exact ⟨j, hj, hv, by rw [hid] at e; exact e⟩
  have al : Almost (h.set i ((H h i).1, (due, s))) i := by
    refine ⟨fun j j0 jl jn jp => ?_, fun j j0 jl jp i0 => ?_⟩
    · rw [hsl] at jl
      rw [hH j jn, hH _ jp]
      exact w.heap j j0 jl
    · rw [hsl] at jl
      have h1 := par_lt j0
      have h2 := par_lt i0
      rw [hH j (by omega), hH (par i) (by omega)]
      have h3 := w.heap j j0 jl
      rw [jp] at h3
      exact le_trans (w.heap i i0 hi) h3
  obtain ⟨h', m', e1, e2, e3, e4⟩ := settle_run (i := i) (by rw [hsl]; exact hi) (by rw [hsl]; exact hl) al pl r mi (s + 1)
  refine ⟨h', m', ?_, ⟨e2, e3⟩, e4⟩
  have hat : mfind (.int .u64) (.int .i64) (H h i).1 m.1 = some (i : Int) := (w.placed.at_iff _ _).2 ⟨i, hi, rfl, rfl⟩
  simp only [p12, hat, Option.isSome_some, Bool.not_true, Option.getD_some, j12_0]
  rw [decide_eq_false (show ¬ due < 0 by omega), decide_eq_false (show ¬ (1099511627776 : Int) < due by omega)]
  simp only [cond_false]
  rw [if_pos (show (0 : Int) ≤ (i : Int) ∧ (i : Int) < ((h.length : Nat) : Int) by omega), Int.toNat_natCast, H_some hi, wrapU' (n := s + 1) (by omega) (by omega)]
  simp only
  rw [e1]

theorem set_both {s : Int} {h : List TM} {m : MM} {L' : List TM} (R : Rl s h m L') (s1 : s < 4294967296) (id due r mi : Int) :
    ∃ (e s' : Int) (h' : List TM) (m' : MM) (L2 : List TM), p12 FUEL (id, due, r, mi, s, h, m.1, m.2.1, m.2.2) = some (e, r, mi, s', h', m'.1, m'.2.1, m'.2.2) ∧ p25 FUEL (id, due, r, mi, L'.map strip) = some (e, r, mi, L2.map strip) ∧ Rl s' h' m' L2 ∧ s' ≤ s + 1 := by
  have hlen := R.len
  have hfew := R.few
  have h0 := R.s0
  by_cases d0 : due < 0
  · exact ⟨1, s, h, m, L', by simp only [p12]; rw [decide_eq_true d0]; rfl, by simp only [p25]; rw [decide_eq_true d0]; rfl, R, by omega⟩
  by_cases d1 : 1099511627776 < due
  · exact ⟨1, s, h, m, L', by simp only [p12]; rw [decide_eq_false d0, decide_eq_true d1]; rfl, by simp only [p25]; rw [decide_eq_false d0, decide_eq_true d1]; rfl, R, by omega⟩
  have hw := without_run L' (by omega) id
  have hany := any_iff R id
  have hfl : (L'.filter (other id)).length ≤ L'.length := List.length_filter_le _ _
  -- the document's, once it is known that there is room
  have ref : ∀ (b : Bool), (at_ m id).isSome = b → (b = true ∨ L'.length ≠ 256 ) → (b = false → L'.filter (other id) = L') → p25 FUEL (id, due, r, mi, L'.map strip) = some (0, r, mi, ((L'.filter (other id)) ++ [(id, (due, s))]).map strip) := by
    intro b hb hroom hself
    simp only [p25, hw, hany, hb, j25_0]
    rw [decide_eq_false d0, decide_eq_false d1]
    simp only [cond_false]
    have hroom2 : (((L'.filter (other id)).map strip).length + List.length [(id, due)]) * 16 ≤ 140737488355328 := by rw [List.length_map]; simp; omega
    rw [if_pos hroom2, List.map_append]
    cases b with
    | true => rfl
    | false =>
      have hne := hroom.resolve_left (by decide)
      rw [hself rfl, decide_eq_false (show ¬ (((L'.map strip).length : Nat) : Int) = 256 by rw [List.length_map]; omega)]; rfl
  have ordered : ∀ (l : List TM), l.Sublist L' → (l ++ [(id, (due, s))]).Pairwise (fun a b => a.2.2 < b.2.2) ∧ ∀ t ∈ l ++ [(id, (due, s))], t.2.2 < s + 1 := by
    intro l hl
    refine ⟨List.pairwise_append.2 ⟨R.ordered.sublist hl, List.pairwise_singleton _ _, fun a ha b hb => ?_⟩, fun t ht => ?_⟩
    · simp at hb; subst hb
      exact R.below a (hl.subset ha)
    · rcases List.mem_append.1 ht with ht | ht
      · have := R.below t (hl.subset ht); omega
      · simp at ht; subst ht; show s < s + 1; omega
  cases ha : at_ m id with
  | some v =>
    obtain ⟨i, hi, _, e⟩ := (R.tidy.placed.at_iff id v).1 ha
    obtain ⟨h', m', e1, e2, e3⟩ := set_old R.tidy hfew hi (due := due) (by omega) (by omega) (r := r) (mi := mi) h0 s1
    rw [e] at e1 e3
    obtain ⟨rest, q1, q2⟩ := set_perm h i (id, (due, s)) hi
    have q3 := filter_rest q1 (ids_nodup R.tidy)
    rw [e] at q3
    have q4 : (L'.filter (other id)).Perm rest := (R.perm.symm.filter _).trans q3
    obtain ⟨o1, o2⟩ := ordered (L'.filter (other id)) (List.filter_sublist)
    refine ⟨0, s + 1, h', m', L'.filter (other id) ++ [(id, (due, s))], e1, ref true (by rw [ha]; rfl) (.inl rfl) (fun x => by cases x), ⟨e2, ?_, by rw [e3.length_eq, List.length_set]; exact hfew, o1, o2, by omega⟩, Int.le_refl _⟩
    refine (e3.trans q2).trans ?_
    refine (List.Perm.cons _ q4.symm).trans ?_
    exact (List.perm_append_comm (l₁ := [(id, (due, s))]))
  | none =>
    have hself : L'.filter (other id) = L' := by
      rw [List.filter_eq_self]
      intro t ht
      have h1 : L'.any (fun t => decide (t.1 = id)) = false := by rw [hany, ha]; rfl
      rw [List.any_eq_false] at h1
      unfold other
      have := h1 t ht
      simpa using this
    by_cases hfull : h.length = 256
    · refine ⟨62, s, h, m, L', ?_, ?_, R, by omega⟩
      · have ha' : mfind (.int .u64) (.int .i64) id m.1 = none := ha
        simp only [p12, ha', Option.isSome_none, Bool.not_false, cond_true]
        rw [decide_eq_false d0, decide_eq_false d1, decide_eq_true (show ((h.length : Nat) : Int) = 256 by omega)]; rfl
      · simp only [p25, hw, hany, ha, hself]
        rw [decide_eq_false d0, decide_eq_false d1, decide_eq_true (show (((L'.map strip).length : Nat) : Int) = 256 by rw [List.length_map]; omega)]; rfl
    · obtain ⟨h', m', e1, e2, e3⟩ := set_new R.tidy (by omega) (due := due) (by omega) (by omega) ha (r := r) (mi := mi) h0 s1
      obtain ⟨o1, o2⟩ := ordered (L'.filter (other id)) (List.filter_sublist)
      refine ⟨0, s + 1, h', m', L'.filter (other id) ++ [(id, (due, s))], e1, ref false (by rw [ha]; rfl) (.inr (by omega)) (fun _ => hself), ⟨e2, ?_, by rw [e3.length_eq]; simp; omega, o1, o2, by omega⟩, Int.le_refl _⟩
      rw [hself]
      exact e3.trans (R.perm.append_right _)

theorem stop_both {s : Int} {h : List TM} {m : MM} {L' : List TM} (R : Rl s h m L') (id r mi r' mi' : Int) :
    ∃ (b : Bool) (h' : List TM) (m' : MM) (L2 : List TM), p21 FUEL (id, r, mi, s, h, m.1, m.2.1, m.2.2) = some (b, r, mi, s, h', m'.1, m'.2.1, m'.2.2) ∧ p26 FUEL (id, r', mi', L'.map strip) = some (b, r', mi', L2.map strip) ∧ Rl s h' m' L2 := by
  have hlen := R.len
  have hfew := R.few
  have hw := without_run L' (by omega) id
  have hany := any_iff R id
  have e26 : p26 FUEL (id, r', mi', L'.map strip) = some ((at_ m id).isSome, r', mi', (L'.filter (other id)).map strip) := by
    simp only [p26, hw, hany]
  cases ha : at_ m id with
  | some v =>
    obtain ⟨i, hi, _, e⟩ := (R.tidy.placed.at_iff id v).1 ha
    obtain ⟨h', m', e1, e2, e3⟩ := stop_at R.tidy hfew hi r mi s
    have q3 := filter_rest e3 (ids_nodup R.tidy)
    rw [e] at e1 q3
    have hl3 := e3.length_eq
    rw [List.length_cons] at hl3
    rw [ha] at e26
    exact ⟨true, h', m', L'.filter (other id), e1, e26, ⟨e2, q3.symm.trans (R.perm.filter _), by omega, R.ordered.sublist List.filter_sublist, fun t ht => R.below t (List.mem_filter.1 ht).1, R.s0⟩⟩
  | none =>
    have ha' : mfind (.int .u64) (.int .i64) id m.1 = none := ha
    have hself : L'.filter (other id) = L' := by
      rw [List.filter_eq_self]
      intro t ht
      have h1 : L'.any (fun t => decide (t.1 = id)) = false := by rw [hany, ha]; rfl
      rw [List.any_eq_false] at h1
      unfold other
      have := h1 t ht
      simpa using this
    rw [ha, hself] at e26
    exact ⟨false, h, m, L', by simp only [p21, ha']; rfl, e26, R⟩
end Go.Am.Ytbggedhchjibjaa
