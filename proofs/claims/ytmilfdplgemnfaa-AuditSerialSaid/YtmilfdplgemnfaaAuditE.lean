/- Plain laws of the printed functions of the audit: an order explains. -/
import Derived.Test.YtmilfdplgemnfaaAuditD
namespace Go.Am.Ytmilfdplgemnfaa
def upd (w : Nat → Int) (x : Item) : Nat → Int := bif x.2.2.1 then (fun b => if b = x.1.toNat then x.2.1 + 1 else w b) else w
theorem upd_other (b : Nat) : ∀ (l : List Item) (w : Nat → Int), (∀ x ∈ l, x.2.2.1 = true → x.1.toNat ≠ b) → l.foldl upd w b = w b
  | [], _, _ => rfl
  | x :: l, w, h => by
    rw [List.foldl_cons, upd_other b l _ fun y hy => h y (by simp [hy])]
    unfold upd
    cases hx : x.2.2.1
    · rfl
    · simp only [cond_true]
      rw [if_neg (fun e => h x (by simp) hx e.symm)]
theorem upd_at : ∀ (l : List Item) (w : Nat → Int), (∀ x ∈ l, 0 ≤ x.1) → (l.map (·.1)).Nodup → ∀ x ∈ l, x.2.2.1 = true → l.foldl upd w x.1.toNat = x.2.1 + 1
  | [], _, _, _, x, hx, _ => by cases hx
  | y :: l, w, h0, hn, x, hx, hw => by
    rw [List.map_cons, List.nodup_cons] at hn
    rw [List.foldl_cons]
    rcases List.mem_cons.1 hx with rfl | hx
    · rw [upd_other]
      · unfold upd; rw [hw]; simp
      · intro z hz _ e
        have h1 := h0 z (by simp [hz])
        have h2 := h0 x (by simp)
        have : z.1 = x.1 := by omega
        exact hn.1 (List.mem_map.2 ⟨z, hz, this⟩)
    · exact upd_at l _ (fun z hz => h0 z (by simp [hz])) hn.2 x hx hw
theorem forL_same {S R α : Type} {f : S → α → Option R ⊕ S} {g : S → α → S} (fin : S → Option R) : ∀ (l : List α) (s : S), (∀ l1 x l2, l = l1 ++ x :: l2 → f (l1.foldl g s) x = .inr (g (l1.foldl g s) x)) → forL f fin l s = fin (l.foldl g s)
  | [], _, _ => rfl
  | x :: l, s, h => by
    unfold forL
    have h0 : f s x = .inr (g s x) := h [] x l rfl
    rw [h0]
    exact forL_same fin l (g s x) fun l1 y l2 e => h (x :: l1) y l2 (by rw [e]; rfl)
theorem l4_0_run {R : Type} (k0 : Bool → Option R) (k1 : ((List Done) × Int × (List Int) × (List Int) × (List Bool) × Done) → Option R) (h : List Done) (i : Int) (T : List Int) (seen : List Bool) (d : Done) (hl : d.2.2.2.length < 9223372036854775807)
    (hf : ∀ x ∈ d.2.2.2, 0 ≤ x.1 ∧ x.1 < 64 ∧ 0 ≤ x.2.1 ∧ x.2.1 < 2147483647) (hn : (d.2.2.2.map (·.1)).Nodup) (w : Nat → Int) (hw : ∀ x ∈ d.2.2.2, x.2.1 = w x.1.toNat) :
    l4_0 FUEL k0 k1 FUEL (h, i, 0, T, tab 64 w, seen, d) = k1 (h, i, T, tab 64 (d.2.2.2.foldl upd w), seen, d) := by
  have hb := big
  refine (list_loop (L := l4_0 FUEL k0 k1) (step := fun F => s4_0 FUEL F k0 k1) (fun _ _ => rfl) d.2.2.2 (fun (k : Nat) (w : Nat → Int) => (h, i, (k : Int), T, tab 64 w, seen, d)) (fun _ => True)
    (fun w x => bif !decide (x.2.1 = w x.1.toNat) then .inl (k0 false) else .inr (upd w x)) (fun w => k1 (h, i, T, tab 64 w, seen, d)) (fun F k w hk _ => ?_) (fun F w _ => ?_) (fun _ _ _ _ _ _ => trivial) w trivial FUEL (by omega)).trans (forL_same (g := upd) _ _ _ ?_)
  · obtain ⟨b0, b1, v0, v1⟩ := hf _ (List.getElem_mem hk)
    simp only [s4_0]
    rw [decide_eq_true (show (k : Int) < ((d.2.2.2.length : Nat) : Int) by omega), cond_true, if_pos (show (0 : Int) ≤ (k : Int) by omega)]
    simp only [Int.toNat_natCast, List.getElem?_eq_getElem hk]
    generalize d.2.2.2[k] = x at b0 b1 v0 v1
    have hx : x.1.toNat < 64 := by omega
    rw [if_pos ⟨b0, by omega⟩, wrapNext k (by omega)]
    simp only [tab_get _ hx, tab_set _ hx, wrapU32 (n := x.2.1 + 1) (by omega) (by omega), if_pos (show 0 ≤ x.1 ∧ x.1 < ((64 : Nat) : Int) by omega), upd]
    cases decide (x.2.1 = w x.1.toNat) <;> cases x.2.2.1 <;> rfl
  · simp only [s4_0]
    rw [decide_eq_false (show ¬ ((d.2.2.2.length : Nat) : Int) < ((d.2.2.2.length : Nat) : Int) by omega), cond_false]
  · intro l1 x l2 e
    have hx : x ∈ d.2.2.2 := by rw [e]; simp
    rw [upd_other, hw x hx, decide_eq_true rfl]
    · rfl
    · intro y hy _ eq
      have hy' : y ∈ d.2.2.2 := by rw [e]; simp [hy]
      have h1 := hf y hy'
      have h2 := hf x hx
      have h3 : y.1 = x.1 := by omega
      rw [e, List.map_append, List.map_cons, List.nodup_append] at hn
      exact hn.2.2 y.1 (List.mem_map.2 ⟨y, hy, rfl⟩) x.1 (by simp) h3
def tabB (n : Nat) (f : Nat → Bool) : List Bool := (List.range n).map f
theorem tabB_len (n : Nat) (f : Nat → Bool) : (tabB n f).length = n := by simp [tabB]
theorem tabB_get {n : Nat} (f : Nat → Bool) {i : Nat} (h : i < n) : (tabB n f)[i]? = some (f i) := by simp [tabB, h]
theorem tabB_ext {n : Nat} {f g : Nat → Bool} (h : ∀ j, j < n → f j = g j) : tabB n f = tabB n g := by
  unfold tabB
  exact List.map_congr_left fun j hj => h j (List.mem_range.1 hj)
theorem tabB_set {n : Nat} (f : Nat → Bool) {i : Nat} (_ : i < n) (v : Bool) : (tabB n f).set i v = tabB n (fun j => if j = i then v else f j) := by
  apply List.ext_getElem?
  intro j
  rw [List.getElem?_set]
  by_cases hj : j < n
  · rw [tabB_get _ hj, tabB_get _ hj, tabB_len]
    by_cases e : i = j
    · subst e; simp [hj]
    · rw [if_neg e, if_neg (fun g => e g.symm)]
  · have e1 : (tabB n f)[j]? = none := List.getElem?_eq_none (by rw [tabB_len]; omega)
    have e2 : (tabB n (fun j => if j = i then v else f j))[j]? = none := List.getElem?_eq_none (by rw [tabB_len]; omega)
    rw [e1, e2, if_neg (by omega)]
theorem l4_1_run {R : Type} (k0 : Bool → Option R) (k1 : ((List Done) × Int × (List Int) × (List Int) × (List Bool)) → Option R) (h : List Done) (hh : h.length ≤ 60) (i : Int) (T now : List Int) (s : Nat → Bool) (d : Done)
    (hs : ∀ (k : Nat) (hk : k < h.length), s k = false → h[k].2.2.1 = 0 ∨ ¬ h[k].2.2.1 < d.2.1) :
    l4_1 FUEL k0 k1 FUEL (h, i, 0, T, now, tabB h.length s, d) = k1 (h, i, T, now, tabB h.length s) := by
  have hb := big
  have run : ∀ n k, h.length - k < n → k ≤ h.length → l4_1 FUEL k0 k1 n (h, i, (k : Int), T, now, tabB h.length s, d) = k1 (h, i, T, now, tabB h.length s) := by
    intro n
    induction n with
    | zero => intro k h; omega
    | succ n ih =>
      intro k hn hk
      show s4_1 FUEL (l4_1 FUEL _ _ n) _ _ _ = _
      simp only [s4_1]
      by_cases e : k < h.length
      · have ih := ih (k + 1) (by omega) (by omega)
        rw [decide_eq_true (show (k : Int) < ((h.length : Nat) : Int) by omega), cond_true, tabB_len, if_pos (by omega)]
        simp only [Int.toNat_natCast, tabB_get _ e, List.getElem?_eq_getElem e, if_pos (show (0 : Int) ≤ (k : Int) by omega)]
        rw [wrapNext k (by omega), ih]
        cases hsk : s k
        · rcases hs k e hsk with h1 | h1
          · rw [decide_eq_true h1]; rfl
          · rw [decide_eq_false h1]
            cases decide (h[k].2.2.1 = 0) <;> rfl
        · rfl
      · rw [decide_eq_false (show ¬ (k : Int) < ((h.length : Nat) : Int) by omega), cond_false]
  exact run FUEL 0 (by omega) (by omega)
/-- What the buckets' versions are behind some of a history. -/
structure Now (h : List Done) (P : List Nat) (w : Nat → Int) : Prop where
  pos : ∀ b, 0 ≤ w b
  below : ∀ q ∈ P, ∀ y ∈ (h.getD q (0, 0, 0, [])).2.2.2, y.2.2.1 = true → y.2.1 < w y.1.toNat
  made : ∀ b u, 0 ≤ u → u < w b → ∃ q ∈ P, ∃ y ∈ (h.getD q (0, 0, 0, [])).2.2.2, y.2.2.1 = true ∧ y.1.toNat = b ∧ y.2.1 = u
theorem getD_mem {h : List Done} {q : Nat} (hq : q < h.length) : h.getD q (0, 0, 0, []) ∈ h := by
  rw [List.getD_eq_getElem?_getD, List.getElem?_eq_getElem hq]
  exact List.getElem_mem hq
section
variable {h : List Done} (hf : formB h = true) (ht : tracedB h = true) (hv : ∀ d ∈ h, ∀ x ∈ d.2.2.2, 0 ≤ x.2.1)
include hf ht hv
theorem now_reads {P : List Nat} {w : Nat → Int} (N : Now h P w) {z : Nat} (hz : z < h.length) (hzP : z ∉ P) (hP : ∀ q ∈ P, q < h.length ∧ A h z q = false) (hA : ∀ q, q < h.length → q ≠ z → q ∉ P → A h q z = false) :
    ∀ x ∈ (h.getD z (0, 0, 0, [])).2.2.2, x.2.1 = w x.1.toNat := by
  intro x hx
  have mz : h.getD z (0, 0, 0, []) ∈ h := getD_mem hz
  have fz := form_of hf mz
  have bx := fz.1 x hx
  have vx := hv _ mz x hx
  rcases Int.lt_trichotomy x.2.1 (w x.1.toNat) with c | c | c
  · exfalso
    obtain ⟨q, hq, y, hy, y1, y2, y3⟩ := N.made x.1.toNat x.2.1 vx c
    have mq : h.getD q (0, 0, 0, []) ∈ h := getD_mem (hP q hq).1
    have fq := form_of hf mq
    have by_ := fq.1 y hy
    have := ah_of hx hy fq.2 (by omega) (by unfold pair; rw [y1, decide_eq_true (show x.2.1 ≤ y.2.1 by omega)]; simp)
    have e2 := (hP q hq).2
    unfold A at e2
    rw [this] at e2; cases e2
  · exact c
  · exfalso
    have w0 := N.pos x.1.toNat
    obtain ⟨e, he, y, hy, y1, y2, y3⟩ := made_of ht hf hv mz hx (by omega)
    obtain ⟨q, hq, rfl⟩ : ∃ q, q < h.length ∧ h.getD q (0, 0, 0, []) = e := by
      obtain ⟨q, hq⟩ := List.getElem?_of_mem he
      exact ⟨q, (List.getElem?_eq_some_iff.1 hq).1, by rw [List.getD_eq_getElem?_getD, hq]; rfl⟩
    have qz : q ≠ z := fun e => by
      subst e
      have := item_eq fz.2 hx hy y2.symm
      subst this; omega
    have qP : q ∉ P := fun g => by
      have := N.below q g y hy y1
      rw [y2] at this; omega
    have := ah_of hy hx fz.2 y2.symm (by unfold pair; rw [y1, decide_eq_true (show y.2.1 < x.2.1 by omega)]; simp)
    have e2 := hA q hq qz qP
    unfold A at e2
    rw [this] at e2; cases e2
omit ht in
theorem now_next {P : List Nat} {w : Nat → Int} (N : Now h P w) {z : Nat} (hz : z < h.length) (hr : ∀ x ∈ (h.getD z (0, 0, 0, [])).2.2.2, x.2.1 = w x.1.toNat) : Now h (P ++ [z]) ((h.getD z (0, 0, 0, [])).2.2.2.foldl upd w) := by
  have mz : h.getD z (0, 0, 0, []) ∈ h := getD_mem hz
  have fz := form_of hf mz
  have vz := hv _ mz
  generalize hd : h.getD z (0, 0, 0, []) = d at mz fz hr vz
  have one : ∀ b, (∃ x ∈ d.2.2.2, x.2.2.1 = true ∧ x.1.toNat = b ∧ d.2.2.2.foldl upd w b = x.2.1 + 1 ∧ x.2.1 = w b) ∨ d.2.2.2.foldl upd w b = w b := by
    intro b
    by_cases c : ∃ x ∈ d.2.2.2, x.2.2.1 = true ∧ x.1.toNat = b
    · obtain ⟨x, hx, h1, h2⟩ := c
      refine .inl ⟨x, hx, h1, h2, ?_, by rw [hr x hx, h2]⟩
      rw [← h2]
      exact upd_at _ _ (fun x hx => (fz.1 x hx).1) fz.2 x hx h1
    · refine .inr (upd_other b _ _ fun x hx h1 h2 => c ⟨x, hx, h1, h2⟩)
  refine ⟨fun b => ?_, fun q hq y hy hw => ?_, fun b u h0 hu => ?_⟩
  · rcases one b with ⟨x, hx, _, _, h3, _⟩ | h3
    · have := vz x hx; omega
    · rw [h3]; exact N.pos b
  · rcases List.mem_append.1 hq with hq | hq
    · have := N.below q hq y hy hw
      rcases one y.1.toNat with ⟨x, _, _, _, h3, h4⟩ | h3 <;> omega
    · rw [List.mem_singleton] at hq
      subst hq
      rw [hd] at hy
      rw [upd_at _ _ (fun x hx => (fz.1 x hx).1) fz.2 y hy hw]; omega
  · rcases one b with ⟨x, hx, h1, h2, h3, h4⟩ | h3
    · by_cases c : u = w b
      · exact ⟨z, by simp, x, by rw [hd]; exact hx, h1, h2, by omega⟩
      · obtain ⟨q, hq, r⟩ := N.made b u h0 (by omega)
        exact ⟨q, by simp [hq], r⟩
    · obtain ⟨q, hq, r⟩ := N.made b u h0 (by omega)
      exact ⟨q, by simp [hq], r⟩
end
theorem l4_2_run (h : List Done) (hh : h.length ≤ 60) (hi : ∀ d ∈ h, d.2.2.2.length ≤ 3000000000000) (hf : formB h = true) (ht : tracedB h = true) (hv : ∀ d ∈ h, ∀ x ∈ d.2.2.2, 0 ≤ x.2.1) (T : List Nat) (hT : Ord h T) (k1 : Unit → Option Bool) :
    ∀ n i (w : Nat → Int), T.length - i < n → i ≤ T.length → Now h (T.take i) w → T.length ≤ 60 →
      l4_2 FUEL (fun x => some x) k1 n (h, (i : Int), T.map fun z : Nat => (z : Int), tab 64 w, tabB h.length fun j => (T.take i).contains j) = k1 () := by
  have hb := big
  intro n
  induction n with
  | zero => intro i w h; omega
  | succ n ih =>
    intro i w hn hi' N hT60
    show s4_2 FUEL (l4_2 FUEL _ _ n) _ _ _ = _
    simp only [s4_2, List.length_map]
    by_cases e : i < T.length
    · have hsplit : T = T.take i ++ T[i] :: T.drop (i + 1) := by rw [← List.drop_eq_getElem_cons e, List.take_append_drop]
      obtain ⟨hz, hzP, hA⟩ := hT _ _ _ hsplit
      have hP : ∀ q ∈ T.take i, q < h.length ∧ A h T[i] q = false := by
        intro q hq
        obtain ⟨P1, P2, e1⟩ := List.append_of_mem hq
        have e2 : T = P1 ++ q :: (P2 ++ T[i] :: T.drop (i + 1)) := by
          conv => lhs; rw [hsplit, e1]
          simp
        obtain ⟨q1, q2, q3⟩ := hT _ _ _ e2
        refine ⟨q1, q3 T[i] hz (fun g => hzP (g ▸ hq)) fun g => hzP ?_⟩
        rw [e1]; simp [g]
      have reads := now_reads hf ht hv N hz hzP hP hA
      have next := now_next hf hv N hz reads
      have ih := ih (i + 1) _ (by omega) (by omega) (by rw [List.take_succ_eq_append_getElem e]; exact next) hT60
      have mz : h.getD T[i] (0, 0, 0, []) ∈ h := getD_mem hz
      have fz := form_of hf mz
      have vz := hv _ mz
      have lz := hi _ mz
      have hget : h[T[i]]? = some (h.getD T[i] (0, 0, 0, [])) := by rw [List.getD_eq_getElem?_getD, List.getElem?_eq_getElem hz]; rfl
      have mget : (T.map fun z : Nat => (z : Int))[i]? = some (T[i] : Int) := by rw [List.getElem?_map, List.getElem?_eq_getElem e]; rfl
      have hcont : (T.take i).contains T[i] = false := by simpa using hzP
      rw [decide_eq_true (show (i : Int) < ((T.length : Nat) : Int) by omega), cond_true]
      simp only [if_pos (show (0 : Int) ≤ (i : Int) ∧ (i : Int) < ((T.length : Nat) : Int) by omega), Int.toNat_natCast, mget, tabB_len, tabB_get _ hz, hcont, hget]
      generalize hTi : T[i] = z at *
      rw [decide_eq_false (show ¬ (z : Int) < 0 by omega), cond_false, decide_eq_false (show ¬ ((h.length : Nat) : Int) ≤ (z : Int) by omega), cond_false]
      simp only [if_pos (show (0 : Int) ≤ (z : Int) ∧ (z : Int) < ((h.length : Nat) : Int) by omega), cond_false, if_pos (show (0 : Int) ≤ (z : Int) by omega), tabB_set _ hz]
      generalize hd : h.getD z (0, 0, 0, []) = d at *
      rw [l4_0_run _ _ h _ _ _ d (by omega) (fun x hx => ⟨(fz.1 x hx).1, (fz.1 x hx).2.1, vz x hx, (fz.1 x hx).2.2⟩) fz.2 w reads]
      rw [l4_1_run _ _ h hh _ _ _ _ d (fun k hk hs => ?_), wrapNext i (by omega)]
      · refine Eq.trans ?_ ih
        refine congrArg (fun W => l4_2 FUEL (fun x => some x) k1 n (h, ((i + 1 : Nat) : Int), T.map fun z : Nat => (z : Int), tab 64 (d.2.2.2.foldl upd w), W)) (tabB_ext fun j _ => ?_)
        rw [List.take_succ_eq_append_getElem e, hTi, List.contains_eq_mem, List.contains_eq_mem]
        by_cases c : j = z
        · simp [c]
        · simp [c]
      · by_cases c : k = z
        · rw [if_pos c] at hs; cases hs
        · rw [if_neg c] at hs
          have := hA k hk c (by simpa using hs)
          unfold A ahP at this
          rw [hd, List.getD_eq_getElem?_getD, List.getElem?_eq_getElem hk] at this
          simp only [Option.getD_some, Bool.or_eq_false_iff, Bool.and_eq_false_iff, Bool.not_eq_false', decide_eq_true_eq, decide_eq_false_iff_not] at this
          exact this.1
    · rw [decide_eq_false (show ¬ (i : Int) < ((T.length : Nat) : Int) by omega), cond_false]
theorem p8_eq (h : List Done) : p8 FUEL h = some (h.take 60) := by
  simp only [p8]
  by_cases c : (60 : Int) < ((h.length : Nat) : Int)
  · rw [decide_eq_true c, cond_true, if_pos (by omega), List.drop_zero]
  · rw [decide_eq_false c, cond_false, List.take_of_length_le (by omega)]
abbrev IT : Ty := .pair (.int .i64) (.pair (.int .u32) (.pair .bool (.pair (.slice (.pair .str .str)) (.arr 4 (.int .u32)))))
abbrev DT : Ty := .pair (.int .u64) (.pair (.int .u32) (.pair (.int .u32) (.slice IT)))
theorem explains (h : List Done) (w : Ty.wr (.slice DT) h) : p4 FUEL h = some true := by
  have hb := big
  have hl : (h.take 60).length ≤ 60 := by rw [List.length_take]; omega
  have hi : ∀ d ∈ h.take 60, d.2.2.2.length ≤ 3000000000000 := fun d hd => by
    have := (w.2 d (List.mem_of_mem_take hd)).2.2.2.1.2
    have : d.2.2.2.length * 53 ≤ 140737488351232 := this
    omega
  have hv : ∀ d ∈ h.take 60, ∀ x ∈ d.2.2.2, 0 ≤ x.2.1 := fun d hd x hx => (wf_u32 ((w.2 d (List.mem_of_mem_take hd)).2.2.2.2 x hx).2.1).1
  simp only [p4, p8_eq, p9_eq _ hl hi, p12_eq]
  generalize h.take 60 = g at hl hi hv
  unfold ordB
  cases hf : formB g
  · rfl
  cases ht : tracedB g
  · rfl
  cases hk : kahn g g.length [] with
  | none => rfl
  | some T =>
    obtain ⟨hT, hTl⟩ := kahn_ord g _ _ _ (ord_nil g) hk
    simp only [List.length_nil, Nat.zero_add] at hTl
    simp only [Bool.not_true, cond_false, decide_true, List.length_map, hTl]
    rw [if_pos (by omega)]
    have run := l4_2_run g hl hi hf ht hv T hT (fun _ => some true) FUEL 0 (fun _ => 0) (by omega) (by omega) ⟨fun _ => Int.le_refl _, fun q hq => (by cases hq), fun b u h0 h1 => absurd h1 (by omega)⟩ (by omega)
    refine Eq.trans ?_ run
    have e1 : List.replicate 64 (0 : Int) = tab 64 (fun _ => 0) := by decide
    have e2 : List.replicate (Int.toNat (g.length : Int)) false = tabB g.length fun j => (T.take 0).contains j := by
      rw [Int.toNat_natCast]
      apply List.ext_getElem?
      intro j
      by_cases hj : j < g.length
      · rw [tabB_get _ hj, List.getElem?_replicate, if_pos hj]; rfl
      · rw [List.getElem?_eq_none (by rw [List.length_replicate]; omega), List.getElem?_eq_none (by rw [tabB_len]; omega)]
    rw [e1, e2]
    rfl
end Go.Am.Ytmilfdplgemnfaa
