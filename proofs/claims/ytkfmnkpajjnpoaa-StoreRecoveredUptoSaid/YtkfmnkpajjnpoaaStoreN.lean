/- Plain laws of the printed functions of the store: what a recovery puts together (StoreRecovered). -/
import Derived.Test.YtkfmnkpajjnpoaaStoreP
import Derived.Test.YtkfmnkpajjnpoaaWalkRec
import Derived.Test.YtkfmnkpajjnpoaaAmZI
namespace Go.Am.Ytkfmnkpajjnpoaa
/-- A copy of a replica: state, incarnation, version, entries, locks, fences, votes. -/
abbrev CC := Int × (Int × (Int × (List En × (List LK × (List Int × List (Int × Int))))))
abbrev MM := List (Int × Int) × List Nat × Nat
abbrev LKU : Ty := .pair (.int .u64) (.pair (.arr 3 (.int .i64)) (.pair (.int .i64) (.pair (.int .u32) (.pair .bool (.pair (.slice (.pair .str .str)) (.arr 4 (.int .u32)))))))
abbrev CCT : Ty := .pair (.int .i64) (.pair (.int .u32) (.pair (.int .u32) (.pair (.slice (.pair .str .str)) (.pair (.slice LKU) (.pair (.arr 4 (.int .u32)) (.slice (.pair (.int .u64) (.int .i64))))))))

/-- A copy that is small. -/
structure CcOk (c : CC) : Prop where
  data : c.2.2.2.1.length ≤ 1048576
  locks : c.2.2.2.2.1.length ≤ 1048576
  each : ∀ l ∈ c.2.2.2.2.1, l.2.2.2.2.2.1.length ≤ 1048576
  fences : c.2.2.2.2.2.1.length = 4

theorem cc_ok {c : CC} (w : Ty.few 1048576 CCT c) : CcOk c :=
  ⟨w.2.2.2.1.1.2, w.2.2.2.2.1.1.2, fun l hl => (w.2.2.2.2.1.2 l hl).2.2.2.2.2.1.1.2, w.2.2.2.2.2.1.1⟩

/-- How often a transaction was seen. -/
def seen (m : MM) (t : Int) : Int := (mfind (.int .u64) (.int .i64) t m.1).getD 0
/-- One lock more. -/
def lockIn (s : List LK × MM) (l : LK) : List LK × MM :=
  (bif decide (seen s.2 l.1 = 0) then s.1 ++ [l] else s.1, mput (.int .u64) (.int .i64) l.1 (IntKind.wrap .i64 (seen s.2 l.1 + 1)) s.2)

theorem seen_mput (m : MM) (t t' v : Int) : seen (mput (.int .u64) (.int .i64) t v m) t' = if t' = t then v else seen m t' := by
  unfold seen
  rw [mfind_mput (fun k k' => rfl)]
  split <;> rfl

/-- What is known of locks and marks. -/
structure Marks (n : Nat) (s : List LK × MM) : Prop where
  few : s.1.length ≤ n
  each : ∀ l ∈ s.1, l.2.2.2.2.2.1.length ≤ 1048576
  low : ∀ t, 0 ≤ seen s.2 t ∧ seen s.2 t ≤ n
  there : ∀ t, seen s.2 t ≠ 0 → ∃ l ∈ s.1, l.1 = t

theorem Marks.lockIn {n : Nat} {s : List LK × MM} (h : Marks n s) (hn : n < 1000000000) {l : LK} (hl : l.2.2.2.2.2.1.length ≤ 1048576) :
    Marks (n + 1) (lockIn s l) ∧ (∃ x ∈ (lockIn s l).1, x.1 = l.1) ∧ ∀ x ∈ s.1, x ∈ (Am.Ytkfmnkpajjnpoaa.lockIn s l).1 := by
  unfold Am.Ytkfmnkpajjnpoaa.lockIn
  have hlow := h.low l.1
  have hw : IntKind.wrap .i64 (seen s.2 l.1 + 1) = seen s.2 l.1 + 1 := by
    exact wrapI (by omega) (by omega)
  rw [hw]
  by_cases h0 : seen s.2 l.1 = 0
  · rw [decide_eq_true h0]
    simp only [cond_true]
    refine ⟨⟨by have := h.few; simp; omega, fun x hx => ?_, fun t => ?_, fun t ht => ?_⟩, ⟨l, by simp, rfl⟩, fun x hx => by simp [hx]⟩
    · rcases List.mem_append.1 hx with hx | hx
      · exact h.each x hx
      · simp at hx; subst hx; exact hl
    · show 0 ≤ seen (mput (.int .u64) (.int .i64) l.1 (seen s.2 l.1 + 1) s.2) t ∧ seen (mput (.int .u64) (.int .i64) l.1 (seen s.2 l.1 + 1) s.2) t ≤ _
      rw [seen_mput]
      split
      · omega
      · have := h.low t; omega
    · show ∃ x ∈ s.1 ++ [l], x.1 = t
      by_cases e : t = l.1
      · exact ⟨l, by simp, e.symm⟩
      · have ht : seen s.2 t ≠ 0 := by
          have : seen (mput (.int .u64) (.int .i64) l.1 (seen s.2 l.1 + 1) s.2) t ≠ 0 := ht
          rw [seen_mput, if_neg e] at this; exact this
        obtain ⟨x, hx, hxt⟩ := h.there t ht
        exact ⟨x, by simp [hx], hxt⟩
  · rw [decide_eq_false h0]
    simp only [cond_false]
    obtain ⟨y, hy, hyt⟩ := h.there l.1 h0
    refine ⟨⟨by have := h.few; show s.1.length ≤ n + 1; omega, h.each, fun t => ?_, fun t ht => ?_⟩, ⟨y, hy, hyt⟩, fun x hx => hx⟩
    · show 0 ≤ seen (mput (.int .u64) (.int .i64) l.1 (seen s.2 l.1 + 1) s.2) t ∧ seen (mput (.int .u64) (.int .i64) l.1 (seen s.2 l.1 + 1) s.2) t ≤ _
      rw [seen_mput]
      split
      · omega
      · have := h.low t; omega
    · by_cases e : t = l.1
      · exact ⟨y, hy, hyt.trans e.symm⟩
      · have ht : seen s.2 t ≠ 0 := by
          have : seen (mput (.int .u64) (.int .i64) l.1 (seen s.2 l.1 + 1) s.2) t ≠ 0 := ht
          rw [seen_mput, if_neg e] at this; exact this
        exact h.there t ht

theorem Marks.fold : ∀ (L : List LK) {n : Nat} {s : List LK × MM}, Marks n s → n + L.length < 1000000000 → (∀ l ∈ L, l.2.2.2.2.2.1.length ≤ 1048576) →
    Marks (n + L.length) (L.foldl Am.Ytkfmnkpajjnpoaa.lockIn s) ∧ (∀ l ∈ L, ∃ x ∈ (L.foldl Am.Ytkfmnkpajjnpoaa.lockIn s).1, x.1 = l.1) ∧ ∀ x ∈ s.1, x ∈ (L.foldl Am.Ytkfmnkpajjnpoaa.lockIn s).1
  | [], n, s, h, _, _ => ⟨h, (by intro l hl; cases hl), fun x hx => hx⟩
  | a :: L, n, s, h, hn, hL => by
    rw [List.length_cons] at hn
    obtain ⟨h1, ⟨y, hy, hya⟩, h3⟩ := h.lockIn (by omega) (hL a (by simp))
    obtain ⟨k1, k2, k3⟩ := Marks.fold L h1 (by omega) (fun l hl => hL l (by simp [hl]))
    rw [List.foldl_cons]
    refine ⟨by rw [List.length_cons]; have e : n + (L.length + 1) = n + 1 + L.length := by omega
               rw [e]; exact k1, fun l hl => ?_, fun x hx => k3 x (h3 x hx)⟩
    rcases List.mem_cons.1 hl with e | hl
    · subst e; exact ⟨y, k3 y hy, hya⟩
    · exact k2 l hl

theorem locks_merge {R : Type} {K : _ → Option R} (r c : Int) (cN : Nat) (fl k : Int) (l : List LK) (hl : l.length ≤ 1048576) (hd : ∀ x ∈ l, x.2.2.2.2.2.1.length ≤ 1048576) (key : Int × Int) (s inc ver : Int) (f : List Int) (d : List En) (ls : List LK) (vs : List (Int × Int)) (cs : List CC) (two inc2 V : Int) (D : List En) (F : List Int) (LS : List LK) (m : MM) (fr : List Int)
    (n : Nat) (hn : n ≤ 3145728) (hm : Marks n (LS, m)) :
    l29c_2 FUEL K FUEL (r, c, cN, fl, k, l, ((l.length : Nat) : Int), 0, key, s, inc, ver, f, d, ls, vs, cs, two, inc2, V, D, F, LS, m.1, m.2.1, m.2.2, fr) =
      K (r, c, cN, fl, k, key, s, inc, ver, f, d, ls, vs, cs, two, inc2, V, D, F, (l.foldl lockIn (LS, m)).1, (l.foldl lockIn (LS, m)).2.1, (l.foldl lockIn (LS, m)).2.2.1, (l.foldl lockIn (LS, m)).2.2.2, fr) := by
  have key := for_loop (S := List LK × MM) (L := fun n y => l29c_2 FUEL K n y) (step := fun F => s29c_2 FUEL F K) (fun n x => rfl)
    (fun i q => (r, c, cN, fl, k, l, ((l.length : Nat) : Int), (i : Int), key, s, inc, ver, f, d, ls, vs, cs, two, inc2, V, D, F, q.1, q.2.1, q.2.2.1, q.2.2.2, fr)) l.length (fun i q => Marks (n + i) q)
    (fun i q => .inr (lockIn q (l.getD i (0, ([], (0, (0, (false, ([], [])))))))))
    (fun q => K (r, c, cN, fl, k, key, s, inc, ver, f, d, ls, vs, cs, two, inc2, V, D, F, q.1, q.2.1, q.2.2.1, q.2.2.2, fr))
    (fun G i q hi hq => by
      have hfew := hq.few
      refine (condT (decide_eq_true (show (i : Int) < ((l.length : Nat) : Int) by omega))).trans ?_
      rw [if_pos (show (0 : Int) ≤ (i : Int) by omega), Int.toNat_natCast, List.getElem?_eq_getElem hi]
      have e : l.getD i (0, ([], (0, (0, (false, ([], [])))))) = l[i] := by rw [List.getD_eq_getElem?_getD, List.getElem?_eq_getElem hi]; rfl
      simp only [e, j29c_1, wrapNext i (by omega)]
      by_cases h0 : seen q.2 l[i].1 = 0
      · have h0' : (mfind (.int .u64) (.int .i64) l[i].1 q.2.1).getD 0 = 0 := h0
        rw [decide_eq_true h0', cond_true, if_pos (show (q.1.length + List.length [l[i]]) * 88 ≤ 140737488355328 by simp; omega)]
        unfold lockIn
        rw [decide_eq_true h0]; rfl
      · have h0' : ¬ (mfind (.int .u64) (.int .i64) l[i].1 q.2.1).getD 0 = 0 := h0
        rw [decide_eq_false h0', cond_false]
        unfold lockIn
        rw [decide_eq_false h0]; rfl)
    (fun G q _ => condF (decide_eq_false (Int.lt_irrefl _)))
    (fun i q q' hi hq hs => by
      have e : l.getD i (0, ([], (0, (0, (false, ([], [])))))) = l[i] := by rw [List.getD_eq_getElem?_getD, List.getElem?_eq_getElem hi]; rfl
      rw [e] at hs
      injection hs with hs
      rw [← hs]
      exact (hq.lockIn (by omega) (hd _ (List.getElem_mem hi))).1) l.length 0 (LS, m) FUEL (Nat.zero_add _) (by have := big; omega) hm
  rw [forI_fold, foldI_list l lockIn _ l.length 0 (LS, m) (by omega)] at key
  exact key

/-- A fence more, of a third one's. -/
def fstep (r c : Int) (cf : List Int) (j : Nat) (F : List Int) : List Int :=
  if (j : Int) ≠ r ∧ (j : Int) ≠ c then F.set j (if F.getD j 0 < cf.getD j 0 then cf.getD j 0 else F.getD j 0) else F

theorem getD_set_self {l : List Int} {j : Nat} (h : j < l.length) (v : Int) : (l.set j v).getD j 0 = v := by
  rw [List.getD_eq_getElem?_getD, List.getElem?_set_self h]; rfl
theorem getD_set_ne {l : List Int} {j q : Nat} (h : j ≠ q) (v : Int) : (l.set j v).getD q 0 = l.getD q 0 := by
  rw [List.getD_eq_getElem?_getD, List.getElem?_set_ne h, List.getD_eq_getElem?_getD]
theorem set_max {F : List Int} {j : Nat} (hj : j < F.length) (v : Int) (q : Nat) : F.getD q 0 ≤ (F.set j (if F.getD j 0 < v then v else F.getD j 0)).getD q 0 ∧ v ≤ (F.set j (if F.getD j 0 < v then v else F.getD j 0)).getD j 0 := by
  rw [getD_set_self hj]
  by_cases e : j = q
  · subst e
    rw [getD_set_self hj]
    split <;> omega
  · rw [getD_set_ne e]
    split <;> omega

theorem fstep_ge (r c : Int) (cf : List Int) (F0 : List Int) (h0 : F0.length = 4) : ∀ (k i : Nat) (F : List Int), i + k = 4 → F.length = 4 → (∀ q, F0.getD q 0 ≤ F.getD q 0) → (∀ q : Nat, q < i → (q : Int) ≠ r → (q : Int) ≠ c → cf.getD q 0 ≤ F.getD q 0) →
    (foldI (fstep r c cf) k i F).length = 4 ∧ (∀ q, F0.getD q 0 ≤ (foldI (fstep r c cf) k i F).getD q 0) ∧ ∀ q : Nat, q < 4 → (q : Int) ≠ r → (q : Int) ≠ c → cf.getD q 0 ≤ (foldI (fstep r c cf) k i F).getD q 0
  | 0, i, F, hi, hF, h1, h2 => ⟨hF, h1, fun q hq => h2 q (by omega)⟩
  | k + 1, i, F, hi, hF, h1, h2 => by
    refine fstep_ge r c cf F0 h0 k (i + 1) (fstep r c cf i F) (by omega) ?_ (fun q => ?_) fun q hq hr hc => ?_
    · unfold fstep; split
      · rw [List.length_set]; exact hF
      · exact hF
    · refine Int.le_trans (h1 q) ?_
      unfold fstep; split
      · exact (set_max (by omega) _ q).1
      · exact Int.le_refl _
    · by_cases e : q = i
      · subst e
        unfold fstep
        rw [if_pos ⟨hr, hc⟩]
        exact (set_max (by omega) _ q).2
      · refine Int.le_trans (h2 q (by omega) hr hc) ?_
        unfold fstep; split
        · exact (set_max (by omega) _ q).1
        · exact Int.le_refl _

theorem fences_merge {R : Type} {K : _ → Option R} (r c : Int) (fl k : Int) (cf : List Int) (hcf : cf.length = 4) (key : Int × Int) (s inc ver : Int) (f : List Int) (d : List En) (ls : List LK) (vs : List (Int × Int)) (cs : List CC) (two inc2 V : Int) (D : List En) (F : List Int) (hF : F.length = 4) (LS : List LK) (m1 : List (Int × Int)) (m2 : List Nat) (m3 : Nat) (fr : List Int) :
    l29c_4 FUEL K FUEL (r, c, fl, k, cf, 0, key, s, inc, ver, f, d, ls, vs, cs, two, inc2, V, D, F, LS, m1, m2, m3, fr) =
      K (r, fl, k, key, s, inc, ver, f, d, ls, vs, cs, two, inc2, V, D, foldI (fstep r c cf) 4 0 F, LS, m1, m2, m3, fr) := by
  have key := for_loop (S := List Int) (L := fun n y => l29c_4 FUEL K n y) (step := fun F => s29c_4 FUEL F K) (fun n x => rfl)
    (fun j q => (r, c, fl, k, cf, (j : Int), key, s, inc, ver, f, d, ls, vs, cs, two, inc2, V, D, q, LS, m1, m2, m3, fr)) 4 (fun _ q => q.length = 4)
    (fun j q => .inr (fstep r c cf j q)) (fun q => K (r, fl, k, key, s, inc, ver, f, d, ls, vs, cs, two, inc2, V, D, q, LS, m1, m2, m3, fr))
    (fun G j q hj hq => by
      have hr : (0 : Int) ≤ (j : Int) ∧ (j : Int) < ((4 : Nat) : Int) := by omega
      refine (condT (decide_eq_true (show (j : Int) < 4 by omega))).trans ?_
      have e1 : cf[j]? = some (cf.getD j 0) := by rw [List.getD_eq_getElem?_getD, List.getElem?_eq_getElem (by omega)]; rfl
      have e2 : q[j]? = some (q.getD j 0) := by rw [List.getD_eq_getElem?_getD, List.getElem?_eq_getElem (by omega)]; rfl
      simp only [if_pos hr, Int.toNat_natCast, e1, e2, j29c_3, wrapNext j (by omega), fstep]
      by_cases h1 : (j : Int) = r
      · rw [decide_eq_true h1, if_neg (show ¬ ((j : Int) ≠ r ∧ (j : Int) ≠ c) from fun x => x.1 h1)]; rfl
      · rw [decide_eq_false h1]
        by_cases h2 : (j : Int) = c
        · rw [decide_eq_true h2, if_neg (show ¬ ((j : Int) ≠ r ∧ (j : Int) ≠ c) from fun x => x.2 h2)]; rfl
        · rw [decide_eq_false h2, if_pos (show (j : Int) ≠ r ∧ (j : Int) ≠ c from ⟨h1, h2⟩)]; rfl)
    (fun G q _ => rfl)
    (fun j q q' _ hq hs => by
      injection hs with hs
      rw [← hs]; unfold fstep; split
      · rw [List.length_set]; exact hq
      · exact hq) 4 0 F FUEL rfl (by have := big; omega) hF
  rw [forI_fold] at key
  exact key

/-- What is put together. -/
abbrev GG := Int × List En × List Int × List LK × MM
def gstep (r : Int) (c : Nat) (x : CC) (g : GG) : GG :=
  (bif decide (g.1 < x.2.2.1) then x.2.2.1 else g.1, bif decide (g.1 < x.2.2.1) then x.2.2.2.1 else g.2.1,
   foldI (fstep r c x.2.2.2.2.2.1) 4 0 (g.2.2.1.set c (if g.2.2.1.getD c 0 < x.2.1 then x.2.1 else g.2.2.1.getD c 0)),
   (x.2.2.2.2.1.foldl lockIn (g.2.2.2.1, g.2.2.2.2)).1, (x.2.2.2.2.1.foldl lockIn (g.2.2.2.1, g.2.2.2.2)).2)

structure Good (n : Nat) (g : GG) : Prop where
  data : g.2.1.length ≤ 1048576
  fences : g.2.2.1.length = 4
  marks : Marks n (g.2.2.2.1, g.2.2.2.2)

theorem Good.step {n : Nat} {g : GG} (h : Good n g) (r : Int) {c : Nat} (hc : c < 4) {x : CC} (hx : CcOk x) (hn : n ≤ 3145728) :
    Good (n + 1048576) (gstep r c x g) ∧ g.1 ≤ (gstep r c x g).1 ∧ x.2.2.1 ≤ (gstep r c x g).1 ∧ (∀ q, g.2.2.1.getD q 0 ≤ (gstep r c x g).2.2.1.getD q 0) ∧ x.2.1 ≤ (gstep r c x g).2.2.1.getD c 0 ∧
      (∀ q : Nat, q < 4 → (q : Int) ≠ r → (q : Int) ≠ c → x.2.2.2.2.2.1.getD q 0 ≤ (gstep r c x g).2.2.1.getD q 0) ∧
      (∀ l ∈ x.2.2.2.2.1, ∃ y ∈ (gstep r c x g).2.2.2.1, y.1 = l.1) ∧ ∀ y ∈ g.2.2.2.1, y ∈ (gstep r c x g).2.2.2.1 := by
  have hl := hx.locks
  obtain ⟨m1, m2, m3⟩ := Marks.fold x.2.2.2.2.1 h.marks (by omega) hx.each
  have hs : (g.2.2.1.set c (if g.2.2.1.getD c 0 < x.2.1 then x.2.1 else g.2.2.1.getD c 0)).length = 4 := by rw [List.length_set]; exact h.fences
  have hm := set_max (F := g.2.2.1) (j := c) (by rw [h.fences]; exact hc) x.2.1
  obtain ⟨f1, f2, f3⟩ := fstep_ge r c x.2.2.2.2.2.1 _ hs 4 0 _ rfl hs (fun _ => Int.le_refl _) (fun _ h => absurd h (Nat.not_lt_zero _))
  unfold gstep
  refine ⟨⟨?_, f1, ⟨Nat.le_trans m1.few (by omega), m1.each, fun t => ⟨(m1.low t).1, Int.le_trans (m1.low t).2 (by omega)⟩, m1.there⟩⟩, ?_, ?_, fun q => Int.le_trans (hm q).1 (f2 q), Int.le_trans (hm c).2 (f2 c), f3, m2, m3⟩
  · show (bif decide (g.1 < x.2.2.1) then x.2.2.2.1 else g.2.1).length ≤ _
    cases decide (g.1 < x.2.2.1)
    · exact h.data
    · exact hx.data
  · show g.1 ≤ bif decide (g.1 < x.2.2.1) then x.2.2.1 else g.1
    by_cases e : g.1 < x.2.2.1
    · rw [decide_eq_true e]; exact Int.le_of_lt e
    · rw [decide_eq_false e]; exact Int.le_refl _
  · show x.2.2.1 ≤ bif decide (g.1 < x.2.2.1) then x.2.2.1 else g.1
    by_cases e : g.1 < x.2.2.1
    · rw [decide_eq_true e]; exact Int.le_refl _
    · rw [decide_eq_false e]; exact Int.not_lt.1 e

/-- One copy. -/
theorem copy_merge {R : Type} {K : _ → Option R} (r : Int) (c : Nat) (hc : c < 4) (fl k : Int) (key : Int × Int) (s inc ver : Int) (f : List Int) (d : List En) (ls : List LK) (vs : List (Int × Int)) (cs : List CC) (x : CC) (hx : cs[c]? = some x) (ok : CcOk x) (two inc2 V : Int) (D : List En) (F : List Int) (hF : F.length = 4) (LS : List LK) (m : MM) (fr : List Int) (n : Nat) (hn : n ≤ 3145728) (hm : Marks n (LS, m)) (V0 : Int) (D0 : List En) (hV : V = bif decide (V0 < x.2.2.1) then x.2.2.1 else V0) (hD : D = bif decide (V0 < x.2.2.1) then x.2.2.2.1 else D0) :
    j29c_5 FUEL K (r, (c : Int), c, fl, k, key, s, inc, ver, f, d, ls, vs, cs, two, inc2, V, D, F, LS, m.1, m.2.1, m.2.2, fr) =
      K (r, fl, k, key, s, inc, ver, f, d, ls, vs, cs, two, inc2, (gstep r c x (V0, D0, F, LS, m)).1, (gstep r c x (V0, D0, F, LS, m)).2.1, (gstep r c x (V0, D0, F, LS, m)).2.2.1, (gstep r c x (V0, D0, F, LS, m)).2.2.2.1, (gstep r c x (V0, D0, F, LS, m)).2.2.2.2.1, (gstep r c x (V0, D0, F, LS, m)).2.2.2.2.2.1, (gstep r c x (V0, D0, F, LS, m)).2.2.2.2.2.2, fr) := by
  have hr : (0 : Int) ≤ (c : Int) ∧ (c : Int) < ((4 : Nat) : Int) := by omega
  have e2 : F[c]? = some (F.getD c 0) := by rw [List.getD_eq_getElem?_getD, List.getElem?_eq_getElem (by omega)]; rfl
  simp only [j29c_5, hx]
  rw [locks_merge r c c fl k x.2.2.2.2.1 ok.locks ok.each key s inc ver f d ls vs cs two inc2 V D F LS m fr n hn hm]
  simp only [if_pos hr, Int.toNat_natCast, e2, hx]
  rw [fences_merge r c fl k x.2.2.2.2.2.1 ok.fences key s inc ver f d ls vs cs two inc2 V D _ (by rw [List.length_set]; exact hF)]
  rw [hV, hD]; rfl
end Go.Am.Ytkfmnkpajjnpoaa
