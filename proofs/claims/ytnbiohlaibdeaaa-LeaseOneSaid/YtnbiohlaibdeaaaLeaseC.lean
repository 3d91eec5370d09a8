/- Plain laws of the printed functions of lease: counts; there and back; what is taken. -/
import Derived.Test.YtnbiohlaibdeaaaLeaseB
namespace Go.Am.Ytnbiohlaibdeaaa
theorem tab_self (t : Tab) : Ty.eqB (.pair (.int .u32) (.pair (.arr 64 (.int .i64)) (.pair (.arr 64 (.int .u32)) (.pair (.arr 12 (.bool)) (.arr 12 (.int .u32)))))) t t = true := eqB_self (.pair (.int .u32) (.pair (.arr 64 (.int .i64)) (.pair (.arr 64 (.int .u32)) (.pair (.arr 12 (.bool)) (.arr 12 (.int .u32)))))) rfl t
theorem nth_ext {α : Type} [Inhabited α] {a b : List α} (hl : a.length = b.length) (h : ∀ q : Int, 0 ≤ q → q < (a.length : Int) → nth a q = nth b q) : a = b := by
  refine List.ext_getElem hl fun i h1 h2 => ?_
  have := h (i : Int) (by omega) (by omega)
  simp only [nth, Int.toNat_natCast] at this
  rw [List.getElem?_eq_getElem h1, List.getElem?_eq_getElem h2] at this
  exact this
theorem lit_get {α : Type} [Inhabited α] {l : List α} {n : Nat} (h : n < l.length) : l[n]? = some (nth l (n : Int)) := nth_get (i := (n : Int)) (by omega) (by omega)

theorem places_in (a : Int × Int) : ∀ p ∈ placesN a, 0 ≤ p ∧ p < 64 := upto_in _ _
theorem big2 : 1000 ≤ FUEL := by unfold FUEL; omega
theorem shift_at (t : Tab) (d : Dec) (z : Bool) (h : decide (d.1 = 3) = z) : shiftN t d = if mayN (d, z) t = 0 then (doN (d, z) (t.1 + 1, t.2), 0) else (t, mayN (d, z) t) := by rw [← h]; rfl
structure Inv (t : Tab) (i : Nat) : Prop where
  low : 0 ≤ t.1
  high : t.1 ≤ 1 + (i : Int)
  owner : t.2.1 = (newN 4).2.1
  inc : t.2.2.1 = (newN 4).2.2.1
  member : t.2.2.2.1 = (newN 4).2.2.2.1
  len : t.2.2.2.2.length = 12
  two : 0 ≤ nth t.2.2.2.2 2 ∧ nth t.2.2.2.2 2 < 4294967296
theorem Inv.good {t : Tab} {i : Nat} (h : Inv t i) : Good t where
  owner := by rw [h.owner]; exact (new_good 4 (by decide)).owner
  inc := by rw [h.inc]; exact (new_good 4 (by decide)).inc
  member := by rw [h.member]; exact (new_good 4 (by decide)).member
  renewed := h.len
  nodes := by rw [h.owner]; exact (new_good 4 (by decide)).nodes
theorem l4_run {R : Type} (k0 : Bool → Option R) (k1 : (Int × Tab) → Option R) (l : List Int) (hl : ∀ c ∈ l, 0 ≤ c ∧ c < 4294967296) (seen : Int) (r : R) (hk : ∀ t, Inv t 100 → k1 (seen, t) = some r) :
    ∀ (n i : Nat) (t : Tab), i ≤ 100 → 100 - i < n → Inv t i → l4_0 FUEL k0 k1 n (l, seen, (i : Int), t) = some r := by
  intro n
  induction n with
  | zero => intro j _ _ h; omega
  | succ n ih =>
    intro i t hi hn hv
    have up : ∀ {j : Nat}, j ≤ 100 → Inv t j → Inv t 100 := fun hj h => { h with high := by have := h.high; omega }
    show s4_0 FUEL (l4_0 FUEL k0 k1 n) k0 k1 _ = _
    simp only [s4_0]
    by_cases e : i < l.length
    · rw [decide_eq_true (show (i : Int) < ((l.length : Nat) : Int) by omega)]
      simp only [cond_true]
      by_cases g : i < 100
      · rw [decide_eq_true (show (i : Int) < 100 by omega), if_pos (by omega), Int.toNat_natCast, List.getElem?_eq_getElem e]
        simp only [cond_true]
        have hc := hl _ (List.getElem_mem e)
        generalize l[i] = c at hc
        have := hv.low; have := hv.high; have h2 := hv.two
        rw [renew_eq t hv.good (1, (2, (0, ((0, 0), (c, 0))))) (show (0 : Int) ≤ 2 by decide) (show (2 : Int) < 12 by decide) hv.low (by omega) rfl hc h2]
        simp only
        rw [if_pos (by omega), lit_get (n := 2) (by rw [hv.len]; decide)]
        simp only
        have hm : nth t.2.2.2.1 2 = true := by rw [hv.member]; rfl
        rw [wrapU' (n := c) (by omega) (by omega), wrapU' (n := nth t.2.2.2.2 ((2 : Nat) : Int)) (by exact h2.1) (by have : nth t.2.2.2.2 ((2 : Nat) : Int) < 4294967296 := h2.2; omega),
          wrapU' (n := nth t.2.2.2.2 ((2 : Nat) : Int) + 1) (by have : 0 ≤ nth t.2.2.2.2 ((2 : Nat) : Int) := h2.1; omega) (by have : nth t.2.2.2.2 ((2 : Nat) : Int) < 4294967296 := h2.2; omega), wrapNext i (by omega)]
        simp only [renewN, hm, Bool.true_eq_false, if_false]
        show (bif !(decide ((if c ≠ nth t.2.2.2.2 2 + 1 then _ else _ : Tab × Int).2 = 0) == decide (c = nth t.2.2.2.2 2 + 1)) then _ else _) = _
        by_cases q : c = nth t.2.2.2.2 2 + 1
        · rw [if_neg (fun g => g q), decide_eq_true q]
          simp only [decide_true, beq_self_eq_true, Bool.not_true, cond_false, eqB_arr_int, eqB_arr_bool]
          refine ih (i + 1) _ (by omega) (by omega) ⟨?_, ?_, hv.owner, hv.inc, hv.member, ?_, ?_⟩
          · show 0 ≤ t.1 + 1; omega
          · show t.1 + 1 ≤ 1 + ((i + 1 : Nat) : Int); omega
          · show (t.2.2.2.2.set _ _).length = 12
            rw [List.length_set]; exact hv.len
          · show 0 ≤ nth (t.2.2.2.2.set 2 c) 2 ∧ nth (t.2.2.2.2.set 2 c) 2 < 4294967296
            have : nth (t.2.2.2.2.set 2 c) 2 = c := by
              show ((t.2.2.2.2.set 2 c)[2]?).getD default = c
              rw [List.getElem?_set_self (by rw [hv.len]; decide)]; rfl
            rw [this]; exact hc
        · rw [if_pos q, decide_eq_false q]
          simp only [show decide ((144 : Int) = 0) = false from rfl, beq_self_eq_true, Bool.not_true, cond_false, eqB_arr_int, eqB_arr_bool, decide_true]
          exact ih (i + 1) t (by omega) (by omega) { hv with high := by omega }
      · rw [decide_eq_false (show ¬ (i : Int) < 100 by omega)]
        exact hk t (up hi hv)
    · rw [decide_eq_false (show ¬ (i : Int) < ((l.length : Nat) : Int) by omega)]
      exact hk t (up hi hv)
theorem pure4 (l : List Int) (wl : Ty.wf (.slice (.int .u32)) l) (seen : Int) (_ : Ty.wf (.int .u32) seen) : p4 FUEL (l, seen) = some true := by
  have hf := big2
  simp only [p4, p12_eq, Bool.not_true, cond_false]
  have h4 := p10_eq 4 (by decide) (by decide)
  rw [show (4 : Int) = ((4 : Nat) : Int) from rfl, h4]
  simp only [decide_true, Bool.not_true, cond_false]
  refine l4_run _ _ l (fun c hc => wf_u32 (wl.2 c hc)) seen true (fun t hv => ?_) FUEL 0 (newN 4) (by decide) (by omega) ⟨by decide, by decide, rfl, rfl, rfl, rfl, by decide, by decide⟩
  have := hv.low; have := hv.high
  simp only
  rw [shift_eq t hv.good (3, (1, (2, ((32, 1), (0, seen))))) (show (0 : Int) ≤ 1 by decide) (show (1 : Int) < 12 by decide) hv.low (by omega) (Or.inr rfl)]
  simp only
  rw [lit_get (n := 2) (by rw [hv.len]; decide)]
  simp only
  have hm : nth t.2.2.2.1 1 = true := by rw [hv.member]; rfl
  have ho : nth t.2.1 32 = 2 := by rw [hv.owner]; rfl
  have hp : ¬ ∃ p ∈ placesN (32, 1), nth t.2.1 p ≠ 2 := by
    rintro ⟨p, hp, hne⟩
    obtain rfl : p = 32 := by simpa [placesN, upto] using hp
    exact hne ho
  have hmay : mayN ((3, (1, (2, ((32, 1), (0, seen))))), decide ((3 : Int) = 3)) t = if nth t.2.2.2.2 2 ≠ seen then 142 else 0 := by
    simp only [mayN, hm, Bool.true_eq_false, if_false]
    rw [if_neg (by decide), if_neg (by decide), if_neg hp]
    simp only [decide_true, true_and]
  show (bif (decide ((shiftN t (3, (1, (2, ((32, 1), (0, seen)))))).2 = 0) == decide (seen = nth t.2.2.2.2 2)) then _ else _) = _
  have hs : (shiftN t (3, (1, (2, ((32, 1), (0, seen)))))).2 = if nth t.2.2.2.2 2 ≠ seen then 142 else 0 := by
    have e : shiftN t (3, (1, (2, ((32, 1), (0, seen))))) = if mayN ((3, (1, (2, ((32, 1), (0, seen))))), decide ((3 : Int) = 3)) t = 0 then (doN ((3, (1, (2, ((32, 1), (0, seen))))), decide ((3 : Int) = 3)) (t.1 + 1, t.2), 0) else (t, mayN ((3, (1, (2, ((32, 1), (0, seen))))), decide ((3 : Int) = 3)) t) := rfl
    rw [e, hmay]
    by_cases q : nth t.2.2.2.2 2 ≠ seen
    · rw [if_pos q, if_neg (show ¬ (142 : Int) = 0 by decide)]
    · rw [if_neg q, if_pos rfl]
  rw [hs]
  by_cases q : seen = nth t.2.2.2.2 2
  · rw [if_neg (fun g => g q.symm), decide_eq_true q]; rfl
  · rw [if_pos (fun g => q g.symm), decide_eq_false q]; rfl

theorem doN_good (t : Tab) (ht : Good t) (s : Dec × Bool) (h0 : 0 ≤ s.1.2.1) (h1 : s.1.2.1 < 12) : Good (doN s t) where
  owner := by show (setAll _ _ _).length = 64; rw [setAll_length]; exact ht.owner
  inc := by
    show (if s.2 then setAll t.2.2.1 _ t.1 else t.2.2.1).length = 64
    cases s.2
    · exact ht.inc
    · show (setAll _ _ _).length = 64
      rw [setAll_length]; exact ht.inc
  member := ht.member
  renewed := ht.renewed
  nodes q hq0 hq1 := by
    show 0 ≤ nth (setAll _ _ _) q ∧ nth (setAll _ _ _) q < 12
    rw [setAll_nth _ _ q hq0 _ (by rw [ht.owner]; exact hq1) fun p hp => (places_in _ p hp).1]
    split
    · exact ⟨h0, h1⟩
    · exact ht.nodes q hq0 hq1
theorem Good.next {t : Tab} (ht : Good t) (v : Int) : Good (v, t.2) := ⟨ht.owner, ht.inc, ht.member, ht.renewed, ht.nodes⟩
theorem new_member (n : Nat) (q : Int) (h0 : 0 ≤ q) (h1 : q < (n : Int)) (hn : n ≤ 12) : nth (newN n).2.2.2.1 q = true := by
  show (((List.range 12).map (fun i => decide (i < n)))[q.toNat]?).getD default = _
  rw [List.getElem?_map, List.getElem?_range (by omega)]
  exact decide_eq_true (by omega)
theorem new_by (n : Nat) (h0 : 4 ≤ n) (q : Int) (hq0 : 0 ≤ q) (hq1 : q < 64) : 0 ≤ nth (newN n).2.1 q ∧ nth (newN n).2.1 q < (n : Int) := by
  rw [new_owner n q hq0 hq1]
  refine ⟨by omega, ?_⟩
  have h3 : q.toNat * n ≤ 63 * n := Nat.mul_le_mul_right n (by omega)
  omega
section
variable {R : Type} (k0 : Bool → Option R) (k1 : Unit → Option R) (u n by_ : Int) (hn : n ≠ 0) (a : Int × Int) (s t : Tab) (hs : s.2.1.length = 64) (ht : t.2.1.length = 64)
  (hin : ∀ p, 0 ≤ p → p < 64 → hasN a p = true → nth s.2.1 p = by_ ∧ nth t.2.1 p = Int.tmod u n) (hout : ∀ p, 0 ≤ p → p < 64 → hasN a p = false → nth t.2.1 p = nth s.2.1 p)
include hn hs ht hin hout
theorem l8_run : ∀ (m i : Nat), i ≤ 64 → 64 - i < m → l8_1 FUEL k0 k1 m (u, n, by_, (i : Int), a, s, t) = k1 () := by
  intro m
  induction m with
  | zero => intro j _ h; omega
  | succ m ih =>
    intro i hi hm
    show s8_1 FUEL (l8_1 FUEL k0 k1 m) k0 k1 _ = _
    simp only [s8_1]
    by_cases e : i < 64
    · simp only [decide_eq_true (show (i : Int) < 64 by omega), p22_eq, wrapNext i (by omega), if_pos (show 0 ≤ (i : Int) ∧ (i : Int) < ((64 : Nat) : Int) by omega), nth_get (l := s.2.1) (i := (i : Int)) (by omega) (by omega), nth_get (l := t.2.1) (i := (i : Int)) (by omega) (by omega), cond_true]
      cases g : hasN a (i : Int)
      · simp only [decide_eq_true (hout _ (by omega) (by omega) g), Bool.not_false, Bool.not_true, cond_true, cond_false]
        exact ih (i + 1) (by omega) (by omega)
      · have h := hin _ (by omega) (by omega) g
        simp only [decide_eq_true h.1, if_neg hn, decide_eq_true h.2, Bool.not_true, cond_true, cond_false]
        exact ih (i + 1) (by omega) (by omega)
    · obtain rfl : i = 64 := by omega
      rw [decide_eq_false (by omega)]; rfl
end
theorem has_right {a : Int × Int} {p : Int} (h : hasN a p = true) : right a = true := by
  simp only [hasN, Bool.and_eq_true] at h; exact h.1.1
theorem j8_2_eq (m n : Nat) (h0 : 4 ≤ n) (h1 : n ≤ 12) (a : Int × Int) (ha0 : 0 ≤ a.1) (ha1 : a.1 < 64) : j8_2 FUEL some ((m : Int), (n : Int), a, newN n) = some true := by
  have hf := big2
  have ht := new_good n h1
  have hby := new_by n h0 a.1 ha0 ha1
  simp only [j8_2]
  rw [if_pos ⟨ha0, by omega⟩, nth_get ha0 (by rw [ht.owner]; omega)]
  simp only
  rw [if_neg (show ¬ (n : Int) = 0 by omega)]
  generalize hB : nth (newN n).2.1 a.1 = B at hby
  have hto : 0 ≤ Int.tmod (m : Int) (n : Int) ∧ Int.tmod (m : Int) (n : Int) < (n : Int) := by
    rw [tmod_pos (by omega)]
    exact ⟨Int.emod_nonneg _ (by omega), Int.emod_lt_of_pos _ (by omega)⟩
  generalize hT : Int.tmod (m : Int) (n : Int) = T at hto
  rw [shift_eq (newN n) ht (2, (T, (B, (a, (0, 0))))) hto.1 (by show T < 12; omega) (by show (0 : Int) ≤ 1; decide) (by show (1 : Int) < _; decide) (Or.inl rfl)]
  rw [shift_at _ _ false rfl]
  by_cases g : mayN ((2, (T, (B, (a, (0, 0))))), false) (newN n) = 0
  · rw [if_pos g]
    have g' := may_right g
    obtain ⟨g1, g2, g3, g4, g5, _⟩ := g'
    simp only at g1 g2 g3 g4 g5
    simp only [decide_true, Bool.not_true, cond_false]
    rw [if_neg (show ¬ (n : Int) = 0 by omega)]
    generalize hu : doN ((2, (T, (B, (a, (0, 0))))), false) ((newN n).1 + 1, (newN n).2) = U
    have hU : Good U := by rw [← hu]; exact doN_good _ (ht.next _) _ hto.1 (by show T < 12; omega)
    have hUo : U.2.1 = setAll (newN n).2.1 (placesN a) T := by rw [← hu]; rfl
    have hUn : ∀ q, 0 ≤ q → q < 64 → nth U.2.1 q = if q ∈ placesN a then T else nth (newN n).2.1 q := fun q q0 q1 => by
      rw [hUo]; exact setAll_nth _ _ q q0 _ (by rw [ht.owner]; exact q1) fun p hp => (places_in _ p hp).1
    have hv1 : U.1 = 2 := by rw [← hu]; rfl
    have hmem : nth U.2.2.2.1 B = true := by
      have : U.2.2.2.1 = (newN n).2.2.2.1 := by rw [← hu]; rfl
      rw [this]; exact new_member n B hby.1 hby.2 h1
    have g6 : mayN ((2, (B, (T, (a, (0, 0))))), false) U = 0 := by
      simp only [mayN, hmem, Bool.true_eq_false, if_false, g2, false_or, Bool.false_eq_true, false_and]
      rw [if_neg g3, if_neg (fun h => g4 h.symm), if_neg]
      rintro ⟨p, hp, hne⟩
      have hb := places_in _ p hp
      refine hne ?_
      rw [hUn p hb.1 hb.2, if_pos hp]
    rw [shift_eq U hU (2, (B, (T, (a, (0, 0))))) hby.1 (by show B < 12; omega) (by omega) (by omega) (Or.inl rfl)]
    rw [shift_at _ _ false rfl, if_pos g6]
    have hback : (doN ((2, (B, (T, (a, (0, 0))))), false) (U.1 + 1, U.2)).2.1 = (newN n).2.1 := by
      show setAll U.2.1 (placesN a) B = _
      refine nth_ext (by rw [setAll_length, hU.owner, ht.owner]) fun q q0 q1 => ?_
      rw [setAll_length, hU.owner] at q1
      rw [setAll_nth _ _ q q0 _ (by rw [hU.owner]; exact q1) fun p hp => (places_in _ p hp).1, hUn q q0 (by omega)]
      by_cases hq : q ∈ placesN a
      · rw [if_pos hq]; exact (g5 q hq).symm
      · rw [if_neg hq, if_neg hq]
    have hinc : (doN ((2, (B, (T, (a, (0, 0))))), false) (U.1 + 1, U.2)).2.2.1 = (newN n).2.2.1 := by rw [← hu]; rfl
    have hinc2 : U.2.2.1 = (newN n).2.2.1 := by rw [← hu]; rfl
    simp only [decide_true, Bool.not_true, cond_false, hback, hinc, hinc2, eqB_arr_int]
    rw [show (0 : Int) = ((0 : Nat) : Int) from rfl, l8_run _ _ (m : Int) (n : Int) B (by omega) a (newN n) U ht.owner hU.owner (fun p q0 q1 hp => ?_) (fun p q0 q1 hp => ?_) FUEL 0 (by omega) (by omega)]
    · have hp' := (mem_places a p g2 q0 q1).2 hp
      exact ⟨g5 p hp', by rw [hUn p q0 q1, if_pos hp', hT]⟩
    · rw [hUn p q0 q1, if_neg]
      intro h
      rw [(mem_places a p g2 q0 q1).1 h] at hp
      cases hp
  · rw [if_neg g]
    simp only [decide_eq_false g, Bool.not_false, cond_true, tab_self]
theorem nodes_eq (u : Int) (h : 0 ≤ u) : IntKind.wrap .i64 ((4 : Int) + (Int.tmod u (9 : Int))) = ((4 + (u % 9).toNat : Nat) : Int) := by
  rw [tmod_pos h, wrapI (by omega) (by omega)]; omega
theorem pure8 (nodes : Int) (wn : Ty.wf (.int .i64) nodes) (a : Int × Int) (_ : Ty.wf (.pair (.int .i64) (.int .i64)) a) (to : Int) (wt : Ty.wf (.int .i64) to) : p8 FUEL (nodes, a, to) = some true := by
  have hq1 := quart_ok wn
  have hq2 := quart_ok wt
  have e : p8 FUEL (nodes, a, to) = j8_3 FUEL some (quart nodes, quart to, a) := by
    unfold quart
    simp only [p8, j8_4]
    cases decide (nodes < 0) <;> cases decide (to < 0) <;> rfl
  rw [e]
  generalize quart nodes = u at hq1
  generalize quart to = v at hq2
  simp only [j8_3, nodes_eq u hq1.1, p12_eq]
  rw [p10_eq _ (by omega) (by omega)]
  simp only [decide_true, Bool.not_true, cond_false]
  by_cases h1 : a.1 < 0
  · rw [decide_eq_true h1]
    simp only [cond_true, j8_0, p12_eq]
  · rw [decide_eq_false h1]
    simp only [cond_false]
    by_cases h2 : 63 < a.1
    · rw [decide_eq_true h2]
      simp only [cond_true, j8_0, p12_eq]
    · rw [decide_eq_false h2]
      simp only [cond_false, j8_0]
      obtain ⟨m, rfl⟩ : ∃ m : Nat, v = (m : Int) := ⟨v.toNat, by omega⟩
      exact j8_2_eq m _ (by omega) (by omega) a (by omega) (by omega)

section
variable {R : Type} (k0 : Bool → Option R) (k1 : (Int × Int) → Option R) (u n e f : Int) (hn : n ≠ 0) (a : Int × Int) (s t : Tab) (hs : s.2.2.1.length = 64) (ht : t.2.2.1.length = 64) (hto : t.2.1.length = 64)
  (hin : ∀ p, 0 ≤ p → p < 64 → hasN a p = true → nth t.2.2.1 p = t.1 ∧ nth t.2.1 p = Int.tmod u n) (hout : ∀ p, 0 ≤ p → p < 64 → hasN a p = false → nth t.2.2.1 p = nth s.2.2.1 p)
include hn hs ht hto hin hout
theorem l9_run : ∀ (m i : Nat), i ≤ 64 → 64 - i < m → l9_1 FUEL k0 k1 m (u, n, e, f, (i : Int), a, s, t) = k1 (e, f) := by
  intro m
  induction m with
  | zero => intro j _ h; omega
  | succ m ih =>
    intro i hi hm
    show s9_1 FUEL (l9_1 FUEL k0 k1 m) k0 k1 _ = _
    simp only [s9_1]
    by_cases h64 : i < 64
    · simp only [decide_eq_true (show (i : Int) < 64 by omega), p22_eq, wrapNext i (by omega), if_pos (show 0 ≤ (i : Int) ∧ (i : Int) < ((64 : Nat) : Int) by omega), nth_get (l := s.2.2.1) (i := (i : Int)) (by omega) (by omega), nth_get (l := t.2.2.1) (i := (i : Int)) (by omega) (by omega), nth_get (l := t.2.1) (i := (i : Int)) (by omega) (by omega), cond_true]
      cases g : hasN a (i : Int)
      · simp only [decide_eq_true (hout _ (by omega) (by omega) g), Bool.not_false, Bool.not_true, cond_true, cond_false]
        exact ih (i + 1) (by omega) (by omega)
      · have h := hin _ (by omega) (by omega) g
        simp only [decide_eq_true h.1, if_neg hn, decide_eq_true h.2, Bool.not_true, cond_true, cond_false]
        exact ih (i + 1) (by omega) (by omega)
    · obtain rfl : i = 64 := by omega
      rw [decide_eq_false (by omega)]; rfl
end
theorem taken_no (U : Tab) (hU : Good U) (k X B T : Int) (a : Int × Int) (z : Bool) (hX : nth U.2.2.2.1 X = true) (ha0 : 0 ≤ a.1) (ha1 : a.1 < 64) (g2 : right a = true) (g3 : a.2 ≠ 0) (hT : nth U.2.1 a.1 = T) (hBT : B ≠ T) :
    mayN ((k, (X, (B, (a, (0, 0))))), z) U = 141 := by
  have hr := of_decide_eq_true g2
  simp only [mayN, hX, Bool.true_eq_false, if_false, g2, false_or]
  rw [if_neg g3]
  by_cases hx : B = X
  · rw [if_pos hx]
  · rw [if_neg hx, if_pos]
    refine ⟨a.1, (mem_places a _ g2 ha0 ha1).2 ?_, by rw [hT]; exact fun h => hBT h.symm⟩
    simp only [hasN, g2, Bool.true_and, Bool.and_eq_true, decide_eq_true_eq]
    omega
theorem j9_2_eq (m m' n : Nat) (h0 : 4 ≤ n) (h1 : n ≤ 12) (a : Int × Int) (ha0 : 0 ≤ a.1) (ha1 : a.1 < 64) : j9_2 FUEL some ((m : Int), (m' : Int), (n : Int), a, newN n) = some true := by
  have hf := big2
  have ht := new_good n h1
  have hby := new_by n h0 a.1 ha0 ha1
  simp only [j9_2]
  rw [if_pos ⟨ha0, by omega⟩, nth_get ha0 (by rw [ht.owner]; omega)]
  simp only
  rw [if_neg (show ¬ (n : Int) = 0 by omega)]
  generalize hB : nth (newN n).2.1 a.1 = B at hby
  have hmod : ∀ m : Nat, 0 ≤ Int.tmod (m : Int) (n : Int) ∧ Int.tmod (m : Int) (n : Int) < (n : Int) := fun m => by
    rw [tmod_pos (by omega)]
    exact ⟨Int.emod_nonneg _ (by omega), Int.emod_lt_of_pos _ (by omega)⟩
  have hto := hmod m
  have hag := hmod m'
  generalize hT : Int.tmod (m : Int) (n : Int) = T at hto
  generalize hX : Int.tmod (m' : Int) (n : Int) = X at hag
  rw [shift_eq (newN n) ht (3, (T, (B, (a, (0, 0))))) hto.1 (by show T < 12; omega) (by show (0 : Int) ≤ 1; decide) (by show (1 : Int) < _; decide) (Or.inr rfl)]
  rw [shift_at _ _ true rfl]
  by_cases g : mayN ((3, (T, (B, (a, (0, 0))))), true) (newN n) = 0
  · rw [if_pos g]
    have g' := may_right g
    obtain ⟨g1, g2, g3, g4, g5, _⟩ := g'
    simp only at g1 g2 g3 g4 g5
    simp only [decide_true, Bool.not_true, cond_false]
    rw [if_neg (show ¬ (n : Int) = 0 by omega)]
    generalize hu : doN ((3, (T, (B, (a, (0, 0))))), true) ((newN n).1 + 1, (newN n).2) = U
    have hU : Good U := by rw [← hu]; exact doN_good _ (ht.next _) _ hto.1 (by show T < 12; omega)
    have hUo : U.2.1 = setAll (newN n).2.1 (placesN a) T := by rw [← hu]; rfl
    have hUi : U.2.2.1 = setAll (newN n).2.2.1 (placesN a) U.1 := by rw [← hu]; rfl
    have hUn : ∀ q, 0 ≤ q → q < 64 → nth U.2.1 q = if q ∈ placesN a then T else nth (newN n).2.1 q := fun q q0 q1 => by
      rw [hUo]; exact setAll_nth _ _ q q0 _ (by rw [ht.owner]; exact q1) fun p hp => (places_in _ p hp).1
    have hUc : ∀ q, 0 ≤ q → q < 64 → nth U.2.2.1 q = if q ∈ placesN a then U.1 else nth (newN n).2.2.1 q := fun q q0 q1 => by
      rw [hUi]; exact setAll_nth _ _ q q0 _ (by rw [ht.inc]; exact q1) fun p hp => (places_in _ p hp).1
    have hv1 : U.1 = 2 := by rw [← hu]; rfl
    have hmem : nth U.2.2.2.1 X = true := by
      have : U.2.2.2.1 = (newN n).2.2.2.1 := by rw [← hu]; rfl
      rw [this]; exact new_member n X hag.1 hag.2 h1
    have hr := of_decide_eq_true g2
    have hA : a.1 ∈ placesN a := (mem_places a _ g2 ha0 ha1).2 (by
      simp only [hasN, g2, Bool.true_and, Bool.and_eq_true, decide_eq_true_eq]; omega)
    have hTa : nth U.2.1 a.1 = T := by rw [hUn _ ha0 ha1, if_pos hA]
    have no : ∀ k z, mayN ((k, (X, (B, (a, (0, 0))))), z) U = 141 := fun k z => taken_no U hU k X B T a z hmem ha0 ha1 g2 g3 hTa g4
    rw [shift_eq U hU (2, (X, (B, (a, (0, 0))))) hag.1 (by show X < 12; omega) (by omega) (by omega) (Or.inl rfl), shift_eq U hU (3, (X, (B, (a, (0, 0))))) hag.1 (by show X < 12; omega) (by omega) (by omega) (Or.inr rfl)]
    rw [shift_at _ _ false rfl, shift_at _ _ true rfl]
    simp only [no, if_neg (show ¬ (141 : Int) = 0 by decide)]
    rw [show (0 : Int) = ((0 : Nat) : Int) from rfl, l9_run _ _ (m : Int) (n : Int) 141 141 (by omega) a (newN n) U ht.inc hU.inc hU.owner (fun p q0 q1 hp => ?_) (fun p q0 q1 hp => ?_) FUEL 0 (by omega) (by omega)]
    · rfl
    · have hp' := (mem_places a p g2 q0 q1).2 hp
      exact ⟨by rw [hUc p q0 q1, if_pos hp'], by rw [hUn p q0 q1, if_pos hp', hT]⟩
    · rw [hUc p q0 q1, if_neg]
      intro h
      rw [(mem_places a p g2 q0 q1).1 h] at hp
      cases hp
  · rw [if_neg g]
    simp only [decide_eq_false g, Bool.not_false, cond_true, tab_self]
theorem pure9 (x : Int × ((Int × Int) × (Int × Int))) (wx : Ty.wf (.pair (.int .i64) (.pair (.pair (.int .i64) (.int .i64)) (.pair (.int .i64) (.int .i64)))) x) : p9 FUEL x = some true := by
  obtain ⟨nodes, a, to, again⟩ := x
  obtain ⟨wn, _, wt, wg⟩ := wx
  have hq1 := quart_ok wn
  have hq2 := quart_ok wt
  have hq3 := quart_ok wg
  have e : p9 FUEL (nodes, a, to, again) = j9_3 FUEL some (quart nodes, quart to, quart again, a) := by
    unfold quart
    simp only [p9, j9_4, j9_5]
    cases decide (nodes < 0) <;> cases decide (to < 0) <;> cases decide (again < 0) <;> rfl
  rw [e]
  simp only at hq1 hq2 hq3
  generalize quart nodes = u at hq1
  generalize quart to = v at hq2
  generalize quart again = w at hq3
  simp only [j9_3, nodes_eq u hq1.1, p12_eq]
  rw [p10_eq _ (by omega) (by omega)]
  simp only [decide_true, Bool.not_true, cond_false]
  by_cases h1 : a.1 < 0
  · rw [decide_eq_true h1]
    simp only [cond_true, j9_0, p12_eq]
  · rw [decide_eq_false h1]
    simp only [cond_false]
    by_cases h2 : 63 < a.1
    · rw [decide_eq_true h2]
      simp only [cond_true, j9_0, p12_eq]
    · rw [decide_eq_false h2]
      simp only [cond_false, j9_0]
      obtain ⟨m, rfl⟩ : ∃ m : Nat, v = (m : Int) := ⟨v.toNat, by omega⟩
      obtain ⟨m', rfl⟩ : ∃ m : Nat, w = (m : Int) := ⟨w.toNat, by omega⟩
      exact j9_2_eq m m' _ (by omega) (by omega) a (by omega) (by omega)
end Go.Am.Ytnbiohlaibdeaaa
