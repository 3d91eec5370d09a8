/- Plain laws of the printed functions of routing: owners, walks. -/
import Derived.Test.YtbamjkhnnlekpaaHopC
namespace Go.Am.Ytbamjkhnnlekpaa
/-- The first node at a position or behind it. -/
def ownerN (L : List Peer) (p : Int × Int) : Nat := ((List.range L.length).find? fun i => !lt (pt L i).2 p).getD 0

theorem p10_eq (L : List Peer) (hL : L.length ≤ 1000) (p : Int × Int) : p10 FUEL (L, p) = some (ownerN L p : Int) := by
  have key := for_loop (S := Unit) (L := fun n y => l10_0 FUEL (fun x8 => some x8) (fun _ => some 0) n y) (step := fun F => s10_0 FUEL F (fun x8 => some x8) (fun _ => some 0)) (fun n x => rfl)
    (fun i _ => (L, (i : Int), p)) L.length (fun _ _ => True)
    (fun i _ => bif !lt (pt L i).2 p then .inl (some (i : Int)) else .inr ()) (fun _ => some 0)
    (fun F i s hi _ => by
      simp only [s10_0]
      refine (condT (decide_eq_true (show ((i : Nat) : Int) < (L.length : Int) by omega))).trans ?_
      rw [if_pos (by omega)]
      simp only [Int.toNat_natCast, pt_get hi, p22_eq, wrapNext i (show i < 9223372036854775807 by omega)]
      cases lt (pt L i).2 p <;> rfl)
    (fun F s _ => by
      simp only [s10_0]
      exact condF (decide_eq_false (by omega)))
    (fun _ _ _ _ _ _ => trivial) L.length 0 () FUEL (by omega) (fuel_big (by omega)) trivial
  have fin : ∀ (k i : Nat), i + k = L.length → forI (R := Int) (fun i (_ : Unit) => bif !lt (pt L i).2 p then .inl (some (i : Int)) else .inr ()) (fun _ => some 0) k i () = some ((((List.range' i k).find? fun i => !lt (pt L i).2 p).getD 0 : Nat) : Int) := by
    intro k
    induction k with
    | zero => intro i _; rfl
    | succ k ih =>
      intro i h
      unfold forI
      rw [List.range'_succ, List.find?_cons]
      cases hb : !lt (pt L i).2 p with
      | true => rfl
      | false => exact ih (i + 1) (by omega)
  have := fin L.length 0 (by omega)
  rw [← List.range_eq_range'] at this
  exact key.trans this

/-- A bound: the nodes ahead of a position are the first ones. -/
theorem bound {L : List Peer} (H : Ring L) (p : Int × Int) : ∃ m, m ≤ L.length ∧ (∀ k, k < L.length → lt (pt L k).2 p = decide (k < m)) ∧ ownerN L p = if m < L.length then m else 0 := by
  have down : ∀ a b, a < b → b < L.length → lt (pt L b).2 p = true → lt (pt L a).2 p = true := fun a b hab hb h => by
    have := pt_lt H (show a < L.length by omega) hb
    rw [decide_eq_true hab] at this
    exact lt_trans this h
  cases hf : (List.range L.length).find? fun i => !lt (pt L i).2 p with
  | none =>
    refine ⟨L.length, Nat.le_refl _, fun k hk => ?_, by unfold ownerN; rw [hf, if_neg (by omega)]; rfl⟩
    have := List.find?_eq_none.1 hf k (List.mem_range.2 hk)
    rw [decide_eq_true hk]
    simpa using this
  | some m =>
    have h1 := List.find?_some hf
    have hm : m < L.length := List.mem_range.1 (List.mem_of_find?_eq_some hf)
    have h1 : lt (pt L m).2 p = false := by simpa using h1
    refine ⟨m, by omega, fun k hk => ?_, by unfold ownerN; rw [hf, if_pos hm]; rfl⟩
    by_cases hkm : k < m
    · rw [decide_eq_true hkm]
      have := (List.find?_range_eq_some.1 hf).2.2 k hkm
      simpa using this
    · rw [decide_eq_false hkm]
      cases hb : lt (pt L k).2 p with
      | false => rfl
      | true =>
        by_cases e : k = m
        · subst e; rw [h1] at hb; cases hb
        · have := down m k (by omega) hk hb
          rw [h1] at this; cases this

theorem lt_flip (x y : Int × Int) : lt y x = (!lt x y && !eq y x) := by
  rcases way x y with ⟨h, h2, h3, h4⟩ | ⟨h, h2, h3, h4⟩ | ⟨h, h2, h3, h4⟩ <;> rw [h, h2, h4] <;> rfl

theorem own_tab {L : List Peer} (H : Ring L) (f : Nat) {i : Nat} (hi : i < L.length) (p : Int × Int) : own (tabF L f i) p = decide (ownerN L p = i) := by
  obtain ⟨m, hm, hc, ho⟩ := bound H p
  have he : ∀ k, k < L.length → eq p (pt L k).2 = true → m = k := fun k hk h => by
    have h1 : lt (pt L k).2 p = false := by
      rcases way (pt L k).2 p with ⟨_, _, _, h4⟩ | ⟨h0, _⟩ | ⟨h0, _⟩
      · rw [h4] at h; cases h
      · exact h0
      · exact h0
    rw [hc k hk] at h1
    have h1 := of_decide_eq_false h1
    by_cases e : m = k
    · exact e
    · exfalso
      have h2 := pt_lt H (show m < L.length by omega) hk
      rw [decide_eq_true (show m < k by omega)] at h2
      have h3 : lt (pt L m).2 p = true := by
        have he := eq_t h
        have h2 := lt_t h2
        exact decide_eq_true (by omega)
      rw [hc m (by omega)] at h3
      have := of_decide_eq_true h3
      omega
  unfold own tabF
  simp only
  have hs : (i + 1) % L.length < L.length := Nat.mod_lt _ H.pos
  have ha : (i + L.length - 1) % L.length < L.length := Nat.mod_lt _ H.pos
  rw [pt_id H hs, pt_id H hi]
  by_cases h1 : L.length = 1
  · have : i = 0 := by omega
    subst this
    rw [ho]
    have e0 : (if m < L.length then m else 0) = 0 := by split <;> omega
    rw [e0, h1]; rfl
  · have hsi : ¬ ((i + 1) % L.length : Nat) = i := by
      rcases Nat.lt_or_ge (i + 1) L.length with h | h
      · rw [Nat.mod_eq_of_lt h]; omega
      · have : i + 1 = L.length := by omega
        rw [this, Nat.mod_self]; omega
    rw [decide_eq_false (by omega), Bool.false_or]
    unfold bt
    rw [pt_lt H ha hi, hc _ ha, lt_flip (pt L i).2 p, hc i hi]
    by_cases h0 : i = 0
    · subst h0
      have ea : (0 + L.length - 1) % L.length = L.length - 1 := by rw [Nat.zero_add]; exact Nat.mod_eq_of_lt (by omega)
      rw [ea] at ha ⊢
      rw [decide_eq_false (show ¬ L.length - 1 < 0 by omega), ho]
      cases e0 : eq p (pt L 0).2 with
      | true =>
        have := he 0 hi e0
        rw [this, if_pos hi]; rfl
      | false =>
        cases e1 : eq p (pt L (L.length - 1)).2 with
        | true =>
          have := he (L.length - 1) ha e1
          rw [this, if_pos ha, decide_eq_false (show ¬ L.length - 1 = 0 by omega)]; rfl
        | false =>
          simp only [Bool.false_or, cond_false, Bool.not_false, Bool.true_and, Bool.and_true]
          by_cases hml : m < L.length
          · rw [if_pos hml, decide_eq_false (show ¬ L.length - 1 < m by omega)]
            by_cases hm0 : m = 0
            · subst hm0; rfl
            · rw [decide_eq_true (show 0 < m by omega), decide_eq_false hm0]; rfl
          · rw [if_neg hml, decide_eq_true (show L.length - 1 < m by omega)]; rfl
    · have ea : (i + L.length - 1) % L.length = i - 1 := by
        rw [show i + L.length - 1 = (i - 1) + L.length by omega, Nat.add_mod_right]; exact Nat.mod_eq_of_lt (by omega)
      rw [ea] at ha ⊢
      rw [decide_eq_true (show i - 1 < i by omega), ho]
      simp only [cond_true]
      cases e0 : eq p (pt L i).2 with
      | true =>
        have := he i hi e0
        rw [this, if_pos hi, decide_eq_true rfl]; rfl
      | false =>
        simp only [Bool.false_or, Bool.not_false, Bool.and_true]
        by_cases hml : m < L.length
        · rw [if_pos hml]
          by_cases e2 : m = i
          · rw [decide_eq_true e2, decide_eq_true (show i - 1 < m by omega), decide_eq_false (show ¬ i < m by omega)]; rfl
          · rw [decide_eq_false e2]
            by_cases e3 : i < m
            · rw [decide_eq_true e3]; simp
            · rw [decide_eq_false (show ¬ i - 1 < m by omega)]; rfl
        · rw [if_neg hml, decide_eq_true (show i < m by omega), decide_eq_false (show ¬ 0 = i by omega)]; simp

theorem p11_eq (x : Int × Int) (t : Tab) : p11 FUEL (x, t) = some (bif own t x then (t.1, true, t) else (t.2.2.1, false, t)) := by
  simp only [p11, p23_eq]
  cases own t x <;> rfl

theorem eqPeer (a : Peer) : Ty.eqB (.pair (.int .i64) (.pair (.int .u64) (.int .u64))) a a = true := eqB_self (.pair (.int .i64) (.pair (.int .u64) (.int .u64))) rfl a

/-- How far it is from a node on to another. -/
def dist (n i e : Nat) : Nat := if i ≤ e then e - i else e + n - i

theorem ownerN_lt {L : List Peer} (H : Ring L) (p : Int × Int) : ownerN L p < L.length := by
  obtain ⟨m, _, _, h⟩ := bound H p
  rw [h]
  split
  · assumption
  · exact H.pos

theorem l3_0_eq {R : Type} {L : List Peer} (H : Ring L) (k0 : Bool × List Tab → Option R) (k1 : List Tab → Option R) (p : Int × Int) : ∀ (d n i c : Nat), i < L.length → dist L.length i (ownerN L p) = d → c + d < L.length → d < n →
    l3_0 FUEL k0 k1 n ((i : Int), (ownerN L p : Int), (c : Int), (List.range L.length).map (tabF L 4), p, L, (List.range L.length).map some) = k0 (true, (List.range L.length).map (tabF L 4)) := by
  have hfew := H.few
  have hend := ownerN_lt H p
  intro d
  induction d with
  | zero =>
    intro n i c hi hd hc hn
    obtain ⟨n, rfl⟩ : ∃ m, n = m + 1 := ⟨n - 1, by omega⟩
    have e : ownerN L p = i := by unfold dist at hd; split at hd <;> omega
    show s3_0 FUEL (l3_0 FUEL k0 k1 n) k0 k1 _ = _
    simp only [s3_0]
    refine (condT (decide_eq_true (show (c : Int) < (L.length : Int) by omega))).trans ?_
    rw [if_pos (by simp; omega)]
    simp only [Int.toNat_natCast, range_get some hi, range_get (tabF L 4) hi, p11_eq, own_tab H 4 hi, e]
    simp only [decide_true, cond_true]
    rw [if_pos (by omega)]
    simp only [pt_get hi]
    rw [set_same (range_get (tabF L 4) hi)]
    have : (tabF L 4 i).1 = pt L i := rfl
    rw [this, eqPeer]
  | succ d ih =>
    intro n i c hi hd hc hn
    obtain ⟨n, rfl⟩ : ∃ m, n = m + 1 := ⟨n - 1, by omega⟩
    have e : ¬ ownerN L p = i := fun e => by rw [e] at hd; unfold dist at hd; rw [if_pos (Nat.le_refl _)] at hd; omega
    have hs : (i + 1) % L.length < L.length := Nat.mod_lt _ H.pos
    show s3_0 FUEL (l3_0 FUEL k0 k1 n) k0 k1 _ = _
    simp only [s3_0]
    refine (condT (decide_eq_true (show (c : Int) < (L.length : Int) by omega))).trans ?_
    rw [if_pos (by simp; omega)]
    simp only [Int.toNat_natCast, range_get some hi, range_get (tabF L 4) hi, p11_eq, own_tab H 4 hi, decide_eq_false e, cond_false]
    refine (condF (decide_eq_false (by omega))).trans ?_
    rw [if_neg (by omega)]
    have e2 : Int.tmod (IntKind.wrap .i64 ((i : Int) + 1)) (L.length : Int) = (((i + 1) % L.length : Nat) : Int) := by
      rw [wrapNext i (by omega), tmod_nat]
    simp only [e2]
    rw [if_pos (by omega)]
    simp only [Int.toNat_natCast, pt_get hs]
    have e3 : (tabF L 4 i).2.2.1 = pt L ((i + 1) % L.length) := rfl
    rw [e3, eqPeer]
    simp only [Bool.not_true, cond_false]
    rw [if_neg (by omega), set_same (range_get (tabF L 4) hi), wrapNext c (by omega)]
    refine ih n ((i + 1) % L.length) (c + 1) hs ?_ (by omega) (by omega)
    unfold dist at hd ⊢
    rcases Nat.lt_or_ge (i + 1) L.length with h | h
    · rw [Nat.mod_eq_of_lt h]
      split at hd <;> split <;> omega
    · have : i + 1 = L.length := by omega
      rw [this, Nat.mod_self]
      split at hd <;> split <;> omega

theorem walks (x0 : List (Int × Int)) (w0 : Ty.wf (.slice (.pair (.int .u64) (.int .u64))) x0) (x1 : Int × Int) (_ : Ty.wf (.pair (.int .u64) (.int .u64)) x1) (x2 : Int × Int) (_ : Ty.wf (.pair (.int .u64) (.int .u64)) x2) : ∃ xs, p3 FUEL (x0, x1, x2, []) = some (true, xs) := by
  obtain ⟨L, H, hL⟩ := p8_eq x0 (by have := w0.1; unfold maxLen at this; omega)
  have hfew := H.few
  refine ⟨(List.range L.length).map (tabF L 4), ?_⟩
  simp only [p3, p7_eq, hL, p9_eq H, p10_eq L (by omega)]
  simp only [Bool.not_true, cond_false]
  have := l3_0_eq H (fun (x26, x27) => (some (x26, x27))) (fun x28 => (some (false, x28))) x2 (dist L.length (ownerN L x1) (ownerN L x2)) FUEL (ownerN L x1) 0 (ownerN_lt H x1) rfl (by
    have h1 := ownerN_lt H x1
    have h2 := ownerN_lt H x2
    unfold dist; split <;> omega) (fuel_big (by
    have h1 := ownerN_lt H x1
    have h2 := ownerN_lt H x2
    unfold dist; split <;> omega))
  exact this
end Go.Am.Ytbamjkhnnlekpaa
