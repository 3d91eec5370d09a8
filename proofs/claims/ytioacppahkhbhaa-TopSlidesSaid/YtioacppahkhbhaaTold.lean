/- What a ring's runs tell: each place that is there is in just one, and none goes further. -/
import Derived.Test.YtioacppahkhbhaaRuns
namespace Go.Am.Runs
/-- Is a place in an arc? -/
def InArc (z : Int × Int) (q : Int) : Prop := (q - z.1 + 64) % 64 < z.2
structure Told (b : Nat → Bool) (l : List (Int × Int)) : Prop where
  ok : ∀ z ∈ l, (0 ≤ z.1 ∧ z.1 < 64) ∧ 1 ≤ z.2 ∧ z.2 ≤ 64
  asc : l.Pairwise fun y z => y.1 < z.1
  apart : l.Pairwise fun y z => ∀ q : Int, 0 ≤ q → q < 64 → InArc y q → InArc z q → False
  cover : ∀ q : Nat, q < 64 → (b q = true ↔ ∃ z ∈ l, InArc z (q : Int))
  stop : ∀ z ∈ l, z.2 < 64 → b ((z.1 + z.2) % 64).toNat = false
section
variable (b : Nat → Bool)
theorem R_true : ∀ m s i, i < R b m s → b (s + i) = true
  | 0, _, _, h => absurd h (Nat.not_lt_zero _)
  | m + 1, s, i, h => by
    rw [R_step] at h
    cases g : b s
    · rw [g] at h; exact absurd h (Nat.not_lt_zero _)
    · rw [g, if_pos rfl] at h
      cases i with
      | zero => exact g
      | succ i =>
        have := R_true m (s + 1) i (by omega)
        rw [show s + 1 + i = s + (i + 1) by omega] at this
        exact this
theorem R_end : ∀ m s, R b m s < m → b (s + R b m s) = false
  | 0, _, h => absurd h (Nat.not_lt_zero _)
  | m + 1, s, h => by
    rw [R_step] at h ⊢
    cases g : b s
    · simp only [Bool.false_eq_true, if_false, Nat.add_zero]; exact g
    · rw [g] at h
      simp only [if_true] at h ⊢
      have := R_end m (s + 1) (by omega)
      rw [show s + (1 + R b m (s + 1)) = s + 1 + R b m (s + 1) by omega]
      exact this
theorem R_ge (m n s : Nat) (h : ∀ i, s ≤ i → i < s + m → b i = true) : m ≤ R b (m + n) s := by
  rw [R_add, if_pos ((R_all b m s).2 h)]
  omega
theorem ring_mod (i : Nat) : ring b (i % 64) = ring b i := by
  show b (i % 64 % 64) = b (i % 64)
  rw [Nat.mod_mod]
theorem ring_eq {i j : Nat} (h : i % 64 = j % 64) : ring b i = ring b j := by rw [← ring_mod b i, h, ring_mod b j]
theorem one_run (s s' k k' : Nat) (hs : cst b s = true) (hk' : k' < R (ring b) 64 s') (hlt : k < k') (he : (s + k) % 64 = (s' + k') % 64) : False := by
  have h1 := R_true (ring b) 64 s' (k' - k - 1) (by omega)
  simp only [cst, Bool.and_eq_true, Bool.not_eq_true'] at hs
  have h2 : ring b (s + 63) = false := hs.2
  rw [ring_eq b (show (s' + (k' - k - 1)) % 64 = (s + 63) % 64 by omega), h2] at h1
  cases h1
theorem back (q : Nat) (hq : q < 64) : ∀ k, k ≤ 63 → (∃ t, t ≤ k ∧ cst b ((q + 64 - t) % 64) = true ∧ ∀ i, i ≤ t → ring b (q + 64 - i) = true) ∨ (∀ i, i ≤ k → ring b (q + 64 - i) = true) ∨ b q = false
  | 0, _ => by
    cases g : b q
    · exact Or.inr (Or.inr rfl)
    · refine Or.inr (Or.inl fun i hi => ?_)
      obtain rfl : i = 0 := by omega
      show b ((q + 64 - 0) % 64) = true
      rw [show (q + 64 - 0) % 64 = q by omega]; exact g
  | k + 1, hk => by
    rcases back q hq k (by omega) with ⟨t, h1, h2, h3⟩ | h | h
    · exact Or.inl ⟨t, by omega, h2, h3⟩
    · cases g : ring b (q + 64 - (k + 1))
      · refine Or.inl ⟨k, by omega, ?_, h⟩
        have h4 : b ((q + 64 - k) % 64) = true := h k (Nat.le_refl k)
        have h5 : b ((q + 64 - (k + 1)) % 64) = false := g
        simp only [cst, h4, Bool.true_and]
        rw [show ((q + 64 - k) % 64 + 63) % 64 = (q + 64 - (k + 1)) % 64 by omega, h5]; rfl
      · refine Or.inr (Or.inl fun i hi => ?_)
        rcases Nat.lt_or_ge i (k + 1) with e | e
        · exact h i (by omega)
        · obtain rfl : i = k + 1 := by omega
          exact g
    · exact Or.inr (Or.inr h)
theorem in_run (s k : Nat) (hs : s < 64) (q : Nat) (hq : q < 64) (r : Nat) (hr : r ≤ 64) (hk : k < r) (he : (s + k) % 64 = q) : InArc ((s : Int), (r : Int)) (q : Int) := by
  show ((q : Int) - (s : Int) + 64) % 64 < (r : Int)
  omega
theorem of_in (s : Nat) (hs : s < 64) (q : Int) (h0 : 0 ≤ q) (h1 : q < 64) (r : Nat) (h : InArc ((s : Int), (r : Int)) q) : ∃ k, k < r ∧ (s + k) % 64 = q.toNat := by
  have h : (q - (s : Int) + 64) % 64 < (r : Int) := h
  exact ⟨((q - (s : Int) + 64) % 64).toNat, by omega, by omega⟩
theorem circ_mem {z : Int × Int} (h : z ∈ circ b 64) : ∃ s, s < 64 ∧ cst b s = true ∧ z = ((s : Int), ((R (ring b) 64 s : Nat) : Int)) := by
  simp only [circ, List.mem_map, List.mem_filter, List.mem_range] at h
  obtain ⟨s, ⟨h1, h2⟩, rfl⟩ := h
  exact ⟨s, h1, h2, rfl⟩
theorem told : Told b (runs b) := by
  unfold runs
  by_cases hall : R b 64 0 = 64
  · rw [if_pos hall]
    refine ⟨fun z hz => ?_, List.pairwise_singleton _ _, List.pairwise_singleton _ _, fun q hq => ⟨fun _ => ⟨_, List.mem_singleton_self _, ?_⟩, fun _ => (R_all b 64 0).1 hall q (by omega) (by omega)⟩, fun z hz h => ?_⟩
    · rw [List.mem_singleton.1 hz]; decide
    · show ((q : Int) - 0 + 64) % 64 < 64; omega
    · rw [List.mem_singleton.1 hz] at h
      exact absurd h (by decide)
  · rw [if_neg hall]
    obtain ⟨j, hj, hn⟩ : ∃ j, j < 64 ∧ b j = false := Classical.byContradiction fun g => hall ((R_all _ 64 0).2 fun i h1 h2 => by
      cases e : b i
      · exact absurd ⟨i, by omega, e⟩ g
      · rfl)
    refine ⟨fun z hz => ?_, ?_, ?_, fun q hq => ⟨fun h => ?_, ?_⟩, fun z hz h => ?_⟩
    · obtain ⟨s, hs, hc, rfl⟩ := circ_mem b hz
      have h1 := R_le (ring b) 64 s
      have h2 : 1 ≤ R (ring b) 64 s := by
        simp only [cst, Bool.and_eq_true] at hc
        have : ring b s = true := by show b (s % 64) = true; rw [Nat.mod_eq_of_lt hs]; exact hc.1
        rw [show 64 = 63 + 1 from rfl, R_step, this, if_pos rfl]; omega
      exact ⟨⟨by simp only; omega, by simp only; omega⟩, by simp only; omega, by simp only; omega⟩
    · unfold circ
      refine List.Pairwise.map _ (fun a c h => ?_) ((List.pairwise_lt_range).filter _)
      simp only; omega
    · unfold circ
      rw [List.pairwise_map]
      refine List.Pairwise.imp_of_mem (fun {s t} hs ht hlt q h0 h1 g1 g2 => ?_) ((List.pairwise_lt_range).filter _)
      simp only [List.mem_filter, List.mem_range] at hs ht
      obtain ⟨k, hk, ek⟩ := of_in s hs.1 q h0 h1 _ g1
      obtain ⟨k', hk', ek'⟩ := of_in t ht.1 q h0 h1 _ g2
      rcases Nat.lt_trichotomy k k' with e | e | e
      · exact one_run b s t k k' hs.2 hk' e (ek.trans ek'.symm)
      · subst e
        have := hs.1; have := ht.1
        omega
      · exact one_run b t s k' k ht.2 hk e (ek'.trans ek.symm)
    · rcases back b q hq 63 (Nat.le_refl _) with ⟨t, h1, h2, h3⟩ | g | g
      · have hs : (q + 64 - t) % 64 < 64 := Nat.mod_lt _ (by decide)
        have hr : t + 1 ≤ R (ring b) 64 ((q + 64 - t) % 64) := by
          have := R_ge (ring b) (t + 1) (63 - t) ((q + 64 - t) % 64) (fun i g1 g2 => by
            rw [ring_eq b (show i % 64 = (q + 64 - (t - (i - (q + 64 - t) % 64))) % 64 by omega)]
            exact h3 _ (by omega))
          rw [show t + 1 + (63 - t) = 64 by omega] at this
          exact this
        refine ⟨_, ?_, in_run _ t hs q hq _ (R_le _ _ _) hr (by omega)⟩
        simp only [circ, List.mem_map, List.mem_filter, List.mem_range]
        exact ⟨_, ⟨hs, h2⟩, rfl⟩
      · have := g ((q + 64 - j) % 64) (by omega)
        rw [ring_eq b (show (q + 64 - (q + 64 - j) % 64) % 64 = j % 64 by omega)] at this
        have h5 : b (j % 64) = true := this
        rw [Nat.mod_eq_of_lt hj, hn] at h5; cases h5
      · rw [g] at h; cases h
    · rintro ⟨z, hz, hin⟩
      obtain ⟨s, hs, hc, rfl⟩ := circ_mem b hz
      obtain ⟨k, hk, ek⟩ := of_in s hs (q : Int) (by omega) (by omega) _ hin
      have := R_true (ring b) 64 s k hk
      have h5 : b ((s + k) % 64) = true := this
      rw [ek, Int.toNat_natCast] at h5
      exact h5
    · obtain ⟨s, hs, hc, rfl⟩ := circ_mem b hz
      have h : ((R (ring b) 64 s : Nat) : Int) < 64 := h
      have := R_end (ring b) 64 s (by omega)
      have h5 : b ((s + R (ring b) 64 s) % 64) = false := this
      show b (((s : Int) + ((R (ring b) 64 s : Nat) : Int)) % 64).toNat = false
      rw [show (((s : Int) + ((R (ring b) 64 s : Nat) : Int)) % 64).toNat = (s + R (ring b) 64 s) % 64 by omega]
      exact h5
end
end Go.Am.Runs
