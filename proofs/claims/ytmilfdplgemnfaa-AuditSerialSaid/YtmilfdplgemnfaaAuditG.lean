/- Plain law of the printed functions of the audit: how a history is told does not matter. -/
import Derived.Test.YtmilfdplgemnfaaAuditF
namespace Go.Am.Ytmilfdplgemnfaa
theorem same9b (fuel : Nat) : p9b fuel = p9 fuel := by kernel_rfl
theorem j6_0_run {R : Type} (k0 : ((List Done) × (List Int) × Int × (List Done)) → Option R) (h : List Done) (mix : List Int) (i : Nat) (a : Int) (a0 : 0 ≤ a) (g : List Done) (hg : 0 < g.length) : ∃ g', List.Perm g' g ∧ j6_0 FUEL k0 (h, mix, (i : Int), a, g) = k0 (h, mix, (i : Int), g') := by
  have n0 : ¬ ((g.length : Nat) : Int) = 0 := by omega
  have ea : Int.tmod a (g.length : Int) = ((a.toNat % g.length : Nat) : Int) := by
    rw [tmod_pos a0]
    obtain ⟨a, rfl⟩ : ∃ n : Nat, a = (n : Int) := ⟨a.toNat, by omega⟩
    rw [Int.toNat_natCast]; rfl
  have eb : Int.tmod (i : Int) (g.length : Int) = ((i % g.length : Nat) : Int) := by
    rw [tmod_pos (by omega)]; rfl
  have ha : a.toNat % g.length < g.length := Nat.mod_lt _ hg
  have hb : i % g.length < g.length := Nat.mod_lt _ hg
  simp only [j6_0, ea, eb, if_neg n0]
  generalize a.toNat % g.length = p at ha
  generalize i % g.length = q at hb
  simp only [if_pos (show (0 : Int) ≤ (p : Int) ∧ (p : Int) < ((g.length : Nat) : Int) by omega), if_pos (show (0 : Int) ≤ (q : Int) ∧ (q : Int) < ((g.length : Nat) : Int) by omega), Int.toNat_natCast, List.getElem?_eq_getElem ha, List.getElem?_eq_getElem hb, List.length_set]
  have hb' : q < (g.set p g[q]).length := by rw [List.length_set]; exact hb
  rw [List.getElem?_eq_getElem hb']
  exact ⟨_, List.set_set_perm ha hb, rfl⟩
theorem l6_1_run {R : Type} (k0 : ((List Done) × (List Done)) → Option R) (h : List Done) (mix : List Int) (hm : mix.length < 9223372036854775807) (hx : ∀ x ∈ mix, -9223372036854775808 ≤ x ∧ x < 9223372036854775808) : ∀ n i (g : List Done), mix.length - i < n → ∃ g', List.Perm g' g ∧ l6_1 FUEL k0 n (h, mix, (i : Int), g) = k0 (h, g') := by
  intro n
  induction n with
  | zero => intro i g h; omega
  | succ n ih =>
    intro i g hn
    show ∃ g', List.Perm g' g ∧ s6_1 FUEL (l6_1 FUEL _ n) _ _ = _
    simp only [s6_1]
    by_cases e : i < mix.length
    · rw [decide_eq_true (show (i : Int) < ((mix.length : Nat) : Int) by omega), cond_true]
      by_cases c : 0 < g.length
      · rw [decide_eq_true (show (0 : Int) < ((g.length : Nat) : Int) by omega), cond_true, if_pos (show (0 : Int) ≤ (i : Int) by omega)]
        obtain ⟨b1, b2⟩ := hx _ (List.getElem_mem e)
        simp only [Int.toNat_natCast, List.getElem?_eq_getElem e]
        generalize mix[i] = x at b1 b2
        by_cases d : x < 0
        · rw [decide_eq_true d, cond_true, wrapI (n := x + 1) (by omega) (by omega), wrapI (n := 0 - (x + 1)) (by omega) (by omega)]
          obtain ⟨g1, p1, e1⟩ := j6_0_run (fun x : ((List Done) × (List Int) × Int × (List Done)) => l6_1 FUEL k0 n (x.1, x.2.1, IntKind.wrap .i64 (x.2.2.1 + 1), x.2.2.2)) h mix i (0 - (x + 1)) (by omega) g c
          obtain ⟨g2, p2, e2⟩ := ih (i + 1) g1 (by omega)
          refine ⟨g2, p2.trans p1, ?_⟩
          rw [e1]
          simp only
          rw [wrapNext i (by omega)]; exact e2
        · rw [decide_eq_false d, cond_false]
          obtain ⟨g1, p1, e1⟩ := j6_0_run (fun x : ((List Done) × (List Int) × Int × (List Done)) => l6_1 FUEL k0 n (x.1, x.2.1, IntKind.wrap .i64 (x.2.2.1 + 1), x.2.2.2)) h mix i x (by omega) g c
          obtain ⟨g2, p2, e2⟩ := ih (i + 1) g1 (by omega)
          refine ⟨g2, p2.trans p1, ?_⟩
          rw [e1]
          simp only
          rw [wrapNext i (by omega)]; exact e2
      · rw [decide_eq_false (show ¬ (0 : Int) < ((g.length : Nat) : Int) by omega), cond_false]
        exact ⟨g, List.Perm.refl g, rfl⟩
    · rw [decide_eq_false (show ¬ (i : Int) < ((mix.length : Nat) : Int) by omega), cond_false]
      exact ⟨g, List.Perm.refl g, rfl⟩
theorem shuffled (h : List Done) (w : Ty.wr (.slice DT) h) (mix : List Int) (wm : Ty.wr (.slice (.int .i64)) mix) : p6 FUEL (h, mix) = some true := by
  have hb := big
  have hl : (h.take 60).length ≤ 60 := by rw [List.length_take]; omega
  have hi : ∀ d ∈ h.take 60, d.2.2.2.length ≤ 3000000000000 := fun d hd => by
    have := (w.2 d (List.mem_of_mem_take hd)).2.2.2.1.2
    have : d.2.2.2.length * 53 ≤ 140737488351232 := this
    omega
  have hm : mix.length * 8 ≤ 140737488351232 := wm.1.2
  simp only [p6, p8_eq]
  generalize h.take 60 = g at hl hi
  rw [if_pos (by omega)]
  have run := fun (k0 : ((List Done) × (List Done)) → Option Bool) => l6_1_run k0 g mix (by omega) (fun x hx => wf_i64 (wm.2 x hx)) FUEL 0 g (by omega)
  obtain ⟨g', p, e⟩ := run (fun x => match p9 FUEL x.1 with
    | some z30 => match p9b FUEL x.2 with
      | some z31 => match p12 FUEL () with
        | some z32 => bif z32 then some (decide (z30.1 = z31.1)) else some false
        | none => none
      | none => none
    | none => none)
  refine e.trans ?_
  have hl' : g'.length ≤ 60 := by rw [p.length_eq]; exact hl
  simp only [same9b, p9_eq g hl hi, p9_eq g' hl' (fun d hd => hi d (p.mem_iff.1 hd)), p12_eq, cond_true, perm_code p, decide_true]
end Go.Am.Ytmilfdplgemnfaa
