/- Plain laws of the loads behind a planned move: the sum stays, the squares' sum falls, no number is greater than the greatest. -/
import Derived.Test.YtbbbdckbcicmbaaBalanceI
namespace Go.Am.Ytbbbdckbcicmbaa
/-- The sum of what φ makes of the numbers. -/
def sumF (φ : Int → Int) : List Int → Int
  | [] => 0
  | x :: l => φ x + sumF φ l
theorem sumF_set (φ : Int → Int) : ∀ (l : List Int) (i : Nat) (v : Int), i < l.length → sumF φ (l.set i v) = sumF φ l - φ (g l i) + φ v
  | [], i, v, h => by simp at h
  | x :: l, 0, v, h => by
    show φ v + sumF φ l = φ x + sumF φ l - φ x + φ v
    omega
  | x :: l, i + 1, v, h => by
    show φ x + sumF φ (l.set i v) = φ x + sumF φ l - φ (g l i) + φ v
    rw [sumF_set φ l i v (by simpa using h)]; omega
theorem build_sum1 (φ : Int → Int) (f t : Nat) (c : Int) : ∀ (v : List Int) (i : Nat), f < i → i ≤ t → t < i + v.length → sumF φ (build f t c v i) = sumF φ v - φ (g v (t - i))
  | [], i, h1, h2, h3 => by simp at h3; omega
  | y :: v, i, h1, h2, h3 => by
    rw [List.length_cons] at h3
    unfold build
    by_cases e : i = t
    · rw [decide_eq_true e, build_past f t c v (i + 1) (by omega) (by omega), show t - i = 0 by omega]
      show sumF φ v = φ y + sumF φ v - φ y; omega
    · rw [decide_eq_false e, decide_eq_false (show ¬ i = f by omega), show t - i = (t - (i + 1)) + 1 by omega]
      show φ y + sumF φ (build f t c v (i + 1)) = φ y + sumF φ v - φ (g v (t - (i + 1)))
      rw [build_sum1 φ f t c v (i + 1) (by omega) (by omega) (by omega)]; omega
theorem build_sum2 (φ : Int → Int) (f t : Nat) (c : Int) : ∀ (v : List Int) (i : Nat), t < i → i ≤ f → f < i + v.length → sumF φ (build f t c v i) = sumF φ v + φ c
  | [], i, h1, h2, h3 => by simp at h3; omega
  | y :: v, i, h1, h2, h3 => by
    rw [List.length_cons] at h3
    unfold build
    by_cases e : i = f
    · rw [decide_eq_false (show ¬ i = t by omega), decide_eq_true e, build_past f t c v (i + 1) (by omega) (by omega)]
      show φ c + (φ y + sumF φ v) = φ y + sumF φ v + φ c; omega
    · rw [decide_eq_false e, decide_eq_false (show ¬ i = t by omega)]
      show φ y + sumF φ (build f t c v (i + 1)) = φ y + sumF φ v + φ c
      rw [build_sum2 φ f t c v (i + 1) (by omega) (by omega) (by omega)]; omega
theorem build_sum (φ : Int → Int) (f t : Nat) (c : Int) (hne : f ≠ t) : ∀ (v : List Int) (i : Nat), i ≤ f → i ≤ t → f < i + v.length → t < i + v.length → sumF φ (build f t c v i) = sumF φ v - φ (g v (t - i)) + φ c
  | [], i, h1, h2, h3, h4 => by simp at h3; omega
  | y :: v, i, h1, h2, h3, h4 => by
    rw [List.length_cons] at h3 h4
    unfold build
    by_cases e : i = t
    · rw [decide_eq_true e, show t - i = 0 by omega]
      show sumF φ (build f t c v (i + 1)) = φ y + sumF φ v - φ y + φ c
      rw [build_sum2 φ f t c v (i + 1) (by omega) (by omega) (by omega)]; omega
    · rw [decide_eq_false e, show t - i = (t - (i + 1)) + 1 by omega]
      by_cases d : i = f
      · rw [decide_eq_true d]
        show φ c + (φ y + sumF φ (build f t c v (i + 1))) = φ y + sumF φ v - φ (g v (t - (i + 1))) + φ c
        rw [build_sum1 φ f t c v (i + 1) (by omega) (by omega) (by omega)]; omega
      · rw [decide_eq_false d]
        show φ y + sumF φ (build f t c v (i + 1)) = φ y + sumF φ v - φ (g v (t - (i + 1))) + φ c
        rw [build_sum φ f t c hne v (i + 1) (by omega) (by omega) (by omega) (by omega)]; omega

abbrev one (x : Int) : Int := x
abbrev sq (x : Int) : Int := x * x
theorem g_set_ne {l : List Int} {i j : Nat} (h : i ≠ j) (v : Int) : g (l.set i v) j = g l j := by
  unfold g; rw [List.getD_eq_getElem?_getD, List.getElem?_set_ne h, List.getD_eq_getElem?_getD]

section
variable {l : List Int} {f t : Nat} (hf : f < l.length) (ht : t < l.length) (hne : f ≠ t) (c : Int) (φ : Int → Int)
include hf ht hne
theorem slide_sum : sumF φ (slideS l f t c) = sumF φ l - φ (g l f) + φ (g l f - c) - φ (g l t) + φ (g l t + c) := by
  unfold slideS
  rw [sumF_set φ _ t _ (by rw [List.length_set]; exact ht), sumF_set φ l f _ hf, g_set_ne hne]
theorem jump_sum (hx : f ≠ nxt l.length t) : sumF φ (jumpS l f t c) = sumF φ l - φ (g l f) + φ (g l f - c) - φ (g l (nxt l.length t)) + φ (g l (nxt l.length t) + g l t) - φ (g l t) + φ c := by
  have hnt : nxt l.length t ≠ t := by unfold nxt; split <;> omega
  have hxl := nxt_lt ht
  unfold jumpS
  rw [build_sum φ f t c hne _ 0 (Nat.zero_le _) (Nat.zero_le _) (by rw [bump_len]; omega) (by rw [bump_len]; omega)]
  have e : g (bumpS l f t c) (t - 0) = g l t := by
    unfold bumpS
    rw [Nat.sub_zero, g_set_ne hnt, g_set_ne hne]
  rw [e]
  unfold bumpS
  rw [sumF_set φ _ _ _ (by rw [List.length_set]; exact hxl), sumF_set φ l f _ hf, g_set_ne hx]
end

/-- How much the squares' sum falls at the least: an eighth of the greatest number's square. -/
theorem slide_falls {a b c : Int} (h2 : 2 ≤ a) (hb : 0 ≤ b) (h : 2 * b < a) (hc : c = (a - b) / 2) : a * a ≤ 8 * (a * a + b * b - (a - c) * (a - c) - (b + c) * (b + c)) := by
  have e : a * a + b * b - (a - c) * (a - c) - (b + c) * (b + c) = 2 * c * ((a - b) - c) := by grind
  rw [e]
  generalize hd : a - b = d at *
  rcases (show d = 2 * c ∨ d = 2 * c + 1 by omega) with h3 | h3
  · have k : a * a ≤ (4 * c) * (4 * c) := Int.mul_le_mul (by omega) (by omega) (by omega) (by omega)
    rw [h3]; grind
  · have k : (a + 1) * (a + 1) ≤ (4 * c + 2) * (4 * c + 2) := Int.mul_le_mul (by omega) (by omega) (by omega) (by omega)
    rw [h3]; grind
theorem jump_falls {a e w c : Int} (h2 : 2 ≤ a) (he : 0 ≤ e) (hw : 0 ≤ w) (h : 4 * (w + e) ≤ 3 * a) (hc : c = a / 2) : a * a ≤ 8 * (a * a + w * w + e * e - (a - c) * (a - c) - (w + e) * (w + e) - c * c) := by
  have k1 : (4 * (w + e)) * (4 * (w + e)) ≤ (3 * a) * (3 * a) := Int.mul_le_mul h h (by omega) (by omega)
  have k2 : 0 ≤ (w - e) * (w - e) := by
    rcases Int.le_total 0 (w - e) with h | h
    · exact Int.mul_nonneg h h
    · exact Int.mul_nonneg_of_nonpos_of_nonpos h h
  by_cases h3 : a = 2
  · have hc1 : c = 1 := by omega
    have : w + e ≤ 1 := by omega
    rcases (show (w = 0 ∧ e = 0) ∨ (w = 1 ∧ e = 0) ∨ (w = 0 ∧ e = 1) by omega) with ⟨rfl, rfl⟩ | ⟨rfl, rfl⟩ | ⟨rfl, rfl⟩ <;> subst h3 hc1 <;> decide
  · have k3 : 3 * 3 ≤ a * a := Int.mul_le_mul (by omega) (by omega) (by omega) (by omega)
    have x0 : a * a + w * w + e * e - (a - c) * (a - c) - (w + e) * (w + e) - c * c = 2 * (a * c) - 2 * (c * c) - 2 * (w * e) := by grind
    have x1 : (4 * (w + e)) * (4 * (w + e)) = 16 * (w * w) + 32 * (w * e) + 16 * (e * e) := by grind
    have x2 : (3 * a) * (3 * a) = 9 * (a * a) := by grind
    have x3 : (w - e) * (w - e) = w * w - 2 * (w * e) + e * e := by grind
    rw [x1, x2] at k1
    rw [x3] at k2
    rw [x0]
    rcases (show a = 2 * c ∨ a = 2 * c + 1 by omega) with h4 | h4
    · have e1 : a * a = 4 * (c * c) := by rw [h4]; grind
      have e2 : a * c = 2 * (c * c) := by rw [h4]; grind
      omega
    · have e1 : a * a = 4 * (c * c) + 4 * c + 1 := by rw [h4]; grind
      have e2 : a * c = 2 * (c * c) + c := by rw [h4]; grind
      omega

/-- What a planned move does. -/
structure Moves (l : List Int) (m : MV) : Prop where
  goes : mayS l m = true
  fair : fair (doneS l m) 1 12 = true
  len : (doneS l m).length = l.length
  sum : sumF one (doneS l m) = sumF one l
  most : ∀ x ∈ doneS l m, ∃ y ∈ l, x ≤ y

theorem planned {l : List Int} (fr : Am.Ytbbbdckbcicmbaa.fair l 1 12 = true) {h lo : Nat} (F : First l h lo) (hp : (planS l h lo).2.1 = true) :
    Moves l (planS l h lo).1 ∧ 2 ≤ g l h ∧ g l h * g l h ≤ 8 * (sumF sq l - sumF sq (doneS l (planS l h lo).1)) := by
  obtain ⟨h1, hn, hb⟩ := fair_12 fr
  have hh := F.hl
  have hlo := F.lol
  have ba := g_bound hb hh
  unfold planS at hp ⊢
  cases hcalm : calmS l h lo with
  | true => rw [hcalm] at hp; cases hp
  | false =>
    rw [hcalm] at hp
    simp only [cond_false] at hp ⊢
    unfold calmS at hcalm
    simp only [Bool.or_eq_false_iff, decide_eq_false_iff_not] at hcalm
    obtain ⟨c1, c2, c3⟩ := hcalm
    have hq := nearS_lt hh
    have bq := g_bound hb hq
    -- the neighbour
    have hbes : besideS l.length h (nearS l h) = true := by
      have ne : nearS l h ≠ h := by
        unfold nearS nxt prv
        cases decide (g l (if h + 1 = l.length then 0 else h + 1) < g l (if h = 0 then l.length - 1 else h - 1))
        · show (if h = 0 then l.length - 1 else h - 1) ≠ h; split <;> omega
        · show (if h + 1 = l.length then 0 else h + 1) ≠ h; split <;> omega
      unfold besideS
      rw [decide_eq_false (fun e => ne e.symm)]
      unfold nearS
      cases hd : decide (g l (nxt l.length h) < g l (prv l.length h)) with
      | true => simp
      | false =>
        simp only [cond_false]
        rw [decide_eq_true ((prv_nxt hh (prv_lt hh)).1 rfl), Bool.or_true]; rfl
    unfold restS at hp ⊢
    by_cases d : 2 * g l (nearS l h) < g l h
    · rw [decide_eq_true d]
      simp only [cond_true]
      generalize hc : (g l h - g l (nearS l h)) / 2 = c
      have hne : h ≠ nearS l h := by
        intro e; rw [← e] at d; omega
      have hin : inS l (1, ((h : Int), ((nearS l h : Int), c))) = true := by
        unfold inS
        simp only [Int.toNat_natCast]
        rw [decide_eq_false (by omega), decide_eq_false (by omega), decide_eq_false (by omega), decide_eq_false (by omega), decide_eq_false (by omega), decide_eq_false (by omega), decide_eq_false (by omega)]; rfl
      have hroom : c ≤ 2147483647 - g l (nearS l h) := by omega
      have hfair := slide_fair hb hh hq hne (c := c) (by omega) (by omega) hn
      have es := slide_sum hh hq hne c one
      have eq := slide_sum hh hq hne c sq
      have hd : doneS l (1, ((h : Int), ((nearS l h : Int), c))) = slideS l h (nearS l h) c := rfl
      rw [hd]
      refine ⟨⟨?_, by rw [hd, hfair, decide_eq_true hroom], by rw [hd, slide_len], by rw [hd, es]; show sumF one l - g l h + (g l h - c) - g l (nearS l h) + (g l (nearS l h) + c) = _; omega, fun x hx => ⟨g l h, g_mem hh, ?_⟩⟩, by omega, ?_⟩
      · unfold mayS roomS
        rw [hin]
        simp only [Int.toNat_natCast, hbes, decide_eq_true hroom]; rfl
      · rw [hd] at hx
        rcases mem_set2 hx with k | k | k
        · obtain ⟨i, hi, e⟩ := mem_g k
          have := F.most i hi; omega
        · omega
        · omega
      · have := slide_falls (a := g l h) (b := g l (nearS l h)) (c := c) (by omega) (by omega) d hc.symm
        rw [eq]
        show _ ≤ 8 * (sumF sq l - (sumF sq l - g l h * g l h + (g l h - c) * (g l h - c) - g l (nearS l h) * g l (nearS l h) + (g l (nearS l h) + c) * (g l (nearS l h) + c)))
        omega
    · rw [decide_eq_false d] at hp ⊢
      simp only [cond_false] at hp ⊢
      cases hj : (!besideS l.length h lo && decide (4 * (g l (nxt l.length lo) + g l lo) ≤ 3 * g l h)) with
      | false => rw [hj] at hp; cases hp
      | true =>
        simp only [cond_true]
        rw [Bool.and_eq_true, decide_eq_true_eq, Bool.not_eq_true'] at hj
        obtain ⟨j1, j2⟩ := hj
        have hxl := nxt_lt hlo
        have be := g_bound hb hlo
        have bw := g_bound hb hxl
        generalize hc : g l h / 2 = c
        have hne : h ≠ lo := by
          intro e; rw [← e] at c3; omega
        have hx : h ≠ nxt l.length lo := by
          intro e
          unfold besideS at j1
          rw [decide_eq_false hne, decide_eq_true e.symm, Bool.or_true] at j1; cases j1
        have hin : inS l (2, ((h : Int), ((lo : Int), c))) = true := by
          unfold inS
          simp only [Int.toNat_natCast]
          rw [decide_eq_false (by omega), decide_eq_false (by omega), decide_eq_false (by omega), decide_eq_false (by omega), decide_eq_false (by omega), decide_eq_false (by omega), decide_eq_false (by omega)]; rfl
        have hroom : g l lo ≤ 2147483647 - g l (nxt l.length lo) := by omega
        have hfair := jump_fair hb hh hlo hne (c := c) (by omega) (by omega) hn hx
        have es := jump_sum hh hlo hne c one hx
        have eq := jump_sum hh hlo hne c sq hx
        have hd : doneS l (2, ((h : Int), ((lo : Int), c))) = jumpS l h lo c := rfl
        have len : (jumpS l h lo c).length = l.length := by unfold jumpS; rw [build_length h lo c _ hne (by rw [bump_len]; exact hh) (by rw [bump_len]; exact hlo), bump_len]
        rw [hd]
        refine ⟨⟨?_, by rw [hd, hfair, decide_eq_true hroom], by rw [hd, len], by rw [hd, es]; show sumF one l - g l h + (g l h - c) - g l (nxt l.length lo) + (g l (nxt l.length lo) + g l lo) - g l lo + c = _; omega, fun x hx => ⟨g l h, g_mem hh, ?_⟩⟩, by omega, ?_⟩
        · unfold mayS roomS
          rw [hin]
          simp only [Int.toNat_natCast, j1, decide_eq_true hroom]; rfl
        · rw [hd] at hx
          unfold jumpS at hx
          rcases mem_build h lo c _ 0 x hx with k | ⟨j, hj, _⟩
          · omega
          · rcases mem_set2 (List.mem_of_getElem? hj) with k | k | k
            · obtain ⟨i, hi, e⟩ := mem_g k
              have := F.most i hi; omega
            · omega
            · omega
        · have := jump_falls (a := g l h) (e := g l lo) (w := g l (nxt l.length lo)) (c := c) (by omega) (by omega) (by omega) j2 hc.symm
          rw [eq]
          show _ ≤ 8 * (sumF sq l - (sumF sq l - g l h * g l h + (g l h - c) * (g l h - c) - g l (nxt l.length lo) * g l (nxt l.length lo) + (g l (nxt l.length lo) + g l lo) * (g l (nxt l.length lo) + g l lo) - g l lo * g l lo + c * c))
          omega
end Go.Am.Ytbbbdckbcicmbaa
