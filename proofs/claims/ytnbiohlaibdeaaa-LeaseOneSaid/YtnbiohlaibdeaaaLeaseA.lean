/- Plain laws of the printed functions of lease: times. -/
import Derived.Test.YtnbiohlaibdeaaaWalk
import Derived.Test.YtnbiohlaibdeaaaAmZF
namespace Go.Am.Ytnbiohlaibdeaaa
theorem p12_eq : p12 FUEL () = some true := by kernel_rfl
theorem pure5 (a : Int) (_ : Ty.wf (.int .u64) a) (b : Int) (_ : Ty.wf (.int .u64) b) : p5 FUEL (a, b) = some true := by
  simp only [p5, p12_eq, cond_true, p18, p19, p20, p21]
  cases decide (b ≤ a) <;> simp

def quart (n : Int) : Int := bif decide (n < 0) then IntKind.wrap .i64 (0 - (IntKind.wrap .i64 (n + (1 : Int)))) else n
theorem quart_ok {n : Int} (h : Ty.wf (.int .i64) n) : 0 ≤ quart n ∧ quart n < 9223372036854775808 := by
  have h := wf_i64 h
  unfold quart
  by_cases h1 : n < 0
  · rw [decide_eq_true h1, cond_true, wrapI (n := n + 1) (by omega) (by omega), wrapI (by omega) (by omega)]; omega
  · rw [decide_eq_false h1, cond_false]; omega
theorem p6_eq (fuel : Nat) (x : Int × (Int × (Int × (Int × Int)))) : p6 fuel x = j6_0 fuel some (quart x.1, quart x.2.1, x) := by
  unfold quart
  simp only [p6, j6_1]
  cases decide (x.1 < 0) <;> cases decide (x.2.1 < 0) <;> rfl

theorem mul_room {a b n m : Int} (ha : 0 ≤ a) (hb : 0 ≤ b) (han : a ≤ n) (hbm : b ≤ m) : 0 ≤ a * b ∧ a * b ≤ n * m :=
  ⟨Int.mul_nonneg ha hb, Int.mul_le_mul han hbm hb (Int.le_trans ha han)⟩

theorem apart (r q s l g : Int) (hr : 900 ≤ r) (hq : q ≤ 1100) (_hq0 : 0 ≤ q) (hs : 0 ≤ s) (hl : s ≤ l) (hg : l ≤ g) (h1 : g * r / 1000 - s * r / 1000 < 1000) (h2 : 1225 ≤ g * q / 1000 - l * q / 1000) : False := by
  have e1 : g * r = s * r + (g - s) * r := by rw [← Int.add_mul]; congr 1; omega
  have e2 : g * q = l * q + (g - l) * q := by rw [← Int.add_mul]; congr 1; omega
  have h3 : (g - s) * 900 ≤ (g - s) * r := Int.mul_le_mul_of_nonneg_left hr (by omega)
  have h4 : (g - l) * q ≤ (g - l) * 1100 := Int.mul_le_mul_of_nonneg_left hq (by omega)
  omega

theorem pure6 (x : Int × (Int × (Int × (Int × Int)))) (w : Ty.wf (.pair (.int .i64) (.pair (.int .i64) (.pair (.int .u64) (.pair (.int .u64) (.int .u64))))) x) : p6 FUEL x = some true := by
  obtain ⟨w1, w2, w3, w4, w5⟩ := w
  have h3 := wf_u64 w3; have h4 := wf_u64 w4; have h5 := wf_u64 w5
  obtain ⟨a, b, S, L, T⟩ := x
  simp only at h3 h4 h5
  rw [p6_eq]
  have ha := quart_ok w1; have hb := quart_ok w2
  simp only at ha hb
  generalize quart a = u at ha ⊢
  generalize quart b = v at hb ⊢
  have hr : IntKind.wrap .u64 (IntKind.wrap .i64 ((900 : Int) + (Int.tmod u (201 : Int)))) = 900 + u % 201 := by
    rw [tmod_pos ha.1, wrapI (by omega) (by omega), wrapU' (by omega) (by omega)]
  have hq : IntKind.wrap .u64 (IntKind.wrap .i64 ((900 : Int) + (Int.tmod v (201 : Int)))) = 900 + v % 201 := by
    rw [tmod_pos hb.1, wrapI (by omega) (by omega), wrapU' (by omega) (by omega)]
  simp only [j6_0, hr, hq, tmod_pos h3.1, tmod_pos h4.1, tmod_pos h5.1]
  generalize hR : 900 + u % 201 = r
  generalize hQ : 900 + v % 201 = q
  have br : 900 ≤ r ∧ r ≤ 1100 := by omega
  have bq : 900 ≤ q ∧ q ≤ 1100 := by omega
  generalize hs : S % 1099511627776 = s
  generalize ht : L % 1048576 = t
  generalize hd : T % 1048576 = d
  have bs : 0 ≤ s ∧ s < 1099511627776 := by omega
  have bt : 0 ≤ t ∧ t < 1048576 := by omega
  have bd : 0 ≤ d ∧ d < 1048576 := by omega
  have b1 := mul_room bs.1 (show 0 ≤ r by omega) (show s ≤ 1099511627776 by omega) br.2
  have b2 := mul_room (show 0 ≤ s + t by omega) (show 0 ≤ q by omega) (show s + t ≤ 1099512676352 by omega) bq.2
  have b3 := mul_room (show 0 ≤ s + t + d by omega) (show 0 ≤ r by omega) (show s + t + d ≤ 1099513724928 by omega) br.2
  have b4 := mul_room (show 0 ≤ s + t + d by omega) (show 0 ≤ q by omega) (show s + t + d ≤ 1099513724928 by omega) bq.2
  rw [wrapU' (n := s + t) (by omega) (by omega), wrapU' (n := s + t + d) (by omega) (by omega), wrapU' (n := s * r) (by omega) (by omega), wrapU' (n := (s + t) * q) (by omega) (by omega),
    wrapU' (n := (s + t + d) * r) (by omega) (by omega), wrapU' (n := (s + t + d) * q) (by omega) (by omega), tdiv_pos b1.1, tdiv_pos b2.1, tdiv_pos b3.1, tdiv_pos b4.1]
  have m1 : s * r ≤ (s + t + d) * r := Int.mul_le_mul_of_nonneg_right (by omega) (by omega)
  have m2 : (s + t) * q ≤ (s + t + d) * q := Int.mul_le_mul_of_nonneg_right (by omega) (by omega)
  have key := apart r q s (s + t) (s + t + d) br.1 bq.2 (by omega) bs.1 (by omega) (by omega)
  generalize (s + t + d) * r = x1 at *
  generalize s * r = x2 at *
  generalize (s + t + d) * q = x3 at *
  generalize (s + t) * q = x4 at *
  have f1 : x2 / 1000 ≤ x1 / 1000 := by omega
  have f2 : x4 / 1000 ≤ x3 / 1000 := by omega
  rw [wrapU' (n := x1 / 1000) (by omega) (by omega), wrapU' (n := x2 / 1000) (by omega) (by omega), wrapU' (n := x3 / 1000) (by omega) (by omega), wrapU' (n := x4 / 1000) (by omega) (by omega)]
  simp only [p18, p20, p12_eq]
  rw [decide_eq_true f1, decide_eq_true f2, wrapU' (n := x4 / 1000 + 1225) (by omega) (by omega), decide_eq_true (show x4 / 1000 ≤ x4 / 1000 + 1225 by omega),
    wrapU' (n := x1 / 1000 - x2 / 1000) (by omega) (by omega), wrapU' (n := x3 / 1000 - x4 / 1000) (by omega) (by omega), wrapU' (n := x4 / 1000 + 1225 - x4 / 1000) (by omega) (by omega),
    decide_eq_true (show (1225 : Int) ≤ x4 / 1000 + 1225 - x4 / 1000 by omega)]
  by_cases g1 : x1 / 1000 - x2 / 1000 < 1000
  · rw [decide_eq_false (show ¬ (1225 : Int) ≤ x3 / 1000 - x4 / 1000 from fun g2 => key g1 g2)]
    cases decide (x1 / 1000 - x2 / 1000 < 1000) <;> rfl
  · rw [decide_eq_false g1]; rfl
end Go.Am.Ytnbiohlaibdeaaa
