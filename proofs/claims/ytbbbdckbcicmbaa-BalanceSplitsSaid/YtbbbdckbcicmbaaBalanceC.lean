/- Plain law of the printed functions of balance: the split is the document's. -/
import Derived.Test.YtbbbdckbcicmbaaBalanceB
namespace Go.Am.Ytbbbdckbcicmbaa
theorem split_both (l : List Int) (hlen : l.length ≤ 9223372036854775806) : ∃ y, p11 FUEL l = some y ∧ p12 FUEL l = some y := by
  simp only [p11, p12, p22_eq l hlen, p23_eq l hlen]
  by_cases h : fair l 2 64 = true
  · rw [h]
    obtain ⟨h2, h64, hl⟩ := fair_inv h
    have b0 := big
    have h11 := fun (k0 : List Int × Int → Option (Int × Int)) => l11_0_run l hl (by omega) k0 FUEL 0 (by omega) (by omega)
    simp only [pre_zero, show ((0 : Nat) : Int) = 0 from rfl] at h11
    simp only [Bool.not_true, cond_false, h11]
    rw [wrapI (by omega) (by omega), if_pos (by omega), show ((l.length : Int) - 1).toNat = l.length - 1 by omega, List.drop_zero, List.length_take, Nat.min_eq_left (by omega)]
    have hs := split_run l hl (by omega) (by omega) (l.length - 1) 0 rfl (by omega) 1 0 0 0 (.inl ⟨rfl, rfl⟩) FUEL FUEL (by omega) (by omega)
    simp only [pre_zero, show ((0 : Nat) : Int) = 0 from rfl, show ((0 + 1 : Nat) : Int) = 1 from rfl] at hs
    exact hs
  · rw [Bool.not_eq_true] at h
    rw [h]
    exact ⟨_, rfl, rfl⟩
theorem splits (l : List Int) (w : Ty.wr (.slice (.int .i64)) l) : p4 FUEL l = some true := by
  have h1 : l.length * 8 ≤ 140737488351232 := w.1.2
  obtain ⟨y, e1, e2⟩ := split_both l (by omega)
  simp only [p4, p7_eq, p10_eq l (by omega), take_own, e1, e2, p13_eq l (by omega), cond_true, decide_true]
end Go.Am.Ytbbbdckbcicmbaa
