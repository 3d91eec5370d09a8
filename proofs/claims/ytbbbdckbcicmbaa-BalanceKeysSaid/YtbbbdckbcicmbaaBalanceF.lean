/- Plain law of the printed functions of balance: the key that is told parts the keys. -/
import Derived.Test.YtbbbdckbcicmbaaBalanceE
namespace Go.Am.Ytbbbdckbcicmbaa
theorem key_both (l : List ByteArray) (hz : ∀ x ∈ l, x.size ≤ 9223372036854775807) (n : Int) : ∃ y, p8 FUEL (l, n) = some y ∧ p9 FUEL (l, n) = some y ∧
    (y.2 = 0 → ∃ (N : Nat) (h1 : 1 ≤ N) (hN : N < l.length), n = (N : Int) ∧ srt l = true ∧ y.1 = ByteArray.extract l[N] 0 (lcp (l[N - 1]'(by omega)).toList l[N].toList + 1)) := by
  have hb := big
  simp only [p8, p9]
  by_cases h : (1000 : Int) < ((l.length : Nat) : Int)
  · rw [decide_eq_true h]
    exact ⟨_, rfl, rfl, fun h => by cases h⟩
  have hl : l.length ≤ 1000 := by omega
  rw [decide_eq_false h, cond_false, cond_false, l8_0_all l hl, show (1 : Int) = ((1 : Nat) : Int) from rfl, l9_0_run l hl _ _ _ FUEL 1 (by omega) (by omega), Nat.sub_self, List.drop_zero]
  cases hs : srt l
  · exact ⟨_, rfl, rfl, fun h => by cases h⟩
  simp only [cond_true]
  by_cases h1 : n < ((1 : Nat) : Int)
  · rw [decide_eq_true h1]
    exact ⟨_, rfl, rfl, fun h => by cases h⟩
  rw [decide_eq_false h1, cond_false, cond_false]
  by_cases h2 : ((l.length : Nat) : Int) ≤ n
  · rw [decide_eq_true h2, wrapI (by omega) (by omega), decide_eq_true (by omega)]
    exact ⟨_, rfl, rfl, fun h => by cases h⟩
  rw [decide_eq_false h2, wrapI (n := ((l.length : Nat) : Int) - ((1 : Nat) : Int)) (by omega) (by omega), decide_eq_false (show ¬ ((l.length : Nat) : Int) - ((1 : Nat) : Int) < n by omega), cond_false, cond_false]
  obtain ⟨N, rfl⟩ : ∃ N : Nat, n = (N : Int) := ⟨n.toNat, by omega⟩
  have hN : N < l.length := by omega
  have h1' : 1 ≤ N := by omega
  have hn : strLess (l[N - 1]'(by omega)) l[N] = true := srt_less l hs (show N - 1 < N by omega) hN
  have cl := lcp_lt _ _ hn
  have s2 := size_toList l[N]
  have z2 := hz _ (List.getElem_mem hN)
  have r8 := fun (k0 : List ByteArray × Int × Int → Option (ByteArray × Int)) => l8_1_run l hl N h1' hN hn hz k0 FUEL 0 (by omega) (by omega)
  have r9 := fun (k0 : ByteArray × Int → Option (ByteArray × Int)) k1 => l9_1_run l hl N h1' hN hn hz k0 k1 FUEL 0 (by omega) (by omega)
  simp only [show ((0 : Nat) : Int) = 0 from rfl] at r8 r9
  refine ⟨(ByteArray.extract l[N] 0 (lcp (l[N - 1]'(by omega)).toList l[N].toList + 1), 0), ?_, r9 _ _, fun _ => ⟨N, h1', hN, rfl, trivial, rfl⟩⟩
  rw [r8]
  simp only [if_pos (show (0 : Int) ≤ (N : Int) by omega), Int.toNat_natCast, List.getElem?_eq_getElem hN]
  rw [show ((1 : Nat) : Int) = 1 from rfl, wrapNext _ (by omega), if_pos (by omega), Int.toNat_natCast]
theorem l3_0_run (l : List ByteArray) (hl : l.length < 9223372036854775807) (n : Int) (k : ByteArray) (e : Int) (hk : e = 0 → ∀ i (h : i < l.length), (!strLess l[i] k) = decide (n ≤ (i : Int))) : ∀ m i, l.length - i < m → l3_0 FUEL (fun x => some x) (fun _ => some true) m (l, n, k, e, (i : Int), l) = some true := by
  intro m
  induction m with
  | zero => intro i h; omega
  | succ m ih =>
    intro i h
    show s3_0 FUEL (l3_0 FUEL _ _ m) _ _ _ = _
    simp only [s3_0]
    by_cases c : i < l.length
    · rw [decide_eq_true (show (i : Int) < ((l.length : Nat) : Int) by omega), cond_true, if_pos (by omega)]
      simp only [Int.toNat_natCast, List.getElem?_eq_getElem c, if_pos (show (0 : Int) ≤ (i : Int) by omega), strEq_self, Bool.not_true, cond_false]
      rw [wrapNext i (by omega), ih (i + 1) (by omega)]
      by_cases e0 : e = 0
      · rw [decide_eq_true e0, cond_true, hk e0 i c]
        simp
      · rw [decide_eq_false e0, cond_false]
    · rw [decide_eq_false (show ¬ (i : Int) < ((l.length : Nat) : Int) by omega), cond_false]
theorem keys (l : List ByteArray) (w : Ty.wr (.slice .str) l) (n : Int) (_ : Ty.wr (.int .i64) n) : p3 FUEL (l, n) = some true := by
  have h1 : l.length * 16 ≤ 140737488351232 := w.1.2
  obtain ⟨y, e1, e2, e3⟩ := key_both l (fun x hx => w.2 x hx) n
  simp only [p3, p7_eq, List.nil_append, List.length_nil, Nat.zero_add]
  rw [if_pos (by omega)]
  simp only [e1, e2, Bool.not_true, cond_false, strEq_self, decide_true]
  have hb := big
  refine l3_0_run l (by omega) n y.1 y.2 (fun h => ?_) FUEL 0 (by omega)
  obtain ⟨N, h1, hN, rfl, hs, ek⟩ := e3 h
  intro i hi
  rw [ek]
  have hn : strLess (l[N - 1]'(by omega)) l[N] = true := srt_less l hs (show N - 1 < N by omega) hN
  have tk1 := lcp_take1 _ _ hn
  have tl := take_less l[N].toList (lcp (l[N - 1]'(by omega)).toList l[N].toList + 1)
  simp only [strLess, extract_toList]
  by_cases c : N ≤ i
  · rw [decide_eq_true (show (N : Int) ≤ (i : Int) by omega), Bool.not_eq_true']
    rcases Nat.eq_or_lt_of_le c with rfl | c
    · exact tl
    · cases g : Op.bytesLess l[i].toList (l[N].toList.take (lcp (l[N - 1]'(by omega)).toList l[N].toList + 1))
      · rfl
      · have := less_of g tl
        rw [less_asym (srt_less l hs c hi)] at this
        cases this
  · rw [decide_eq_false (show ¬ (N : Int) ≤ (i : Int) by omega), Bool.not_eq_false']
    by_cases d : i = N - 1
    · subst d; exact tk1
    · exact less_trans _ _ _ (srt_less l hs (show i < N - 1 by omega) (by omega)) tk1
end Go.Am.Ytbbbdckbcicmbaa
