/- Plain laws of the printed functions of routing: every lookup finds the owner, and soon. -/
import Derived.Test.YtbamjkhnnlekpaaHopE
namespace Go.Am.Ytbamjkhnnlekpaa
def M (k fr to id : Int) (pos : Int × Int) (hops : Int) (peers : List Peer) : Msg :=
  (k, (fr, (to, ((0, (0, (0, 0))), ((0, 0), ((false, ((0, 0), ByteArray.empty)), (ByteArray.empty, ((0, (0, ([0, 0, 0], []))), (id, (0, (0, (0, (0, (0, (0, (0, ((0, (0, (0, []))), ((0, (0, (0, ([], ([], ([0, 0, 0, 0], [])))))), ((0, 0), ([], (pos, (hops, peers))))))))))))))))))))))

theorem p13_1 : p13 FUEL ((1 : Nat) : Int) = some ((logN 1 : Nat) : Int) := by kernel_rfl
theorem p13_2 : p13 FUEL ((2 : Nat) : Int) = some ((logN 2 : Nat) : Int) := by kernel_rfl
theorem p13_3 : p13 FUEL ((3 : Nat) : Int) = some ((logN 3 : Nat) : Int) := by kernel_rfl
theorem p13_4 : p13 FUEL ((4 : Nat) : Int) = some ((logN 4 : Nat) : Int) := by kernel_rfl
theorem p13_5 : p13 FUEL ((5 : Nat) : Int) = some ((logN 5 : Nat) : Int) := by kernel_rfl
theorem p13_6 : p13 FUEL ((6 : Nat) : Int) = some ((logN 6 : Nat) : Int) := by kernel_rfl
theorem p13_7 : p13 FUEL ((7 : Nat) : Int) = some ((logN 7 : Nat) : Int) := by kernel_rfl
theorem p13_8 : p13 FUEL ((8 : Nat) : Int) = some ((logN 8 : Nat) : Int) := by kernel_rfl
theorem p13_9 : p13 FUEL ((9 : Nat) : Int) = some ((logN 9 : Nat) : Int) := by kernel_rfl
theorem p13_10 : p13 FUEL ((10 : Nat) : Int) = some ((logN 10 : Nat) : Int) := by kernel_rfl
theorem p13_11 : p13 FUEL ((11 : Nat) : Int) = some ((logN 11 : Nat) : Int) := by kernel_rfl
theorem p13_12 : p13 FUEL ((12 : Nat) : Int) = some ((logN 12 : Nat) : Int) := by kernel_rfl
theorem p13_eq (n : Nat) (h0 : 0 < n) (hn : n ≤ 12) : p13 FUEL (n : Int) = some ((logN n : Nat) : Int) := by
  have : n = 1 ∨ n = 2 ∨ n = 3 ∨ n = 4 ∨ n = 5 ∨ n = 6 ∨ n = 7 ∨ n = 8 ∨ n = 9 ∨ n = 10 ∨ n = 11 ∨ n = 12 := by omega
  rcases this with h | h | h | h | h | h | h | h | h | h | h | h
  · rw [h]; exact p13_1
  · rw [h]; exact p13_2
  · rw [h]; exact p13_3
  · rw [h]; exact p13_4
  · rw [h]; exact p13_5
  · rw [h]; exact p13_6
  · rw [h]; exact p13_7
  · rw [h]; exact p13_8
  · rw [h]; exact p13_9
  · rw [h]; exact p13_10
  · rw [h]; exact p13_11
  · rw [h]; exact p13_12

/-- A lookup under way: at a node, behind so many hops. -/
def st4 (L : List Peer) (fr fm c cur : Nat) (x : Int × Int) : Int × Int × List Tab × (Int × Int) × List Peer × List (Option Nat) × Int × Int × Int × (Int × (Int × (Int × Int))) × (Int × Int) × (Bool × ((Int × Int) × ByteArray)) × ByteArray × Int × Int × List Int × Int × Int × Int × Int × Int × Int × Int × Int × Int × Int × Int × Int × Int × Int × List Int × (Int × Int) × (Int × Int) × Int × List Peer :=
  ((fr : Int), (c : Int), (List.range L.length).map (tabF L 4), x, L, (List.range L.length).map some, 21, (fm : Int), (cur : Int), (0, (0, (0, 0))), (0, 0), (false, ((0, 0), ByteArray.empty)), ByteArray.empty, 0, 0, [0, 0, 0], ((1792 + fr : Nat) : Int), 0, 0, 0, 0, 0, 0, 0, 0, 0, 0, 0, 0, 0, [0, 0, 0, 0], (0, 0), x, (c : Int), [])

section
variable {L : List Peer} (H : Ring L)
include H
theorem answer_tab {fr fm c cur : Nat} (hf : fr < L.length) (hfm : fm < L.length) (hc : cur < L.length) (hc8 : c ≤ 5) (x : Int × Int) (hw : c + 2 ≤ 8 ∨ dist L.length cur (ownerN L x) < 2) :
    answer (M 21 fm cur ((1792 + fr : Nat) : Int) x c []) (tabF L 4 cur) =
      bif decide (dist L.length cur (ownerN L x) = 0) then ⟨22, (cur : Int), (fr : Int), ((1792 + fr : Nat) : Int), x, (c : Int), [pt L cur], 0⟩ else
        bif decide (dist L.length cur (ownerN L x) = 1) then ⟨22, (cur : Int), (fr : Int), ((1792 + fr : Nat) : Int), x, (c : Int), [pt L (ownerN L x)], 0⟩ else
          match big L.length (dist L.length cur (ownerN L x)) with
          | some s => ⟨21, (cur : Int), (((cur + s) % L.length : Nat) : Int), ((1792 + fr : Nat) : Int), x, ((c + 1 : Nat) : Int), [], 0⟩
          | none => .no 131 := by
  have hfew := H.few
  have e1 : (tabF L 4 cur).1.1 = (cur : Int) := pt_id H hc
  have eid : IntKind.wrap .i64 (Int.tmod ((1792 + fr : Nat) : Int) 256) = (fr : Int) := by
    have := tmod_nat (1792 + fr) 256
    rw [show ((256 : Nat) : Int) = 256 from rfl] at this
    rw [this, wrapI (by omega) (by omega)]
    omega
  have ec : IntKind.wrap .i64 ((c : Int) + 1) = ((c + 1 : Nat) : Int) := wrapNext c (by omega)
  unfold answer
  simp only [M, e1, next_tab H hc, eid, ec, decide_true, Bool.not_true, cond_false]
  rw [show okN (fm : Int) = true from decide_eq_true (by omega), show okN (c : Int) = true from decide_eq_true (by omega)]
  simp only [Bool.not_true, cond_false]
  by_cases h0 : dist L.length cur (ownerN L x) = 0
  · simp only [h0, decide_true, cond_true, Bool.not_true, cond_false]
  · simp only [decide_eq_false h0, cond_false]
    by_cases h1 : dist L.length cur (ownerN L x) = 1
    · simp only [h1, decide_true, cond_true, Bool.not_true, cond_false]
    · simp only [decide_eq_false h1, cond_false]
      obtain ⟨s, hs, _, _⟩ := big_some (n := L.length) (D := dist L.length cur (ownerN L x)) (by omega) (dist_lt H hc x) (by omega)
      rw [hs]
      simp only [decide_true, Bool.not_true, cond_false]
      refine (condF (decide_eq_false (show ¬ (8 : Int) ≤ (c : Int) by omega))).trans ?_
      rw [pt_id H (Nat.mod_lt (cur + s) H.pos)]

theorem j4_0_eq {R : Type} (k0 : Bool × List Tab → Option R) (c : Nat) (hops : Int) (X : List Tab) (x : Int × Int) (hh : hops ≤ (logN L.length : Int) + 1)
    (a1 a2 a3 : Int) (a4 : Int × (Int × (Int × Int))) (a5 : Int × Int) (a6 : Bool × ((Int × Int) × ByteArray)) (a7 : ByteArray) (a8 a9 : Int) (b0 : List Int) (b1 b2 b3 b4 b5 b6 b7 b8 b9 c0 c1 c2 c3 c4 : Int) (c5 : List Int) (c6 c7 : Int × Int) :
    j4_0 FUEL k0 ((c : Int), hops, X, x, L, a1, a2, a3, a4, a5, a6, a7, a8, a9, b0, b1, b2, b3, b4, b5, b6, b7, b8, b9, c0, c1, c2, c3, c4, c5, c6, c7, (c : Int), [pt L (ownerN L x)]) = k0 (true, X) := by
  have hfew := H.few
  have he := ownerN_lt H x
  have hl : logN L.length ≤ 4 := of_decide_eq_true (all_range cks5 (show L.length < 13 by omega))
  simp only [j4_0, p10_eq L (by omega) x]
  rw [if_pos (by simp)]
  simp only [Int.toNat_zero, List.getElem?_cons_zero]
  rw [if_pos (by omega)]
  simp only [Int.toNat_natCast, pt_get he, eqPeer, cond_true, p13_eq L.length H.pos hfew]
  rw [wrapI (by omega) (by omega), decide_eq_true hh]
  simp only [cond_true, decide_true]

theorem l4_1_eq {R : Type} (k0 : Bool × List Tab → Option R) (k1 : List Tab → Option R) {fr : Nat} (hf : fr < L.length) (x : Int × Int) : ∀ (k c fm cur n : Nat), fm < L.length → cur < L.length → dist L.length cur (ownerN L x) < k → c + wN L.length k (dist L.length cur (ownerN L x)) ≤ logN L.length + 1 → dist L.length cur (ownerN L x) < n →
    l4_1 FUEL k0 k1 n (st4 L fr fm c cur x) = k0 (true, (List.range L.length).map (tabF L 4)) := by
  have hfew := H.few
  have he := ownerN_lt H x
  have hl : logN L.length ≤ 4 := of_decide_eq_true (all_range cks5 (show L.length < 13 by omega))
  intro k
  induction k with
  | zero => intro c fm cur n _ _ h; exact absurd h (Nat.not_lt_zero _)
  | succ k ih =>
    intro c fm cur n hfm hc hk hw hn
    obtain ⟨n, rfl⟩ : ∃ m, n = m + 1 := ⟨n - 1, by omega⟩
    have hD := dist_lt H hc x
    have hwc : c + 2 ≤ 8 ∨ dist L.length cur (ownerN L x) < 2 := by omega
    have hans := answer_tab H hf hfm hc (by omega) x hwc
    have hp := p12_eq (M 21 fm cur ((1792 + fr : Nat) : Int) x c []) (tabF L 4 cur) (tab_len 4 cur (by omega))
    rw [hans] at hp
    have hset := set_same (range_get (tabF L 4) hc)
    show s4_1 FUEL (l4_1 FUEL k0 k1 n) k0 k1 (st4 L fr fm c cur x) = _
    unfold st4
    simp only [s4_1]
    refine (condT (decide_eq_true (show (c : Int) < 20 by omega))).trans ?_
    rw [if_pos (by simp; omega)]
    simp only [Int.toNat_natCast, range_get some hc, range_get (tabF L 4) hc]
    have heq : eq x x = true := decide_eq_true ⟨rfl, rfl⟩
    have hw0 : wN L.length (k + 1) (dist L.length cur (ownerN L x)) = bif decide (dist L.length cur (ownerN L x) ≤ 1) then dist L.length cur (ownerN L x) else match big L.length (dist L.length cur (ownerN L x)) with
      | some s => 1 + wN L.length k (dist L.length cur (ownerN L x) - s)
      | none => 100 := rfl
    by_cases h0 : dist L.length cur (ownerN L x) = 0
    · rw [decide_eq_true h0] at hp
      simp only [cond_true] at hp
      unfold M at hp
      rw [hp]
      have e : ownerN L x = cur := by unfold dist at h0; split at h0 <;> omega
      simp only [hset, decide_true, Bool.not_true, cond_false, eqB_eq, List.length_singleton, Int.toNat_zero, List.getElem?_cons_zero, pt_id H hc, heq]
      refine (condF (decide_eq_false (by omega))).trans ?_
      refine (condF (by rw [decide_eq_true (by omega)]; rfl)).trans ?_
      rw [if_pos (by omega)]
      have := j4_0_eq H k0 c (c : Int) ((List.range L.length).map (tabF L 4)) x (by omega) 22 (cur : Int) (fr : Int) (0, (0, (0, 0))) (0, 0) (false, ((0, 0), ByteArray.empty)) ByteArray.empty 0 0 [0, 0, 0] ((1792 + fr : Nat) : Int) 0 0 0 0 0 0 0 0 0 0 0 0 0 [0, 0, 0, 0] (0, 0) x
      rw [e] at this
      exact this
    · rw [decide_eq_false h0] at hp
      by_cases h1 : dist L.length cur (ownerN L x) = 1
      · rw [decide_eq_true h1] at hp
        simp only [cond_true, cond_false] at hp
        unfold M at hp
        rw [hp]
        have e : ownerN L x ≠ cur := by unfold dist at h1; split at h1 <;> omega
        rw [h1] at hw0
        have hw1 : wN L.length (k + 1) 1 = 1 := hw0
        rw [h1, hw1] at hw
        simp only [hset, decide_true, Bool.not_true, cond_false, eqB_eq, List.length_singleton, Int.toNat_zero, List.getElem?_cons_zero, pt_id H he, heq]
        refine (condF (decide_eq_false (by omega))).trans ?_
        refine (condF (by rw [decide_eq_true (by omega)]; rfl)).trans ?_
        rw [if_pos (by omega)]
        refine (condT (by rw [decide_eq_false (by omega)]; rfl)).trans ?_
        rw [wrapNext c (by omega)]
        exact j4_0_eq H k0 c ((c + 1 : Nat) : Int) ((List.range L.length).map (tabF L 4)) x (by omega) 22 (cur : Int) (fr : Int) (0, (0, (0, 0))) (0, 0) (false, ((0, 0), ByteArray.empty)) ByteArray.empty 0 0 [0, 0, 0] ((1792 + fr : Nat) : Int) 0 0 0 0 0 0 0 0 0 0 0 0 0 [0, 0, 0, 0] (0, 0) x
      · rw [decide_eq_false h1] at hp
        obtain ⟨s, hs, hs0, hsD⟩ := big_some (n := L.length) (D := dist L.length cur (ownerN L x)) (by omega) hD (by omega)
        rw [hs] at hp
        simp only [cond_false] at hp
        unfold M at hp
        rw [hp]
        have hg : (cur + s) % L.length < L.length := Nat.mod_lt _ H.pos
        have hgv : (cur + s) % L.length = if cur + s < L.length then cur + s else cur + s - L.length := by
          split
          · exact Nat.mod_eq_of_lt (by assumption)
          · rw [Nat.mod_eq_sub_mod (by omega)]; exact Nat.mod_eq_of_lt (by omega)
        have hdg : dist L.length ((cur + s) % L.length) (ownerN L x) = dist L.length cur (ownerN L x) - s := by
          rw [hgv]
          unfold dist at hsD ⊢
          split at hsD <;> split <;> split <;> omega
        rw [decide_eq_false (by omega), cond_false, hs] at hw0
        simp only at hw0
        simp only [hset, decide_true, Bool.not_true, cond_false, cond_true, eqB_eq, heq, wrapNext c (show c < 9223372036854775807 by omega)]
        refine (condF (decide_eq_false (by omega))).trans ?_
        refine (condF (decide_eq_false (by omega))).trans ?_
        exact ih (c + 1) cur ((cur + s) % L.length) n hc hg (by omega) (by rw [hdg]; omega) (by omega)
end

theorem wrapU {n : Nat} (h : n < 18446744073709551616) : IntKind.wrap .u64 (n : Int) = n := by
  unfold IntKind.wrap
  simp only [IntKind.bits, IntKind.signed, Bool.false_and, Bool.false_eq_true, if_false]
  omega

theorem j4_2_eq {L : List Peer} (H : Ring L) (fr : Nat) (x : Int × Int) : j4_2 FUEL (fun (x104, x105) => (some (x104, x105))) ((fr : Int), (List.range L.length).map (tabF L 4), x, L, (List.range L.length).map some) = some (true, (List.range L.length).map (tabF L 4)) := by
  have hfew := H.few
  have hf : fr % L.length < L.length := Nat.mod_lt _ H.pos
  simp only [j4_2]
  have h0 := H.pos
  rw [if_neg (by omega), tmod_nat, wrapI (by omega) (by omega), show (1792 : Int) + ((fr % L.length : Nat) : Int) = ((1792 + fr % L.length : Nat) : Int) by omega, wrapU (by omega)]
  have hd := dist_lt H hf x
  exact l4_1_eq H (fun (x101, x102) => some (x101, x102)) (fun x103 => some (false, x103)) hf x 12 0 (fr % L.length) (fr % L.length) FUEL hf hf (by omega) (by
    have := of_decide_eq_true (all_range (all_range cks4 (show L.length < 13 by omega)) hd)
    omega) (fuel_big (by omega))

theorem hops (x0 : List (Int × Int)) (w0 : Ty.wf (.slice (.pair (.int .u64) (.int .u64))) x0) (x1 : Int) (w1 : Ty.wf (.int .i64) x1) (x2 : Int × Int) (_ : Ty.wf (.pair (.int .u64) (.int .u64)) x2) : ∃ xs, p4 FUEL (x0, x1, x2, []) = some (true, xs) := by
  obtain ⟨L, H, hL⟩ := p8_eq x0 (by have := w0.1; unfold maxLen at this; omega)
  have hfew := H.few
  have hb : -9223372036854775808 ≤ x1 ∧ x1 < 9223372036854775808 := wf_i64 w1
  refine ⟨(List.range L.length).map (tabF L 4), ?_⟩
  simp only [p4, p7_eq, hL, p9_eq H]
  simp only [Bool.not_true, cond_false]
  by_cases h : x1 < 0
  · refine (condT (decide_eq_true h)).trans ?_
    rw [wrapI (n := x1 + 1) (by omega) (by omega), wrapI (n := 0 - (x1 + 1)) (by omega) (by omega)]
    obtain ⟨fr, hfr⟩ : ∃ fr : Nat, 0 - (x1 + 1) = (fr : Int) := ⟨(0 - (x1 + 1)).toNat, by omega⟩
    rw [hfr]
    exact j4_2_eq H fr x2
  · refine (condF (decide_eq_false h)).trans ?_
    obtain ⟨fr, rfl⟩ : ∃ fr : Nat, x1 = (fr : Int) := ⟨x1.toNat, by omega⟩
    exact j4_2_eq H fr x2
end Go.Am.Ytbamjkhnnlekpaa
