/- Who is behind is told (QuorumStale). -/
import Derived.Test.YtiecnmmffplgcaaQuorumG
namespace Go.Am.Ytiecnmmffplgcaa

def inAt (l : List Bool) (k : Int) : Bool := decide (0 ≤ k ∧ k < 4) && l.getD k.toNat false
def anAt (a : List An) (k : Int) : An := a.getD k.toNat zA
def said (a : An) : An := (1, ((if a.2.1 < 1 then 1 else a.2.1), a.2.2))
def upTo (a : List An) (l : List Bool) (n : Nat) (k : Int) : Option An := if inAt l k = true ∧ k < n then some (said (anAt a k)) else none

theorem inAt_get {l : List Bool} (hl : l.length = 4) {i : Nat} (hi : i < 4) : l[i]? = some (inAt l i) := by
  unfold inAt
  rw [decide_eq_true (by omega), Int.toNat_natCast, List.getD_eq_getElem?_getD, List.getElem?_eq_getElem (by omega)]; rfl
theorem anAt_get {a : List An} (ha : a.length = 4) {i : Nat} (hi : i < 4) : a[i]? = some (anAt a i) := by
  unfold anAt
  rw [Int.toNat_natCast, List.getD_eq_getElem?_getD, List.getElem?_eq_getElem (by omega)]; rfl

def numIn (l : List Bool) (n : Nat) : Nat := ((ks4.take n).filter (inAt l)).length

theorem numIn_succ (l : List Bool) {i : Nat} (hi : i < 4) : numIn l (i + 1) = numIn l i + (if inAt l i = true then 1 else 0) := by
  have : i = 0 ∨ i = 1 ∨ i = 2 ∨ i = 3 := by omega
  have e : ∀ j : Nat, (inAt l (j : Int)) = inAt l j := fun _ => rfl
  rcases this with rfl | rfl | rfl | rfl <;> simp only [numIn, ks4, List.take, List.filter]
  · show _ = 0 + (if inAt l 0 = true then 1 else 0)
    cases inAt l 0 <;> rfl
  · show _ = _ + (if inAt l 1 = true then 1 else 0)
    cases inAt l 0 <;> cases inAt l 1 <;> rfl
  · show _ = _ + (if inAt l 2 = true then 1 else 0)
    cases inAt l 0 <;> cases inAt l 1 <;> cases inAt l 2 <;> rfl
  · show _ = _ + (if inAt l 3 = true then 1 else 0)
    cases inAt l 0 <;> cases inAt l 1 <;> cases inAt l 2 <;> cases inAt l 3 <;> rfl

theorem said_good {a : An} (h : goodA a) : goodA (said a) := h

theorem hear_all {a : List An} (ga : ∀ k : Int, goodA (anAt a k)) (ha : a.length = 4) {l : List Bool} (hl : l.length = 4) {R : Type} (K0 : Bool → Option R) (K1 : (Int × List An × List Bool × Int × Int × List (Int × An) × List Nat × Nat) → Option R) :
    ∀ (k i n : Nat) (m : List (Int × An)) (bs : List Nat) (clk : Nat), i + k = 4 → k < n → Ok m bs clk → hd m = upTo a l i →
      ∃ m' bs' clk', Ok m' bs' clk' ∧ hd m' = upTo a l 4 ∧ l7_0 FUEL K0 K1 n (((numIn l i : Nat) : Int), (i : Int), a, l, 63, 1, m, bs, clk) = K1 (((numIn l 4 : Nat) : Int), a, l, 63, 1, m', bs', clk') := by
  intro k
  induction k with
  | zero =>
    intro i n m bs clk hi hn o hh
    obtain ⟨n, rfl⟩ : ∃ q, n = q + 1 := ⟨n - 1, by omega⟩
    obtain rfl : i = 4 := by omega
    exact ⟨m, bs, clk, o, hh, rfl⟩
  | succ k ih =>
    intro i n m bs clk hi hn o hh
    obtain ⟨n, rfl⟩ : ∃ q, n = q + 1 := ⟨n - 1, by omega⟩
    have hlt : i < 4 := by omega
    have hcond : (0 : Int) ≤ i ∧ (i : Int) < ((4 : Nat) : Int) := by omega
    have hnum : numIn l (i + 1) ≤ 4 := by unfold numIn; exact Nat.le_trans (List.length_filter_le _ _) (Nat.le_trans (List.length_take_le _ _) (by omega))
    have hs := numIn_succ l hlt
    have enter : ∀ F, s7_0 FUEL F K0 K1 (((numIn l i : Nat) : Int), (i : Int), a, l, 63, 1, m, bs, clk) = (bif inAt l i then (match p10b FUEL ((i : Int), ((1 : Int), ((if (anAt a i).2.1 < (1 : Int) then (1 : Int) else (anAt a i).2.1), (anAt a i).2.2)), 63, 1, m, bs, clk) with
        | some z18 => (bif (!decide (z18.1 = (0 : Int))) then (K0 false) else (F ((IntKind.wrap .i64 (((numIn l i : Nat) : Int) + (1 : Int))), (IntKind.wrap .i64 ((i : Int) + (1 : Int))), a, l, z18.2.1, z18.2.2.1, z18.2.2.2.1, z18.2.2.2.2.1, z18.2.2.2.2.2)))
        | none => none) else F (((numIn l i : Nat) : Int), (IntKind.wrap .i64 ((i : Int) + (1 : Int))), a, l, 63, 1, m, bs, clk)) := by
      intro F
      refine (condT (decide_eq_true (show ((i : Nat) : Int) < 4 by omega))).trans ?_
      rw [if_pos hcond, Int.toNat_natCast, inAt_get hl hlt]
      simp only
      rw [if_pos hcond, anAt_get ha hlt]
      rfl
    show ∃ m' bs' clk', Ok m' bs' clk' ∧ hd m' = upTo a l 4 ∧ s7_0 FUEL (l7_0 FUEL K0 K1 n) K0 K1 _ = _
    cases hin : inAt l i with
    | false =>
      have hh' : hd m = upTo a l (i + 1) := by
        rw [hh]
        funext j
        unfold upTo
        by_cases e : inAt l j = true ∧ j < i
        · rw [if_pos e, if_pos ⟨e.1, by omega⟩]
        · rw [if_neg e, if_neg]
          rintro ⟨e1, e2⟩
          have h3 : ¬ j < (i : Int) := fun h => e ⟨e1, h⟩
          have : j = i := by omega
          rw [this, hin] at e1; cases e1
      obtain ⟨m', bs', clk', q1, q2, q3⟩ := ih (i + 1) n m bs clk (by omega) (by omega) o hh'
      refine ⟨m', bs', clk', q1, q2, (enter _).trans ?_⟩
      rw [hin] at hs ⊢
      rw [hs] at q3
      simp only [cond_false, wrapNext i (by omega)]
      exact q3
    | true =>
      have gs := said_good (ga i)
      obtain ⟨m1, b1, c1, e1, o1, h1⟩ := addb_run o 63 1 i gs
      have hnone : hd m i = none := by rw [hh]; unfold upTo; rw [if_neg (by omega)]
      have hinc : (said (anAt a i)).2.1 ≠ 0 := by unfold said; simp only; split <;> omega
      have z0 : addE (hd m) 1 i (said (anAt a i)) = 0 := addE_zero.2 ⟨by omega, by omega, hinc, rfl, hnone⟩
      rw [addH_put (r := 1) ⟨by omega, by omega, hinc, rfl, hnone⟩, hh] at h1
      rw [z0] at e1
      have h1' : hd m1 = upTo a l (i + 1) := by
        rw [h1]
        funext j
        unfold put upTo
        by_cases e : j = i
        · rw [if_pos e, e, if_pos ⟨hin, by omega⟩]
        · rw [if_neg e]
          by_cases e2 : inAt l j = true ∧ j < i
          · rw [if_pos e2, if_pos ⟨e2.1, by omega⟩]
          · rw [if_neg e2, if_neg (fun c => e2 ⟨c.1, by omega⟩)]
      obtain ⟨m', bs', clk', q1, q2, q3⟩ := ih (i + 1) n m1 b1 c1 (by omega) (by omega) o1 h1'
      refine ⟨m', bs', clk', q1, q2, (enter _).trans ?_⟩
      have e1' : p10b FUEL ((i : Int), ((1 : Int), ((if (anAt a i).2.1 < (1 : Int) then (1 : Int) else (anAt a i).2.1), (anAt a i).2.2)), 63, 1, m, bs, clk) = some (0, 63, 1, m1, b1, c1) := e1
      rw [hin, if_pos rfl] at hs
      rw [hs] at q3
      rw [hin, e1']
      simp only [cond_true, decide_true, Bool.not_true, cond_false, wrapNext i (by omega), wrapNext (numIn l i) (by omega)]
      exact q3
end Go.Am.Ytiecnmmffplgcaa
