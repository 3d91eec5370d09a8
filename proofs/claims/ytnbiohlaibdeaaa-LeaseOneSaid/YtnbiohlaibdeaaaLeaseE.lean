/- Plain laws of the printed functions of lease: any decrees make the table that the document says. -/
import Derived.Test.YtnbiohlaibdeaaaLeaseD
namespace Go.Am.Ytnbiohlaibdeaaa
open Runs
theorem set_nth {α : Type} [Inhabited α] (l : List α) (i : Int) (v : α) (q : Int) (h0 : 0 ≤ q) (h1 : q < (l.length : Int)) (hi : 0 ≤ i) : nth (l.set i.toNat v) q = if q = i then v else nth l q := by
  by_cases e : q = i
  · subst e
    rw [if_pos rfl, nth, List.getElem?_set_self (by omega)]; rfl
  · rw [if_neg e, nth, nth, List.getElem?_set_ne (by omega)]
theorem apply_cases (t : Tab) (d : Dec) (P : Tab × Int → Prop) (h0 : ∀ e, e ≠ 0 → P (t, e))
    (h1 : d.1 = 1 → 0 ≤ d.2.1 → d.2.1 < 12 → P ((t.1 + 1, t.2.1, t.2.2.1, t.2.2.2.1, t.2.2.2.2.set d.2.1.toNat d.2.2.2.2.1), 0))
    (h4 : d.1 = 4 → 0 ≤ d.2.1 → d.2.1 < 12 → P ((t.1 + 1, t.2.1, t.2.2.1, t.2.2.2.1.set d.2.1.toNat true, t.2.2.2.2.set d.2.1.toNat 0), 0))
    (h5 : d.1 = 5 → 0 ≤ d.2.1 → d.2.1 < 12 → someB t d.2.1 = false → P ((t.1 + 1, t.2.1, t.2.2.1, t.2.2.2.1.set d.2.1.toNat false, t.2.2.2.2), 0))
    (h23 : (d.1 = 2 ∨ d.1 = 3) → 0 ≤ d.2.1 → d.2.1 < 12 → mayN (d, decide (d.1 = 3)) t = 0 → P (doN (d, decide (d.1 = 3)) (t.1 + 1, t.2), 0)) : P (applyN t d) := by
  unfold applyN
  by_cases hn : d.2.1 < 0 ∨ 12 ≤ d.2.1
  · rw [if_pos hn]; exact h0 1 (by decide)
  rw [if_neg hn]
  have a : 0 ≤ d.2.1 := by omega
  have b : d.2.1 < 12 := by omega
  by_cases k1 : d.1 = 1
  · rw [if_pos k1]
    unfold renewN
    split
    · exact h0 _ (by decide)
    split
    · exact h0 _ (by decide)
    exact h1 k1 a b
  rw [if_neg k1]
  by_cases k4 : d.1 = 4
  · rw [if_pos k4]
    unfold joinN
    split
    · exact h0 _ (by decide)
    exact h4 k4 a b
  rw [if_neg k4]
  by_cases k5 : d.1 = 5
  · rw [if_pos k5]
    unfold leaveN
    split
    · exact h0 _ (by decide)
    split
    · exact h0 _ (by decide)
    rename_i h
    exact h5 k5 a b (by simpa using h)
  rw [if_neg k5]
  by_cases k2 : d.1 = 2 ∨ d.1 = 3
  · rw [if_pos k2]
    unfold shiftN
    split
    · rename_i h; exact h23 k2 a b h
    · rename_i h; exact h0 _ h
  rw [if_neg k2]
  exact h0 _ (by decide)
theorem apply_sound (t : Tab) (ht : Sound t) (d : Dec) (hd : DecOk d) : Sound (applyN t d).1 ∧ (applyN t d).1.1 ≤ t.1 + 1 := by
  have hlow := ht.low
  have hc := hd.count
  refine apply_cases t d (fun r => Sound r.1 ∧ r.1.1 ≤ t.1 + 1) (fun e _ => ⟨ht, by simp only; omega⟩) (fun _ a b => ?_) (fun _ a b => ?_) (fun _ a b _ => ?_) (fun _ a b h => ?_)
  · refine ⟨{ owner := ht.owner, inc := ht.inc, member := ht.member, renewed := by rw [← ht.renewed]; exact List.length_set, nodes := ht.nodes, low := by simp only; omega, seen := fun q q0 q1 => ?_ }, Int.le_refl _⟩
    simp only
    rw [set_nth _ _ _ q q0 (by rw [ht.renewed]; exact q1) a]
    split
    · exact hc
    · exact ht.seen q q0 q1
  · refine ⟨{ owner := ht.owner, inc := ht.inc, member := by rw [← ht.member]; exact List.length_set, renewed := by rw [← ht.renewed]; exact List.length_set, nodes := ht.nodes, low := by simp only; omega, seen := fun q q0 q1 => ?_ }, Int.le_refl _⟩
    simp only
    rw [set_nth _ _ _ q q0 (by rw [ht.renewed]; exact q1) a]
    split
    · decide
    · exact ht.seen q q0 q1
  · exact ⟨{ owner := ht.owner, inc := ht.inc, member := by rw [← ht.member]; exact List.length_set, renewed := ht.renewed, nodes := ht.nodes, low := by simp only; omega, seen := ht.seen }, Int.le_refl _⟩
  · have hg := doN_good (t.1 + 1, t.2) (ht.toGood.next _) (d, decide (d.1 = 3)) a b
    exact ⟨{ hg with low := by show 0 ≤ t.1 + 1; omega, seen := ht.seen }, Int.le_refl _⟩
theorem new_seen (n : Nat) (q : Int) : nth (newN n).2.2.2.2 q = 0 := by
  show ((List.replicate 12 (0 : Int))[q.toNat]?).getD default = 0
  rw [List.getElem?_replicate]
  split <;> rfl
theorem new_sound (n : Nat) (h : n ≤ 12) : Sound (newN n) := { new_good n h with low := by show (0 : Int) ≤ 1; decide, seen := fun q _ _ => by rw [new_seen]; decide }
theorem dec_ok (l : List Dec) (wl : Ty.wf (.slice (.pair (.int .i64) (.pair (.int .i64) (.pair (.int .i64) (.pair (.pair (.int .i64) (.int .i64)) (.pair (.int .u32) (.int .u32))))))) l) : ∀ d ∈ l, DecOk d := fun d hd => by
  have h := wl.2 d hd
  exact ⟨wf_u32 h.2.2.2.2.1⟩
theorem owned_len (t : Tab) (v : Int) : (owned t v).length ≤ 64 := runs_len _
theorem l3_run {R : Type} (k0 : Bool → Option R) (k1 : Unit → Option R) (l : List Dec) (hl : ∀ d ∈ l, DecOk d) : ∀ (n i : Nat) (t : Tab), Sound t → t.1 ≤ 1 + (i : Int) → i ≤ 300 → 300 - i < n →
    l3_0 FUEL k0 k1 n (l, (0 : Int), (i : Int), t, t) = k1 () := by
  intro n
  induction n with
  | zero => intro j _ _ _ _ h; omega
  | succ n ih =>
    intro i t ht hv hi hn
    show s3_0 FUEL (l3_0 FUEL k0 k1 n) k0 k1 _ = _
    simp only [s3_0]
    by_cases e : i < l.length
    · rw [decide_eq_true (show (i : Int) < ((l.length : Nat) : Int) by omega)]
      by_cases g : i < 300
      · have hd := hl _ (List.getElem_mem e)
        have hu := apply_sound t ht _ hd
        have hi' : 0 ≤ (i : Int) := by omega
        rw [decide_eq_true (show (i : Int) < 300 by omega), wrapNext i (by omega)]
        simp only [cond_true, decide_true, if_pos hi', Int.toNat_natCast, List.getElem?_eq_getElem e, p13_eq t ht (by omega) _ hd, p14_eq t ht (by omega) _ hd, tab_self, Bool.not_true, cond_false,
          p16_eq _ hu.1.owner, p17_eq _ hu.1.owner, same_eq _ (Nat.le_trans (owned_len _ _) (by decide : 64 ≤ 1000))]
        exact ih (i + 1) _ hu.1 (by omega) (by omega) (by omega)
      · rw [decide_eq_false (show ¬ (i : Int) < 300 by omega)]; rfl
    · rw [decide_eq_false (show ¬ (i : Int) < ((l.length : Nat) : Int) by omega)]; rfl
theorem p11_eq (n : Nat) (h0 : 4 ≤ n) (h1 : n ≤ 12) : p11 FUEL ((n : Nat) : Int) = some (newN n, 0) := by
  obtain rfl | rfl | rfl | rfl | rfl | rfl | rfl | rfl | rfl : n = 4 ∨ n = 5 ∨ n = 6 ∨ n = 7 ∨ n = 8 ∨ n = 9 ∨ n = 10 ∨ n = 11 ∨ n = 12 := by omega
  all_goals kernel_rfl
def noTab : Tab := (0, List.replicate 64 0, List.replicate 64 0, List.replicate 12 false, List.replicate 12 0)
theorem pure3 (nodes : Int) (_ : Ty.wf (.int .i64) nodes) (l : List Dec) (wl : Ty.wf (.slice (.pair (.int .i64) (.pair (.int .i64) (.pair (.int .i64) (.pair (.pair (.int .i64) (.int .i64)) (.pair (.int .u32) (.int .u32))))))) l) : p3 FUEL (nodes, l) = some true := by
  have hf := big2
  by_cases h : 4 ≤ nodes ∧ nodes ≤ 12
  · obtain ⟨n, rfl⟩ : ∃ n : Nat, nodes = (n : Int) := ⟨nodes.toNat, by omega⟩
    simp only [p3, p10_eq n (by omega) (by omega), p11_eq n (by omega) (by omega), p12_eq, decide_true, tab_self, Bool.not_true, cond_false]
    exact l3_run _ _ l (dec_ok l wl) FUEL 0 (newN n) (new_sound n (by omega)) (by show (1 : Int) ≤ 1 + 0; decide) (by omega) (by omega)
  · have e10 : p10 FUEL nodes = some (noTab, 1) := by
      simp only [p10]
      by_cases g : nodes < 4
      · rw [decide_eq_true g]; rfl
      · rw [decide_eq_false g, decide_eq_true (by omega)]; rfl
    have e11 : p11 FUEL nodes = some (noTab, 1) := by
      simp only [p11]
      by_cases g : nodes < 4
      · rw [decide_eq_true g]; rfl
      · rw [decide_eq_false g, decide_eq_true (by omega)]; rfl
    simp only [p3, e10, e11, p12_eq, decide_true, tab_self, Bool.not_true, cond_false]
    have last : ∀ (n : Nat) (k0 : Bool → Option Bool), l3_0 FUEL k0 (fun _ => some true) (n + 1) (l, (1 : Int), (0 : Int), noTab, noTab) = some true := fun n k0 => by
      show s3_0 FUEL (l3_0 FUEL k0 _ n) k0 _ _ = _
      simp only [s3_0, show decide ((1 : Int) = 0) = false from rfl, cond_false]
      cases decide ((0 : Int) < ((l.length : Nat) : Int)) <;> rfl
    have go : ∀ (n : Nat) (k0 : Bool → Option Bool), 1 ≤ n → l3_0 FUEL k0 (fun _ => some true) n (l, (1 : Int), (0 : Int), noTab, noTab) = some true := fun n k0 hn => by
      obtain ⟨m, rfl⟩ : ∃ m, n = m + 1 := ⟨n - 1, by omega⟩
      exact last m k0
    exact go FUEL _ (by omega)
end Go.Am.Ytnbiohlaibdeaaa
