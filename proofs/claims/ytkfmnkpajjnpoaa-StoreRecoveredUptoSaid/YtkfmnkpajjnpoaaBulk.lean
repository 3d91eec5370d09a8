/- The bound of an '..UptoSaid' statement, as the reading of the arguments takes it. -/
import Derived.Test.YtkfmnkpajjnpoaaRows
import Derived.Test.YtkfmnkpajjnpoaaAmZI
namespace Go.Proofs.Ytkfmnkpajjnpoaa.bulks
open Go.Am

theorem one_le {H : Type} (d : DataW H) : 1 ≤ Rows.uptoBulk d := by
  cases d with
  | lit l => cases l <;> simp [Rows.uptoBulk]
  | nil => simp [Rows.uptoBulk]
  | ptr d => simp [Rows.uptoBulk]
  | slice elems spare => simp [Rows.uptoBulk]
  | agg parts => simp [Rows.uptoBulk]
  | iface t d => simp [Rows.uptoBulk]
  | map entries => simp [Rows.uptoBulk]
  | held h => simp [Rows.uptoBulk]

theorem part_le {H : Type} {d : DataW H} {l : List (DataW H)} (h : d ∈ l) : Rows.uptoBulk d ≤ Rows.uptoBulkAll l := by
  induction l with
  | nil => cases h
  | cons x r ih =>
    simp only [Rows.uptoBulkAll]
    cases List.mem_cons.1 h with
    | inl e => subst e; omega
    | inr e => have := ih e; omega

theorem length_le {H : Type} (l : List (DataW H)) : l.length ≤ Rows.uptoBulkAll l := by
  induction l with
  | nil => simp [Rows.uptoBulkAll]
  | cons x r ih => have := one_le x; simp only [Rows.uptoBulkAll, List.length_cons]; omega

theorem handed {H : Type} {P : Program} {B : Nat} : Handed (H := H) P (fun _ d => Rows.uptoBulk d ≤ B) B where
  struct := by
    intro id fields _ parts h i fl d _ hd
    have := part_le (List.mem_of_getElem? hd)
    simp only [Rows.uptoBulk] at h
    show Rows.uptoBulk d ≤ B
    omega
  array := by
    intro id e m _ parts h i d hd
    have := part_le (List.mem_of_getElem? hd)
    simp only [Rows.uptoBulk] at h
    show Rows.uptoBulk d ≤ B
    omega
  slice := by
    intro id e _ elems spare h
    have hl := length_le elems
    simp only [Rows.uptoBulk] at h
    refine ⟨by omega, fun {i d} hd => ?_⟩
    have := part_le (List.mem_of_getElem? hd)
    show Rows.uptoBulk d ≤ B
    omega

theorem bound {H : Type} {l : List (DataW H)} (hk : Rows.uptoSmall H l = true) {d : DataW H} (hd : d ∈ l) : Rows.uptoBulk d ≤ 1048576 := by
  have h : Rows.uptoBulkAll l ≤ 1048576 := of_decide_eq_true hk
  exact Nat.le_trans (part_le hd) h
end Go.Proofs.Ytkfmnkpajjnpoaa.bulks
