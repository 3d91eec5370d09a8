/- Plain laws of the printed functions of the store: scripts. -/
import Derived.Test.YtkfmnkpajjnpoaaStoreC
import Derived.Test.YtkfmnkpajjnpoaaAmZI
namespace Go.Am.Ytkfmnkpajjnpoaa
/-- A copy of a replica. -/
abbrev CP := Int × (Int × (Int × (List En × (List LK × (List Int × List (Int × Int))))))
/-- An act of a script. -/
abbrev OP := Int × (Int × (Int × (Int × (Int × (Bool × (LK × List CP))))))
abbrev LKT : Ty := .pair (.int .u64) (.pair (.arr 3 (.int .i64)) (.pair (.int .i64) (.pair (.int .u32) (.pair .bool (.pair (.slice (.pair .str .str)) (.arr 4 (.int .u32)))))))
abbrev CPT : Ty := .pair (.int .i64) (.pair (.int .u32) (.pair (.int .u32) (.pair (.slice (.pair .str .str)) (.pair (.slice LKT) (.pair (.arr 4 (.int .u32)) (.slice (.pair (.int .u64) (.int .i64))))))))
abbrev OPT : Ty := .pair (.int .i64) (.pair (.int .i64) (.pair (.int .i64) (.pair (.int .i64) (.pair (.int .u32) (.pair .bool (.pair LKT (.arr 4 CPT)))))))

/-- The lock of an act, on the bucket 0. -/
def opLk (o : OP) : LK := (o.2.2.2.2.2.2.1.1, (o.2.2.2.2.2.2.1.2.1, (0, o.2.2.2.2.2.2.1.2.2.2)))

theorem lkt_ok {l : LK} (w : Ty.wr LKT l) : l.2.2.2.2.2.2.length = 4 ∧ l.2.2.2.2.2.1.length * 32 ≤ 140737488351232 ∧ 0 ≤ l.2.2.2.1 ∧ l.2.2.2.1 < 4294967296 ∧ 0 ≤ l.1 ∧ l.1 < 18446744073709551616 := by
  have h1 : l.2.2.2.2.2.2.length = 4 := w.2.2.2.2.2.2.1
  have h2 : l.2.2.2.2.2.1.length * 32 ≤ reachBytes := w.2.2.2.2.2.1.1.2
  have h3 := wf_u32 (Ty.wr.wf (.int .u32) w.2.2.2.1)
  have h4 := wf_u64 (Ty.wr.wf (.int .u64) w.1)
  refine ⟨h1, ?_, h3.1, h3.2, h4.1, h4.2⟩
  unfold reachBytes at h2; omega
theorem op_ok {o : OP} (w : Ty.wr OPT o) : LkOk (opLk o) ∧ 0 ≤ (opLk o).2.2.2.1 ∧ (opLk o).2.2.2.1 < 4294967296 := by
  obtain ⟨h1, h2, h3, h4, _⟩ := lkt_ok w.2.2.2.2.2.2.1
  exact ⟨⟨h1, by show o.2.2.2.2.2.2.1.2.2.2.2.2.1.length < _; omega⟩, h3, h4⟩

theorem same_self_loop (d : List En) (hd : d.length < 9223372036854775807) {L : Nat → (List En × List En × Int) → Option Bool} {step : ((List En × List En × Int) → Option Bool) → (List En × List En × Int) → Option Bool} (hL : ∀ n x, L (n + 1) x = step (L n) x)
    (h1 : ∀ F (i : Nat), (h : i < d.length) → step F (d, d, (i : Int)) = F (d, d, ((i + 1 : Nat) : Int))) (h2 : ∀ F, step F (d, d, (d.length : Int)) = some true) : L FUEL (d, d, 0) = some true := by
  have key := for_loop (S := Unit) (L := L) (step := step) hL (fun i _ => (d, d, (i : Int))) d.length (fun _ _ => True) (fun _ _ => .inr ()) (fun _ => some true) (fun F i _ hi _ => h1 F i hi) (fun F _ _ => h2 F) (fun _ _ _ _ _ _ => trivial) d.length 0 () FUEL (Nat.zero_add _) (by have := big; omega) trivial
  rw [forI_fold] at key
  exact key
theorem en_self (e : En) : Ty.eqB (.pair .str .str) e e = true := eqB_self (.pair .str .str) rfl e
end Go.Am.Ytkfmnkpajjnpoaa
