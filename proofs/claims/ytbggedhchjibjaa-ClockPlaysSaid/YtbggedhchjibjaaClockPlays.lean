/- The given statement ClockPlaysSaid: The clock answers as the document's, whatever the script. No condition. -/
import Derived.Test.YtbggedhchjibjaaRows
import Derived.Test.YtbggedhchjibjaaPH
import Derived.Test.YtbggedhchjibjaaAmZI
import Derived.WalkKit
import Derived.ProofKit
import Derived.OpenShut
namespace Go.Proofs.Ytbggedhchjibjaa.clockPlays
open Go.ChangeShapes Go.WideShapes Go.ChangeAt Go.RowKit
open Go.Am Go.Am.Ytbggedhchjibjaa

theorem own : ownKnob Try.prog.godebug = none := by kernel_rfl
theorem laid : laidOutB Try.prog = true := by kernel_rfl
theorem rowed : mapsRowed Try.prog = true := by kernel_rfl
theorem thick : slicesThick Try.prog = true := by kernel_rfl

theorem walk (x0 : Int) (w0 : Ty.wr (.int .i64) x0) (x1 : Int) (w1 : Ty.wr (.int .i64) x1) (x2 : (List (Int × (Int × Int)))) (w2 : Ty.wr (.slice (.pair (.int .i64) (.pair (.int .u64) (.int .i64)))) x2) {W : World} {vals : Array Value} (ha : All2 (fun v u => v.V (ctx0 W) u) [AVal.dat false (.int .i64) x0, AVal.dat false (.int .i64) x1, AVal.dat true (.slice (.pair (.int .i64) (.pair (.int .u64) (.int .i64)))) x2] vals.toList) : Calls Try.prog 5 vals W fun e W' => e = .returned (.bool true) ∧ Am.Calm W W' :=
  law_calls (ok5 FUEL) (y := (x0, x1, x2)) rfl (plays x0 w0 x1 w1 x2 w2) ha

set_option maxRecDepth 100000 in
theorem lifted (os : Os) (started : os.Started) (H : Type) (enc : TypeId × Value → H) :
    ReturnsInHanded {} Try.checked os 5 .any (Rows.clockPlaysSpec.pre6 enc Try.prog Try.f5 Rows.clockPlaysRow.domain false) (Rows.clockPlaysSpec.post enc Try.prog Try.f5 false true false false) := by
  refine returnsInHanded_of_change_sized (C := Try.checked) own started (by kernel_rfl) Try.func5
    (ChangeSpec.witness6 (enc := enc) (C := Try.checked) false ⟨#[], #[.int .i64 0, .int .i64 0, .slice none 0 0], []⟩ 8 (by kernel_rfl) (by kernel_rfl) (by kernel_rfl) (by kernel_rfl)) ?_
  intro W base args ds gs before hval hW _ hz _
  have hW' := hW
  obtain ⟨p, q, hA0, hV, rfl, hfz, hnd⟩ := hW
  have hA : DataW.TrodAll enc Try.prog W 0 (fun _ => true) true Try.f5.params.toList args.toList ds p := hA0
  have hB : DataW.TrodAll enc Try.prog W 0 (fun _ => true) true Try.f5.params.toList args.toList ds p := hA0
  rw [Try.params5] at hA hval hz
  obtain ⟨v0, vs0, d0, ds0, p0, q0, hargs, rfl, rfl, h0, r0⟩ := trodAll_cons hA
  obtain ⟨v1, vs1, d1, ds1, p1, q1, rfl, rfl, rfl, h1, r1⟩ := trodAll_cons r0
  obtain ⟨v2, vs2, d2, ds2, p2, q2, rfl, rfl, rfl, h2, r2⟩ := trodAll_cons r1
  obtain ⟨rfl, rfl, rfl⟩ := trodAll_nil r2
  obtain rfl : args = #[v0, v1, v2] := by cases args; simp_all
  obtain ⟨rfl, rfl⟩ := trodVars_none hV
  obtain ⟨x0, hx0, w0⟩ := read_argr T_ok (t := .int .i64) (by kernel_rfl) (by kernel_rfl) (by kernel_rfl) (hval 0 3 v0 rfl rfl) h0 (fun k hk => of_decide_eq_true (List.all_eq_true.1 hz k (DataW.weights_mem_each (j := 0) rfl rfl k hk)))
  obtain ⟨x1, hx1, w1⟩ := read_argr T_ok (t := .int .i64) (by kernel_rfl) (by kernel_rfl) (by kernel_rfl) (hval 1 2 v1 rfl rfl) h1 (fun k hk => of_decide_eq_true (List.all_eq_true.1 hz k (DataW.weights_mem_each (j := 1) rfl rfl k hk)))
  obtain ⟨x2, hx2, w2⟩ := read_argr T_ok (t := .slice (.pair (.int .i64) (.pair (.int .u64) (.int .i64)))) (by kernel_rfl) (by kernel_rfl) (by kernel_rfl) (hval 2 39 v2 rfl rfl) h2 (fun k hk => of_decide_eq_true (List.all_eq_true.1 hz k (DataW.weights_mem_each (j := 2) rfl rfl k hk)))
  refine (walk x0 w0 x1 w1 x2 w2 (All2.cons hx0 (All2.cons hx1 (All2.cons (ctx0_own hx2) All2.nil)))).mono fun e W' ⟨he, hg⟩ => ?_
  subst he
  exact ⟨_, rfl, law_post (pv := []) hW' hg (fun _ _ _ => (trodAll_cons_mk (shut_bool Try.underlying4 _) trodAll_mk0)) (fun sp hsp => args_back laid rowed thick hg (by kernel_rfl) hB fun z hz => hsp z (List.mem_append_left _ hz)) (fun _ _ => rfl) rfl
    (ok_one (by kernel_rfl) rfl (okWide_bool_mk Try.underlying4 _))⟩

theorem over : Rows.clockPlaysRow.holds Try.pinned (OpenSpec.ofChange Rows.clockPlaysSpec) :=
  OpenClaim.holds_of_wide 5 Try.f5 rfl rfl rfl rfl rfl rfl rfl ⟨rfl, rfl, rfl, rfl, rfl⟩ rfl rfl rfl rfl rfl (by kernel_rfl) Try.func5 (by kernel_rfl)
    (of_decide_eq_true (by kernel_rfl)) (by unfold Func.isWrapper; first | (rw [if_pos (by decide +kernel)]; kernel_rfl) | (rw [if_neg (by decide +kernel)]; exact ⟨rfl, rfl⟩))
    (fun os started H enc _ => lifted os started H enc)

theorem proved : Rows.ClockPlaysSaid := over
end Go.Proofs.Ytbggedhchjibjaa.clockPlays
