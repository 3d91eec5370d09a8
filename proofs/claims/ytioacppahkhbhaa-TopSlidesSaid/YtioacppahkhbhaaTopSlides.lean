/- The given statement TopSlidesSaid: Slides that are planned can be given, and come to an end. No condition. -/
import Derived.Test.YtioacppahkhbhaaRows
import Derived.Test.YtioacppahkhbhaaTSlidesB
import Derived.Test.YtioacppahkhbhaaAmZI
import Derived.WalkKit
import Derived.ProofKit
import Derived.OpenShut
namespace Go.Proofs.Ytioacppahkhbhaa.topSlides
open Go.ChangeShapes Go.WideShapes Go.ChangeAt Go.RowKit
open Go.Am Go.Am.Ytioacppahkhbhaa

theorem own : ownKnob Try.prog.godebug = none := by kernel_rfl
theorem laid : laidOutB Try.prog = true := by kernel_rfl
theorem rowed : mapsRowed Try.prog = true := by kernel_rfl
theorem thick : slicesThick Try.prog = true := by kernel_rfl

theorem walk (x0 : (Int × ((List Int) × (List Int)))) (w0 : Ty.wr (.pair (.int .i64) (.pair (.slice (.int .i64)) (.slice (.int .i64)))) x0) {W : World} {vals : Array Value} (ha : All2 (fun v u => v.V (ctx0 W) u) [AVal.dat true (.pair (.int .i64) (.pair (.slice (.int .i64)) (.slice (.int .i64)))) x0] vals.toList) : Calls Try.prog 3 vals W fun e W' => e = .returned (.bool true) ∧ Am.Calm W W' :=
  law_calls (ok3 FUEL) (y := x0) rfl (topSlides x0 w0) ha

set_option maxRecDepth 100000 in
theorem lifted (os : Os) (started : os.Started) (H : Type) (enc : TypeId × Value → H) :
    ReturnsInHanded {} Try.checked os 3 .any (Rows.topSlidesSpec.pre6 enc Try.prog Try.f3 Rows.topSlidesRow.domain false) (Rows.topSlidesSpec.post enc Try.prog Try.f3 false true false false) := by
  refine returnsInHanded_of_change_sized (C := Try.checked) own started (by kernel_rfl) Try.func3
    (ChangeSpec.witness6 (enc := enc) (C := Try.checked) false ⟨#[], #[.agg #[.int .i64 0, .slice none 0 0, .slice none 0 0]], []⟩ 8 (by kernel_rfl) (by kernel_rfl) (by kernel_rfl) (by kernel_rfl)) ?_
  intro W base args ds gs before hval hW _ hz _
  have hW' := hW
  obtain ⟨p, q, hA0, hV, rfl, hfz, hnd⟩ := hW
  have hA : DataW.TrodAll enc Try.prog W 0 (fun _ => true) true Try.f3.params.toList args.toList ds p := hA0
  have hB : DataW.TrodAll enc Try.prog W 0 (fun _ => true) true Try.f3.params.toList args.toList ds p := hA0
  rw [Try.params3] at hA hval hz
  obtain ⟨v0, vs0, d0, ds0, p0, q0, hargs, rfl, rfl, h0, r0⟩ := trodAll_cons hA
  obtain ⟨rfl, rfl, rfl⟩ := trodAll_nil r0
  obtain rfl : args = #[v0] := by cases args; simp_all
  obtain ⟨rfl, rfl⟩ := trodVars_none hV
  obtain ⟨x0, hx0, w0⟩ := read_argr T_ok (t := .pair (.int .i64) (.pair (.slice (.int .i64)) (.slice (.int .i64)))) (by kernel_rfl) (by kernel_rfl) (by kernel_rfl) (hval 0 24 v0 rfl rfl) h0 (fun k hk => of_decide_eq_true (List.all_eq_true.1 hz k (DataW.weights_mem_each (j := 0) rfl rfl k hk)))
  refine (walk x0 w0 (All2.cons (ctx0_own hx0) All2.nil)).mono fun e W' ⟨he, hg⟩ => ?_
  subst he
  exact ⟨_, rfl, law_post (pv := []) hW' hg (fun _ _ _ => (trodAll_cons_mk (shut_bool Try.underlying4 _) trodAll_mk0)) (fun sp hsp => args_back laid rowed thick hg (by kernel_rfl) hB fun z hz => hsp z (List.mem_append_left _ hz)) (fun _ _ => rfl) rfl
    (ok_one (by kernel_rfl) rfl (okWide_bool_mk Try.underlying4 _))⟩

theorem over : Rows.topSlidesRow.holds Try.pinned (OpenSpec.ofChange Rows.topSlidesSpec) :=
  OpenClaim.holds_of_wide 3 Try.f3 rfl rfl rfl rfl rfl rfl rfl ⟨rfl, rfl, rfl, rfl, rfl⟩ rfl rfl rfl rfl rfl (by kernel_rfl) Try.func3 (by kernel_rfl)
    (of_decide_eq_true (by kernel_rfl)) (by unfold Func.isWrapper; first | (rw [if_pos (by decide +kernel)]; kernel_rfl) | (rw [if_neg (by decide +kernel)]; exact ⟨rfl, rfl⟩))
    (fun os started H enc _ => lifted os started H enc)

theorem proved : Rows.TopSlidesSaid := over
end Go.Proofs.Ytioacppahkhbhaa.topSlides
