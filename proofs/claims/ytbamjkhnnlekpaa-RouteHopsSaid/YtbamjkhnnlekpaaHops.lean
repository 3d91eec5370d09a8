/- The given statement RouteHopsSaid: every lookup finds the owner behind at most ceil(log2 n) + 1 hops. No condition. -/
import Derived.Test.YtbamjkhnnlekpaaRows
import Derived.Test.YtbamjkhnnlekpaaHopF
import Derived.Test.YtbamjkhnnlekpaaAmZI
import Derived.WalkKit
import Derived.ProofKit
import Derived.OpenShut
namespace Go.Proofs.Ytbamjkhnnlekpaa.routeHops
open Go.ChangeShapes Go.WideShapes Go.ChangeAt Go.RowKit
open Go.Am Go.Am.Ytbamjkhnnlekpaa

theorem own : ownKnob Try.prog.godebug = none := by kernel_rfl
theorem laid : laidOutB Try.prog = true := by kernel_rfl
theorem rowed : mapsRowed Try.prog = true := by kernel_rfl
theorem thick : slicesThick Try.prog = true := by kernel_rfl

theorem walk (x0 : (List (Int × Int))) (w0 : Ty.wf (.slice (.pair (.int .u64) (.int .u64))) x0) (x1 : Int) (w1 : Ty.wf (.int .i64) x1) (x2 : (Int × Int)) (w2 : Ty.wf (.pair (.int .u64) (.int .u64)) x2) {W : World} {vals : Array Value} (ha : All2 (fun v u => v.V (ctx0 W) u) [AVal.dat true (.slice (.pair (.int .u64) (.int .u64))) x0, AVal.dat false (.int .i64) x1, AVal.dat false (.pair (.int .u64) (.int .u64)) x2] vals.toList) : Calls Try.prog 4 vals W fun e W' => e = .returned (.bool true) ∧ Am.Calm W W' :=
  law_calls_pool (ok4 FUEL) (y := (x0, x1, x2, [])) rfl (hops x0 w0 x1 w1 x2 w2).choose_spec ha

set_option maxRecDepth 100000 in
theorem lifted (os : Os) (started : os.Started) (H : Type) (enc : TypeId × Value → H) :
    ReturnsInHanded {} Try.checked os 4 .any (Rows.routeHopsSpec.pre6 enc Try.prog Try.f4 Rows.routeHopsRow.domain false) (Rows.routeHopsSpec.post enc Try.prog Try.f4 false true false false) := by
  refine returnsInHanded_of_change (C := Try.checked) own started (by kernel_rfl) Try.func4
    (ChangeSpec.witness6 (enc := enc) (C := Try.checked) false ⟨#[], #[.slice none 0 0, .int .i64 0, .agg #[.int .u64 0, .int .u64 0]], []⟩ 8 (by kernel_rfl) (by kernel_rfl) (by kernel_rfl) (by kernel_rfl)) ?_
  intro W base args ds gs before hval hW _ _
  have hW' := hW
  obtain ⟨p, q, hA0, hV, rfl, hfz, hnd⟩ := hW
  have hA : DataW.TrodAll enc Try.prog W 0 (fun _ => true) true Try.f4.params.toList args.toList ds p := hA0
  have hB : DataW.TrodAll enc Try.prog W 0 (fun _ => true) true Try.f4.params.toList args.toList ds p := hA0
  rw [Try.params4] at hA hval
  obtain ⟨v0, vs0, d0, ds0, p0, q0, hargs, rfl, rfl, h0, r0⟩ := trodAll_cons hA
  obtain ⟨v1, vs1, d1, ds1, p1, q1, rfl, rfl, rfl, h1, r1⟩ := trodAll_cons r0
  obtain ⟨v2, vs2, d2, ds2, p2, q2, rfl, rfl, rfl, h2, r2⟩ := trodAll_cons r1
  obtain ⟨rfl, rfl, rfl⟩ := trodAll_nil r2
  obtain rfl : args = #[v0, v1, v2] := by cases args; simp_all
  obtain ⟨rfl, rfl⟩ := trodVars_none hV
  obtain ⟨x0, hx0, w0⟩ := read_arg T_ok (t := .slice (.pair (.int .u64) (.int .u64))) (by kernel_rfl) (by kernel_rfl) (hval 0 22 v0 rfl rfl) h0
  obtain ⟨x1, hx1, w1⟩ := read_arg T_ok (t := .int .i64) (by kernel_rfl) (by kernel_rfl) (hval 1 3 v1 rfl rfl) h1
  obtain ⟨x2, hx2, w2⟩ := read_arg T_ok (t := .pair (.int .u64) (.int .u64)) (by kernel_rfl) (by kernel_rfl) (hval 2 25 v2 rfl rfl) h2
  refine (walk x0 w0 x1 w1 x2 w2 (All2.cons (ctx0_own hx0) (All2.cons hx1 (All2.cons hx2 All2.nil)))).mono fun e W' ⟨he, hg⟩ => ?_
  subst he
  exact ⟨_, rfl, law_post (pv := []) hW' hg (fun _ _ _ => (trodAll_cons_mk (shut_bool Try.underlying4 _) trodAll_mk0)) (fun sp hsp => args_back laid rowed thick hg (by kernel_rfl) hB fun z hz => hsp z (List.mem_append_left _ hz)) (fun _ _ => rfl) rfl
    (ok_one (by kernel_rfl) rfl (okWide_bool_mk Try.underlying4 _))⟩

theorem over : Rows.routeHopsRow.holds Try.pinned (OpenSpec.ofChange Rows.routeHopsSpec) :=
  OpenClaim.holds_of_wide 4 Try.f4 rfl rfl rfl rfl rfl rfl rfl ⟨rfl, rfl, rfl, rfl, rfl⟩ rfl rfl rfl rfl rfl (by kernel_rfl) Try.func4 (by kernel_rfl)
    (of_decide_eq_true (by kernel_rfl)) (by unfold Func.isWrapper; first | (rw [if_pos (by decide +kernel)]; kernel_rfl) | (rw [if_neg (by decide +kernel)]; exact ⟨rfl, rfl⟩))
    (fun os started H enc _ => lifted os started H enc)

theorem proved : Rows.RouteHopsSaid := over
end Go.Proofs.Ytbamjkhnnlekpaa.routeHops
