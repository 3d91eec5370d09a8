/- The given statement KeysQuorumsSaid: for any twice four bools, tontinelaw01.KeysQuorums returns true and leaves its arguments as they were. No condition. -/
import Derived.Test.YteiklegkbjmjnaaRows
import Derived.Test.YteiklegkbjmjnaaPlain3
import Derived.Test.YteiklegkbjmjnaaAmZD
import Derived.WalkKit
import Derived.ProofKit
import Derived.OpenShut
import Derived.ChangeMaps5
namespace Go.Proofs.Yteiklegkbjmjnaa.keysQuorums
open Go.ChangeShapes Go.WideShapes Go.ChangeAt Go.RowKit Go.ChangeMaps
open Go.Am Go.Am.Yteiklegkbjmjnaa

theorem own : ownKnob Try.prog.godebug = none := by kernel_rfl

theorem walk (a b c d e f g h : Bool) (W : World) : Calls Try.prog 5 #[.agg #[.bool a, .bool b, .bool c, .bool d], .agg #[.bool e, .bool f, .bool g, .bool h]] W fun e W' => e = .returned (.bool true) ∧ Am.Calm W W' :=
  law_calls (ok5 FUEL) (y := (([a, b, c, d], ([e, f, g, h], ())), ())) rfl (pure5 a b c d e f g h) (All2.cons ⟨_, rfl, cells_rel (.arr 4 .bool) [a, b, c, d] _ rfl⟩ (All2.cons ⟨_, rfl, cells_rel (.arr 4 .bool) [e, f, g, h] _ rfl⟩ All2.nil))

set_option maxRecDepth 100000 in
theorem lifted (os : Os) (started : os.Started) (H : Type) (enc : TypeId × Value → H) :
    ReturnsInHanded {} Try.checked os 5 .any (Rows.keysQuorumsSpec.pre6 enc Try.prog Try.f5 Rows.keysQuorumsRow.domain false) (Rows.keysQuorumsSpec.post enc Try.prog Try.f5 false true false false) := by
  refine returnsInHanded_of_change (C := Try.checked) own started (by kernel_rfl) Try.func5
    (ChangeSpec.witness6 (enc := enc) (C := Try.checked) false ⟨#[], #[.agg #[.bool false, .bool false, .bool false, .bool false], .agg #[.bool false, .bool false, .bool false, .bool false]], []⟩ 8 (by kernel_rfl) (by kernel_rfl) (by kernel_rfl) (by kernel_rfl)) ?_
  intro W base args ds gs before hval hW _ _
  have hW' := hW
  obtain ⟨p, q, hA0, hV, rfl, hfz, hnd⟩ := hW
  have hA : DataW.TrodAll enc Try.prog W 0 (fun _ => true) true Try.f5.params.toList args.toList ds p := hA0
  rw [Try.params5] at hA hval
  obtain ⟨v0, vs0, d0, ds0, p0, q0, hargs, rfl, rfl, h0, r0⟩ := trodAll_cons hA
  obtain ⟨v1, vs1, d1, ds1, p1, q1, rfl, rfl, rfl, h1, r1⟩ := trodAll_cons r0
  obtain ⟨rfl, rfl, rfl⟩ := trodAll_nil r1
  obtain rfl : args = #[v0, v1] := by cases args; simp_all
  obtain ⟨rfl, rfl⟩ := trodVars_none hV
  have hc : Program.cellsOf Try.prog 4 = 1 := by kernel_rfl
  have hct : Program.cellsOf Try.prog 36 = 4 := by kernel_rfl
  obtain ⟨a, b, c, d, rfl, rfl, rfl⟩ := open_bools4 Try.underlying36 Try.underlying4 hc hct (hval 0 36 v0 rfl rfl) h0
  obtain ⟨e, f, g, h, rfl, rfl, rfl⟩ := open_bools4 Try.underlying36 Try.underlying4 hc hct (hval 1 36 v1 rfl rfl) h1
  clear hA0
  simp only [List.append_nil] at hW'
  refine (walk a b c d e f g h W).mono fun e W' ⟨he, hg⟩ => ?_
  subst he
  exact ⟨_, rfl, law_post (pa := []) (pv := []) hW' hg (fun _ _ _ => (trodAll_cons_mk (shut_bool Try.underlying4 _) trodAll_mk0))
    (fun sp _ => (trodAll_cons_mk (shut_bools4 Try.underlying36 Try.underlying4 hc hct a b c d) (trodAll_cons_mk (shut_bools4 Try.underlying36 Try.underlying4 hc hct e f g h) trodAll_mk0))) (fun _ _ => rfl) rfl
    (ok_one (by kernel_rfl) rfl (okWide_bool_mk Try.underlying4 _))⟩

theorem over : Rows.keysQuorumsRow.holds Try.pinned (OpenSpec.ofChange Rows.keysQuorumsSpec) :=
  OpenClaim.holds_of_wide 5 Try.f5 rfl rfl rfl rfl rfl rfl rfl ⟨rfl, rfl, rfl, rfl, rfl⟩ rfl rfl rfl rfl rfl (by kernel_rfl) Try.func5 (by kernel_rfl)
    (of_decide_eq_true (by kernel_rfl)) (by unfold Func.isWrapper; first | (rw [if_pos (by decide +kernel)]; kernel_rfl) | (rw [if_neg (by decide +kernel)]; exact ⟨rfl, rfl⟩))
    (fun os started H enc _ => lifted os started H enc)

theorem proved : Rows.KeysQuorumsSaid := over
end Go.Proofs.Yteiklegkbjmjnaa.keysQuorums
