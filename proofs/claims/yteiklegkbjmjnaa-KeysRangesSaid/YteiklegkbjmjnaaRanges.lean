/- The given statement KeysRangesSaid: for any two texts and any four bools, tontinelaw01.KeysRanges returns true and leaves its arguments as they were. No condition. -/
import Derived.Test.YteiklegkbjmjnaaRows
import Derived.Test.YteiklegkbjmjnaaPlain2
import Derived.Test.YteiklegkbjmjnaaAmZD
import Derived.WalkKit
import Derived.ProofKit
import Derived.OpenShut
import Derived.ChangeMaps5
namespace Go.Proofs.Yteiklegkbjmjnaa.keysRanges
open Go.ChangeShapes Go.WideShapes Go.ChangeAt Go.RowKit Go.ChangeMaps
open Go.Am Go.Am.Yteiklegkbjmjnaa

theorem own : ownKnob Try.prog.godebug = none := by kernel_rfl

theorem walk (s t : ByteArray) (a b c d : Bool) (W : World) : Calls Try.prog 6 #[.string s, .string t, .agg #[.bool a, .bool b, .bool c, .bool d]] W fun e W' => e = .returned (.bool true) ∧ Am.Calm W W' :=
  law_calls (ok6 FUEL) (y := ((s, (t, ([a, b, c, d], ()))), ())) rfl (pure6 s t a b c d) (All2.cons (V_str.2 rfl) (All2.cons (V_str.2 rfl) (All2.cons ⟨_, rfl, cells_rel (.arr 4 .bool) [a, b, c, d] _ rfl⟩ All2.nil)))

set_option maxRecDepth 100000 in
theorem lifted (os : Os) (started : os.Started) (H : Type) (enc : TypeId × Value → H) :
    ReturnsInHanded {} Try.checked os 6 .any (Rows.keysRangesSpec.pre6 enc Try.prog Try.f6 Rows.keysRangesRow.domain false) (Rows.keysRangesSpec.post enc Try.prog Try.f6 false true false false) := by
  refine returnsInHanded_of_change (C := Try.checked) own started (by kernel_rfl) Try.func6
    (ChangeSpec.witness6 (enc := enc) (C := Try.checked) false ⟨#[], #[.string ByteArray.empty, .string ByteArray.empty, .agg #[.bool false, .bool false, .bool false, .bool false]], []⟩ 8 (by kernel_rfl) (by kernel_rfl) (by kernel_rfl) (by kernel_rfl)) ?_
  intro W base args ds gs before hval hW _ _
  have hW' := hW
  obtain ⟨p, q, hA0, hV, rfl, hfz, hnd⟩ := hW
  have hA : DataW.TrodAll enc Try.prog W 0 (fun _ => true) true Try.f6.params.toList args.toList ds p := hA0
  rw [Try.params6] at hA hval
  obtain ⟨v0, vs0, d0, ds0, p0, q0, hargs, rfl, rfl, h0, r0⟩ := trodAll_cons hA
  obtain ⟨v1, vs1, d1, ds1, p1, q1, rfl, rfl, rfl, h1, r1⟩ := trodAll_cons r0
  obtain ⟨v2, vs2, d2, ds2, p2, q2, rfl, rfl, rfl, h2, r2⟩ := trodAll_cons r1
  obtain ⟨rfl, rfl, rfl⟩ := trodAll_nil r2
  obtain rfl : args = #[v0, v1, v2] := by cases args; simp_all
  obtain ⟨rfl, rfl⟩ := trodVars_none hV
  have hc : Program.cellsOf Try.prog 4 = 1 := by kernel_rfl
  have hct : Program.cellsOf Try.prog 36 = 4 := by kernel_rfl
  obtain ⟨s, rfl, rfl, rfl, w0⟩ := open_string Try.underlying9 (hval 0 9 v0 rfl rfl) h0
  obtain ⟨t, rfl, rfl, rfl, w1⟩ := open_string Try.underlying9 (hval 1 9 v1 rfl rfl) h1
  obtain ⟨a, b, c, d, rfl, rfl, rfl⟩ := open_bools4 Try.underlying36 Try.underlying4 hc hct (hval 2 36 v2 rfl rfl) h2
  clear hA0
  simp only [List.append_nil] at hW'
  refine (walk s t a b c d W).mono fun e W' ⟨he, hg⟩ => ?_
  subst he
  exact ⟨_, rfl, law_post (pa := []) (pv := []) hW' hg (fun _ _ _ => (trodAll_cons_mk (shut_bool Try.underlying4 _) trodAll_mk0))
    (fun sp _ => (trodAll_cons_mk (shut_string Try.underlying9 w0) (trodAll_cons_mk (shut_string Try.underlying9 w1) (trodAll_cons_mk (shut_bools4 Try.underlying36 Try.underlying4 hc hct a b c d) trodAll_mk0)))) (fun _ _ => rfl) rfl
    (ok_one (by kernel_rfl) rfl (okWide_bool_mk Try.underlying4 _))⟩

theorem over : Rows.keysRangesRow.holds Try.pinned (OpenSpec.ofChange Rows.keysRangesSpec) :=
  OpenClaim.holds_of_wide 6 Try.f6 rfl rfl rfl rfl rfl rfl rfl ⟨rfl, rfl, rfl, rfl, rfl⟩ rfl rfl rfl rfl rfl (by kernel_rfl) Try.func6 (by kernel_rfl)
    (of_decide_eq_true (by kernel_rfl)) (by unfold Func.isWrapper; first | (rw [if_pos (by decide +kernel)]; kernel_rfl) | (rw [if_neg (by decide +kernel)]; exact ⟨rfl, rfl⟩))
    (fun os started H enc _ => lifted os started H enc)

theorem proved : Rows.KeysRangesSaid := over
end Go.Proofs.Yteiklegkbjmjnaa.keysRanges
