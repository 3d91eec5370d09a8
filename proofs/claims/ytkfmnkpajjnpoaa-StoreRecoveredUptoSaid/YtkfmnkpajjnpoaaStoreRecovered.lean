/- The given statement StoreRecoveredUptoSaid: What three know, the fourth comes to know. No condition. -/
import Derived.Test.YtkfmnkpajjnpoaaRows
import Derived.Test.YtkfmnkpajjnpoaaStoreR
import Derived.Test.YtkfmnkpajjnpoaaAmZI
import Derived.WalkKit
import Derived.ProofKit
import Derived.OpenShut
import Derived.JoinedCond
import Derived.Test.YtkfmnkpajjnpoaaBulk
namespace Go.Proofs.Ytkfmnkpajjnpoaa.storeRecovered
open Go.ChangeShapes Go.WideShapes Go.ChangeAt Go.RowKit
open Go.Am Go.Am.Ytkfmnkpajjnpoaa

theorem own : ownKnob Try.prog.godebug = none := by kernel_rfl
theorem laid : laidOutB Try.prog = true := by kernel_rfl
theorem rowed : mapsRowed Try.prog = true := by kernel_rfl
theorem thick : slicesThick Try.prog = true := by kernel_rfl

theorem walk (x0 : (List (Int × (Int × (Int × ((List (ByteArray × ByteArray)) × ((List (Int × ((List Int) × (Int × (Int × (Bool × ((List (ByteArray × ByteArray)) × (List Int)))))))) × ((List Int) × (List (Int × Int)))))))))) (w0 : Ty.few 1048576 (.arr 4 (.pair (.int .i64) (.pair (.int .u32) (.pair (.int .u32) (.pair (.slice (.pair (.str) (.str))) (.pair (.slice (.pair (.int .u64) (.pair (.arr 3 (.int .i64)) (.pair (.int .i64) (.pair (.int .u32) (.pair (.bool) (.pair (.slice (.pair (.str) (.str))) (.arr 4 (.int .u32))))))))) (.pair (.arr 4 (.int .u32)) (.slice (.pair (.int .u64) (.int .i64)))))))))) x0) (x1 : Int) (w1 : Ty.few 1048576 (.int .i64) x1) (x2 : Int) (w2 : Ty.few 1048576 (.int .u32) x2) {W : World} {vals : Array Value} (ha : All2 (fun v u => v.V (ctx0 W) u) [AVal.dat true (.arr 4 (.pair (.int .i64) (.pair (.int .u32) (.pair (.int .u32) (.pair (.slice (.pair (.str) (.str))) (.pair (.slice (.pair (.int .u64) (.pair (.arr 3 (.int .i64)) (.pair (.int .i64) (.pair (.int .u32) (.pair (.bool) (.pair (.slice (.pair (.str) (.str))) (.arr 4 (.int .u32))))))))) (.pair (.arr 4 (.int .u32)) (.slice (.pair (.int .u64) (.int .i64)))))))))) x0, AVal.dat false (.int .i64) x1, AVal.dat false (.int .u32) x2] vals.toList) : Calls Try.prog 10 vals W fun e W' => e = .returned (.bool true) ∧ Am.Calm W W' :=
  law_calls (ok10 FUEL) (y := (x0, x1, x2)) rfl (storeRecovered x0 w0 x1 w1 x2 w2) ha

set_option maxRecDepth 100000 in
theorem lifted (os : Os) (started : os.Started) (H : Type) (enc : TypeId × Value → H) (F : Stop.Interp) :
    ReturnsInHanded {} Try.checked os 10 .any ((Rows.OpenSpec.upto Rows.storeRecoveredSpec).pre6 enc Try.prog Try.f10 Rows.storeRecoveredUptoRow.domain false) (((Rows.OpenSpec.upto Rows.storeRecoveredSpec).at F).post enc Try.prog Try.f10 false true false false) := by
  refine returnsInHanded_of_cond (C := Try.checked) (s := Rows.OpenSpec.upto Rows.storeRecoveredSpec) (k := Rows.uptoSmall) rfl own started (by kernel_rfl) Try.func10
    (OpenSpec.witness (enc := enc) (C := Try.checked) (s := Rows.OpenSpec.upto Rows.storeRecoveredSpec) (k := Rows.uptoSmall) rfl false ⟨#[], #[.agg #[.int .i64 0, .int .u32 0, .int .u32 0, .slice none 0 0, .slice none 0 0, .int .u32 0, .int .u32 0, .int .u32 0, .int .u32 0, .slice none 0 0, .int .i64 0, .int .u32 0, .int .u32 0, .slice none 0 0, .slice none 0 0, .int .u32 0, .int .u32 0, .int .u32 0, .int .u32 0, .slice none 0 0, .int .i64 0, .int .u32 0, .int .u32 0, .slice none 0 0, .slice none 0 0, .int .u32 0, .int .u32 0, .int .u32 0, .int .u32 0, .slice none 0 0, .int .i64 0, .int .u32 0, .int .u32 0, .slice none 0 0, .slice none 0 0, .int .u32 0, .int .u32 0, .int .u32 0, .int .u32 0, .slice none 0 0], .int .i64 0, .int .u32 0], []⟩ 8 (by kernel_rfl) (by kernel_rfl) (by kernel_rfl)
      (x := ([.agg [.agg [.lit (.int .i64 0), .lit (.int .u32 0), .lit (.int .u32 0), .nil, .nil, .agg [.lit (.int .u32 0), .lit (.int .u32 0), .lit (.int .u32 0), .lit (.int .u32 0)], .nil], .agg [.lit (.int .i64 0), .lit (.int .u32 0), .lit (.int .u32 0), .nil, .nil, .agg [.lit (.int .u32 0), .lit (.int .u32 0), .lit (.int .u32 0), .lit (.int .u32 0)], .nil], .agg [.lit (.int .i64 0), .lit (.int .u32 0), .lit (.int .u32 0), .nil, .nil, .agg [.lit (.int .u32 0), .lit (.int .u32 0), .lit (.int .u32 0), .lit (.int .u32 0)], .nil], .agg [.lit (.int .i64 0), .lit (.int .u32 0), .lit (.int .u32 0), .nil, .nil, .agg [.lit (.int .u32 0), .lit (.int .u32 0), .lit (.int .u32 0), .lit (.int .u32 0)], .nil]], .lit (.int .i64 0), .lit (.int .u32 0)], [], [])) (by kernel_rfl) rfl (by kernel_rfl)) ?_
  intro W base args ds gs before hval hW _ hk _
  have hW' := hW
  obtain ⟨p, q, hA0, hV, rfl, hfz, hnd⟩ := hW
  have hA : DataW.TrodAll enc Try.prog W 0 (fun _ => true) true Try.f10.params.toList args.toList ds p := hA0
  have hB : DataW.TrodAll enc Try.prog W 0 (fun _ => true) true Try.f10.params.toList args.toList ds p := hA0
  rw [Try.params10] at hA hval
  obtain ⟨v0, vs0, d0, ds0, p0, q0, hargs, rfl, rfl, h0, r0⟩ := trodAll_cons hA
  obtain ⟨v1, vs1, d1, ds1, p1, q1, rfl, rfl, rfl, h1, r1⟩ := trodAll_cons r0
  obtain ⟨v2, vs2, d2, ds2, p2, q2, rfl, rfl, rfl, h2, r2⟩ := trodAll_cons r1
  obtain ⟨rfl, rfl, rfl⟩ := trodAll_nil r2
  obtain rfl : args = #[v0, v1, v2] := by cases args; simp_all
  obtain ⟨rfl, rfl⟩ := trodVars_none hV
  obtain ⟨x0, hx0, w0⟩ := read_argf (B := 1048576) T_ok bulks.handed (t := .arr 4 (.pair (.int .i64) (.pair (.int .u32) (.pair (.int .u32) (.pair (.slice (.pair (.str) (.str))) (.pair (.slice (.pair (.int .u64) (.pair (.arr 3 (.int .i64)) (.pair (.int .i64) (.pair (.int .u32) (.pair (.bool) (.pair (.slice (.pair (.str) (.str))) (.arr 4 (.int .u32))))))))) (.pair (.arr 4 (.int .u32)) (.slice (.pair (.int .u64) (.int .i64)))))))))) (by kernel_rfl) (by kernel_rfl) (by kernel_rfl) (hval 0 43 v0 rfl rfl) h0 (bulks.bound hk (by simp))
  obtain ⟨x1, hx1, w1⟩ := read_argf (B := 1048576) T_ok bulks.handed (t := .int .i64) (by kernel_rfl) (by kernel_rfl) (by kernel_rfl) (hval 1 3 v1 rfl rfl) h1 (bulks.bound hk (by simp))
  obtain ⟨x2, hx2, w2⟩ := read_argf (B := 1048576) T_ok bulks.handed (t := .int .u32) (by kernel_rfl) (by kernel_rfl) (by kernel_rfl) (hval 2 22 v2 rfl rfl) h2 (bulks.bound hk (by simp))
  refine (walk x0 w0 x1 w1 x2 w2 (All2.cons (ctx0_own hx0) (All2.cons hx1 (All2.cons hx2 All2.nil)))).mono fun e W' ⟨he, hg⟩ => ?_
  subst he
  exact ⟨_, rfl, law_post (pv := []) hW' hg (fun _ _ _ => (trodAll_cons_mk (shut_bool Try.underlying4 _) trodAll_mk0)) (fun sp hsp => args_back laid rowed thick hg (by kernel_rfl) hB fun z hz => hsp z (List.mem_append_left _ hz)) (fun _ _ => rfl) rfl
    (ok_one (by kernel_rfl) rfl (okWide_bool_mk Try.underlying4 _))⟩

theorem over : Rows.storeRecoveredUptoRow.holds Try.pinned (Rows.OpenSpec.upto Rows.storeRecoveredSpec) :=
  OpenClaim.holds_of_cond 10 Try.f10 rfl rfl rfl rfl rfl rfl rfl ⟨rfl, rfl, rfl, rfl, rfl⟩ rfl rfl rfl rfl rfl (by kernel_rfl) Try.func10 (by kernel_rfl)
    (of_decide_eq_true (by kernel_rfl)) (by unfold Func.isWrapper; first | (rw [if_pos (by decide +kernel)]; kernel_rfl) | (rw [if_neg (by decide +kernel)]; exact ⟨rfl, rfl⟩))
    (fun os started H enc _ F => lifted os started H enc F)

theorem proved : Rows.StoreRecoveredUptoSaid := over
end Go.Proofs.Ytkfmnkpajjnpoaa.storeRecovered
