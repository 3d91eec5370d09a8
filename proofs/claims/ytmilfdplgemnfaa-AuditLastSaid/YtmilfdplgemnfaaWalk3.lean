/- Printed by gen2.py: functions as plain Lean functions (goes on). -/
import Derived.Test.YtmilfdplgemnfaaWalk2
namespace Go.Am.Ytmilfdplgemnfaa
open Go.Proofs
-- f7: tontine/tontinelaw23.AuditLast
def fns7 (fuel : Nat) : Fns := fnsOf [(8, F8 fuel), (9, orFun (Fr.has fi9) (F9 fuel) (F9b fuel)), (12, F12 fuel)]
theorem fnsOk7 (fuel : Nat) : FnsOk P (fns7 fuel) := (fnsOk_cons (ok8 fuel) (fnsOk_cons (orFun_ok (ok9 fuel) (ok9b fuel)) (fnsOk_cons (ok12 fuel) fnsOk_nil)))
def fi7 : Fr := ⟨[.d true (.slice (.pair (.int .u64) (.pair (.int .u32) (.pair (.int .u32) (.slice (.pair (.int .i64) (.pair (.int .u32) (.pair (.bool) (.pair (.slice (.pair (.str) (.str))) (.arr 4 (.int .u32)))))))))))], [], 0⟩
def al7 : List (Tm × List To) := [(.d true (.bool), [])]
def fx7_0 : Fr := ⟨[.d true (.bool)], [], 5⟩
def fx7_1 : Fr := ⟨[], [], 5⟩
def fr7_0 : Fr := ⟨[.d true (.slice (.pair (.int .u64) (.pair (.int .u32) (.pair (.int .u32) (.slice (.pair (.int .i64) (.pair (.int .u32) (.pair (.bool) (.pair (.slice (.pair (.str) (.str))) (.arr 4 (.int .u32))))))))))), .c (.slc 0 0), .d true (.int .i64)], [.arr 0 (.int .i64)], 4⟩
noncomputable def c7_0 : Code := bodyAt Try.f7 [1, 1, 1, 0, 0]
def s7_0 (fuel : Nat) {R : Type} (F : ((List (Int × (Int × (Int × (List (Int × (Int × (Bool × ((List (ByteArray × ByteArray)) × (List Int)))))))))) × Int × (List Int)) → Option R) (k0 : Bool → Option R) (k1 : Unit → Option R) : ((List (Int × (Int × (Int × (List (Int × (Int × (Bool × ((List (ByteArray × ByteArray)) × (List Int)))))))))) × Int × (List Int)) → Option R := fun (x4, x5, x6) => (bif (decide (x5 = (0 : Int))) then (bif (decide ((0 : Int) < ((List.length x6 : Nat) : Int))) then (if 0 ≤ (IntKind.wrap .i64 (((List.length x6 : Nat) : Int) - (1 : Int))) ∧ (IntKind.wrap .i64 (((List.length x6 : Nat) : Int) - (1 : Int))) < ((List.length x6 : Nat) : Int) then (match (x6)[(Int.toNat (IntKind.wrap .i64 (((List.length x6 : Nat) : Int) - (1 : Int))))]? with | some y7 => (if 0 ≤ y7 ∧ y7 ≤ (((List.length x4) : Nat) : Int) then (if List.length (List.drop 0 (List.take (Int.toNat y7) x4)) * 40 ≤ 140737488355328 then (if 0 ≤ (IntKind.wrap .i64 (y7 + (1 : Int))) ∧ (IntKind.wrap .i64 (y7 + (1 : Int))) ≤ (((List.length x4) : Nat) : Int) then let v8 := (List.drop (Int.toNat (IntKind.wrap .i64 (y7 + (1 : Int)))) (List.take (List.length x4) x4)); (if (List.length (List.drop 0 (List.take (Int.toNat y7) x4)) + List.length v8) * 40 ≤ 140737488355328 then (match p9b fuel ((List.drop 0 (List.take (Int.toNat y7) x4)) ++ v8) with | some z9 => (bif (!decide (z9.1 = (0 : Int))) then (k0 false) else let v10 := ((List.length ((List.drop 0 (List.take (Int.toNat y7) x4)) ++ v8) : Nat) : Int); (bif (!decide (((List.length z9.2 : Nat) : Int) = v10)) then (k0 false) else (F (((List.drop 0 (List.take (Int.toNat y7) x4)) ++ v8), z9.1, z9.2)))) | none => none) else none) else none) else none) else none) | none => none) else none) else (k1 ())) else (k1 ()))
def l7_0 (fuel : Nat) {R : Type} (k0 : Bool → Option R) (k1 : Unit → Option R) : Nat → ((List (Int × (Int × (Int × (List (Int × (Int × (Bool × ((List (ByteArray × ByteArray)) × (List Int)))))))))) × Int × (List Int)) → Option R
  | 0, _ => none
  | n + 1, x => s7_0 fuel (l7_0 fuel k0 k1 n) k0 k1 x
def nm7_0 : Norm := ⟨[0, 3, 4], padK 4 [some (0, 0)]⟩
def an7_0 : AN := (.fin ⟨[0, 3, 4], padK 4 [some (4, 0)]⟩ (.finco (.freeze (.slot 0 [])) (.seq (.seq (.region [(4, { touch := [0] })]) (.cond .leaf (.norm ⟨[], padK 5 []⟩ .leaf))) (.block (.seq (.region [(2, { touch := [0] }), (4, { touch := [0] }), (5, { touch := [0] })]) (.seq .leaf (.seq (.region [(4, { touch := [3], base := 3, ro := false })]) (.seq (.region [(5, { touch := [3], ro := false })]) (.seq (.region [(1, { touch := [3, 4], base := 4, ro := false, fresh := 1, lend := [some (.slice (.pair (.int .u64) (.pair (.int .u32) (.pair (.int .u32) (.slice (.pair (.int .i64) (.pair (.int .u32) (.pair (.bool) (.pair (.slice (.pair (.str) (.str))) (.arr 4 (.int .u32)))))))))))] })]) (.seq (.region [(4, { touch := [4] }), (6, { touch := [3] })]) (.cond (.seq .leaf (.norm ⟨[2], padK 5 []⟩ (.ret []))) .leaf)))))))))))
def al7_0 : AN := .loop nm7_0 an7_0
noncomputable def d7_0 : Code := bodyAt Try.f7 [1, 1, 1, 0, 0, 0]
theorem e7_0 (fuel : Nat) {R : Type} (F : St → Option R) (k : AExit → St → Option R) : ∀ x : ((List (Int × (Int × (Int × (List (Int × (Int × (Bool × ((List (ByteArray × ByteArray)) × (List Int)))))))))) × Int × (List Int)), runK R T (fns7 fuel) fuel [] (subsOf []) (partOf d7_0 an7_0) (fr7_0.st [0, 3, 4] x) (backTo R [] nm7_0 F k) = s7_0 fuel (fun x => F (fr7_0.st [0, 3, 4] x)) (fun y => k (.ret []) (fx7_0.st [2] y)) (fun y => k (.exit 0) (fx7_1.st [] y)) x := by
  rintro ⟨x4, x5, x6⟩
  kernel_rfl
theorem u7_0 (fuel : Nat) {R : Type} (k : AExit → St → Option R) (x : ((List (Int × (Int × (Int × (List (Int × (Int × (Bool × ((List (ByteArray × ByteArray)) × (List Int)))))))))) × Int × (List Int))) : runK R T (fns7 fuel) fuel [] (subsOf []) (partOf c7_0 al7_0) (fr7_0.st [0, 3, 4] x) k = l7_0 fuel (fun y => k (.ret []) (fx7_0.st [2] y)) (fun y => k (.exit 0) (fx7_1.st [] y)) fuel x :=
  loop_eq (mk := fr7_0.st [0, 3, 4]) (s := fun F x => s7_0 fuel F (fun y => k (.ret []) (fx7_0.st [2] y)) (fun y => k (.exit 0) (fx7_1.st [] y)) x) (l := fun n x => l7_0 fuel (fun y => k (.ret []) (fx7_0.st [2] y)) (fun y => k (.exit 0) (fx7_1.st [] y)) n x) (d := d7_0) (by kernel_rfl) (fun G x => by
    revert x
    rintro ⟨x4, x5, x6⟩
    kernel_rfl) (fun F x => e7_0 fuel F k x) (fun _ => rfl) (fun _ _ => rfl) x
noncomputable def sub7_0 (fuel : Nat) (R : Type) : Sub R := Sub.of [0, 3, 4] c7_0 fr7_0 fun x k => l7_0 fuel (fun y => k (.ret []) (fx7_0.st [2] y)) (fun y => k (.exit 0) (fx7_1.st [] y)) fuel x
theorem subOk7_0 (fuel : Nat) (R : Type) : SubOk P [] 53 (sub7_0 fuel R) :=
  subOk_part (fns := (fns7 fuel)) (fuel := fuel) (subs := (subsOf [])) (an := al7_0) T_ok (fnsOk7 fuel) mixed subsOk_nil (by kernel_rfl) (by kernel_rfl) fun _ _ _ _ h => Sub.of_run (fun (x : ((List (Int × (Int × (Int × (List (Int × (Int × (Bool × ((List (ByteArray × ByteArray)) × (List Int)))))))))) × Int × (List Int))) k => u7_0 fuel k x) h
def an7 : AN := (.seq .leaf (.seq .leaf (.seq (.region [(1, { touch := [2], base := 2, ro := false, fresh := 1 })]) (.seq (.block (.hole ⟨[0, 3, 4], padK 4 [some (2, 0)]⟩ 0)) (.seq .leaf (.norm ⟨[2], padK 5 []⟩ (.ret [])))))))
def p7 (fuel : Nat) : (List (Int × (Int × (Int × (List (Int × (Int × (Bool × ((List (ByteArray × ByteArray)) × (List Int)))))))))) → Option Bool := fun x1 => (match p8 fuel x1 with | some z2 => (match p9 fuel z2 with | some z3 => (l7_0 fuel (fun x11 => (some x11)) (fun _ => (match p12 fuel () with | some z12 => (some z12) | none => none)) fuel (z2, z3.1, z3.2)) | none => none) | none => none)
def F7 (fuel : Nat) : Fun := funOfA fi7 al7 (p7 fuel)
theorem run7 (fuel : Nat) : ∀ y : (List (Int × (Int × (Int × (List (Int × (Int × (Bool × ((List (ByteArray × ByteArray)) × (List Int)))))))))), runF Bool T (fns7 fuel) fuel (subsOf [sub7_0 fuel Bool]) (defOf Try.f7 an7 5 [] []) (fi7.vs y) (fi7.os y) (altsDec al7) = p7 fuel y := by
  rintro x1
  kernel_rfl
theorem ok7 (fuel : Nat) : FunOk P 7 (funOfA fi7 al7 (p7 fuel)) :=
  funOfA_ok (subs := (subsOf [sub7_0 fuel Bool])) (an := an7) (room := 5) (ks := []) (g0 := []) (fuel := fuel) T_ok (fnsOk7 fuel) mixed (fn := Try.f7) (by kernel_rfl) (by kernel_rfl) (subsOk_cons (subOk7_0 fuel _) subsOk_nil) (by kernel_rfl) (fun _ => ⟨by kernel_rfl, by kernel_rfl⟩) (run7 fuel)
end Go.Am.Ytmilfdplgemnfaa
