/- Printed by gen2.py: functions of the store. -/
import Derived.Test.YtkfmnkpajjnpoaaWalkB
namespace Go.Am.Ytkfmnkpajjnpoaa
open Go.Proofs
-- f17b: (*tontine/store.Store).Open
def fns17b (fuel : Nat) : Fns := fnsOf []
theorem fnsOk17b (fuel : Nat) : FnsOk P (fns17b fuel) := fnsOk_nil
def fi17b : Fr := ⟨[.c .nilp, .d false (.int .i64), .d false (.int .i64), .d false (.int .u32), .d false (.bool)], [], 0⟩
def al17b : List (Tm × List To) := [(.d true (.int .i64), [])]
def an17b : AN := (.seq .leaf (.seq (.region [(3, { touch := [0], ro := false }), (4, { touch := [0], ro := false })]) (.seq (.seq .leaf (.cond (.seq .leaf (.norm ⟨[10], padK 1 []⟩ (.ret []))) .leaf)) (.seq .leaf (.seq (.seq .leaf (.cond .leaf .leaf)) (.seq .leaf .leaf))))))
def p17b (fuel : Nat) : (Int × Int × Int × Bool) → Option Int := fun (_, _, _, _) => (some (1 : Int))
def F17b (fuel : Nat) : Fun := funOfA fi17b al17b (p17b fuel)
theorem run17b (fuel : Nat) : ∀ y : (Int × Int × Int × Bool), runF Int T (fns17b fuel) fuel (subsOf []) (defOf Try.f17 an17b 1 [] []) (fi17b.vs y) (fi17b.os y) (altsDec al17b) = p17b fuel y := by
  rintro ⟨x1, x2, x3, x4⟩
  kernel_rfl
theorem ok17b (fuel : Nat) : FunOk P 17 (funOfA fi17b al17b (p17b fuel)) :=
  funOfA_ok (subs := (subsOf [])) (an := an17b) (room := 1) (ks := []) (g0 := []) (fuel := fuel) T_ok (fnsOk17b fuel) mixed (fn := Try.f17) (by kernel_rfl) (by kernel_rfl) subsOk_nil (by kernel_rfl) (fun _ => ⟨by kernel_rfl, by kernel_rfl⟩) (run17b fuel)

-- f31: (*tontine/store.Store).Drop
def fns31 (fuel : Nat) : Fns := fnsOf [(47, F47 fuel)]
theorem fnsOk31 (fuel : Nat) : FnsOk P (fns31 fuel) := (fnsOk_cons (ok47 fuel) fnsOk_nil)
def fi31 : Fr := ⟨[.c .nilp, .d false (.int .i64), .d false (.int .i64)], [], 0⟩
def al31 : List (Tm × List To) := [(.d true (.int .i64), [])]
def an31 : AN := (.seq .leaf (.seq (.seq .leaf (.seq .leaf (.cond (.seq .leaf (.norm ⟨[6], padK 0 []⟩ (.ret []))) .leaf))) (.seq .leaf (.seq .leaf .leaf))))
def p31 (fuel : Nat) : (Int × Int) → Option Int := fun (x1, x2) => (match p47 fuel (x1, x2) with | some z3 => (bif (!decide (z3 = (0 : Int))) then (some z3) else none) | none => none)
def F31 (fuel : Nat) : Fun := funOfA fi31 al31 (p31 fuel)
theorem run31 (fuel : Nat) : ∀ y : (Int × Int), runF Int T (fns31 fuel) fuel (subsOf []) (defOf Try.f31 an31 0 [] []) (fi31.vs y) (fi31.os y) (altsDec al31) = p31 fuel y := by
  rintro ⟨x1, x2⟩
  kernel_rfl
theorem ok31 (fuel : Nat) : FunOk P 31 (funOfA fi31 al31 (p31 fuel)) :=
  funOfA_ok (subs := (subsOf [])) (an := an31) (room := 0) (ks := []) (g0 := []) (fuel := fuel) T_ok (fnsOk31 fuel) mixed (fn := Try.f31) (by kernel_rfl) (by kernel_rfl) subsOk_nil (by kernel_rfl) (fun _ => ⟨by kernel_rfl, by kernel_rfl⟩) (run31 fuel)

-- f32: (*tontine/store.Store).State
def fns32 (fuel : Nat) : Fns := fnsOf [(47, F47 fuel)]
theorem fnsOk32 (fuel : Nat) : FnsOk P (fns32 fuel) := (fnsOk_cons (ok47 fuel) fnsOk_nil)
def fi32 : Fr := ⟨[.c .nilp, .d false (.int .i64), .d false (.int .i64)], [], 0⟩
def al32 : List (Tm × List To) := [(.d true (.int .i64), [])]
def an32 : AN := (.seq .leaf (.seq (.seq .leaf (.seq .leaf (.cond (.seq .leaf .leaf) .leaf))) (.seq .leaf (.norm ⟨[6], padK 0 []⟩ (.ret [])))))
def p32 (fuel : Nat) : (Int × Int) → Option Int := fun (x1, x2) => (match p47 fuel (x1, x2) with | some z3 => (bif (decide (z3 = (0 : Int))) then none else (some (0 : Int))) | none => none)
def F32 (fuel : Nat) : Fun := funOfA fi32 al32 (p32 fuel)
theorem run32 (fuel : Nat) : ∀ y : (Int × Int), runF Int T (fns32 fuel) fuel (subsOf []) (defOf Try.f32 an32 0 [] []) (fi32.vs y) (fi32.os y) (altsDec al32) = p32 fuel y := by
  rintro ⟨x1, x2⟩
  kernel_rfl
theorem ok32 (fuel : Nat) : FunOk P 32 (funOfA fi32 al32 (p32 fuel)) :=
  funOfA_ok (subs := (subsOf [])) (an := an32) (room := 0) (ks := []) (g0 := []) (fuel := fuel) T_ok (fnsOk32 fuel) mixed (fn := Try.f32) (by kernel_rfl) (by kernel_rfl) subsOk_nil (by kernel_rfl) (fun _ => ⟨by kernel_rfl, by kernel_rfl⟩) (run32 fuel)

-- f18b: (*tontine/store.Store).Decide
def fns18b (fuel : Nat) : Fns := fnsOf [(37, F37 fuel)]
theorem fnsOk18b (fuel : Nat) : FnsOk P (fns18b fuel) := (fnsOk_cons (ok37 fuel) fnsOk_nil)
def fi18b : Fr := ⟨[.c .nilp, .d false (.int .i64), .d true (.pair (.int .u64) (.pair (.arr 3 (.int .i64)) (.pair (.int .i64) (.pair (.int .u32) (.pair (.bool) (.pair (.slice (.pair (.str) (.str))) (.arr 4 (.int .u32)))))))), .d false (.bool)], [], 0⟩
def al18b : List (Tm × List To) := [(.d true (.int .i64), [])]
def fx18b_0 : Fr := ⟨[.c (.ptr 0 0 []), .c .nilp], [.box (.d true (.pair (.int .u64) (.pair (.arr 3 (.int .i64)) (.pair (.int .i64) (.pair (.int .u32) (.pair (.bool) (.pair (.slice (.pair (.str) (.str))) (.arr 4 (.int .u32)))))))))], 1⟩
def fr18b_0 : Fr := ⟨[.c (.ptr 0 0 []), .c .nilp, .d true (.bool)], [.box (.d true (.pair (.int .u64) (.pair (.arr 3 (.int .i64)) (.pair (.int .i64) (.pair (.int .u32) (.pair (.bool) (.pair (.slice (.pair (.str) (.str))) (.arr 4 (.int .u32)))))))))], 1⟩
noncomputable def c18b_0 : Code := bodyAt Try.f18 [1, 1, 1, 0, 1]
def j18b_0 (fuel : Nat) {R : Type} (k0 : (Int × ((List Int) × (Int × (Int × (Bool × ((List (ByteArray × ByteArray)) × (List Int))))))) → Option R) : (Bool × (Int × ((List Int) × (Int × (Int × (Bool × ((List (ByteArray × ByteArray)) × (List Int)))))))) → Option R := fun (x5, x6) => (bif x5 then none else (k0 x6))
def al18b_0 : AN := (.fin ⟨[6, 9], padK 1 [some (0, 0)]⟩ (.cond (.seq (.region [(1, { touch := [0] }), (2, { touch := [0] }), (3, { touch := [0] })]) .leaf) .leaf))
theorem u18b_0 (fuel : Nat) {R : Type} (k : AExit → St → Option R) : ∀ x : (Bool × (Int × ((List Int) × (Int × (Int × (Bool × ((List (ByteArray × ByteArray)) × (List Int)))))))), runK R T (fns18b fuel) fuel [] (subsOf []) (partOf c18b_0 al18b_0) (fr18b_0.st [6, 9, 36] x) k = j18b_0 fuel (fun y => k .normal (fx18b_0.st [6, 9] y)) x := by
  rintro ⟨x5, x6⟩
  kernel_rfl
noncomputable def sub18b_0 (fuel : Nat) (R : Type) : Sub R := Sub.of [6, 9, 36] c18b_0 fr18b_0 fun x k => j18b_0 fuel (fun y => k .normal (fx18b_0.st [6, 9] y)) x
theorem subOk18b_0 (fuel : Nat) (R : Type) : SubOk P [] 73 (sub18b_0 fuel R) :=
  subOk_part (fns := (fns18b fuel)) (fuel := fuel) (subs := (subsOf [])) (an := al18b_0) T_ok (fnsOk18b fuel) mixed subsOk_nil (by kernel_rfl) (by kernel_rfl) fun _ _ _ _ h => Sub.of_run (fun (x : (Bool × (Int × ((List Int) × (Int × (Int × (Bool × ((List (ByteArray × ByteArray)) × (List Int))))))))) k => u18b_0 fuel k x) h
def fr18b_1 : Fr := ⟨[.c (.ptr 0 0 []), .c .nilp], [.box (.d true (.pair (.int .u64) (.pair (.arr 3 (.int .i64)) (.pair (.int .i64) (.pair (.int .u32) (.pair (.bool) (.pair (.slice (.pair (.str) (.str))) (.arr 4 (.int .u32)))))))))], 1⟩
noncomputable def c18b_1 : Code := bodyAt Try.f18 [1, 1, 1, 1]
def j18b_1 (fuel : Nat) {R : Type}  : (Int × ((List Int) × (Int × (Int × (Bool × ((List (ByteArray × ByteArray)) × (List Int))))))) → Option R := fun _ => none
def al18b_1 : AN := (.seq .leaf (.seq (.seq .leaf (.cond .leaf .leaf)) (.seq .leaf .leaf)))
theorem u18b_1 (fuel : Nat) {R : Type} (k : AExit → St → Option R) : ∀ x : (Int × ((List Int) × (Int × (Int × (Bool × ((List (ByteArray × ByteArray)) × (List Int))))))), runK R T (fns18b fuel) fuel [] (subsOf [sub18b_0 fuel R]) (partOf c18b_1 al18b_1) (fr18b_1.st [6, 9] x) k = j18b_1 fuel  x := by
  rintro x9
  kernel_rfl
noncomputable def sub18b_1 (fuel : Nat) (R : Type) : Sub R := Sub.of [6, 9] c18b_1 fr18b_1 fun x k => j18b_1 fuel  x
theorem subOk18b_1 (fuel : Nat) (R : Type) : SubOk P [] 73 (sub18b_1 fuel R) :=
  subOk_part (fns := (fns18b fuel)) (fuel := fuel) (subs := (subsOf [sub18b_0 fuel R])) (an := al18b_1) T_ok (fnsOk18b fuel) mixed (subsOk_cons (subOk18b_0 fuel R) subsOk_nil) (by kernel_rfl) (by kernel_rfl) fun _ _ _ _ h => Sub.of_run (fun (x : (Int × ((List Int) × (Int × (Int × (Bool × ((List (ByteArray × ByteArray)) × (List Int)))))))) k => u18b_1 fuel k x) h
def an18b : AN := (.seq (.region [(0, { touch := [1], base := 1, ro := false })]) (.seq (.region [(2, { touch := [1], ro := false, loc := [1] })]) (.seq (.seq .leaf (.cond (.seq .leaf (.norm ⟨[8], padK 2 []⟩ (.ret []))) .leaf)) (.seq (.seq (.region [(2, { touch := [1] }), (3, { touch := [1] }), (4, { touch := [1] })]) (.hole ⟨[6, 9, 36], padK 1 [some (1, 0)]⟩ 0)) (.hole ⟨[6, 9], padK 1 [some (0, 0)]⟩ 1)))))
def p18b (fuel : Nat) : (Int × (Int × ((List Int) × (Int × (Int × (Bool × ((List (ByteArray × ByteArray)) × (List Int))))))) × Bool) → Option Int := fun (x1, x2, x3) => (match p37 fuel (x1, x2) with | some z4 => (bif (!decide (z4.1 = (0 : Int))) then (some z4.1) else (bif x3 then (bif z4.2.2.2.2.2.1 then none else (j18b_0 fuel (fun x7 => (j18b_1 fuel x7)) (false, z4.2))) else (j18b_0 fuel (fun x8 => (j18b_1 fuel x8)) (false, z4.2)))) | none => none)
def F18b (fuel : Nat) : Fun := funOfA fi18b al18b (p18b fuel)
theorem run18b (fuel : Nat) : ∀ y : (Int × (Int × ((List Int) × (Int × (Int × (Bool × ((List (ByteArray × ByteArray)) × (List Int))))))) × Bool), runF Int T (fns18b fuel) fuel (subsOf [sub18b_0 fuel Int, sub18b_1 fuel Int]) (defOf Try.f18 an18b 2 [] []) (fi18b.vs y) (fi18b.os y) (altsDec al18b) = p18b fuel y := by
  rintro ⟨x1, x2, x3⟩
  kernel_rfl
theorem ok18b (fuel : Nat) : FunOk P 18 (funOfA fi18b al18b (p18b fuel)) :=
  funOfA_ok (subs := (subsOf [sub18b_0 fuel Int, sub18b_1 fuel Int])) (an := an18b) (room := 2) (ks := []) (g0 := []) (fuel := fuel) T_ok (fnsOk18b fuel) mixed (fn := Try.f18) (by kernel_rfl) (by kernel_rfl) (subsOk_cons (subOk18b_0 fuel _) (subsOk_cons (subOk18b_1 fuel _) subsOk_nil)) (by kernel_rfl) (fun _ => ⟨by kernel_rfl, by kernel_rfl⟩) (run18b fuel)

-- f29: (*tontine/store.Store).Recover
def fns29 (fuel : Nat) : Fns := fnsOf [(47, F47 fuel)]
theorem fnsOk29 (fuel : Nat) : FnsOk P (fns29 fuel) := (fnsOk_cons (ok47 fuel) fnsOk_nil)
def fi29 : Fr := ⟨[.c .nilp, .d false (.int .i64), .d false (.int .i64), .d true (.arr 4 (.pair (.int .i64) (.pair (.int .u32) (.pair (.int .u32) (.pair (.slice (.pair (.str) (.str))) (.pair (.slice (.pair (.int .u64) (.pair (.arr 3 (.int .i64)) (.pair (.int .i64) (.pair (.int .u32) (.pair (.bool) (.pair (.slice (.pair (.str) (.str))) (.arr 4 (.int .u32))))))))) (.pair (.arr 4 (.int .u32)) (.slice (.pair (.int .u64) (.int .i64))))))))))], [], 0⟩
def al29 : List (Tm × List To) := [(.d true (.int .i64), [])]
def an29 : AN := (.seq (.region [(0, { touch := [0], ro := false })]) (.seq .leaf (.seq (.block (.seq .leaf (.cond (.seq .leaf (.norm ⟨[8], padK 1 []⟩ (.ret []))) (.seq .leaf (.cond (.seq .leaf .leaf) .leaf))))) (.seq .leaf (.seq (.seq .leaf (.block (.loop ⟨[], []⟩ (.seq .leaf (.seq (.cond .leaf .leaf) (.seq (.block (.seq .leaf (.seq (.seq .leaf (.cond .leaf .leaf)) (.seq (.seq .leaf (.cond (.seq .leaf .leaf) .leaf)) .leaf)))) .leaf)))))) (.seq .leaf (.seq .leaf (.seq .leaf (.seq (.seq .leaf (.block (.loop ⟨[], []⟩ (.seq .leaf (.seq (.cond .leaf .leaf) (.seq (.block (.seq .leaf (.seq .leaf (.seq (.seq .leaf (.cond .leaf .leaf)) (.seq (.seq .leaf (.block (.loop ⟨[], []⟩ (.seq .leaf (.seq (.cond .leaf .leaf) (.seq (.block (.seq .leaf (.seq (.seq .leaf (.cond .leaf .leaf)) .leaf))) .leaf)))))) (.seq .leaf (.seq .leaf (.block (.loop ⟨[], []⟩ (.seq .leaf (.seq (.cond .leaf .leaf) (.seq (.block (.seq .leaf (.seq .leaf (.cond .leaf .leaf)))) .leaf)))))))))))) .leaf)))))) (.seq .leaf (.seq .leaf .leaf)))))))))))
def p29 (fuel : Nat) : (Int × Int × (List (Int × (Int × (Int × ((List (ByteArray × ByteArray)) × ((List (Int × ((List Int) × (Int × (Int × (Bool × ((List (ByteArray × ByteArray)) × (List Int)))))))) × ((List Int) × (List (Int × Int)))))))))) → Option Int := fun (x1, x2, _) => (match p47 fuel (x1, x2) with | some z4 => (bif (!decide (z4 = (0 : Int))) then (some z4) else none) | none => none)
def F29 (fuel : Nat) : Fun := funOfA fi29 al29 (p29 fuel)
theorem run29 (fuel : Nat) : ∀ y : (Int × Int × (List (Int × (Int × (Int × ((List (ByteArray × ByteArray)) × ((List (Int × ((List Int) × (Int × (Int × (Bool × ((List (ByteArray × ByteArray)) × (List Int)))))))) × ((List Int) × (List (Int × Int)))))))))), runF Int T (fns29 fuel) fuel (subsOf []) (defOf Try.f29 an29 1 [] []) (fi29.vs y) (fi29.os y) (altsDec al29) = p29 fuel y := by
  rintro ⟨x1, x2, x3⟩
  kernel_rfl
theorem ok29 (fuel : Nat) : FunOk P 29 (funOfA fi29 al29 (p29 fuel)) :=
  funOfA_ok (subs := (subsOf [])) (an := an29) (room := 1) (ks := []) (g0 := []) (fuel := fuel) T_ok (fnsOk29 fuel) mixed (fn := Try.f29) (by kernel_rfl) (by kernel_rfl) subsOk_nil (by kernel_rfl) (fun _ => ⟨by kernel_rfl, by kernel_rfl⟩) (run29 fuel)

-- f27: (*tontine/store.Store).Install
def fns27 (fuel : Nat) : Fns := fnsOf []
theorem fnsOk27 (fuel : Nat) : FnsOk P (fns27 fuel) := fnsOk_nil
def fi27 : Fr := ⟨[.c .nilp, .d false (.int .i64), .d false (.int .i64), .d true (.pair (.int .i64) (.pair (.int .u32) (.pair (.int .u32) (.pair (.slice (.pair (.str) (.str))) (.pair (.slice (.pair (.int .u64) (.pair (.arr 3 (.int .i64)) (.pair (.int .i64) (.pair (.int .u32) (.pair (.bool) (.pair (.slice (.pair (.str) (.str))) (.arr 4 (.int .u32))))))))) (.pair (.arr 4 (.int .u32)) (.slice (.pair (.int .u64) (.int .i64)))))))))], [], 0⟩
def al27 : List (Tm × List To) := [(.d true (.int .i64), [])]
def an27 : AN := (.seq (.region [(0, { touch := [0], ro := false })]) (.seq (.region [(3, { touch := [1], base := 1, ro := false }), (4, { touch := [1], ro := false })]) (.seq (.block (.seq .leaf (.cond (.seq .leaf (.norm ⟨[8], padK 2 []⟩ (.ret []))) (.seq .leaf (.cond (.seq .leaf .leaf) (.seq .leaf (.cond (.seq .leaf .leaf) .leaf))))))) (.seq .leaf .leaf))))
def p27 (fuel : Nat) : (Int × Int × (Int × (Int × (Int × ((List (ByteArray × ByteArray)) × ((List (Int × ((List Int) × (Int × (Int × (Bool × ((List (ByteArray × ByteArray)) × (List Int)))))))) × ((List Int) × (List (Int × Int))))))))) → Option Int := fun (_, _, _) => (some (1 : Int))
def F27 (fuel : Nat) : Fun := funOfA fi27 al27 (p27 fuel)
theorem run27 (fuel : Nat) : ∀ y : (Int × Int × (Int × (Int × (Int × ((List (ByteArray × ByteArray)) × ((List (Int × ((List Int) × (Int × (Int × (Bool × ((List (ByteArray × ByteArray)) × (List Int)))))))) × ((List Int) × (List (Int × Int))))))))), runF Int T (fns27 fuel) fuel (subsOf []) (defOf Try.f27 an27 2 [] []) (fi27.vs y) (fi27.os y) (altsDec al27) = p27 fuel y := by
  rintro ⟨x1, x2, x3⟩
  kernel_rfl
theorem ok27 (fuel : Nat) : FunOk P 27 (funOfA fi27 al27 (p27 fuel)) :=
  funOfA_ok (subs := (subsOf [])) (an := an27) (room := 2) (ks := []) (g0 := []) (fuel := fuel) T_ok (fnsOk27 fuel) mixed (fn := Try.f27) (by kernel_rfl) (by kernel_rfl) subsOk_nil (by kernel_rfl) (fun _ => ⟨by kernel_rfl, by kernel_rfl⟩) (run27 fuel)

-- f12: tontine/tontinelaw15.StoreNil
noncomputable def fns12 (fuel : Nat) : Fns := fnsOf [(19, F19 fuel), (22, F22 fuel), (26, F26 fuel), (23, F23 fuel), (13, F13 fuel), (17, F17b fuel), (31, F31 fuel), (32, F32 fuel), (18, F18b fuel), (29, F29 fuel), (27, F27 fuel)]
theorem fnsOk12 (fuel : Nat) : FnsOk P (fns12 fuel) := (fnsOk_cons (ok19 fuel) (fnsOk_cons (ok22 fuel) (fnsOk_cons (ok26 fuel) (fnsOk_cons (ok23 fuel) (fnsOk_cons (ok13 fuel) (fnsOk_cons (ok17b fuel) (fnsOk_cons (ok31 fuel) (fnsOk_cons (ok32 fuel) (fnsOk_cons (ok18b fuel) (fnsOk_cons (ok29 fuel) (fnsOk_cons (ok27 fuel) fnsOk_nil)))))))))))
def fi12 : Fr := ⟨[.d true (.pair (.int .u64) (.pair (.arr 3 (.int .i64)) (.pair (.int .i64) (.pair (.int .u32) (.pair (.bool) (.pair (.slice (.pair (.str) (.str))) (.arr 4 (.int .u32)))))))), .d true (.pair (.int .i64) (.pair (.int .u32) (.pair (.int .u32) (.pair (.slice (.pair (.str) (.str))) (.pair (.slice (.pair (.int .u64) (.pair (.arr 3 (.int .i64)) (.pair (.int .i64) (.pair (.int .u32) (.pair (.bool) (.pair (.slice (.pair (.str) (.str))) (.arr 4 (.int .u32))))))))) (.pair (.arr 4 (.int .u32)) (.slice (.pair (.int .u64) (.int .i64)))))))))], [], 0⟩
def al12 : List (Tm × List To) := [(.d true (.bool), [])]
def fx12_0 : Fr := ⟨[.d true (.bool)], [], 7⟩
def fr12_0 : Fr := ⟨[.c (.ptr 0 0 []), .c (.ptr 1 0 []), .c .nilp, .d true (.bool)], [.box (.d true (.pair (.int .u64) (.pair (.arr 3 (.int .i64)) (.pair (.int .i64) (.pair (.int .u32) (.pair (.bool) (.pair (.slice (.pair (.str) (.str))) (.arr 4 (.int .u32))))))))), .box (.d true (.pair (.int .i64) (.pair (.int .u32) (.pair (.int .u32) (.pair (.slice (.pair (.str) (.str))) (.pair (.slice (.pair (.int .u64) (.pair (.arr 3 (.int .i64)) (.pair (.int .i64) (.pair (.int .u32) (.pair (.bool) (.pair (.slice (.pair (.str) (.str))) (.arr 4 (.int .u32))))))))) (.pair (.arr 4 (.int .u32)) (.slice (.pair (.int .u64) (.int .i64))))))))))], 5⟩
noncomputable def c12_0 : Code := bodyAt Try.f12 [1, 1, 1, 1, 1, 1, 1]
noncomputable def j12_0 (fuel : Nat) {R : Type} (k0 : Bool → Option R) : (Bool × (Int × ((List Int) × (Int × (Int × (Bool × ((List (ByteArray × ByteArray)) × (List Int))))))) × (Int × (Int × (Int × ((List (ByteArray × ByteArray)) × ((List (Int × ((List Int) × (Int × (Int × (Bool × ((List (ByteArray × ByteArray)) × (List Int)))))))) × ((List Int) × (List (Int × Int))))))))) → Option R := fun (x7, x8, x9) => (match p13 fuel () with | some z10 => (bif z10 then (bif x7 then (match p17b fuel ((0 : Int), (0 : Int), (1 : Int), true) with | some z11 => (bif (decide (z11 = (1 : Int))) then (match p31 fuel ((0 : Int), (0 : Int)) with | some z12 => (bif (decide (z12 = (1 : Int))) then (match p32 fuel ((0 : Int), (0 : Int)) with | some z13 => (bif (decide (z13 = (0 : Int))) then (match p18b fuel ((0 : Int), x8, true) with | some z14 => (bif (decide (z14 = (1 : Int))) then (match p29 fuel ((0 : Int), (0 : Int), [x9, x9, x9, x9]) with | some z15 => (bif (decide (z15 = (1 : Int))) then (match p27 fuel ((0 : Int), (0 : Int), x9) with | some z16 => (k0 (decide (z16 = (1 : Int)))) | none => none) else (k0 false)) | none => none) else (k0 false)) | none => none) else (k0 false)) | none => none) else (k0 false)) | none => none) else (k0 false)) | none => none) else (k0 false)) else (k0 false)) | none => none)
def al12_0 : AN := (.seq (.region [(21, { touch := [0] }), (27, { touch := [1] }), (28, { touch := [1] }), (29, { touch := [1] }), (30, { touch := [1] }), (37, { touch := [1] })]) (.norm ⟨[4], padK 7 []⟩ (.ret [])))
theorem u12_0 (fuel : Nat) {R : Type} (k : AExit → St → Option R) : ∀ x : (Bool × (Int × ((List Int) × (Int × (Int × (Bool × ((List (ByteArray × ByteArray)) × (List Int))))))) × (Int × (Int × (Int × ((List (ByteArray × ByteArray)) × ((List (Int × ((List Int) × (Int × (Int × (Bool × ((List (ByteArray × ByteArray)) × (List Int)))))))) × ((List Int) × (List (Int × Int))))))))), runK R T (fns12 fuel) fuel [] (subsOf []) (partOf c12_0 al12_0) (fr12_0.st [2, 3, 5, 14] x) k = j12_0 fuel (fun y => k (.ret []) (fx12_0.st [4] y)) x := by
  rintro ⟨x7, x8, x9⟩
  kernel_rfl
noncomputable def sub12_0 (fuel : Nat) (R : Type) : Sub R := Sub.of [2, 3, 5, 14] c12_0 fr12_0 fun x k => j12_0 fuel (fun y => k (.ret []) (fx12_0.st [4] y)) x
theorem subOk12_0 (fuel : Nat) (R : Type) : SubOk P [] 95 (sub12_0 fuel R) :=
  subOk_part (fns := (fns12 fuel)) (fuel := fuel) (subs := (subsOf [])) (an := al12_0) T_ok (fnsOk12 fuel) mixed subsOk_nil (by kernel_rfl) (by kernel_rfl) fun _ _ _ _ h => Sub.of_run (fun (x : (Bool × (Int × ((List Int) × (Int × (Int × (Bool × ((List (ByteArray × ByteArray)) × (List Int))))))) × (Int × (Int × (Int × ((List (ByteArray × ByteArray)) × ((List (Int × ((List Int) × (Int × (Int × (Bool × ((List (ByteArray × ByteArray)) × (List Int)))))))) × ((List Int) × (List (Int × Int)))))))))) k => u12_0 fuel k x) h
def an12 : AN := (.seq (.region [(0, { touch := [2], base := 2, ro := false }), (1, { touch := [3], base := 3, ro := false })]) (.seq .leaf (.seq (.region [(5, { touch := [4], base := 4, ro := false }), (6, { touch := [4], ro := false })]) (.seq (.region [(1, { touch := [2] })]) (.seq (.region [(5, { touch := [5], base := 5, ro := false }), (6, { touch := [5], ro := false })]) (.seq (.region [(5, { touch := [6], base := 6, ro := false }), (6, { touch := [6], ro := false })]) (.seq .leaf (.hole ⟨[2, 3, 5, 14], padK 5 [some (2, 0), some (3, 0)]⟩ 0))))))))
noncomputable def p12 (fuel : Nat) : ((Int × ((List Int) × (Int × (Int × (Bool × ((List (ByteArray × ByteArray)) × (List Int))))))) × (Int × (Int × (Int × ((List (ByteArray × ByteArray)) × ((List (Int × ((List Int) × (Int × (Int × (Bool × ((List (ByteArray × ByteArray)) × (List Int)))))))) × ((List Int) × (List (Int × Int))))))))) → Option Bool := fun (x1, x2) => (match p19 fuel ((0 : Int), (0 : Int)) with | some z3 => (match p22 fuel ((0 : Int), x1) with | some z4 => (match p26 fuel ((0 : Int), (0 : Int), (1 : Int), (1 : Int)) with | some z5 => (match p23 fuel ((0 : Int), (0 : Int)) with | some z6 => (bif (decide (z3.2.2.2 = (1 : Int))) then (bif (decide (z4.2 = (1 : Int))) then (bif (decide (z5.2.2.2.2 = (1 : Int))) then (bif (decide (z6.2.2.2.2 = (1 : Int))) then (j12_0 fuel (fun x17 => (some x17)) ((decide (z4.1 = (0 : Int))), x1, x2)) else (j12_0 fuel (fun x18 => (some x18)) (false, x1, x2))) else (j12_0 fuel (fun x19 => (some x19)) (false, x1, x2))) else (j12_0 fuel (fun x20 => (some x20)) (false, x1, x2))) else (j12_0 fuel (fun x21 => (some x21)) (false, x1, x2))) | none => none) | none => none) | none => none) | none => none)
noncomputable def F12 (fuel : Nat) : Fun := funOfA fi12 al12 (p12 fuel)
theorem run12 (fuel : Nat) : ∀ y : ((Int × ((List Int) × (Int × (Int × (Bool × ((List (ByteArray × ByteArray)) × (List Int))))))) × (Int × (Int × (Int × ((List (ByteArray × ByteArray)) × ((List (Int × ((List Int) × (Int × (Int × (Bool × ((List (ByteArray × ByteArray)) × (List Int)))))))) × ((List Int) × (List (Int × Int))))))))), runF Bool T (fns12 fuel) fuel (subsOf [sub12_0 fuel Bool]) (defOf Try.f12 an12 7 [] []) (fi12.vs y) (fi12.os y) (altsDec al12) = p12 fuel y := by
  rintro ⟨x1, x2⟩
  kernel_rfl
theorem ok12 (fuel : Nat) : FunOk P 12 (funOfA fi12 al12 (p12 fuel)) :=
  funOfA_ok (subs := (subsOf [sub12_0 fuel Bool])) (an := an12) (room := 7) (ks := []) (g0 := []) (fuel := fuel) T_ok (fnsOk12 fuel) mixed (fn := Try.f12) (by kernel_rfl) (by kernel_rfl) (subsOk_cons (subOk12_0 fuel _) subsOk_nil) (by kernel_rfl) (fun _ => ⟨by kernel_rfl, by kernel_rfl⟩) (run12 fuel)

end Go.Am.Ytkfmnkpajjnpoaa
