/- Printed by gen2.py: functions as plain Lean functions, each with its equality with the machine run. -/
import Derived.Test.YtbbbdckbcicmbaaProg
import Derived.Test.YtbbbdckbcicmbaaAmZC
namespace Go.Am.Ytbbbdckbcicmbaa
open Go.Proofs
noncomputable abbrev P : Program := Try.prog
noncomputable def td3 : TD := { und := .int .i64, size := 1, bytes := 8, zero := (.dat true (.int .i64) ((0 : Int) : Int)), cmp := true }
theorem tdOk3 : TdOk P 3 td3 := tdOk_of (i := infoAt P 3) (cs := cellsOfTD td3) (by kernel_rfl) (by kernel_rfl) (by kernel_rfl) (by kernel_rfl) (show P.underlying 3 = some (.int .i64) by kernel_rfl) (fun _ => ⟨by kernel_rfl, by kernel_rfl⟩)
noncomputable def td4 : TD := { und := .bool, size := 1, bytes := 1, zero := (.dat true (.bool) (false : Bool)), cmp := true }
theorem tdOk4 : TdOk P 4 td4 := tdOk_of (i := infoAt P 4) (cs := cellsOfTD td4) (by kernel_rfl) (by kernel_rfl) (by kernel_rfl) (by kernel_rfl) (show P.underlying 4 = some .bool by kernel_rfl) (fun _ => ⟨by kernel_rfl, by kernel_rfl⟩)
noncomputable def td5 : TD := { und := .int .u8, size := 1, bytes := 1, zero := (.dat true (.int .u8) ((0 : Int) : Int)), cmp := true }
theorem tdOk5 : TdOk P 5 td5 := tdOk_of (i := infoAt P 5) (cs := cellsOfTD td5) (by kernel_rfl) (by kernel_rfl) (by kernel_rfl) (by kernel_rfl) (show P.underlying 5 = some (.int .u8) by kernel_rfl) (fun _ => ⟨by kernel_rfl, by kernel_rfl⟩)
noncomputable def td9 : TD := { und := .str, size := 1, bytes := 16, zero := (.dat true (.str) (ByteArray.empty : ByteArray)), cmp := true }
theorem tdOk9 : TdOk P 9 td9 := tdOk_of (i := infoAt P 9) (cs := cellsOfTD td9) (by kernel_rfl) (by kernel_rfl) (by kernel_rfl) (by kernel_rfl) (show P.underlying 9 = some .string by kernel_rfl) (fun _ => ⟨by kernel_rfl, by kernel_rfl⟩)
noncomputable def td22 : TD := { und := .slice 9, size := 1, bytes := 24, zero := .nils, cmp := false }
theorem tdOk22 : TdOk P 22 td22 := tdOk_of (i := infoAt P 22) (cs := cellsOfTD td22) (by kernel_rfl) (by kernel_rfl) (by kernel_rfl) (by kernel_rfl) (show P.underlying 22 = some (.slice 9) by kernel_rfl) (fun h => by cases h)
noncomputable def td24 : TD := { und := .int .i64, size := 1, bytes := 8, zero := (.dat true (.int .i64) ((0 : Int) : Int)), cmp := true }
theorem tdOk24 : TdOk P 24 td24 := tdOk_of (i := infoAt P 24) (cs := cellsOfTD td24) (by kernel_rfl) (by kernel_rfl) (by kernel_rfl) (by kernel_rfl) (show P.underlying 24 = some (.int .i64) by kernel_rfl) (fun _ => ⟨by kernel_rfl, by kernel_rfl⟩)
noncomputable def td28 : TD := { und := .slice 3, size := 1, bytes := 24, zero := .nils, cmp := false }
theorem tdOk28 : TdOk P 28 td28 := tdOk_of (i := infoAt P 28) (cs := cellsOfTD td28) (by kernel_rfl) (by kernel_rfl) (by kernel_rfl) (by kernel_rfl) (show P.underlying 28 = some (.slice 3) by kernel_rfl) (fun h => by cases h)
noncomputable def td34 : TD := { und := .int .i64, size := 1, bytes := 8, zero := (.dat true (.int .i64) ((0 : Int) : Int)), cmp := true }
theorem tdOk34 : TdOk P 34 td34 := tdOk_of (i := infoAt P 34) (cs := cellsOfTD td34) (by kernel_rfl) (by kernel_rfl) (by kernel_rfl) (by kernel_rfl) (show P.underlying 34 = some (.int .i64) by kernel_rfl) (fun _ => ⟨by kernel_rfl, by kernel_rfl⟩)
noncomputable def td36 : TD := { und := .struct [(0, 34), (1, 3), (2, 3), (3, 3)], size := 4, bytes := 32, zero := (.dat true (.pair (.int .i64) (.pair (.int .i64) (.pair (.int .i64) (.int .i64)))) (((0 : Int), ((0 : Int), ((0 : Int), (0 : Int)))) : (Int × (Int × (Int × Int))))), cmp := true }
theorem tdOk36 : TdOk P 36 td36 := tdOk_of (i := infoAt P 36) (cs := cellsOfTD td36) (by kernel_rfl) (by kernel_rfl) (by kernel_rfl) (by kernel_rfl) (undStruct (fieldsAt P 36) (by kernel_rfl) (by kernel_rfl) (by kernel_rfl)) (fun _ => ⟨by kernel_rfl, by kernel_rfl⟩)
noncomputable def td55 : TD := { und := .other, size := 1, bytes := 8, zero := .nilf, cmp := false }
theorem tdOk55 : TdOk P 55 td55 := tdOk_of (i := infoAt P 55) (cs := cellsOfTD td55) (by kernel_rfl) (by kernel_rfl) (by kernel_rfl) (by kernel_rfl) (⟨descAt P 55, by kernel_rfl, by kernel_rfl⟩) (fun h => by cases h)
noncomputable def T : Tbl := tblOf [(3, td3), (4, td4), (5, td5), (9, td9), (22, td22), (24, td24), (28, td28), (34, td34), (36, td36), (55, td55)]
theorem T_ok : TblOk P T := (tblOk_cons tdOk3 (tblOk_cons tdOk4 (tblOk_cons tdOk5 (tblOk_cons tdOk9 (tblOk_cons tdOk22 (tblOk_cons tdOk24 (tblOk_cons tdOk28 (tblOk_cons tdOk34 (tblOk_cons tdOk36 (tblOk_cons tdOk55 tblOk_nil))))))))))
theorem mixed : P.follows .mixedOrders = true := by kernel_rfl

-- f35: tontine/balance.fair$1
def fns35 (fuel : Nat) : Fns := fnsOf []
theorem fnsOk35 (fuel : Nat) : FnsOk P (fns35 fuel) := fnsOk_nil
def fi35 : Fr := ⟨[.d false (.int .i64)], [], 0⟩
def al35 : List (Tm × List To) := [(.d true (.bool), [])]
def an35 : AN := (.seq .leaf (.seq .leaf (.norm ⟨[2], padK 0 []⟩ (.ret []))))
def p35 (fuel : Nat) : Int → Option Bool := fun x1 => (bif (decide (x1 < (0 : Int))) then (some true) else (some (decide ((2147483647 : Int) < x1))))
def F35 (fuel : Nat) : Fun := funOfA fi35 al35 (p35 fuel)
theorem run35 (fuel : Nat) : ∀ y : Int, runF Bool T (fns35 fuel) fuel (subsOf []) (defOf Try.f35 an35 0 [] []) (fi35.vs y) (fi35.os y) (altsDec al35) = p35 fuel y := by
  rintro x1
  kernel_rfl
theorem ok35 (fuel : Nat) : FunOk P 35 (funOfA fi35 al35 (p35 fuel)) :=
  funOfA_ok (subs := (subsOf [])) (an := an35) (room := 0) (ks := []) (g0 := []) (fuel := fuel) T_ok (fnsOk35 fuel) mixed (fn := Try.f35) (by kernel_rfl) (by kernel_rfl) subsOk_nil (by kernel_rfl) (fun _ => ⟨by kernel_rfl, by kernel_rfl⟩) (run35 fuel)

-- f36: slices.IndexFunc[[]int,int]
def fns36 (fuel : Nat) : Fns := fnsOf [(35, F35 fuel)]
theorem fnsOk36 (fuel : Nat) : FnsOk P (fns36 fuel) := (fnsOk_cons (ok35 fuel) fnsOk_nil)
def fi36 : Fr := ⟨[.d false (.slice (.int .i64)), .c (.fn 35 .nil)], [], 0⟩
def al36 : List (Tm × List To) := [(.d true (.int .i64), [])]
def fx36_0 : Fr := ⟨[.d true (.int .i64)], [], 0⟩
def fx36_1 : Fr := ⟨[], [], 0⟩
def fr36_0 : Fr := ⟨[.d false (.slice (.int .i64)), .c (.fn 35 .nil), .d true (.int .i64), .d true (.int .i64)], [], 0⟩
noncomputable def c36_0 : Code := bodyAt Try.f36 [1, 0, 1, 0]
def s36_0 (fuel : Nat) {R : Type} (F : ((List Int) × Int × Int) → Option R) (k0 : Int → Option R) (k1 : Unit → Option R) : ((List Int) × Int × Int) → Option R := fun (x2, x3, x4) => (bif (decide (x4 < x3)) then (if 0 ≤ x4 then (match (x2)[Int.toNat x4]? with | some y5 => (match p35 fuel y5 with | some z6 => (bif z6 then (k0 x4) else (F (x2, x3, (IntKind.wrap .i64 (x4 + (1 : Int)))))) | none => none) | none => none) else none) else (k1 ()))
def l36_0 (fuel : Nat) {R : Type} (k0 : Int → Option R) (k1 : Unit → Option R) : Nat → ((List Int) × Int × Int) → Option R
  | 0, _ => none
  | n + 1, x => s36_0 fuel (l36_0 fuel k0 k1 n) k0 k1 x
def nm36_0 : Norm := ⟨[0, 1, 7, 8], padK 0 []⟩
def an36_0 : AN := (.seq .leaf (.seq (.cond .leaf (.norm ⟨[], padK 0 []⟩ .leaf)) (.seq (.block (.seq .leaf (.seq .leaf (.cond (.seq .leaf (.norm ⟨[4], padK 0 []⟩ (.ret []))) .leaf)))) .leaf)))
def al36_0 : AN := .loop nm36_0 an36_0
noncomputable def d36_0 : Code := bodyAt Try.f36 [1, 0, 1, 0, 0]
theorem e36_0 (fuel : Nat) {R : Type} (F : St → Option R) (k : AExit → St → Option R) : ∀ x : ((List Int) × Int × Int), runK R T (fns36 fuel) fuel [] (subsOf []) (partOf d36_0 an36_0) (fr36_0.st [0, 1, 7, 8] x) (backTo R [] nm36_0 F k) = s36_0 fuel (fun x => F (fr36_0.st [0, 1, 7, 8] x)) (fun y => k (.ret []) (fx36_0.st [4] y)) (fun y => k (.exit 0) (fx36_1.st [] y)) x := by
  rintro ⟨x2, x3, x4⟩
  kernel_rfl
theorem u36_0 (fuel : Nat) {R : Type} (k : AExit → St → Option R) (x : ((List Int) × Int × Int)) : runK R T (fns36 fuel) fuel [] (subsOf []) (partOf c36_0 al36_0) (fr36_0.st [0, 1, 7, 8] x) k = l36_0 fuel (fun y => k (.ret []) (fx36_0.st [4] y)) (fun y => k (.exit 0) (fx36_1.st [] y)) fuel x :=
  loop_eq (mk := fr36_0.st [0, 1, 7, 8]) (s := fun F x => s36_0 fuel F (fun y => k (.ret []) (fx36_0.st [4] y)) (fun y => k (.exit 0) (fx36_1.st [] y)) x) (l := fun n x => l36_0 fuel (fun y => k (.ret []) (fx36_0.st [4] y)) (fun y => k (.exit 0) (fx36_1.st [] y)) n x) (d := d36_0) (by kernel_rfl) (fun G x => by
    revert x
    rintro ⟨x2, x3, x4⟩
    kernel_rfl) (fun F x => e36_0 fuel F k x) (fun _ => rfl) (fun _ _ => rfl) x
noncomputable def sub36_0 (fuel : Nat) (R : Type) : Sub R := Sub.of [0, 1, 7, 8] c36_0 fr36_0 fun x k => l36_0 fuel (fun y => k (.ret []) (fx36_0.st [4] y)) (fun y => k (.exit 0) (fx36_1.st [] y)) fuel x
theorem subOk36_0 (fuel : Nat) (R : Type) : SubOk P [] 19 (sub36_0 fuel R) :=
  subOk_part (fns := (fns36 fuel)) (fuel := fuel) (subs := (subsOf [])) (an := al36_0) T_ok (fnsOk36 fuel) mixed subsOk_nil (by kernel_rfl) (by kernel_rfl) fun _ _ _ _ h => Sub.of_run (fun (x : ((List Int) × Int × Int)) k => u36_0 fuel k x) h
def an36 : AN := (.seq .leaf (.seq (.seq .leaf (.block (.hole ⟨[0, 1, 7, 8], padK 0 []⟩ 0))) (.seq .leaf (.norm ⟨[4], padK 0 []⟩ (.ret [])))))
def p36 (fuel : Nat) : (List Int) → Option Int := fun x1 => (l36_0 fuel (fun x7 => (some x7)) (fun _ => (some (-1 : Int))) fuel (x1, ((List.length x1 : Nat) : Int), (0 : Int)))
def F36 (fuel : Nat) : Fun := funOfA fi36 al36 (p36 fuel)
theorem run36 (fuel : Nat) : ∀ y : (List Int), runF Int T (fns36 fuel) fuel (subsOf [sub36_0 fuel Int]) (defOf Try.f36 an36 0 [] []) (fi36.vs y) (fi36.os y) (altsDec al36) = p36 fuel y := by
  rintro x1
  kernel_rfl
theorem ok36 (fuel : Nat) : FunOk P 36 (funOfA fi36 al36 (p36 fuel)) :=
  funOfA_ok (subs := (subsOf [sub36_0 fuel Int])) (an := an36) (room := 0) (ks := []) (g0 := []) (fuel := fuel) T_ok (fnsOk36 fuel) mixed (fn := Try.f36) (by kernel_rfl) (by kernel_rfl) (subsOk_cons (subOk36_0 fuel _) subsOk_nil) (by kernel_rfl) (fun _ => ⟨by kernel_rfl, by kernel_rfl⟩) (run36 fuel)

-- f34: slices.ContainsFunc[[]int,int]
def fns34 (fuel : Nat) : Fns := fnsOf [(36, F36 fuel)]
theorem fnsOk34 (fuel : Nat) : FnsOk P (fns34 fuel) := (fnsOk_cons (ok36 fuel) fnsOk_nil)
def fi34 : Fr := ⟨[.d false (.slice (.int .i64)), .c (.fn 35 .nil)], [], 0⟩
def al34 : List (Tm × List To) := [(.d true (.bool), [])]
def an34 : AN := (.seq .leaf (.seq .leaf (.norm ⟨[4], padK 0 []⟩ (.ret []))))
def p34 (fuel : Nat) : (List Int) → Option Bool := fun x1 => (match p36 fuel x1 with | some z2 => (some (decide ((0 : Int) ≤ z2))) | none => none)
def F34 (fuel : Nat) : Fun := funOfA fi34 al34 (p34 fuel)
theorem run34 (fuel : Nat) : ∀ y : (List Int), runF Bool T (fns34 fuel) fuel (subsOf []) (defOf Try.f34 an34 0 [] []) (fi34.vs y) (fi34.os y) (altsDec al34) = p34 fuel y := by
  rintro x1
  kernel_rfl
theorem ok34 (fuel : Nat) : FunOk P 34 (funOfA fi34 al34 (p34 fuel)) :=
  funOfA_ok (subs := (subsOf [])) (an := an34) (room := 0) (ks := []) (g0 := []) (fuel := fuel) T_ok (fnsOk34 fuel) mixed (fn := Try.f34) (by kernel_rfl) (by kernel_rfl) subsOk_nil (by kernel_rfl) (fun _ => ⟨by kernel_rfl, by kernel_rfl⟩) (run34 fuel)

-- f22: tontine/balance.fair
def fns22 (fuel : Nat) : Fns := fnsOf [(34, F34 fuel)]
theorem fnsOk22 (fuel : Nat) : FnsOk P (fns22 fuel) := (fnsOk_cons (ok34 fuel) fnsOk_nil)
def fi22 : Fr := ⟨[.d false (.slice (.int .i64)), .d false (.int .i64), .d false (.int .i64)], [], 0⟩
def al22 : List (Tm × List To) := [(.d true (.bool), [])]
def an22 : AN := (.seq .leaf (.seq .leaf (.norm ⟨[6], padK 0 []⟩ (.ret []))))
def p22 (fuel : Nat) : ((List Int) × Int × Int) → Option Bool := fun (x1, x2, x3) => (bif (decide (x2 ≤ ((List.length x1 : Nat) : Int))) then (bif (decide (((List.length x1 : Nat) : Int) ≤ x3)) then (match p34 fuel x1 with | some z4 => (some (!z4)) | none => none) else (some false)) else (some false))
def F22 (fuel : Nat) : Fun := funOfA fi22 al22 (p22 fuel)
theorem run22 (fuel : Nat) : ∀ y : ((List Int) × Int × Int), runF Bool T (fns22 fuel) fuel (subsOf []) (defOf Try.f22 an22 0 [] []) (fi22.vs y) (fi22.os y) (altsDec al22) = p22 fuel y := by
  rintro ⟨x1, x2, x3⟩
  kernel_rfl
theorem ok22 (fuel : Nat) : FunOk P 22 (funOfA fi22 al22 (p22 fuel)) :=
  funOfA_ok (subs := (subsOf [])) (an := an22) (room := 0) (ks := []) (g0 := []) (fuel := fuel) T_ok (fnsOk22 fuel) mixed (fn := Try.f22) (by kernel_rfl) (by kernel_rfl) subsOk_nil (by kernel_rfl) (fun _ => ⟨by kernel_rfl, by kernel_rfl⟩) (run22 fuel)

-- f25: slices.Max[[]int,int]
def fns25 (fuel : Nat) : Fns := fnsOf []
theorem fnsOk25 (fuel : Nat) : FnsOk P (fns25 fuel) := fnsOk_nil
def fi25 : Fr := ⟨[.d false (.slice (.int .i64))], [], 0⟩
def al25 : List (Tm × List To) := [(.d true (.int .i64), [])]
def fx25_0 : Fr := ⟨[.d true (.int .i64)], [], 0⟩
def fr25_0 : Fr := ⟨[.d false (.slice (.int .i64)), .d true (.int .i64), .d true (.int .i64)], [], 0⟩
noncomputable def c25_0 : Code := bodyAt Try.f25 [1, 1, 1, 0, 1, 0]
def s25_0 (fuel : Nat) {R : Type} (F : ((List Int) × Int × Int) → Option R) (k0 : Int → Option R) : ((List Int) × Int × Int) → Option R := fun (x3, x4, x5) => (bif (decide (x5 < ((List.length x3 : Nat) : Int))) then (if 0 ≤ x5 then (match (x3)[Int.toNat x5]? with | some y6 => (F (x3, (if x4 < y6 then y6 else x4), (IntKind.wrap .i64 (x5 + (1 : Int))))) | none => none) else none) else (k0 x4))
def l25_0 (fuel : Nat) {R : Type} (k0 : Int → Option R) : Nat → ((List Int) × Int × Int) → Option R
  | 0, _ => none
  | n + 1, x => s25_0 fuel (l25_0 fuel k0 n) k0 x
def nm25_0 : Norm := ⟨[0, 3, 4], padK 0 []⟩
def an25_0 : AN := (.seq (.seq .leaf (.cond .leaf (.norm ⟨[3], padK 0 []⟩ .leaf))) (.seq (.block .leaf) .leaf))
def al25_0 : AN := .loop nm25_0 an25_0
noncomputable def d25_0 : Code := bodyAt Try.f25 [1, 1, 1, 0, 1, 0, 0]
theorem e25_0 (fuel : Nat) {R : Type} (F : St → Option R) (k : AExit → St → Option R) : ∀ x : ((List Int) × Int × Int), runK R T (fns25 fuel) fuel [] (subsOf []) (partOf d25_0 an25_0) (fr25_0.st [0, 3, 4] x) (backTo R [] nm25_0 F k) = s25_0 fuel (fun x => F (fr25_0.st [0, 3, 4] x)) (fun y => k (.exit 0) (fx25_0.st [3] y)) x := by
  rintro ⟨x3, x4, x5⟩
  kernel_rfl
theorem u25_0 (fuel : Nat) {R : Type} (k : AExit → St → Option R) (x : ((List Int) × Int × Int)) : runK R T (fns25 fuel) fuel [] (subsOf []) (partOf c25_0 al25_0) (fr25_0.st [0, 3, 4] x) k = l25_0 fuel (fun y => k (.exit 0) (fx25_0.st [3] y)) fuel x :=
  loop_eq (mk := fr25_0.st [0, 3, 4]) (s := fun F x => s25_0 fuel F (fun y => k (.exit 0) (fx25_0.st [3] y)) x) (l := fun n x => l25_0 fuel (fun y => k (.exit 0) (fx25_0.st [3] y)) n x) (d := d25_0) (by kernel_rfl) (fun G x => by
    revert x
    rintro ⟨x3, x4, x5⟩
    kernel_rfl) (fun F x => e25_0 fuel F k x) (fun _ => rfl) (fun _ _ => rfl) x
noncomputable def sub25_0 (fuel : Nat) (R : Type) : Sub R := Sub.of [0, 3, 4] c25_0 fr25_0 fun x k => l25_0 fuel (fun y => k (.exit 0) (fx25_0.st [3] y)) fuel x
theorem subOk25_0 (fuel : Nat) (R : Type) : SubOk P [] 25 (sub25_0 fuel R) :=
  subOk_part (fns := (fns25 fuel)) (fuel := fuel) (subs := (subsOf [])) (an := al25_0) T_ok (fnsOk25 fuel) mixed subsOk_nil (by kernel_rfl) (by kernel_rfl) fun _ _ _ _ h => Sub.of_run (fun (x : ((List Int) × Int × Int)) k => u25_0 fuel k x) h
def an25 : AN := (.seq .leaf (.seq (.seq .leaf (.cond .leaf .leaf)) (.seq .leaf (.seq (.seq .leaf (.block (.hole ⟨[0, 3, 4], padK 0 []⟩ 0))) (.seq .leaf (.norm ⟨[2], padK 0 []⟩ (.ret [])))))))
def p25 (fuel : Nat) : (List Int) → Option Int := fun x1 => (bif (decide (((List.length x1 : Nat) : Int) < (1 : Int))) then none else (if 0 ≤ (0 : Int) then (match (x1)[Int.toNat (0 : Int)]? with | some y2 => (l25_0 fuel (fun x7 => (some x7)) fuel (x1, y2, (1 : Int))) | none => none) else none))
def F25 (fuel : Nat) : Fun := funOfA fi25 al25 (p25 fuel)
theorem run25 (fuel : Nat) : ∀ y : (List Int), runF Int T (fns25 fuel) fuel (subsOf [sub25_0 fuel Int]) (defOf Try.f25 an25 0 [] []) (fi25.vs y) (fi25.os y) (altsDec al25) = p25 fuel y := by
  rintro x1
  kernel_rfl
theorem ok25 (fuel : Nat) : FunOk P 25 (funOfA fi25 al25 (p25 fuel)) :=
  funOfA_ok (subs := (subsOf [sub25_0 fuel Int])) (an := an25) (room := 0) (ks := []) (g0 := []) (fuel := fuel) T_ok (fnsOk25 fuel) mixed (fn := Try.f25) (by kernel_rfl) (by kernel_rfl) (subsOk_cons (subOk25_0 fuel _) subsOk_nil) (by kernel_rfl) (fun _ => ⟨by kernel_rfl, by kernel_rfl⟩) (run25 fuel)

-- f24: slices.Index[[]int,int]
def fns24 (fuel : Nat) : Fns := fnsOf []
theorem fnsOk24 (fuel : Nat) : FnsOk P (fns24 fuel) := fnsOk_nil
def fi24 : Fr := ⟨[.d false (.slice (.int .i64)), .d false (.int .i64)], [], 0⟩
def al24 : List (Tm × List To) := [(.d true (.int .i64), [])]
def fx24_0 : Fr := ⟨[.d true (.int .i64)], [], 0⟩
def fx24_1 : Fr := ⟨[], [], 0⟩
def fr24_0 : Fr := ⟨[.d false (.slice (.int .i64)), .d true (.int .i64), .d true (.int .i64), .d true (.int .i64)], [], 0⟩
noncomputable def c24_0 : Code := bodyAt Try.f24 [1, 0, 1, 0]
def s24_0 (fuel : Nat) {R : Type} (F : ((List Int) × Int × Int × Int) → Option R) (k0 : Int → Option R) (k1 : Unit → Option R) : ((List Int) × Int × Int × Int) → Option R := fun (x3, x4, x5, x6) => (bif (decide (x6 < x5)) then (if 0 ≤ x6 then (match (x3)[Int.toNat x6]? with | some y7 => (bif (decide (x4 = y7)) then (k0 x6) else (F (x3, x4, x5, (IntKind.wrap .i64 (x6 + (1 : Int)))))) | none => none) else none) else (k1 ()))
def l24_0 (fuel : Nat) {R : Type} (k0 : Int → Option R) (k1 : Unit → Option R) : Nat → ((List Int) × Int × Int × Int) → Option R
  | 0, _ => none
  | n + 1, x => s24_0 fuel (l24_0 fuel k0 k1 n) k0 k1 x
def nm24_0 : Norm := ⟨[0, 1, 7, 8], padK 0 []⟩
def an24_0 : AN := (.seq .leaf (.seq (.cond .leaf (.norm ⟨[], padK 0 []⟩ .leaf)) (.seq (.block (.seq .leaf (.seq .leaf (.cond (.seq .leaf (.norm ⟨[4], padK 0 []⟩ (.ret []))) .leaf)))) .leaf)))
def al24_0 : AN := .loop nm24_0 an24_0
noncomputable def d24_0 : Code := bodyAt Try.f24 [1, 0, 1, 0, 0]
theorem e24_0 (fuel : Nat) {R : Type} (F : St → Option R) (k : AExit → St → Option R) : ∀ x : ((List Int) × Int × Int × Int), runK R T (fns24 fuel) fuel [] (subsOf []) (partOf d24_0 an24_0) (fr24_0.st [0, 1, 7, 8] x) (backTo R [] nm24_0 F k) = s24_0 fuel (fun x => F (fr24_0.st [0, 1, 7, 8] x)) (fun y => k (.ret []) (fx24_0.st [4] y)) (fun y => k (.exit 0) (fx24_1.st [] y)) x := by
  rintro ⟨x3, x4, x5, x6⟩
  kernel_rfl
theorem u24_0 (fuel : Nat) {R : Type} (k : AExit → St → Option R) (x : ((List Int) × Int × Int × Int)) : runK R T (fns24 fuel) fuel [] (subsOf []) (partOf c24_0 al24_0) (fr24_0.st [0, 1, 7, 8] x) k = l24_0 fuel (fun y => k (.ret []) (fx24_0.st [4] y)) (fun y => k (.exit 0) (fx24_1.st [] y)) fuel x :=
  loop_eq (mk := fr24_0.st [0, 1, 7, 8]) (s := fun F x => s24_0 fuel F (fun y => k (.ret []) (fx24_0.st [4] y)) (fun y => k (.exit 0) (fx24_1.st [] y)) x) (l := fun n x => l24_0 fuel (fun y => k (.ret []) (fx24_0.st [4] y)) (fun y => k (.exit 0) (fx24_1.st [] y)) n x) (d := d24_0) (by kernel_rfl) (fun G x => by
    revert x
    rintro ⟨x3, x4, x5, x6⟩
    kernel_rfl) (fun F x => e24_0 fuel F k x) (fun _ => rfl) (fun _ _ => rfl) x
noncomputable def sub24_0 (fuel : Nat) (R : Type) : Sub R := Sub.of [0, 1, 7, 8] c24_0 fr24_0 fun x k => l24_0 fuel (fun y => k (.ret []) (fx24_0.st [4] y)) (fun y => k (.exit 0) (fx24_1.st [] y)) fuel x
theorem subOk24_0 (fuel : Nat) (R : Type) : SubOk P [] 19 (sub24_0 fuel R) :=
  subOk_part (fns := (fns24 fuel)) (fuel := fuel) (subs := (subsOf [])) (an := al24_0) T_ok (fnsOk24 fuel) mixed subsOk_nil (by kernel_rfl) (by kernel_rfl) fun _ _ _ _ h => Sub.of_run (fun (x : ((List Int) × Int × Int × Int)) k => u24_0 fuel k x) h
def an24 : AN := (.seq .leaf (.seq (.seq .leaf (.block (.hole ⟨[0, 1, 7, 8], padK 0 []⟩ 0))) (.seq .leaf (.norm ⟨[4], padK 0 []⟩ (.ret [])))))
def p24 (fuel : Nat) : ((List Int) × Int) → Option Int := fun (x1, x2) => (l24_0 fuel (fun x8 => (some x8)) (fun _ => (some (-1 : Int))) fuel (x1, x2, ((List.length x1 : Nat) : Int), (0 : Int)))
def F24 (fuel : Nat) : Fun := funOfA fi24 al24 (p24 fuel)
theorem run24 (fuel : Nat) : ∀ y : ((List Int) × Int), runF Int T (fns24 fuel) fuel (subsOf [sub24_0 fuel Int]) (defOf Try.f24 an24 0 [] []) (fi24.vs y) (fi24.os y) (altsDec al24) = p24 fuel y := by
  rintro ⟨x1, x2⟩
  kernel_rfl
theorem ok24 (fuel : Nat) : FunOk P 24 (funOfA fi24 al24 (p24 fuel)) :=
  funOfA_ok (subs := (subsOf [sub24_0 fuel Int])) (an := an24) (room := 0) (ks := []) (g0 := []) (fuel := fuel) T_ok (fnsOk24 fuel) mixed (fn := Try.f24) (by kernel_rfl) (by kernel_rfl) (subsOk_cons (subOk24_0 fuel _) subsOk_nil) (by kernel_rfl) (fun _ => ⟨by kernel_rfl, by kernel_rfl⟩) (run24 fuel)

-- f26: slices.Min[[]int,int]
def fns26 (fuel : Nat) : Fns := fnsOf []
theorem fnsOk26 (fuel : Nat) : FnsOk P (fns26 fuel) := fnsOk_nil
def fi26 : Fr := ⟨[.d false (.slice (.int .i64))], [], 0⟩
def al26 : List (Tm × List To) := [(.d true (.int .i64), [])]
def fx26_0 : Fr := ⟨[.d true (.int .i64)], [], 0⟩
def fr26_0 : Fr := ⟨[.d false (.slice (.int .i64)), .d true (.int .i64), .d true (.int .i64)], [], 0⟩
noncomputable def c26_0 : Code := bodyAt Try.f26 [1, 1, 1, 0, 1, 0]
def s26_0 (fuel : Nat) {R : Type} (F : ((List Int) × Int × Int) → Option R) (k0 : Int → Option R) : ((List Int) × Int × Int) → Option R := fun (x3, x4, x5) => (bif (decide (x5 < ((List.length x3 : Nat) : Int))) then (if 0 ≤ x5 then (match (x3)[Int.toNat x5]? with | some y6 => (F (x3, (if y6 < x4 then y6 else x4), (IntKind.wrap .i64 (x5 + (1 : Int))))) | none => none) else none) else (k0 x4))
def l26_0 (fuel : Nat) {R : Type} (k0 : Int → Option R) : Nat → ((List Int) × Int × Int) → Option R
  | 0, _ => none
  | n + 1, x => s26_0 fuel (l26_0 fuel k0 n) k0 x
def nm26_0 : Norm := ⟨[0, 3, 4], padK 0 []⟩
def an26_0 : AN := (.seq (.seq .leaf (.cond .leaf (.norm ⟨[3], padK 0 []⟩ .leaf))) (.seq (.block .leaf) .leaf))
def al26_0 : AN := .loop nm26_0 an26_0
noncomputable def d26_0 : Code := bodyAt Try.f26 [1, 1, 1, 0, 1, 0, 0]
theorem e26_0 (fuel : Nat) {R : Type} (F : St → Option R) (k : AExit → St → Option R) : ∀ x : ((List Int) × Int × Int), runK R T (fns26 fuel) fuel [] (subsOf []) (partOf d26_0 an26_0) (fr26_0.st [0, 3, 4] x) (backTo R [] nm26_0 F k) = s26_0 fuel (fun x => F (fr26_0.st [0, 3, 4] x)) (fun y => k (.exit 0) (fx26_0.st [3] y)) x := by
  rintro ⟨x3, x4, x5⟩
  kernel_rfl
theorem u26_0 (fuel : Nat) {R : Type} (k : AExit → St → Option R) (x : ((List Int) × Int × Int)) : runK R T (fns26 fuel) fuel [] (subsOf []) (partOf c26_0 al26_0) (fr26_0.st [0, 3, 4] x) k = l26_0 fuel (fun y => k (.exit 0) (fx26_0.st [3] y)) fuel x :=
  loop_eq (mk := fr26_0.st [0, 3, 4]) (s := fun F x => s26_0 fuel F (fun y => k (.exit 0) (fx26_0.st [3] y)) x) (l := fun n x => l26_0 fuel (fun y => k (.exit 0) (fx26_0.st [3] y)) n x) (d := d26_0) (by kernel_rfl) (fun G x => by
    revert x
    rintro ⟨x3, x4, x5⟩
    kernel_rfl) (fun F x => e26_0 fuel F k x) (fun _ => rfl) (fun _ _ => rfl) x
noncomputable def sub26_0 (fuel : Nat) (R : Type) : Sub R := Sub.of [0, 3, 4] c26_0 fr26_0 fun x k => l26_0 fuel (fun y => k (.exit 0) (fx26_0.st [3] y)) fuel x
theorem subOk26_0 (fuel : Nat) (R : Type) : SubOk P [] 25 (sub26_0 fuel R) :=
  subOk_part (fns := (fns26 fuel)) (fuel := fuel) (subs := (subsOf [])) (an := al26_0) T_ok (fnsOk26 fuel) mixed subsOk_nil (by kernel_rfl) (by kernel_rfl) fun _ _ _ _ h => Sub.of_run (fun (x : ((List Int) × Int × Int)) k => u26_0 fuel k x) h
def an26 : AN := (.seq .leaf (.seq (.seq .leaf (.cond .leaf .leaf)) (.seq .leaf (.seq (.seq .leaf (.block (.hole ⟨[0, 3, 4], padK 0 []⟩ 0))) (.seq .leaf (.norm ⟨[2], padK 0 []⟩ (.ret [])))))))
def p26 (fuel : Nat) : (List Int) → Option Int := fun x1 => (bif (decide (((List.length x1 : Nat) : Int) < (1 : Int))) then none else (if 0 ≤ (0 : Int) then (match (x1)[Int.toNat (0 : Int)]? with | some y2 => (l26_0 fuel (fun x7 => (some x7)) fuel (x1, y2, (1 : Int))) | none => none) else none))
def F26 (fuel : Nat) : Fun := funOfA fi26 al26 (p26 fuel)
theorem run26 (fuel : Nat) : ∀ y : (List Int), runF Int T (fns26 fuel) fuel (subsOf [sub26_0 fuel Int]) (defOf Try.f26 an26 0 [] []) (fi26.vs y) (fi26.os y) (altsDec al26) = p26 fuel y := by
  rintro x1
  kernel_rfl
theorem ok26 (fuel : Nat) : FunOk P 26 (funOfA fi26 al26 (p26 fuel)) :=
  funOfA_ok (subs := (subsOf [sub26_0 fuel Int])) (an := an26) (room := 0) (ks := []) (g0 := []) (fuel := fuel) T_ok (fnsOk26 fuel) mixed (fn := Try.f26) (by kernel_rfl) (by kernel_rfl) (subsOk_cons (subOk26_0 fuel _) subsOk_nil) (by kernel_rfl) (fun _ => ⟨by kernel_rfl, by kernel_rfl⟩) (run26 fuel)

-- f27: tontine/balance.beside
def fns27 (fuel : Nat) : Fns := fnsOf []
theorem fnsOk27 (fuel : Nat) : FnsOk P (fns27 fuel) := fnsOk_nil
def fi27 : Fr := ⟨[.d false (.int .i64), .d false (.int .i64), .d false (.int .i64)], [], 0⟩
def al27 : List (Tm × List To) := [(.d true (.bool), [])]
def an27 : AN := (.seq .leaf (.seq .leaf (.norm ⟨[6], padK 0 []⟩ (.ret []))))
def p27 (fuel : Nat) : (Int × Int × Int) → Option Bool := fun (x1, x2, x3) => (bif (!decide (x1 = x2)) then (if x3 = 0 then none else (bif (decide ((Int.tmod (IntKind.wrap .i64 (x1 + (1 : Int))) x3) = x2)) then (some true) else (if x3 = 0 then none else (some (decide ((Int.tmod (IntKind.wrap .i64 (x2 + (1 : Int))) x3) = x1)))))) else (some false))
def F27 (fuel : Nat) : Fun := funOfA fi27 al27 (p27 fuel)
theorem run27 (fuel : Nat) : ∀ y : (Int × Int × Int), runF Bool T (fns27 fuel) fuel (subsOf []) (defOf Try.f27 an27 0 [] []) (fi27.vs y) (fi27.os y) (altsDec al27) = p27 fuel y := by
  rintro ⟨x1, x2, x3⟩
  kernel_rfl
theorem ok27 (fuel : Nat) : FunOk P 27 (funOfA fi27 al27 (p27 fuel)) :=
  funOfA_ok (subs := (subsOf [])) (an := an27) (room := 0) (ks := []) (g0 := []) (fuel := fuel) T_ok (fnsOk27 fuel) mixed (fn := Try.f27) (by kernel_rfl) (by kernel_rfl) subsOk_nil (by kernel_rfl) (fun _ => ⟨by kernel_rfl, by kernel_rfl⟩) (run27 fuel)

-- f14: tontine/balance.Plan
def fns14 (fuel : Nat) : Fns := fnsOf [(22, F22 fuel), (25, F25 fuel), (24, F24 fuel), (26, F26 fuel), (27, F27 fuel)]
theorem fnsOk14 (fuel : Nat) : FnsOk P (fns14 fuel) := (fnsOk_cons (ok22 fuel) (fnsOk_cons (ok25 fuel) (fnsOk_cons (ok24 fuel) (fnsOk_cons (ok26 fuel) (fnsOk_cons (ok27 fuel) fnsOk_nil)))))
def fi14 : Fr := ⟨[.d false (.slice (.int .i64))], [], 0⟩
def al14 : List (Tm × List To) := [(.tup (.cons (.d true (.pair (.int .i64) (.pair (.int .i64) (.pair (.int .i64) (.int .i64))))) (.cons (.d true (.bool)) (.cons (.d true (.int .i64)) (.c .nil)))), [])]
def fx14_0 : Fr := ⟨[.c (.ptr 0 0 []), .d true (.bool), .d true (.int .i64)], [.box (.d true (.pair (.int .i64) (.pair (.int .i64) (.pair (.int .i64) (.int .i64)))))], 1⟩
def fx14_1 : Fr := ⟨[.d false (.slice (.int .i64)), .c (.ptr 0 0 []), .d true (.int .i64), .d true (.int .i64), .d true (.int .i64)], [.box (.d true (.pair (.int .i64) (.pair (.int .i64) (.pair (.int .i64) (.int .i64)))))], 1⟩
def fr14_0 : Fr := ⟨[.d false (.slice (.int .i64)), .c (.ptr 0 0 []), .d true (.int .i64), .d true (.int .i64), .d true (.int .i64), .d true (.bool)], [.box (.d true (.pair (.int .i64) (.pair (.int .i64) (.pair (.int .i64) (.int .i64)))))], 1⟩
noncomputable def c14_0 : Code := bodyAt Try.f14 [1, 1, 1, 1, 0, 1]
def j14_0 (fuel : Nat) {R : Type} (k0 : (Bool × Int × (Int × (Int × (Int × Int)))) → Option R) (k1 : ((List Int) × Int × Int × Int × (Int × (Int × (Int × Int)))) → Option R) : ((List Int) × Int × Int × Int × Bool × (Int × (Int × (Int × Int)))) → Option R := fun (x10, x11, x12, x13, x14, x15) => (bif x14 then (k0 (false, (0 : Int), ((0 : Int), ((0 : Int), ((0 : Int), (0 : Int)))))) else (k1 (x10, x11, x12, x13, x15)))
def al14_0 : AN := (.fin ⟨[0, 2, 5, 6, 7], padK 1 [some (0, 0)]⟩ (.cond (.seq (.region [(1, { touch := [0], ro := false })]) (.norm ⟨[2, 3, 4], padK 1 [some (0, 0)]⟩ (.ret []))) .leaf))
theorem u14_0 (fuel : Nat) {R : Type} (k : AExit → St → Option R) : ∀ x : ((List Int) × Int × Int × Int × Bool × (Int × (Int × (Int × Int)))), runK R T (fns14 fuel) fuel [] (subsOf []) (partOf c14_0 al14_0) (fr14_0.st [0, 2, 5, 6, 7, 44] x) k = j14_0 fuel (fun y => k (.ret []) (fx14_0.st [2, 3, 4] y)) (fun y => k .normal (fx14_1.st [0, 2, 5, 6, 7] y)) x := by
  rintro ⟨x10, x11, x12, x13, x14, x15⟩
  kernel_rfl
noncomputable def sub14_0 (fuel : Nat) (R : Type) : Sub R := Sub.of [0, 2, 5, 6, 7, 44] c14_0 fr14_0 fun x k => j14_0 fuel (fun y => k (.ret []) (fx14_0.st [2, 3, 4] y)) (fun y => k .normal (fx14_1.st [0, 2, 5, 6, 7] y)) x
theorem subOk14_0 (fuel : Nat) (R : Type) : SubOk P [] 124 (sub14_0 fuel R) :=
  subOk_part (fns := (fns14 fuel)) (fuel := fuel) (subs := (subsOf [])) (an := al14_0) T_ok (fnsOk14 fuel) mixed subsOk_nil (by kernel_rfl) (by kernel_rfl) fun _ _ _ _ h => Sub.of_run (fun (x : ((List Int) × Int × Int × Int × Bool × (Int × (Int × (Int × Int))))) k => u14_0 fuel k x) h
def fx14_2 : Fr := ⟨[.c (.ptr 0 0 [])], [.box (.d true (.pair (.int .i64) (.pair (.int .i64) (.pair (.int .i64) (.int .i64)))))], 1⟩
def fr14_1 : Fr := ⟨[.d false (.slice (.int .i64)), .c (.ptr 0 0 []), .d true (.int .i64), .d true (.int .i64), .d true (.bool)], [.box (.d true (.pair (.int .i64) (.pair (.int .i64) (.pair (.int .i64) (.int .i64)))))], 1⟩
noncomputable def c14_1 : Code := bodyAt Try.f14 [1, 1, 1, 1, 1, 1, 1, 1, 0, 1]
def j14_1 (fuel : Nat) {R : Type} (k0 : (Bool × Int × (Int × (Int × (Int × Int)))) → Option R) (k1 : (Int × (Int × (Int × Int))) → Option R) : ((List Int) × Int × Int × Bool × (Int × (Int × (Int × Int)))) → Option R := fun (x64, x65, x66, x67, x68) => (bif x67 then (if 0 ≤ x65 then (match (x64)[Int.toNat x65]? with | some y69 => (k0 (true, (0 : Int), ((2 : Int), (x65, (x66, (IntKind.wrap .i64 (Int.tdiv y69 (2 : Int)))))))) | none => none) else none) else (k1 x68))
def al14_1 : AN := (.fin ⟨[2], padK 1 [some (0, 0)]⟩ (.cond (.seq (.region [(8, { touch := [0], ro := false })]) (.norm ⟨[2, 3, 4], padK 1 [some (0, 0)]⟩ (.ret []))) .leaf))
theorem u14_1 (fuel : Nat) {R : Type} (k : AExit → St → Option R) : ∀ x : ((List Int) × Int × Int × Bool × (Int × (Int × (Int × Int)))), runK R T (fns14 fuel) fuel [] (subsOf [sub14_0 fuel R]) (partOf c14_1 al14_1) (fr14_1.st [0, 2, 6, 7, 114] x) k = j14_1 fuel (fun y => k (.ret []) (fx14_0.st [2, 3, 4] y)) (fun y => k .normal (fx14_2.st [2] y)) x := by
  rintro ⟨x64, x65, x66, x67, x68⟩
  kernel_rfl
noncomputable def sub14_1 (fuel : Nat) (R : Type) : Sub R := Sub.of [0, 2, 6, 7, 114] c14_1 fr14_1 fun x k => j14_1 fuel (fun y => k (.ret []) (fx14_0.st [2, 3, 4] y)) (fun y => k .normal (fx14_2.st [2] y)) x
theorem subOk14_1 (fuel : Nat) (R : Type) : SubOk P [] 124 (sub14_1 fuel R) :=
  subOk_part (fns := (fns14 fuel)) (fuel := fuel) (subs := (subsOf [sub14_0 fuel R])) (an := al14_1) T_ok (fnsOk14 fuel) mixed (subsOk_cons (subOk14_0 fuel R) subsOk_nil) (by kernel_rfl) (by kernel_rfl) fun _ _ _ _ h => Sub.of_run (fun (x : ((List Int) × Int × Int × Bool × (Int × (Int × (Int × Int))))) k => u14_1 fuel k x) h
def fr14_2 : Fr := ⟨[.c (.ptr 0 0 [])], [.box (.d true (.pair (.int .i64) (.pair (.int .i64) (.pair (.int .i64) (.int .i64)))))], 1⟩
noncomputable def c14_2 : Code := bodyAt Try.f14 [1, 1, 1, 1, 1, 1, 1, 1, 1]
def j14_2 (fuel : Nat) {R : Type} (k0 : (Bool × Int × (Int × (Int × (Int × Int)))) → Option R) : (Int × (Int × (Int × Int))) → Option R := fun _ => (k0 (false, (0 : Int), ((0 : Int), ((0 : Int), ((0 : Int), (0 : Int))))))
def al14_2 : AN := (.seq (.region [(1, { touch := [0], ro := false })]) (.norm ⟨[2, 3, 4], padK 1 [some (0, 0)]⟩ (.ret [])))
theorem u14_2 (fuel : Nat) {R : Type} (k : AExit → St → Option R) : ∀ x : (Int × (Int × (Int × Int))), runK R T (fns14 fuel) fuel [] (subsOf [sub14_0 fuel R, sub14_1 fuel R]) (partOf c14_2 al14_2) (fr14_2.st [2] x) k = j14_2 fuel (fun y => k (.ret []) (fx14_0.st [2, 3, 4] y)) x := by
  rintro x78
  kernel_rfl
noncomputable def sub14_2 (fuel : Nat) (R : Type) : Sub R := Sub.of [2] c14_2 fr14_2 fun x k => j14_2 fuel (fun y => k (.ret []) (fx14_0.st [2, 3, 4] y)) x
theorem subOk14_2 (fuel : Nat) (R : Type) : SubOk P [] 124 (sub14_2 fuel R) :=
  subOk_part (fns := (fns14 fuel)) (fuel := fuel) (subs := (subsOf [sub14_0 fuel R, sub14_1 fuel R])) (an := al14_2) T_ok (fnsOk14 fuel) mixed (subsOk_cons (subOk14_0 fuel R) (subsOk_cons (subOk14_1 fuel R) subsOk_nil)) (by kernel_rfl) (by kernel_rfl) fun _ _ _ _ h => Sub.of_run (fun (x : (Int × (Int × (Int × Int)))) k => u14_2 fuel k x) h
def fr14_3 : Fr := ⟨[.d false (.slice (.int .i64)), .c (.ptr 0 0 []), .d true (.int .i64), .d true (.int .i64), .d true (.int .i64), .d true (.int .i64)], [.box (.d true (.pair (.int .i64) (.pair (.int .i64) (.pair (.int .i64) (.int .i64)))))], 1⟩
noncomputable def c14_3 : Code := bodyAt Try.f14 [1, 1, 1, 1, 1, 1, 1]
def j14_3 (fuel : Nat) {R : Type} (k0 : (Bool × Int × (Int × (Int × (Int × Int)))) → Option R) : ((List Int) × Int × Int × Int × Int × (Int × (Int × (Int × Int)))) → Option R := fun (x48, x49, x50, x51, x52, x53) => (if 0 ≤ x50 then (match (x48)[Int.toNat x50]? with | some y54 => (if 0 ≤ x52 then (match (x48)[Int.toNat x52]? with | some y55 => (bif (decide ((IntKind.wrap .i64 ((2 : Int) * y55)) < y54)) then (if 0 ≤ x50 then (match (x48)[Int.toNat x50]? with | some y56 => (if 0 ≤ x52 then (match (x48)[Int.toNat x52]? with | some y57 => let v58 := (IntKind.wrap .i64 (Int.tdiv (IntKind.wrap .i64 (y56 - y57)) (2 : Int))); (k0 (true, (0 : Int), ((1 : Int), (x50, (x52, v58))))) | none => none) else none) | none => none) else none) else (match p27 fuel (x50, x51, x49) with | some z59 => (bif (!z59) then (if x49 = 0 then none else (if 0 ≤ (Int.tmod (IntKind.wrap .i64 (x51 + (1 : Int))) x49) then (match (x48)[Int.toNat (Int.tmod (IntKind.wrap .i64 (x51 + (1 : Int))) x49)]? with | some y60 => (if 0 ≤ x51 then (match (x48)[Int.toNat x51]? with | some y61 => (if 0 ≤ x50 then (match (x48)[Int.toNat x50]? with | some y62 => let v63 := (decide ((IntKind.wrap .i64 ((4 : Int) * (IntKind.wrap .i64 (y60 + y61)))) ≤ (IntKind.wrap .i64 ((3 : Int) * y62)))); (j14_1 fuel (fun (x70, x71, x72) => (k0 (x70, x71, x72))) (fun x73 => (j14_2 fuel (fun (x79, x80, x81) => (k0 (x79, x80, x81))) x73)) (x48, x50, x51, v63, x53)) | none => none) else none) | none => none) else none) | none => none) else none)) else (j14_1 fuel (fun (x74, x75, x76) => (k0 (x74, x75, x76))) (fun x77 => (j14_2 fuel (fun (x82, x83, x84) => (k0 (x82, x83, x84))) x77)) (x48, x50, x51, false, x53))) | none => none)) | none => none) else none) | none => none) else none)
def al14_3 : AN := (.seq (.seq .leaf (.cond (.seq (.region [(13, { touch := [0], ro := false })]) (.norm ⟨[2, 3, 4], padK 1 [some (0, 0)]⟩ (.ret []))) .leaf)) (.seq (.seq .leaf (.hole ⟨[0, 2, 6, 7, 114], padK 1 [some (0, 0)]⟩ 1)) (.hole ⟨[2], padK 1 [some (0, 0)]⟩ 2)))
theorem u14_3 (fuel : Nat) {R : Type} (k : AExit → St → Option R) : ∀ x : ((List Int) × Int × Int × Int × Int × (Int × (Int × (Int × Int)))), runK R T (fns14 fuel) fuel [] (subsOf [sub14_0 fuel R, sub14_1 fuel R, sub14_2 fuel R]) (partOf c14_3 al14_3) (fr14_3.st [0, 2, 5, 6, 7, 8] x) k = j14_3 fuel (fun y => k (.ret []) (fx14_0.st [2, 3, 4] y)) x := by
  rintro ⟨x48, x49, x50, x51, x52, x53⟩
  kernel_rfl
noncomputable def sub14_3 (fuel : Nat) (R : Type) : Sub R := Sub.of [0, 2, 5, 6, 7, 8] c14_3 fr14_3 fun x k => j14_3 fuel (fun y => k (.ret []) (fx14_0.st [2, 3, 4] y)) x
theorem subOk14_3 (fuel : Nat) (R : Type) : SubOk P [] 124 (sub14_3 fuel R) :=
  subOk_part (fns := (fns14 fuel)) (fuel := fuel) (subs := (subsOf [sub14_0 fuel R, sub14_1 fuel R, sub14_2 fuel R])) (an := al14_3) T_ok (fnsOk14 fuel) mixed (subsOk_cons (subOk14_0 fuel R) (subsOk_cons (subOk14_1 fuel R) (subsOk_cons (subOk14_2 fuel R) subsOk_nil))) (by kernel_rfl) (by kernel_rfl) fun _ _ _ _ h => Sub.of_run (fun (x : ((List Int) × Int × Int × Int × Int × (Int × (Int × (Int × Int))))) k => u14_3 fuel k x) h
def fr14_4 : Fr := ⟨[.d false (.slice (.int .i64)), .c (.ptr 0 0 []), .d true (.int .i64), .d true (.int .i64), .d true (.int .i64)], [.box (.d true (.pair (.int .i64) (.pair (.int .i64) (.pair (.int .i64) (.int .i64)))))], 1⟩
noncomputable def c14_4 : Code := bodyAt Try.f14 [1, 1, 1, 1, 1]
def j14_4 (fuel : Nat) {R : Type} (k0 : (Bool × Int × (Int × (Int × (Int × Int)))) → Option R) : ((List Int) × Int × Int × Int × (Int × (Int × (Int × Int)))) → Option R := fun (x40, x41, x42, x43, x44) => (if x41 = 0 then none else let v45 := (Int.tmod (IntKind.wrap .i64 ((IntKind.wrap .i64 (x42 + x41)) - (1 : Int))) x41); (if x41 = 0 then none else (if 0 ≤ (Int.tmod (IntKind.wrap .i64 (x42 + (1 : Int))) x41) then (match (x40)[Int.toNat (Int.tmod (IntKind.wrap .i64 (x42 + (1 : Int))) x41)]? with | some y46 => (if 0 ≤ v45 then (match (x40)[Int.toNat v45]? with | some y47 => (bif (decide (y46 < y47)) then (j14_3 fuel (fun (x85, x86, x87) => (k0 (x85, x86, x87))) (x40, x41, x42, x43, (Int.tmod (IntKind.wrap .i64 (x42 + (1 : Int))) x41), x44)) else (j14_3 fuel (fun (x88, x89, x90) => (k0 (x88, x89, x90))) (x40, x41, x42, x43, v45, x44))) | none => none) else none) | none => none) else none)))
def al14_4 : AN := (.seq .leaf (.seq (.seq .leaf (.seq .leaf (.cond (.fin ⟨[0, 2, 5, 6, 7, 8], padK 1 [some (0, 0)]⟩ .leaf) (.fin ⟨[0, 2, 5, 6, 7, 8], padK 1 [some (0, 0)]⟩ .leaf)))) (.hole ⟨[0, 2, 5, 6, 7, 8], padK 1 [some (0, 0)]⟩ 3)))
theorem u14_4 (fuel : Nat) {R : Type} (k : AExit → St → Option R) : ∀ x : ((List Int) × Int × Int × Int × (Int × (Int × (Int × Int)))), runK R T (fns14 fuel) fuel [] (subsOf [sub14_0 fuel R, sub14_1 fuel R, sub14_2 fuel R, sub14_3 fuel R]) (partOf c14_4 al14_4) (fr14_4.st [0, 2, 5, 6, 7] x) k = j14_4 fuel (fun y => k (.ret []) (fx14_0.st [2, 3, 4] y)) x := by
  rintro ⟨x40, x41, x42, x43, x44⟩
  kernel_rfl
noncomputable def sub14_4 (fuel : Nat) (R : Type) : Sub R := Sub.of [0, 2, 5, 6, 7] c14_4 fr14_4 fun x k => j14_4 fuel (fun y => k (.ret []) (fx14_0.st [2, 3, 4] y)) x
theorem subOk14_4 (fuel : Nat) (R : Type) : SubOk P [] 124 (sub14_4 fuel R) :=
  subOk_part (fns := (fns14 fuel)) (fuel := fuel) (subs := (subsOf [sub14_0 fuel R, sub14_1 fuel R, sub14_2 fuel R, sub14_3 fuel R])) (an := al14_4) T_ok (fnsOk14 fuel) mixed (subsOk_cons (subOk14_0 fuel R) (subsOk_cons (subOk14_1 fuel R) (subsOk_cons (subOk14_2 fuel R) (subsOk_cons (subOk14_3 fuel R) subsOk_nil)))) (by kernel_rfl) (by kernel_rfl) fun _ _ _ _ h => Sub.of_run (fun (x : ((List Int) × Int × Int × Int × (Int × (Int × (Int × Int))))) k => u14_4 fuel k x) h
def an14 : AN := (.seq (.region [(0, { touch := [1], base := 1, ro := false })]) (.seq .leaf (.seq (.seq .leaf (.cond (.seq (.region [(1, { touch := [1], ro := false })]) (.norm ⟨[2, 3, 4], padK 1 [some (1, 0)]⟩ (.ret []))) .leaf)) (.seq .leaf (.seq (.seq .leaf (.hole ⟨[0, 2, 5, 6, 7, 44], padK 1 [some (1, 0)]⟩ 0)) (.hole ⟨[0, 2, 5, 6, 7], padK 1 [some (0, 0)]⟩ 4))))))
def p14 (fuel : Nat) : (List Int) → Option ((Int × (Int × (Int × Int))) × Bool × Int) := fun x1 => (match p22 fuel (x1, (1 : Int), (12 : Int)) with | some z2 => (bif (!z2) then (some (((0 : Int), ((0 : Int), ((0 : Int), (0 : Int)))), false, (171 : Int))) else (match p25 fuel x1 with | some z3 => (match p24 fuel (x1, z3) with | some z4 => (match p26 fuel x1 with | some z5 => (match p24 fuel (x1, z5) with | some z6 => (bif (decide (((List.length x1 : Nat) : Int) = (1 : Int))) then (j14_0 fuel (fun (x16, x17, x18) => (some (x18, x16, x17))) (fun (x19, x20, x21, x22, x23) => (j14_4 fuel (fun (x91, x92, x93) => (some (x93, x91, x92))) (x19, x20, x21, x22, x23))) (x1, ((List.length x1 : Nat) : Int), z4, z6, true, ((0 : Int), ((0 : Int), ((0 : Int), (0 : Int)))))) else (if 0 ≤ z4 then (match (x1)[Int.toNat z4]? with | some y7 => (bif (decide (y7 < (2 : Int))) then (j14_0 fuel (fun (x24, x25, x26) => (some (x26, x24, x25))) (fun (x27, x28, x29, x30, x31) => (j14_4 fuel (fun (x94, x95, x96) => (some (x96, x94, x95))) (x27, x28, x29, x30, x31))) (x1, ((List.length x1 : Nat) : Int), z4, z6, true, ((0 : Int), ((0 : Int), ((0 : Int), (0 : Int)))))) else (if 0 ≤ z4 then (match (x1)[Int.toNat z4]? with | some y8 => (if 0 ≤ z6 then (match (x1)[Int.toNat z6]? with | some y9 => (j14_0 fuel (fun (x32, x33, x34) => (some (x34, x32, x33))) (fun (x35, x36, x37, x38, x39) => (j14_4 fuel (fun (x97, x98, x99) => (some (x99, x97, x98))) (x35, x36, x37, x38, x39))) (x1, ((List.length x1 : Nat) : Int), z4, z6, (decide (y8 ≤ (IntKind.wrap .i64 ((2 : Int) * y9)))), ((0 : Int), ((0 : Int), ((0 : Int), (0 : Int)))))) | none => none) else none) | none => none) else none)) | none => none) else none)) | none => none) | none => none) | none => none) | none => none)) | none => none)
def F14 (fuel : Nat) : Fun := funOfA fi14 al14 (p14 fuel)
theorem run14 (fuel : Nat) : ∀ y : (List Int), runF ((Int × (Int × (Int × Int))) × Bool × Int) T (fns14 fuel) fuel (subsOf [sub14_0 fuel ((Int × (Int × (Int × Int))) × Bool × Int), sub14_1 fuel ((Int × (Int × (Int × Int))) × Bool × Int), sub14_2 fuel ((Int × (Int × (Int × Int))) × Bool × Int), sub14_3 fuel ((Int × (Int × (Int × Int))) × Bool × Int), sub14_4 fuel ((Int × (Int × (Int × Int))) × Bool × Int)]) (defOf Try.f14 an14 2 [] []) (fi14.vs y) (fi14.os y) (altsDec al14) = p14 fuel y := by
  rintro x1
  kernel_rfl
theorem ok14 (fuel : Nat) : FunOk P 14 (funOfA fi14 al14 (p14 fuel)) :=
  funOfA_ok (subs := (subsOf [sub14_0 fuel ((Int × (Int × (Int × Int))) × Bool × Int), sub14_1 fuel ((Int × (Int × (Int × Int))) × Bool × Int), sub14_2 fuel ((Int × (Int × (Int × Int))) × Bool × Int), sub14_3 fuel ((Int × (Int × (Int × Int))) × Bool × Int), sub14_4 fuel ((Int × (Int × (Int × Int))) × Bool × Int)])) (an := an14) (room := 2) (ks := []) (g0 := []) (fuel := fuel) T_ok (fnsOk14 fuel) mixed (fn := Try.f14) (by kernel_rfl) (by kernel_rfl) (subsOk_cons (subOk14_0 fuel _) (subsOk_cons (subOk14_1 fuel _) (subsOk_cons (subOk14_2 fuel _) (subsOk_cons (subOk14_3 fuel _) (subsOk_cons (subOk14_4 fuel _) subsOk_nil))))) (by kernel_rfl) (fun _ => ⟨by kernel_rfl, by kernel_rfl⟩) (run14 fuel)

-- f8: tontine/balance.Key
def fns8 (fuel : Nat) : Fns := fnsOf []
theorem fnsOk8 (fuel : Nat) : FnsOk P (fns8 fuel) := fnsOk_nil
def fi8 : Fr := ⟨[.d false (.slice (.str)), .d false (.int .i64)], [], 0⟩
def al8 : List (Tm × List To) := [(.tup (.cons (.d true (.str)) (.cons (.d true (.int .i64)) (.c .nil))), [])]
def fx8_0 : Fr := ⟨[.d true (.str), .d true (.int .i64)], [], 0⟩
def fx8_1 : Fr := ⟨[.d false (.slice (.str)), .d true (.int .i64)], [], 0⟩
def fr8_0 : Fr := ⟨[.d false (.slice (.str)), .d true (.int .i64), .d true (.int .i64), .d true (.int .i64)], [], 0⟩
noncomputable def c8_0 : Code := bodyAt Try.f8 [1, 1, 0, 1, 0]
def s8_0 (fuel : Nat) {R : Type} (F : ((List ByteArray) × Int × Int × Int) → Option R) (k0 : (ByteArray × Int) → Option R) (k1 : ((List ByteArray) × Int) → Option R) : ((List ByteArray) × Int × Int × Int) → Option R := fun (x3, x4, x5, x6) => (bif (decide (x6 < x5)) then (bif (decide ((0 : Int) < x6)) then (if 0 ≤ (IntKind.wrap .i64 (x6 - (1 : Int))) then (match (x3)[Int.toNat (IntKind.wrap .i64 (x6 - (1 : Int)))]? with | some y7 => (if 0 ≤ x6 then (match (x3)[Int.toNat x6]? with | some y8 => (bif (!strLess y7 y8) then (k0 (ByteArray.empty, (171 : Int))) else (F (x3, x4, x5, (IntKind.wrap .i64 (x6 + (1 : Int)))))) | none => none) else none) | none => none) else none) else (F (x3, x4, x5, (IntKind.wrap .i64 (x6 + (1 : Int)))))) else (k1 (x3, x4)))
def l8_0 (fuel : Nat) {R : Type} (k0 : (ByteArray × Int) → Option R) (k1 : ((List ByteArray) × Int) → Option R) : Nat → ((List ByteArray) × Int × Int × Int) → Option R
  | 0, _ => none
  | n + 1, x => s8_0 fuel (l8_0 fuel k0 k1 n) k0 k1 x
def nm8_0 : Norm := ⟨[0, 1, 12, 13], padK 0 []⟩
def an8_0 : AN := (.seq .leaf (.seq (.cond .leaf (.norm ⟨[0, 1], padK 0 []⟩ .leaf)) (.seq (.block (.seq .leaf (.seq .leaf (.cond (.seq .leaf (.norm ⟨[4, 5], padK 0 []⟩ (.ret []))) .leaf)))) .leaf)))
def al8_0 : AN := .loop nm8_0 an8_0
noncomputable def d8_0 : Code := bodyAt Try.f8 [1, 1, 0, 1, 0, 0]
theorem e8_0 (fuel : Nat) {R : Type} (F : St → Option R) (k : AExit → St → Option R) : ∀ x : ((List ByteArray) × Int × Int × Int), runK R T (fns8 fuel) fuel [] (subsOf []) (partOf d8_0 an8_0) (fr8_0.st [0, 1, 12, 13] x) (backTo R [] nm8_0 F k) = s8_0 fuel (fun x => F (fr8_0.st [0, 1, 12, 13] x)) (fun y => k (.ret []) (fx8_0.st [4, 5] y)) (fun y => k (.exit 0) (fx8_1.st [0, 1] y)) x := by
  rintro ⟨x3, x4, x5, x6⟩
  kernel_rfl
theorem u8_0 (fuel : Nat) {R : Type} (k : AExit → St → Option R) (x : ((List ByteArray) × Int × Int × Int)) : runK R T (fns8 fuel) fuel [] (subsOf []) (partOf c8_0 al8_0) (fr8_0.st [0, 1, 12, 13] x) k = l8_0 fuel (fun y => k (.ret []) (fx8_0.st [4, 5] y)) (fun y => k (.exit 0) (fx8_1.st [0, 1] y)) fuel x :=
  loop_eq (mk := fr8_0.st [0, 1, 12, 13]) (s := fun F x => s8_0 fuel F (fun y => k (.ret []) (fx8_0.st [4, 5] y)) (fun y => k (.exit 0) (fx8_1.st [0, 1] y)) x) (l := fun n x => l8_0 fuel (fun y => k (.ret []) (fx8_0.st [4, 5] y)) (fun y => k (.exit 0) (fx8_1.st [0, 1] y)) n x) (d := d8_0) (by kernel_rfl) (fun G x => by
    revert x
    rintro ⟨x3, x4, x5, x6⟩
    kernel_rfl) (fun F x => e8_0 fuel F k x) (fun _ => rfl) (fun _ _ => rfl) x
noncomputable def sub8_0 (fuel : Nat) (R : Type) : Sub R := Sub.of [0, 1, 12, 13] c8_0 fr8_0 fun x k => l8_0 fuel (fun y => k (.ret []) (fx8_0.st [4, 5] y)) (fun y => k (.exit 0) (fx8_1.st [0, 1] y)) fuel x
theorem subOk8_0 (fuel : Nat) (R : Type) : SubOk P [] 81 (sub8_0 fuel R) :=
  subOk_part (fns := (fns8 fuel)) (fuel := fuel) (subs := (subsOf [])) (an := al8_0) T_ok (fnsOk8 fuel) mixed subsOk_nil (by kernel_rfl) (by kernel_rfl) fun _ _ _ _ h => Sub.of_run (fun (x : ((List ByteArray) × Int × Int × Int)) k => u8_0 fuel k x) h
def fx8_2 : Fr := ⟨[.d false (.slice (.str)), .d true (.int .i64), .d true (.int .i64)], [], 0⟩
def fr8_1 : Fr := ⟨[.d false (.slice (.str)), .d true (.int .i64), .d true (.int .i64)], [], 0⟩
noncomputable def c8_1 : Code := bodyAt Try.f8 [1, 1, 1, 1, 1, 0, 0]
def s8_1 (fuel : Nat) {R : Type} (F : ((List ByteArray) × Int × Int) → Option R) (k0 : ((List ByteArray) × Int × Int) → Option R) : ((List ByteArray) × Int × Int) → Option R := fun (x13, x14, x15) => (if 0 ≤ (IntKind.wrap .i64 (x14 - (1 : Int))) then (match (x13)[Int.toNat (IntKind.wrap .i64 (x14 - (1 : Int)))]? with | some y16 => (bif (decide (x15 < ((ByteArray.size y16 : Nat) : Int))) then (if 0 ≤ x14 then (match (x13)[Int.toNat x14]? with | some y17 => (bif (decide (x15 < ((ByteArray.size y17 : Nat) : Int))) then (if 0 ≤ (IntKind.wrap .i64 (x14 - (1 : Int))) then (match (x13)[Int.toNat (IntKind.wrap .i64 (x14 - (1 : Int)))]? with | some y18 => (if 0 ≤ x15 ∧ x15 < ((ByteArray.size y18 : Nat) : Int) then (if 0 ≤ x14 then (match (x13)[Int.toNat x14]? with | some y19 => (if 0 ≤ x15 ∧ x15 < ((ByteArray.size y19 : Nat) : Int) then (bif (decide ((byteAt y18 (Int.toNat x15)) = (byteAt y19 (Int.toNat x15)))) then (F (x13, x14, (IntKind.wrap .i64 (x15 + (1 : Int))))) else (k0 (x13, x14, x15))) else none) | none => none) else none) else none) | none => none) else none) else (k0 (x13, x14, x15))) | none => none) else none) else (k0 (x13, x14, x15))) | none => none) else none)
def l8_1 (fuel : Nat) {R : Type} (k0 : ((List ByteArray) × Int × Int) → Option R) : Nat → ((List ByteArray) × Int × Int) → Option R
  | 0, _ => none
  | n + 1, x => s8_1 fuel (l8_1 fuel k0 n) k0 x
def nm8_1 : Norm := ⟨[0, 1, 7], padK 0 []⟩
def an8_1 : AN := (.seq (.seq .leaf (.cond .leaf (.norm ⟨[0, 1, 7], padK 0 []⟩ .leaf))) (.block .leaf))
def al8_1 : AN := .loop nm8_1 an8_1
noncomputable def d8_1 : Code := bodyAt Try.f8 [1, 1, 1, 1, 1, 0, 0, 0]
theorem e8_1 (fuel : Nat) {R : Type} (F : St → Option R) (k : AExit → St → Option R) : ∀ x : ((List ByteArray) × Int × Int), runK R T (fns8 fuel) fuel [] (subsOf [sub8_0 fuel R]) (partOf d8_1 an8_1) (fr8_1.st [0, 1, 7] x) (backTo R [] nm8_1 F k) = s8_1 fuel (fun x => F (fr8_1.st [0, 1, 7] x)) (fun y => k (.exit 2) (fx8_2.st [0, 1, 7] y)) x := by
  rintro ⟨x13, x14, x15⟩
  kernel_rfl
theorem u8_1 (fuel : Nat) {R : Type} (k : AExit → St → Option R) (x : ((List ByteArray) × Int × Int)) : runK R T (fns8 fuel) fuel [] (subsOf [sub8_0 fuel R]) (partOf c8_1 al8_1) (fr8_1.st [0, 1, 7] x) k = l8_1 fuel (fun y => k (.exit 2) (fx8_2.st [0, 1, 7] y)) fuel x :=
  loop_eq (mk := fr8_1.st [0, 1, 7]) (s := fun F x => s8_1 fuel F (fun y => k (.exit 2) (fx8_2.st [0, 1, 7] y)) x) (l := fun n x => l8_1 fuel (fun y => k (.exit 2) (fx8_2.st [0, 1, 7] y)) n x) (d := d8_1) (by kernel_rfl) (fun G x => by
    revert x
    rintro ⟨x13, x14, x15⟩
    kernel_rfl) (fun F x => e8_1 fuel F k x) (fun _ => rfl) (fun _ _ => rfl) x
noncomputable def sub8_1 (fuel : Nat) (R : Type) : Sub R := Sub.of [0, 1, 7] c8_1 fr8_1 fun x k => l8_1 fuel (fun y => k (.exit 2) (fx8_2.st [0, 1, 7] y)) fuel x
theorem subOk8_1 (fuel : Nat) (R : Type) : SubOk P [] 81 (sub8_1 fuel R) :=
  subOk_part (fns := (fns8 fuel)) (fuel := fuel) (subs := (subsOf [sub8_0 fuel R])) (an := al8_1) T_ok (fnsOk8 fuel) mixed (subsOk_cons (subOk8_0 fuel R) subsOk_nil) (by kernel_rfl) (by kernel_rfl) fun _ _ _ _ h => Sub.of_run (fun (x : ((List ByteArray) × Int × Int)) k => u8_1 fuel k x) h
def an8 : AN := (.seq .leaf (.seq (.seq .leaf (.cond (.seq .leaf (.norm ⟨[4, 5], padK 0 []⟩ (.ret []))) .leaf)) (.seq (.seq .leaf (.block (.hole ⟨[0, 1, 12, 13], padK 0 []⟩ 0))) (.seq (.seq .leaf (.cond (.seq .leaf (.norm ⟨[4, 5], padK 0 []⟩ (.ret []))) .leaf)) (.seq .leaf (.seq (.block (.hole ⟨[0, 1, 7], padK 0 []⟩ 1)) (.seq .leaf (.norm ⟨[4, 5], padK 0 []⟩ (.ret [])))))))))
def p8 (fuel : Nat) : ((List ByteArray) × Int) → Option (ByteArray × Int) := fun (x1, x2) => (bif (decide ((1000 : Int) < ((List.length x1 : Nat) : Int))) then (some (ByteArray.empty, (171 : Int))) else (l8_0 fuel (fun (x9, x10) => (some (x9, x10))) (fun (x11, x12) => (bif (decide (x12 < (1 : Int))) then (some (ByteArray.empty, (172 : Int))) else (bif (decide (((List.length x11 : Nat) : Int) ≤ x12)) then (some (ByteArray.empty, (172 : Int))) else (l8_1 fuel (fun (x20, x21, x22) => (if 0 ≤ x21 then (match (x20)[Int.toNat x21]? with | some y23 => (if 0 ≤ (IntKind.wrap .i64 (x22 + (1 : Int))) ∧ (IntKind.wrap .i64 (x22 + (1 : Int))) ≤ (((ByteArray.size y23) : Nat) : Int) then let v24 := (ByteArray.extract y23 0 (Int.toNat (IntKind.wrap .i64 (x22 + (1 : Int))))); (some (v24, (0 : Int))) else none) | none => none) else none)) fuel (x11, x12, (0 : Int)))))) fuel (x1, x2, ((List.length x1 : Nat) : Int), (0 : Int))))
def F8 (fuel : Nat) : Fun := funOfA fi8 al8 (p8 fuel)
theorem run8 (fuel : Nat) : ∀ y : ((List ByteArray) × Int), runF (ByteArray × Int) T (fns8 fuel) fuel (subsOf [sub8_0 fuel (ByteArray × Int), sub8_1 fuel (ByteArray × Int)]) (defOf Try.f8 an8 0 [] []) (fi8.vs y) (fi8.os y) (altsDec al8) = p8 fuel y := by
  rintro ⟨x1, x2⟩
  kernel_rfl
theorem ok8 (fuel : Nat) : FunOk P 8 (funOfA fi8 al8 (p8 fuel)) :=
  funOfA_ok (subs := (subsOf [sub8_0 fuel (ByteArray × Int), sub8_1 fuel (ByteArray × Int)])) (an := an8) (room := 0) (ks := []) (g0 := []) (fuel := fuel) T_ok (fnsOk8 fuel) mixed (fn := Try.f8) (by kernel_rfl) (by kernel_rfl) (subsOk_cons (subOk8_0 fuel _) (subsOk_cons (subOk8_1 fuel _) subsOk_nil)) (by kernel_rfl) (fun _ => ⟨by kernel_rfl, by kernel_rfl⟩) (run8 fuel)

-- f7: tontine/tontinelaw17.awake
def fns7 (fuel : Nat) : Fns := fnsOf [(14, F14 fuel), (8, F8 fuel)]
theorem fnsOk7 (fuel : Nat) : FnsOk P (fns7 fuel) := (fnsOk_cons (ok14 fuel) (fnsOk_cons (ok8 fuel) fnsOk_nil))
def fi7 : Fr := ⟨[], [], 0⟩
def al7 : List (Tm × List To) := [(.d true (.bool), [])]
def an7 : AN := (.seq .leaf (.seq (.region [(0, { touch := [0], ro := false }), (1, { touch := [0], lend := [some (.slice (.int .i64))] }), (6, { touch := [1], base := 1, ro := false }), (7, { touch := [1], ro := false })]) (.seq (.region [(0, { touch := [2], base := 2, ro := false }), (1, { touch := [2], lend := [some (.slice (.str)), none] })]) (.seq (.region [(6, { touch := [1] })]) (.norm ⟨[0], padK 3 []⟩ (.ret []))))))
def p7 (fuel : Nat) : Unit → Option Bool := fun _ => (match p14 fuel [(9 : Int), (6 : Int), (1 : Int), (5 : Int), (6 : Int)] with | some z1 => (match p8 fuel ([(⟨#[97, 98]⟩ : ByteArray), (⟨#[97, 98, 99]⟩ : ByteArray), (⟨#[98]⟩ : ByteArray)], (2 : Int)) with | some z2 => (bif z1.2.1 then (bif (decide (z1.2.2 = (0 : Int))) then let v3 := (Ty.eqB (.pair (.int .i64) (.pair (.int .i64) (.pair (.int .i64) (.int .i64)))) z1.1 ((2 : Int), ((0 : Int), ((2 : Int), (4 : Int))))); (bif v3 then (bif (strEq z2.1 (⟨#[98]⟩ : ByteArray)) then (some (decide (z2.2 = (0 : Int)))) else (some false)) else (some false)) else (some false)) else (some false)) | none => none) | none => none)
def F7 (fuel : Nat) : Fun := funOfA fi7 al7 (p7 fuel)
theorem run7 (fuel : Nat) : ∀ y : Unit, runF Bool T (fns7 fuel) fuel (subsOf []) (defOf Try.f7 an7 3 [] []) (fi7.vs y) (fi7.os y) (altsDec al7) = p7 fuel y := by
  rintro ⟨⟩
  kernel_rfl
theorem ok7 (fuel : Nat) : FunOk P 7 (funOfA fi7 al7 (p7 fuel)) :=
  funOfA_ok (subs := (subsOf [])) (an := an7) (room := 3) (ks := []) (g0 := []) (fuel := fuel) T_ok (fnsOk7 fuel) mixed (fn := Try.f7) (by kernel_rfl) (by kernel_rfl) subsOk_nil (by kernel_rfl) (fun _ => ⟨by kernel_rfl, by kernel_rfl⟩) (run7 fuel)

-- f9: tontine/tontineref17.Key
def fns9 (fuel : Nat) : Fns := fnsOf []
theorem fnsOk9 (fuel : Nat) : FnsOk P (fns9 fuel) := fnsOk_nil
def fi9 : Fr := ⟨[.d true (.slice (.str)), .d false (.int .i64)], [], 0⟩
def al9 : List (Tm × List To) := [(.tup (.cons (.d true (.str)) (.cons (.d true (.int .i64)) (.c .nil))), [])]
def fx9_0 : Fr := ⟨[.d true (.str), .d true (.int .i64)], [], 0⟩
def fx9_1 : Fr := ⟨[.d true (.slice (.str)), .d true (.int .i64)], [], 0⟩
def fr9_0 : Fr := ⟨[.d true (.slice (.str)), .d true (.int .i64), .d true (.int .i64)], [], 0⟩
noncomputable def c9_0 : Code := bodyAt Try.f9 [1, 1, 0, 1, 0]
def s9_0 (fuel : Nat) {R : Type} (F : ((List ByteArray) × Int × Int) → Option R) (k0 : (ByteArray × Int) → Option R) (k1 : ((List ByteArray) × Int) → Option R) : ((List ByteArray) × Int × Int) → Option R := fun (x3, x4, x5) => (bif (decide (x5 < ((List.length x3 : Nat) : Int))) then (if 0 ≤ (IntKind.wrap .i64 (x5 - (1 : Int))) then (match (x3)[Int.toNat (IntKind.wrap .i64 (x5 - (1 : Int)))]? with | some y6 => (if 0 ≤ x5 then (match (x3)[Int.toNat x5]? with | some y7 => (bif (!strLess y6 y7) then (k0 (ByteArray.empty, (171 : Int))) else (F (x3, x4, (IntKind.wrap .i64 (x5 + (1 : Int)))))) | none => none) else none) | none => none) else none) else (k1 (x3, x4)))
def l9_0 (fuel : Nat) {R : Type} (k0 : (ByteArray × Int) → Option R) (k1 : ((List ByteArray) × Int) → Option R) : Nat → ((List ByteArray) × Int × Int) → Option R
  | 0, _ => none
  | n + 1, x => s9_0 fuel (l9_0 fuel k0 k1 n) k0 k1 x
def nm9_0 : Norm := ⟨[0, 1, 6], padK 0 []⟩
def an9_0 : AN := (.seq (.seq .leaf (.cond .leaf (.norm ⟨[0, 1], padK 0 []⟩ .leaf))) (.seq (.block (.seq .leaf (.cond (.seq .leaf (.norm ⟨[4, 5], padK 0 []⟩ (.ret []))) .leaf))) .leaf))
def al9_0 : AN := .loop nm9_0 an9_0
noncomputable def d9_0 : Code := bodyAt Try.f9 [1, 1, 0, 1, 0, 0]
theorem e9_0 (fuel : Nat) {R : Type} (F : St → Option R) (k : AExit → St → Option R) : ∀ x : ((List ByteArray) × Int × Int), runK R T (fns9 fuel) fuel [] (subsOf []) (partOf d9_0 an9_0) (fr9_0.st [0, 1, 6] x) (backTo R [] nm9_0 F k) = s9_0 fuel (fun x => F (fr9_0.st [0, 1, 6] x)) (fun y => k (.ret []) (fx9_0.st [4, 5] y)) (fun y => k (.exit 0) (fx9_1.st [0, 1] y)) x := by
  rintro ⟨x3, x4, x5⟩
  kernel_rfl
theorem u9_0 (fuel : Nat) {R : Type} (k : AExit → St → Option R) (x : ((List ByteArray) × Int × Int)) : runK R T (fns9 fuel) fuel [] (subsOf []) (partOf c9_0 al9_0) (fr9_0.st [0, 1, 6] x) k = l9_0 fuel (fun y => k (.ret []) (fx9_0.st [4, 5] y)) (fun y => k (.exit 0) (fx9_1.st [0, 1] y)) fuel x :=
  loop_eq (mk := fr9_0.st [0, 1, 6]) (s := fun F x => s9_0 fuel F (fun y => k (.ret []) (fx9_0.st [4, 5] y)) (fun y => k (.exit 0) (fx9_1.st [0, 1] y)) x) (l := fun n x => l9_0 fuel (fun y => k (.ret []) (fx9_0.st [4, 5] y)) (fun y => k (.exit 0) (fx9_1.st [0, 1] y)) n x) (d := d9_0) (by kernel_rfl) (fun G x => by
    revert x
    rintro ⟨x3, x4, x5⟩
    kernel_rfl) (fun F x => e9_0 fuel F k x) (fun _ => rfl) (fun _ _ => rfl) x
noncomputable def sub9_0 (fuel : Nat) (R : Type) : Sub R := Sub.of [0, 1, 6] c9_0 fr9_0 fun x k => l9_0 fuel (fun y => k (.ret []) (fx9_0.st [4, 5] y)) (fun y => k (.exit 0) (fx9_1.st [0, 1] y)) fuel x
theorem subOk9_0 (fuel : Nat) (R : Type) : SubOk P [] 67 (sub9_0 fuel R) :=
  subOk_part (fns := (fns9 fuel)) (fuel := fuel) (subs := (subsOf [])) (an := al9_0) T_ok (fnsOk9 fuel) mixed subsOk_nil (by kernel_rfl) (by kernel_rfl) fun _ _ _ _ h => Sub.of_run (fun (x : ((List ByteArray) × Int × Int)) k => u9_0 fuel k x) h
def fr9_1 : Fr := ⟨[.d true (.slice (.str)), .d true (.int .i64), .d true (.int .i64)], [], 0⟩
noncomputable def c9_1 : Code := bodyAt Try.f9 [1, 1, 1, 1, 0, 1, 0]
def s9_1 (fuel : Nat) {R : Type} (F : ((List ByteArray) × Int × Int) → Option R) (k0 : (ByteArray × Int) → Option R) (k1 : ((List ByteArray) × Int) → Option R) : ((List ByteArray) × Int × Int) → Option R := fun (x13, x14, x15) => (if 0 ≤ x14 then (match (x13)[Int.toNat x14]? with | some y16 => (bif (decide (x15 ≤ ((ByteArray.size y16 : Nat) : Int))) then (if 0 ≤ x14 then (match (x13)[Int.toNat x14]? with | some y17 => (if 0 ≤ x15 ∧ x15 ≤ (((ByteArray.size y17) : Nat) : Int) then (if 0 ≤ (IntKind.wrap .i64 (x14 - (1 : Int))) then (match (x13)[Int.toNat (IntKind.wrap .i64 (x14 - (1 : Int)))]? with | some y18 => let v19 := (!(strLess (ByteArray.extract y17 0 (Int.toNat x15)) y18 || strEq (ByteArray.extract y17 0 (Int.toNat x15)) y18)); (bif v19 then (if 0 ≤ x14 then (match (x13)[Int.toNat x14]? with | some y20 => (if 0 ≤ x15 ∧ x15 ≤ (((ByteArray.size y20) : Nat) : Int) then (k0 ((ByteArray.extract y20 0 (Int.toNat x15)), (0 : Int))) else none) | none => none) else none) else (F (x13, x14, (IntKind.wrap .i64 (x15 + (1 : Int)))))) | none => none) else none) else none) | none => none) else none) else (k1 (x13, x14))) | none => none) else none)
def l9_1 (fuel : Nat) {R : Type} (k0 : (ByteArray × Int) → Option R) (k1 : ((List ByteArray) × Int) → Option R) : Nat → ((List ByteArray) × Int × Int) → Option R
  | 0, _ => none
  | n + 1, x => s9_1 fuel (l9_1 fuel k0 k1 n) k0 k1 x
def nm9_1 : Norm := ⟨[0, 1, 7], padK 0 []⟩
def an9_1 : AN := (.seq (.seq .leaf (.cond .leaf (.norm ⟨[0, 1], padK 0 []⟩ .leaf))) (.seq (.block (.seq .leaf (.cond (.seq .leaf (.norm ⟨[4, 5], padK 0 []⟩ (.ret []))) .leaf))) .leaf))
def al9_1 : AN := .loop nm9_1 an9_1
noncomputable def d9_1 : Code := bodyAt Try.f9 [1, 1, 1, 1, 0, 1, 0, 0]
theorem e9_1 (fuel : Nat) {R : Type} (F : St → Option R) (k : AExit → St → Option R) : ∀ x : ((List ByteArray) × Int × Int), runK R T (fns9 fuel) fuel [] (subsOf [sub9_0 fuel R]) (partOf d9_1 an9_1) (fr9_1.st [0, 1, 7] x) (backTo R [] nm9_1 F k) = s9_1 fuel (fun x => F (fr9_1.st [0, 1, 7] x)) (fun y => k (.ret []) (fx9_0.st [4, 5] y)) (fun y => k (.exit 2) (fx9_1.st [0, 1] y)) x := by
  rintro ⟨x13, x14, x15⟩
  kernel_rfl
theorem u9_1 (fuel : Nat) {R : Type} (k : AExit → St → Option R) (x : ((List ByteArray) × Int × Int)) : runK R T (fns9 fuel) fuel [] (subsOf [sub9_0 fuel R]) (partOf c9_1 al9_1) (fr9_1.st [0, 1, 7] x) k = l9_1 fuel (fun y => k (.ret []) (fx9_0.st [4, 5] y)) (fun y => k (.exit 2) (fx9_1.st [0, 1] y)) fuel x :=
  loop_eq (mk := fr9_1.st [0, 1, 7]) (s := fun F x => s9_1 fuel F (fun y => k (.ret []) (fx9_0.st [4, 5] y)) (fun y => k (.exit 2) (fx9_1.st [0, 1] y)) x) (l := fun n x => l9_1 fuel (fun y => k (.ret []) (fx9_0.st [4, 5] y)) (fun y => k (.exit 2) (fx9_1.st [0, 1] y)) n x) (d := d9_1) (by kernel_rfl) (fun G x => by
    revert x
    rintro ⟨x13, x14, x15⟩
    kernel_rfl) (fun F x => e9_1 fuel F k x) (fun _ => rfl) (fun _ _ => rfl) x
noncomputable def sub9_1 (fuel : Nat) (R : Type) : Sub R := Sub.of [0, 1, 7] c9_1 fr9_1 fun x k => l9_1 fuel (fun y => k (.ret []) (fx9_0.st [4, 5] y)) (fun y => k (.exit 2) (fx9_1.st [0, 1] y)) fuel x
theorem subOk9_1 (fuel : Nat) (R : Type) : SubOk P [] 67 (sub9_1 fuel R) :=
  subOk_part (fns := (fns9 fuel)) (fuel := fuel) (subs := (subsOf [sub9_0 fuel R])) (an := al9_1) T_ok (fnsOk9 fuel) mixed (subsOk_cons (subOk9_0 fuel R) subsOk_nil) (by kernel_rfl) (by kernel_rfl) fun _ _ _ _ h => Sub.of_run (fun (x : ((List ByteArray) × Int × Int)) k => u9_1 fuel k x) h
def an9 : AN := (.seq .leaf (.seq (.seq .leaf (.cond (.seq .leaf (.norm ⟨[4, 5], padK 0 []⟩ (.ret []))) .leaf)) (.seq (.seq .leaf (.block (.hole ⟨[0, 1, 6], padK 0 []⟩ 0))) (.seq (.seq .leaf (.cond (.seq .leaf (.norm ⟨[4, 5], padK 0 []⟩ (.ret []))) .leaf)) (.seq (.seq .leaf (.block (.hole ⟨[0, 1, 7], padK 0 []⟩ 1))) (.seq .leaf (.norm ⟨[4, 5], padK 0 []⟩ (.ret []))))))))
def p9 (fuel : Nat) : ((List ByteArray) × Int) → Option (ByteArray × Int) := fun (x1, x2) => (bif (decide ((1000 : Int) < ((List.length x1 : Nat) : Int))) then (some (ByteArray.empty, (171 : Int))) else (l9_0 fuel (fun (x8, x9) => (some (x8, x9))) (fun (x10, x11) => (bif (decide (x11 < (1 : Int))) then (some (ByteArray.empty, (172 : Int))) else let v12 := (decide ((IntKind.wrap .i64 (((List.length x10 : Nat) : Int) - (1 : Int))) < x11)); (bif v12 then (some (ByteArray.empty, (172 : Int))) else (l9_1 fuel (fun (x21, x22) => (some (x21, x22))) (fun (x23, x24) => (if 0 ≤ x24 then (match (x23)[Int.toNat x24]? with | some y25 => (some (y25, (0 : Int))) | none => none) else none)) fuel (x10, x11, (0 : Int)))))) fuel (x1, x2, (1 : Int))))
def F9 (fuel : Nat) : Fun := funOfA fi9 al9 (p9 fuel)
theorem run9 (fuel : Nat) : ∀ y : ((List ByteArray) × Int), runF (ByteArray × Int) T (fns9 fuel) fuel (subsOf [sub9_0 fuel (ByteArray × Int), sub9_1 fuel (ByteArray × Int)]) (defOf Try.f9 an9 0 [] []) (fi9.vs y) (fi9.os y) (altsDec al9) = p9 fuel y := by
  rintro ⟨x1, x2⟩
  kernel_rfl
theorem ok9 (fuel : Nat) : FunOk P 9 (funOfA fi9 al9 (p9 fuel)) :=
  funOfA_ok (subs := (subsOf [sub9_0 fuel (ByteArray × Int), sub9_1 fuel (ByteArray × Int)])) (an := an9) (room := 0) (ks := []) (g0 := []) (fuel := fuel) T_ok (fnsOk9 fuel) mixed (fn := Try.f9) (by kernel_rfl) (by kernel_rfl) (subsOk_cons (subOk9_0 fuel _) (subsOk_cons (subOk9_1 fuel _) subsOk_nil)) (by kernel_rfl) (fun _ => ⟨by kernel_rfl, by kernel_rfl⟩) (run9 fuel)

-- f3: tontine/tontinelaw17.BalanceKeys
def fns3 (fuel : Nat) : Fns := fnsOf [(7, F7 fuel), (8, F8 fuel), (9, F9 fuel)]
theorem fnsOk3 (fuel : Nat) : FnsOk P (fns3 fuel) := (fnsOk_cons (ok7 fuel) (fnsOk_cons (ok8 fuel) (fnsOk_cons (ok9 fuel) fnsOk_nil)))
def fi3 : Fr := ⟨[.d true (.slice (.str)), .d false (.int .i64)], [], 0⟩
def al3 : List (Tm × List To) := [(.d true (.bool), [])]
def fx3_0 : Fr := ⟨[.d true (.bool)], [], 2⟩
def fx3_1 : Fr := ⟨[], [], 2⟩
def fr3_0 : Fr := ⟨[.d true (.slice (.str)), .d true (.int .i64), .c (.slc 0 0), .d true (.str), .d true (.int .i64), .d true (.int .i64)], [.arr 0 (.str)], 1⟩
noncomputable def c3_0 : Code := bodyAt Try.f3 [1, 1, 1, 1, 1, 1, 0, 1, 0]
def s3_0 (fuel : Nat) {R : Type} (F : ((List ByteArray) × Int × ByteArray × Int × Int × (List ByteArray)) → Option R) (k0 : Bool → Option R) (k1 : Unit → Option R) : ((List ByteArray) × Int × ByteArray × Int × Int × (List ByteArray)) → Option R := fun (x6, x7, x8, x9, x10, x11) => (bif (decide (x10 < ((List.length x6 : Nat) : Int))) then (if 0 ≤ x10 ∧ x10 < ((List.length x11 : Nat) : Int) then (match (x11)[(Int.toNat x10)]? with | some y12 => (if 0 ≤ x10 then (match (x6)[Int.toNat x10]? with | some y13 => (bif (!strEq y12 y13) then (k0 false) else (bif (decide (x9 = (0 : Int))) then (if 0 ≤ x10 then (match (x6)[Int.toNat x10]? with | some y14 => (bif (!((!strLess y14 x8) == (decide (x7 ≤ x10)))) then (k0 false) else (F (x6, x7, x8, x9, (IntKind.wrap .i64 (x10 + (1 : Int))), x11))) | none => none) else none) else (F (x6, x7, x8, x9, (IntKind.wrap .i64 (x10 + (1 : Int))), x11)))) | none => none) else none) | none => none) else none) else (k1 ()))
def l3_0 (fuel : Nat) {R : Type} (k0 : Bool → Option R) (k1 : Unit → Option R) : Nat → ((List ByteArray) × Int × ByteArray × Int × Int × (List ByteArray)) → Option R
  | 0, _ => none
  | n + 1, x => s3_0 fuel (l3_0 fuel k0 k1 n) k0 k1 x
def nm3_0 : Norm := ⟨[0, 1, 6, 7, 8, 11], padK 1 [some (0, 0)]⟩
def an3_0 : AN := (.seq (.seq .leaf (.cond .leaf (.norm ⟨[], padK 2 []⟩ .leaf))) (.seq (.block (.seq (.region [(2, { touch := [0] }), (3, { touch := [0] })]) (.cond (.seq .leaf (.norm ⟨[4], padK 2 []⟩ (.ret []))) .leaf))) .leaf))
def al3_0 : AN := .loop nm3_0 an3_0
noncomputable def d3_0 : Code := bodyAt Try.f3 [1, 1, 1, 1, 1, 1, 0, 1, 0, 0]
theorem e3_0 (fuel : Nat) {R : Type} (F : St → Option R) (k : AExit → St → Option R) : ∀ x : ((List ByteArray) × Int × ByteArray × Int × Int × (List ByteArray)), runK R T (fns3 fuel) fuel [] (subsOf []) (partOf d3_0 an3_0) (fr3_0.st [0, 1, 6, 7, 8, 11] x) (backTo R [] nm3_0 F k) = s3_0 fuel (fun x => F (fr3_0.st [0, 1, 6, 7, 8, 11] x)) (fun y => k (.ret []) (fx3_0.st [4] y)) (fun y => k (.exit 0) (fx3_1.st [] y)) x := by
  rintro ⟨x6, x7, x8, x9, x10, x11⟩
  kernel_rfl
theorem u3_0 (fuel : Nat) {R : Type} (k : AExit → St → Option R) (x : ((List ByteArray) × Int × ByteArray × Int × Int × (List ByteArray))) : runK R T (fns3 fuel) fuel [] (subsOf []) (partOf c3_0 al3_0) (fr3_0.st [0, 1, 6, 7, 8, 11] x) k = l3_0 fuel (fun y => k (.ret []) (fx3_0.st [4] y)) (fun y => k (.exit 0) (fx3_1.st [] y)) fuel x :=
  loop_eq (mk := fr3_0.st [0, 1, 6, 7, 8, 11]) (s := fun F x => s3_0 fuel F (fun y => k (.ret []) (fx3_0.st [4] y)) (fun y => k (.exit 0) (fx3_1.st [] y)) x) (l := fun n x => l3_0 fuel (fun y => k (.ret []) (fx3_0.st [4] y)) (fun y => k (.exit 0) (fx3_1.st [] y)) n x) (d := d3_0) (by kernel_rfl) (fun G x => by
    revert x
    rintro ⟨x6, x7, x8, x9, x10, x11⟩
    kernel_rfl) (fun F x => e3_0 fuel F k x) (fun _ => rfl) (fun _ _ => rfl) x
noncomputable def sub3_0 (fuel : Nat) (R : Type) : Sub R := Sub.of [0, 1, 6, 7, 8, 11] c3_0 fr3_0 fun x k => l3_0 fuel (fun y => k (.ret []) (fx3_0.st [4] y)) (fun y => k (.exit 0) (fx3_1.st [] y)) fuel x
theorem subOk3_0 (fuel : Nat) (R : Type) : SubOk P [] 71 (sub3_0 fuel R) :=
  subOk_part (fns := (fns3 fuel)) (fuel := fuel) (subs := (subsOf [])) (an := al3_0) T_ok (fnsOk3 fuel) mixed subsOk_nil (by kernel_rfl) (by kernel_rfl) fun _ _ _ _ h => Sub.of_run (fun (x : ((List ByteArray) × Int × ByteArray × Int × Int × (List ByteArray))) k => u3_0 fuel k x) h
def an3 : AN := (.seq .leaf (.seq .leaf (.seq (.region [(0, { touch := [1], base := 1, ro := false }), (2, { touch := [1], ro := false })]) (.seq (.region [(2, { touch := [1], lend := [some (.slice (.str)), none] })]) (.seq .leaf (.seq (.seq .leaf (.cond (.seq .leaf (.norm ⟨[4], padK 2 []⟩ (.ret []))) .leaf)) (.seq (.seq .leaf (.block (.hole ⟨[0, 1, 6, 7, 8, 11], padK 1 [some (1, 0)]⟩ 0))) (.seq .leaf (.norm ⟨[4], padK 2 []⟩ (.ret []))))))))))
def p3 (fuel : Nat) : ((List ByteArray) × Int) → Option Bool := fun (x1, x2) => (match p7 fuel () with | some z3 => (if (List.length ([] : List ByteArray) + List.length x1) * 16 ≤ 140737488355328 then (match p8 fuel ((([] : List ByteArray) ++ x1), x2) with | some z4 => (match p9 fuel (x1, x2) with | some z5 => (bif (!z3) then (some false) else (bif (!strEq z4.1 z5.1) then (some false) else (bif (!decide (z4.2 = z5.2)) then (some false) else (l3_0 fuel (fun x15 => (some x15)) (fun _ => (some true)) fuel (x1, x2, z4.1, z4.2, (0 : Int), (([] : List ByteArray) ++ x1)))))) | none => none) | none => none) else none) | none => none)
def F3 (fuel : Nat) : Fun := funOfA fi3 al3 (p3 fuel)
theorem run3 (fuel : Nat) : ∀ y : ((List ByteArray) × Int), runF Bool T (fns3 fuel) fuel (subsOf [sub3_0 fuel Bool]) (defOf Try.f3 an3 2 [] []) (fi3.vs y) (fi3.os y) (altsDec al3) = p3 fuel y := by
  rintro ⟨x1, x2⟩
  kernel_rfl
theorem ok3 (fuel : Nat) : FunOk P 3 (funOfA fi3 al3 (p3 fuel)) :=
  funOfA_ok (subs := (subsOf [sub3_0 fuel Bool])) (an := an3) (room := 2) (ks := []) (g0 := []) (fuel := fuel) T_ok (fnsOk3 fuel) mixed (fn := Try.f3) (by kernel_rfl) (by kernel_rfl) (subsOk_cons (subOk3_0 fuel _) subsOk_nil) (by kernel_rfl) (fun _ => ⟨by kernel_rfl, by kernel_rfl⟩) (run3 fuel)

-- f10: tontine/tontinelaw17.own
def fns10 (fuel : Nat) : Fns := fnsOf []
theorem fnsOk10 (fuel : Nat) : FnsOk P (fns10 fuel) := fnsOk_nil
def fi10 : Fr := ⟨[.d true (.slice (.int .i64))], [], 0⟩
def al10 : List (Tm × List To) := [(.sub 0 0 false, [.arr 0 (.int .i64)])]
def an10 : AN := (.seq .leaf (.seq (.region [(0, { touch := [1], base := 1, ro := false }), (2, { touch := [1], ro := false }), (3, { touch := [2], base := 2, ro := false }), (4, { touch := [1, 2], ro := false }), (7, { touch := [1] })]) (.norm ⟨[2], padK 2 [some (1, 0)]⟩ (.ret [some (0, 0)]))))
def p10 (fuel : Nat) : (List Int) → Option (Nat × Nat × (List Int)) := fun x1 => (if (List.length ([] : List Int) + List.length x1) * 8 ≤ 140737488355328 then (if (List.length (([] : List Int) ++ x1) + List.length [(77 : Int)]) * 8 ≤ 140737488355328 then (if 0 ≤ ((List.length x1 : Nat) : Int) ∧ ((List.length x1 : Nat) : Int) ≤ (((List.length ((([] : List Int) ++ x1) ++ [(77 : Int)])) : Nat) : Int) then (some (0, ((Int.toNat ((List.length x1 : Nat) : Int)) - 0), ((([] : List Int) ++ x1) ++ [(77 : Int)]))) else none) else none) else none)
def F10 (fuel : Nat) : Fun := funOfA fi10 al10 (p10 fuel)
theorem run10 (fuel : Nat) : ∀ y : (List Int), runF (Nat × Nat × (List Int)) T (fns10 fuel) fuel (subsOf []) (defOf Try.f10 an10 3 [] []) (fi10.vs y) (fi10.os y) (altsDec al10) = p10 fuel y := by
  rintro x1
  kernel_rfl
theorem ok10 (fuel : Nat) : FunOk P 10 (funOfA fi10 al10 (p10 fuel)) :=
  funOfA_ok (subs := (subsOf [])) (an := an10) (room := 3) (ks := []) (g0 := []) (fuel := fuel) T_ok (fnsOk10 fuel) mixed (fn := Try.f10) (by kernel_rfl) (by kernel_rfl) subsOk_nil (by kernel_rfl) (fun _ => ⟨by kernel_rfl, by kernel_rfl⟩) (run10 fuel)

-- f11: tontine/balance.Split
def fns11 (fuel : Nat) : Fns := fnsOf [(22, F22 fuel)]
theorem fnsOk11 (fuel : Nat) : FnsOk P (fns11 fuel) := (fnsOk_cons (ok22 fuel) fnsOk_nil)
def fi11 : Fr := ⟨[.d false (.slice (.int .i64))], [], 0⟩
def al11 : List (Tm × List To) := [(.tup (.cons (.d true (.int .i64)) (.cons (.d true (.int .i64)) (.c .nil))), [])]
def fx11_0 : Fr := ⟨[.d false (.slice (.int .i64)), .d true (.int .i64)], [], 0⟩
def fr11_0 : Fr := ⟨[.d false (.slice (.int .i64)), .d true (.int .i64), .d false (.slice (.int .i64)), .d true (.int .i64), .d true (.int .i64)], [], 0⟩
noncomputable def c11_0 : Code := bodyAt Try.f11 [1, 1, 1, 0, 1, 0]
def s11_0 (fuel : Nat) {R : Type} (F : ((List Int) × Int × (List Int) × Int × Int) → Option R) (k0 : ((List Int) × Int) → Option R) : ((List Int) × Int × (List Int) × Int × Int) → Option R := fun (x3, x4, x5, x6, x7) => (bif (decide (x7 < x6)) then (if 0 ≤ x7 then (match (x5)[Int.toNat x7]? with | some y8 => (F (x3, (IntKind.wrap .i64 (x4 + y8)), x5, x6, (IntKind.wrap .i64 (x7 + (1 : Int))))) | none => none) else none) else (k0 (x3, x4)))
def l11_0 (fuel : Nat) {R : Type} (k0 : ((List Int) × Int) → Option R) : Nat → ((List Int) × Int × (List Int) × Int × Int) → Option R
  | 0, _ => none
  | n + 1, x => s11_0 fuel (l11_0 fuel k0 n) k0 x
def nm11_0 : Norm := ⟨[0, 4, 16, 17, 18], padK 0 []⟩
def an11_0 : AN := (.seq .leaf (.seq (.cond .leaf (.norm ⟨[0, 4], padK 0 []⟩ .leaf)) (.seq (.block (.seq .leaf .leaf)) .leaf)))
def al11_0 : AN := .loop nm11_0 an11_0
noncomputable def d11_0 : Code := bodyAt Try.f11 [1, 1, 1, 0, 1, 0, 0]
theorem e11_0 (fuel : Nat) {R : Type} (F : St → Option R) (k : AExit → St → Option R) : ∀ x : ((List Int) × Int × (List Int) × Int × Int), runK R T (fns11 fuel) fuel [] (subsOf []) (partOf d11_0 an11_0) (fr11_0.st [0, 4, 16, 17, 18] x) (backTo R [] nm11_0 F k) = s11_0 fuel (fun x => F (fr11_0.st [0, 4, 16, 17, 18] x)) (fun y => k (.exit 0) (fx11_0.st [0, 4] y)) x := by
  rintro ⟨x3, x4, x5, x6, x7⟩
  kernel_rfl
theorem u11_0 (fuel : Nat) {R : Type} (k : AExit → St → Option R) (x : ((List Int) × Int × (List Int) × Int × Int)) : runK R T (fns11 fuel) fuel [] (subsOf []) (partOf c11_0 al11_0) (fr11_0.st [0, 4, 16, 17, 18] x) k = l11_0 fuel (fun y => k (.exit 0) (fx11_0.st [0, 4] y)) fuel x :=
  loop_eq (mk := fr11_0.st [0, 4, 16, 17, 18]) (s := fun F x => s11_0 fuel F (fun y => k (.exit 0) (fx11_0.st [0, 4] y)) x) (l := fun n x => l11_0 fuel (fun y => k (.exit 0) (fx11_0.st [0, 4] y)) n x) (d := d11_0) (by kernel_rfl) (fun G x => by
    revert x
    rintro ⟨x3, x4, x5, x6, x7⟩
    kernel_rfl) (fun F x => e11_0 fuel F k x) (fun _ => rfl) (fun _ _ => rfl) x
noncomputable def sub11_0 (fuel : Nat) (R : Type) : Sub R := Sub.of [0, 4, 16, 17, 18] c11_0 fr11_0 fun x k => l11_0 fuel (fun y => k (.exit 0) (fx11_0.st [0, 4] y)) fuel x
theorem subOk11_0 (fuel : Nat) (R : Type) : SubOk P [] 61 (sub11_0 fuel R) :=
  subOk_part (fns := (fns11 fuel)) (fuel := fuel) (subs := (subsOf [])) (an := al11_0) T_ok (fnsOk11 fuel) mixed subsOk_nil (by kernel_rfl) (by kernel_rfl) fun _ _ _ _ h => Sub.of_run (fun (x : ((List Int) × Int × (List Int) × Int × Int)) k => u11_0 fuel k x) h
def fx11_1 : Fr := ⟨[.d true (.int .i64), .d true (.int .i64), .d true (.int .i64), .d true (.int .i64), .d false (.slice (.int .i64)), .d true (.int .i64), .d true (.int .i64)], [], 0⟩
def fr11_1 : Fr := ⟨[.d true (.int .i64), .d true (.int .i64), .d true (.int .i64), .d true (.int .i64), .d true (.int .i64), .d true (.int .i64), .d false (.slice (.int .i64)), .d true (.int .i64), .d true (.int .i64), .d true (.bool)], [], 0⟩
noncomputable def c11_1 : Code := bodyAt Try.f11 [1, 1, 1, 1, 1, 0, 1, 0, 0, 1, 1, 0, 0, 1, 1, 1, 1]
def j11_1 (fuel : Nat) {R : Type} (k0 : (Int × Int × Int × Int × (List Int) × Int × Int) → Option R) : (Int × Int × Int × Int × Int × Int × (List Int) × Int × Int × Bool) → Option R := fun (x22, x23, x24, x25, x26, x27, x28, x29, x30, x31) => (bif x31 then (k0 (x22, (IntKind.wrap .i64 (x26 + (1 : Int))), x27, x25, x28, x29, x30)) else (k0 (x22, x23, x24, x25, x28, x29, x30)))
def al11_1 : AN := (.fin ⟨[4, 7, 8, 9, 30, 31, 32], padK 0 []⟩ (.cond (.fin ⟨[4, 7, 8, 9, 30, 31, 32], padK 0 []⟩ .leaf) (.fin ⟨[4, 7, 8, 9, 30, 31, 32], padK 0 []⟩ .leaf)))
theorem u11_1 (fuel : Nat) {R : Type} (k : AExit → St → Option R) : ∀ x : (Int × Int × Int × Int × Int × Int × (List Int) × Int × Int × Bool), runK R T (fns11 fuel) fuel [] (subsOf [sub11_0 fuel R]) (partOf c11_1 al11_1) (fr11_1.st [4, 7, 8, 9, 10, 12, 30, 31, 32, 55] x) k = j11_1 fuel (fun y => k .normal (fx11_1.st [4, 7, 8, 9, 30, 31, 32] y)) x := by
  rintro ⟨x22, x23, x24, x25, x26, x27, x28, x29, x30, x31⟩
  kernel_rfl
noncomputable def sub11_1 (fuel : Nat) (R : Type) : Sub R := Sub.of [4, 7, 8, 9, 10, 12, 30, 31, 32, 55] c11_1 fr11_1 fun x k => j11_1 fuel (fun y => k .normal (fx11_1.st [4, 7, 8, 9, 30, 31, 32] y)) x
theorem subOk11_1 (fuel : Nat) (R : Type) : SubOk P [] 61 (sub11_1 fuel R) :=
  subOk_part (fns := (fns11 fuel)) (fuel := fuel) (subs := (subsOf [sub11_0 fuel R])) (an := al11_1) T_ok (fnsOk11 fuel) mixed (subsOk_cons (subOk11_0 fuel R) subsOk_nil) (by kernel_rfl) (by kernel_rfl) fun _ _ _ _ h => Sub.of_run (fun (x : (Int × Int × Int × Int × Int × Int × (List Int) × Int × Int × Bool)) k => u11_1 fuel k x) h
def fx11_2 : Fr := ⟨[.d true (.int .i64)], [], 0⟩
def fr11_2 : Fr := ⟨[.d true (.int .i64), .d true (.int .i64), .d true (.int .i64), .d true (.int .i64), .d false (.slice (.int .i64)), .d true (.int .i64), .d true (.int .i64)], [], 0⟩
noncomputable def c11_2 : Code := bodyAt Try.f11 [1, 1, 1, 1, 1, 0, 1, 0]
def s11_2 (fuel : Nat) {R : Type} (F : (Int × Int × Int × Int × (List Int) × Int × Int) → Option R) (k0 : Int → Option R) : (Int × Int × Int × Int × (List Int) × Int × Int) → Option R := fun (x12, x13, x14, x15, x16, x17, x18) => (bif (decide (x18 < x17)) then (if 0 ≤ x18 then (match (x16)[Int.toNat x18]? with | some y19 => let v20 := (IntKind.wrap .i64 (x12 - (IntKind.wrap .i64 ((2 : Int) * (IntKind.wrap .i64 (x15 + y19)))))); let v21 := (IntKind.wrap .i64 ((IntKind.wrap .i64 ((2 : Int) * (IntKind.wrap .i64 (x15 + y19)))) - x12)); (bif (decide (x18 = (0 : Int))) then (j11_1 fuel (fun (x32, x33, x34, x35, x36, x37, x38) => (F (x32, x33, x34, x35, x36, x37, (IntKind.wrap .i64 (x38 + (1 : Int)))))) (x12, x13, x14, (IntKind.wrap .i64 (x15 + y19)), x18, (if v20 < v21 then v21 else v20), x16, x17, x18, true)) else (j11_1 fuel (fun (x39, x40, x41, x42, x43, x44, x45) => (F (x39, x40, x41, x42, x43, x44, (IntKind.wrap .i64 (x45 + (1 : Int)))))) (x12, x13, x14, (IntKind.wrap .i64 (x15 + y19)), x18, (if v20 < v21 then v21 else v20), x16, x17, x18, (decide ((if v20 < v21 then v21 else v20) < x14))))) | none => none) else none) else (k0 x13))
def l11_2 (fuel : Nat) {R : Type} (k0 : Int → Option R) : Nat → (Int × Int × Int × Int × (List Int) × Int × Int) → Option R
  | 0, _ => none
  | n + 1, x => s11_2 fuel (l11_2 fuel k0 n) k0 x
def nm11_2 : Norm := ⟨[4, 7, 8, 9, 30, 31, 32], padK 0 []⟩
def an11_2 : AN := (.seq .leaf (.seq (.cond .leaf (.norm ⟨[7], padK 0 []⟩ .leaf)) (.seq (.block (.seq .leaf (.seq .leaf (.seq .leaf (.seq .leaf (.hole ⟨[4, 7, 8, 9, 10, 12, 30, 31, 32, 55], padK 0 []⟩ 1)))))) .leaf)))
def al11_2 : AN := .loop nm11_2 an11_2
noncomputable def d11_2 : Code := bodyAt Try.f11 [1, 1, 1, 1, 1, 0, 1, 0, 0]
theorem e11_2 (fuel : Nat) {R : Type} (F : St → Option R) (k : AExit → St → Option R) : ∀ x : (Int × Int × Int × Int × (List Int) × Int × Int), runK R T (fns11 fuel) fuel [] (subsOf [sub11_0 fuel R, sub11_1 fuel R]) (partOf d11_2 an11_2) (fr11_2.st [4, 7, 8, 9, 30, 31, 32] x) (backTo R [] nm11_2 F k) = s11_2 fuel (fun x => F (fr11_2.st [4, 7, 8, 9, 30, 31, 32] x)) (fun y => k (.exit 2) (fx11_2.st [7] y)) x := by
  rintro ⟨x12, x13, x14, x15, x16, x17, x18⟩
  kernel_rfl
theorem u11_2 (fuel : Nat) {R : Type} (k : AExit → St → Option R) (x : (Int × Int × Int × Int × (List Int) × Int × Int)) : runK R T (fns11 fuel) fuel [] (subsOf [sub11_0 fuel R, sub11_1 fuel R]) (partOf c11_2 al11_2) (fr11_2.st [4, 7, 8, 9, 30, 31, 32] x) k = l11_2 fuel (fun y => k (.exit 2) (fx11_2.st [7] y)) fuel x :=
  loop_eq (mk := fr11_2.st [4, 7, 8, 9, 30, 31, 32]) (s := fun F x => s11_2 fuel F (fun y => k (.exit 2) (fx11_2.st [7] y)) x) (l := fun n x => l11_2 fuel (fun y => k (.exit 2) (fx11_2.st [7] y)) n x) (d := d11_2) (by kernel_rfl) (fun G x => by
    revert x
    rintro ⟨x12, x13, x14, x15, x16, x17, x18⟩
    kernel_rfl) (fun F x => e11_2 fuel F k x) (fun _ => rfl) (fun _ _ => rfl) x
noncomputable def sub11_2 (fuel : Nat) (R : Type) : Sub R := Sub.of [4, 7, 8, 9, 30, 31, 32] c11_2 fr11_2 fun x k => l11_2 fuel (fun y => k (.exit 2) (fx11_2.st [7] y)) fuel x
theorem subOk11_2 (fuel : Nat) (R : Type) : SubOk P [] 61 (sub11_2 fuel R) :=
  subOk_part (fns := (fns11 fuel)) (fuel := fuel) (subs := (subsOf [sub11_0 fuel R, sub11_1 fuel R])) (an := al11_2) T_ok (fnsOk11 fuel) mixed (subsOk_cons (subOk11_0 fuel R) (subsOk_cons (subOk11_1 fuel R) subsOk_nil)) (by kernel_rfl) (by kernel_rfl) fun _ _ _ _ h => Sub.of_run (fun (x : (Int × Int × Int × Int × (List Int) × Int × Int)) k => u11_2 fuel k x) h
def an11 : AN := (.seq .leaf (.seq (.seq .leaf (.cond (.seq .leaf (.norm ⟨[2, 3], padK 0 []⟩ (.ret []))) .leaf)) (.seq .leaf (.seq (.seq .leaf (.block (.hole ⟨[0, 4, 16, 17, 18], padK 0 []⟩ 0))) (.seq .leaf (.seq (.seq .leaf (.block (.hole ⟨[4, 7, 8, 9, 30, 31, 32], padK 0 []⟩ 2))) (.seq .leaf (.norm ⟨[2, 3], padK 0 []⟩ (.ret [])))))))))
def p11 (fuel : Nat) : (List Int) → Option (Int × Int) := fun x1 => (match p22 fuel (x1, (2 : Int), (64 : Int)) with | some z2 => (bif (!z2) then (some ((0 : Int), (171 : Int))) else (l11_0 fuel (fun (x9, x10) => (if 0 ≤ (IntKind.wrap .i64 (((List.length x9 : Nat) : Int) - (1 : Int))) ∧ (IntKind.wrap .i64 (((List.length x9 : Nat) : Int) - (1 : Int))) ≤ (((List.length x9) : Nat) : Int) then let v11 := (List.drop 0 (List.take (Int.toNat (IntKind.wrap .i64 (((List.length x9 : Nat) : Int) - (1 : Int)))) x9)); (l11_2 fuel (fun x46 => (some (x46, (0 : Int)))) fuel (x10, (1 : Int), (0 : Int), (0 : Int), v11, ((List.length v11 : Nat) : Int), (0 : Int))) else none)) fuel (x1, (0 : Int), x1, ((List.length x1 : Nat) : Int), (0 : Int)))) | none => none)
def F11 (fuel : Nat) : Fun := funOfA fi11 al11 (p11 fuel)
theorem run11 (fuel : Nat) : ∀ y : (List Int), runF (Int × Int) T (fns11 fuel) fuel (subsOf [sub11_0 fuel (Int × Int), sub11_1 fuel (Int × Int), sub11_2 fuel (Int × Int)]) (defOf Try.f11 an11 0 [] []) (fi11.vs y) (fi11.os y) (altsDec al11) = p11 fuel y := by
  rintro x1
  kernel_rfl
theorem ok11 (fuel : Nat) : FunOk P 11 (funOfA fi11 al11 (p11 fuel)) :=
  funOfA_ok (subs := (subsOf [sub11_0 fuel (Int × Int), sub11_1 fuel (Int × Int), sub11_2 fuel (Int × Int)])) (an := an11) (room := 0) (ks := []) (g0 := []) (fuel := fuel) T_ok (fnsOk11 fuel) mixed (fn := Try.f11) (by kernel_rfl) (by kernel_rfl) (subsOk_cons (subOk11_0 fuel _) (subsOk_cons (subOk11_1 fuel _) (subsOk_cons (subOk11_2 fuel _) subsOk_nil))) (by kernel_rfl) (fun _ => ⟨by kernel_rfl, by kernel_rfl⟩) (run11 fuel)

-- f23: tontine/tontineref17.Fair
def fns23 (fuel : Nat) : Fns := fnsOf []
theorem fnsOk23 (fuel : Nat) : FnsOk P (fns23 fuel) := fnsOk_nil
def fi23 : Fr := ⟨[.d true (.slice (.int .i64)), .d false (.int .i64), .d false (.int .i64)], [], 0⟩
def al23 : List (Tm × List To) := [(.d true (.bool), [])]
def fx23_0 : Fr := ⟨[.d true (.bool)], [], 0⟩
def fx23_1 : Fr := ⟨[], [], 0⟩
def fr23_0 : Fr := ⟨[.d true (.slice (.int .i64)), .d true (.int .i64)], [], 0⟩
noncomputable def c23_0 : Code := bodyAt Try.f23 [1, 1, 0, 1, 0]
def s23_0 (fuel : Nat) {R : Type} (F : ((List Int) × Int) → Option R) (k0 : Bool → Option R) (k1 : Unit → Option R) : ((List Int) × Int) → Option R := fun (x4, x5) => (bif (decide (x5 < ((List.length x4 : Nat) : Int))) then (if 0 ≤ x5 then (match (x4)[Int.toNat x5]? with | some y6 => (bif (decide (y6 < (0 : Int))) then (k0 false) else (if 0 ≤ x5 then (match (x4)[Int.toNat x5]? with | some y7 => (bif (decide ((2147483647 : Int) < y7)) then (k0 false) else (F (x4, (IntKind.wrap .i64 (x5 + (1 : Int)))))) | none => none) else none)) | none => none) else none) else (k1 ()))
def l23_0 (fuel : Nat) {R : Type} (k0 : Bool → Option R) (k1 : Unit → Option R) : Nat → ((List Int) × Int) → Option R
  | 0, _ => none
  | n + 1, x => s23_0 fuel (l23_0 fuel k0 k1 n) k0 k1 x
def nm23_0 : Norm := ⟨[0, 7], padK 0 []⟩
def an23_0 : AN := (.seq (.seq .leaf (.cond .leaf (.norm ⟨[], padK 0 []⟩ .leaf))) (.seq (.block (.seq .leaf (.cond (.seq .leaf (.norm ⟨[6], padK 0 []⟩ (.ret []))) .leaf))) .leaf))
def al23_0 : AN := .loop nm23_0 an23_0
noncomputable def d23_0 : Code := bodyAt Try.f23 [1, 1, 0, 1, 0, 0]
theorem e23_0 (fuel : Nat) {R : Type} (F : St → Option R) (k : AExit → St → Option R) : ∀ x : ((List Int) × Int), runK R T (fns23 fuel) fuel [] (subsOf []) (partOf d23_0 an23_0) (fr23_0.st [0, 7] x) (backTo R [] nm23_0 F k) = s23_0 fuel (fun x => F (fr23_0.st [0, 7] x)) (fun y => k (.ret []) (fx23_0.st [6] y)) (fun y => k (.exit 0) (fx23_1.st [] y)) x := by
  rintro ⟨x4, x5⟩
  kernel_rfl
theorem u23_0 (fuel : Nat) {R : Type} (k : AExit → St → Option R) (x : ((List Int) × Int)) : runK R T (fns23 fuel) fuel [] (subsOf []) (partOf c23_0 al23_0) (fr23_0.st [0, 7] x) k = l23_0 fuel (fun y => k (.ret []) (fx23_0.st [6] y)) (fun y => k (.exit 0) (fx23_1.st [] y)) fuel x :=
  loop_eq (mk := fr23_0.st [0, 7]) (s := fun F x => s23_0 fuel F (fun y => k (.ret []) (fx23_0.st [6] y)) (fun y => k (.exit 0) (fx23_1.st [] y)) x) (l := fun n x => l23_0 fuel (fun y => k (.ret []) (fx23_0.st [6] y)) (fun y => k (.exit 0) (fx23_1.st [] y)) n x) (d := d23_0) (by kernel_rfl) (fun G x => by
    revert x
    rintro ⟨x4, x5⟩
    kernel_rfl) (fun F x => e23_0 fuel F k x) (fun _ => rfl) (fun _ _ => rfl) x
noncomputable def sub23_0 (fuel : Nat) (R : Type) : Sub R := Sub.of [0, 7] c23_0 fr23_0 fun x k => l23_0 fuel (fun y => k (.ret []) (fx23_0.st [6] y)) (fun y => k (.exit 0) (fx23_1.st [] y)) fuel x
theorem subOk23_0 (fuel : Nat) (R : Type) : SubOk P [] 36 (sub23_0 fuel R) :=
  subOk_part (fns := (fns23 fuel)) (fuel := fuel) (subs := (subsOf [])) (an := al23_0) T_ok (fnsOk23 fuel) mixed subsOk_nil (by kernel_rfl) (by kernel_rfl) fun _ _ _ _ h => Sub.of_run (fun (x : ((List Int) × Int)) k => u23_0 fuel k x) h
def an23 : AN := (.seq .leaf (.seq (.seq .leaf (.cond (.seq .leaf (.norm ⟨[6], padK 0 []⟩ (.ret []))) .leaf)) (.seq (.seq .leaf (.block (.hole ⟨[0, 7], padK 0 []⟩ 0))) (.seq .leaf (.norm ⟨[6], padK 0 []⟩ (.ret []))))))
def p23 (fuel : Nat) : ((List Int) × Int × Int) → Option Bool := fun (x1, x2, x3) => (bif (decide (((List.length x1 : Nat) : Int) < x2)) then (some false) else (bif (decide (x3 < ((List.length x1 : Nat) : Int))) then (some false) else (l23_0 fuel (fun x8 => (some x8)) (fun _ => (some true)) fuel (x1, (0 : Int)))))
def F23 (fuel : Nat) : Fun := funOfA fi23 al23 (p23 fuel)
theorem run23 (fuel : Nat) : ∀ y : ((List Int) × Int × Int), runF Bool T (fns23 fuel) fuel (subsOf [sub23_0 fuel Bool]) (defOf Try.f23 an23 0 [] []) (fi23.vs y) (fi23.os y) (altsDec al23) = p23 fuel y := by
  rintro ⟨x1, x2, x3⟩
  kernel_rfl
theorem ok23 (fuel : Nat) : FunOk P 23 (funOfA fi23 al23 (p23 fuel)) :=
  funOfA_ok (subs := (subsOf [sub23_0 fuel Bool])) (an := an23) (room := 0) (ks := []) (g0 := []) (fuel := fuel) T_ok (fnsOk23 fuel) mixed (fn := Try.f23) (by kernel_rfl) (by kernel_rfl) (subsOk_cons (subOk23_0 fuel _) subsOk_nil) (by kernel_rfl) (fun _ => ⟨by kernel_rfl, by kernel_rfl⟩) (run23 fuel)

-- f12: tontine/tontineref17.Split
def fns12 (fuel : Nat) : Fns := fnsOf [(23, F23 fuel)]
theorem fnsOk12 (fuel : Nat) : FnsOk P (fns12 fuel) := (fnsOk_cons (ok23 fuel) fnsOk_nil)
def fi12 : Fr := ⟨[.d true (.slice (.int .i64))], [], 0⟩
def al12 : List (Tm × List To) := [(.tup (.cons (.d true (.int .i64)) (.cons (.d true (.int .i64)) (.c .nil))), [])]
def fx12_0 : Fr := ⟨[.d true (.slice (.int .i64)), .d true (.int .i64), .d true (.int .i64), .d true (.int .i64), .d true (.int .i64)], [], 0⟩
def fr12_0 : Fr := ⟨[.d true (.slice (.int .i64)), .d true (.int .i64), .d true (.int .i64), .d true (.int .i64), .d true (.int .i64), .d true (.int .i64)], [], 0⟩
noncomputable def c12_0 : Code := bodyAt Try.f12 [1, 1, 1, 1, 1, 0, 1, 0, 0, 1, 0, 0, 1, 0, 1, 0]
def s12_0 (fuel : Nat) {R : Type} (F : ((List Int) × Int × Int × Int × Int × Int) → Option R) (k0 : ((List Int) × Int × Int × Int × Int) → Option R) : ((List Int) × Int × Int × Int × Int × Int) → Option R := fun (x7, x8, x9, x10, x11, x12) => (bif (decide (x12 < ((List.length x7 : Nat) : Int))) then (bif (decide (x12 < x10)) then (if 0 ≤ x12 then (match (x7)[Int.toNat x12]? with | some y13 => (F (x7, x8, x9, x10, (IntKind.wrap .i64 (x11 + y13)), (IntKind.wrap .i64 (x12 + (1 : Int))))) | none => none) else none) else (if 0 ≤ x12 then (match (x7)[Int.toNat x12]? with | some y14 => (F (x7, x8, x9, x10, (IntKind.wrap .i64 (x11 - y14)), (IntKind.wrap .i64 (x12 + (1 : Int))))) | none => none) else none)) else (k0 (x7, x8, x9, x10, x11)))
def l12_0 (fuel : Nat) {R : Type} (k0 : ((List Int) × Int × Int × Int × Int) → Option R) : Nat → ((List Int) × Int × Int × Int × Int × Int) → Option R
  | 0, _ => none
  | n + 1, x => s12_0 fuel (l12_0 fuel k0 n) k0 x
def nm12_0 : Norm := ⟨[0, 5, 6, 7, 8, 9], padK 0 []⟩
def an12_0 : AN := (.seq (.seq .leaf (.cond .leaf (.norm ⟨[0, 5, 6, 7, 8], padK 0 []⟩ .leaf))) (.seq (.block (.seq .leaf (.cond (.fin ⟨[0, 5, 6, 7, 8, 9], padK 0 []⟩ .leaf) (.fin ⟨[0, 5, 6, 7, 8, 9], padK 0 []⟩ .leaf)))) .leaf))
def al12_0 : AN := .loop nm12_0 an12_0
noncomputable def d12_0 : Code := bodyAt Try.f12 [1, 1, 1, 1, 1, 0, 1, 0, 0, 1, 0, 0, 1, 0, 1, 0, 0]
theorem e12_0 (fuel : Nat) {R : Type} (F : St → Option R) (k : AExit → St → Option R) : ∀ x : ((List Int) × Int × Int × Int × Int × Int), runK R T (fns12 fuel) fuel [] (subsOf []) (partOf d12_0 an12_0) (fr12_0.st [0, 5, 6, 7, 8, 9] x) (backTo R [] nm12_0 F k) = s12_0 fuel (fun x => F (fr12_0.st [0, 5, 6, 7, 8, 9] x)) (fun y => k (.exit 2) (fx12_0.st [0, 5, 6, 7, 8] y)) x := by
  rintro ⟨x7, x8, x9, x10, x11, x12⟩
  kernel_rfl
theorem u12_0 (fuel : Nat) {R : Type} (k : AExit → St → Option R) (x : ((List Int) × Int × Int × Int × Int × Int)) : runK R T (fns12 fuel) fuel [] (subsOf []) (partOf c12_0 al12_0) (fr12_0.st [0, 5, 6, 7, 8, 9] x) k = l12_0 fuel (fun y => k (.exit 2) (fx12_0.st [0, 5, 6, 7, 8] y)) fuel x :=
  loop_eq (mk := fr12_0.st [0, 5, 6, 7, 8, 9]) (s := fun F x => s12_0 fuel F (fun y => k (.exit 2) (fx12_0.st [0, 5, 6, 7, 8] y)) x) (l := fun n x => l12_0 fuel (fun y => k (.exit 2) (fx12_0.st [0, 5, 6, 7, 8] y)) n x) (d := d12_0) (by kernel_rfl) (fun G x => by
    revert x
    rintro ⟨x7, x8, x9, x10, x11, x12⟩
    kernel_rfl) (fun F x => e12_0 fuel F k x) (fun _ => rfl) (fun _ _ => rfl) x
noncomputable def sub12_0 (fuel : Nat) (R : Type) : Sub R := Sub.of [0, 5, 6, 7, 8, 9] c12_0 fr12_0 fun x k => l12_0 fuel (fun y => k (.exit 2) (fx12_0.st [0, 5, 6, 7, 8] y)) fuel x
theorem subOk12_0 (fuel : Nat) (R : Type) : SubOk P [] 55 (sub12_0 fuel R) :=
  subOk_part (fns := (fns12 fuel)) (fuel := fuel) (subs := (subsOf [])) (an := al12_0) T_ok (fnsOk12 fuel) mixed subsOk_nil (by kernel_rfl) (by kernel_rfl) fun _ _ _ _ h => Sub.of_run (fun (x : ((List Int) × Int × Int × Int × Int × Int)) k => u12_0 fuel k x) h
def fx12_1 : Fr := ⟨[.d true (.slice (.int .i64)), .d true (.int .i64), .d true (.int .i64), .d true (.int .i64)], [], 0⟩
def fr12_1 : Fr := ⟨[.d true (.slice (.int .i64)), .d true (.int .i64), .d true (.int .i64), .d true (.int .i64), .d true (.int .i64), .d true (.bool)], [], 0⟩
noncomputable def c12_1 : Code := bodyAt Try.f12 [1, 1, 1, 1, 1, 0, 1, 0, 0, 1, 0, 0, 1, 1, 1, 1]
def j12_1 (fuel : Nat) {R : Type} (k0 : ((List Int) × Int × Int × Int) → Option R) : ((List Int) × Int × Int × Int × Int × Bool) → Option R := fun (x25, x26, x27, x28, x29, x30) => (bif x30 then (k0 (x25, x28, x29, x28)) else (k0 (x25, x26, x27, x28)))
def al12_1 : AN := (.fin ⟨[0, 5, 6, 7], padK 0 []⟩ (.cond (.fin ⟨[0, 5, 6, 7], padK 0 []⟩ (.seq .leaf .leaf)) (.fin ⟨[0, 5, 6, 7], padK 0 []⟩ .leaf)))
theorem u12_1 (fuel : Nat) {R : Type} (k : AExit → St → Option R) : ∀ x : ((List Int) × Int × Int × Int × Int × Bool), runK R T (fns12 fuel) fuel [] (subsOf [sub12_0 fuel R]) (partOf c12_1 al12_1) (fr12_1.st [0, 5, 6, 7, 8, 51] x) k = j12_1 fuel (fun y => k .normal (fx12_1.st [0, 5, 6, 7] y)) x := by
  rintro ⟨x25, x26, x27, x28, x29, x30⟩
  kernel_rfl
noncomputable def sub12_1 (fuel : Nat) (R : Type) : Sub R := Sub.of [0, 5, 6, 7, 8, 51] c12_1 fr12_1 fun x k => j12_1 fuel (fun y => k .normal (fx12_1.st [0, 5, 6, 7] y)) x
theorem subOk12_1 (fuel : Nat) (R : Type) : SubOk P [] 55 (sub12_1 fuel R) :=
  subOk_part (fns := (fns12 fuel)) (fuel := fuel) (subs := (subsOf [sub12_0 fuel R])) (an := al12_1) T_ok (fnsOk12 fuel) mixed (subsOk_cons (subOk12_0 fuel R) subsOk_nil) (by kernel_rfl) (by kernel_rfl) fun _ _ _ _ h => Sub.of_run (fun (x : ((List Int) × Int × Int × Int × Int × Bool)) k => u12_1 fuel k x) h
def fr12_2 : Fr := ⟨[.d true (.slice (.int .i64)), .d true (.int .i64), .d true (.int .i64), .d true (.int .i64), .d true (.int .i64)], [], 0⟩
noncomputable def c12_2 : Code := bodyAt Try.f12 [1, 1, 1, 1, 1, 0, 1, 0, 0, 1, 0, 0, 1, 1, 1]
def j12_2 (fuel : Nat) {R : Type} (k0 : ((List Int) × Int × Int × Int) → Option R) : ((List Int) × Int × Int × Int × Int) → Option R := fun (x20, x21, x22, x23, x24) => (bif (decide (x21 = (0 : Int))) then (j12_1 fuel (fun (x31, x32, x33, x34) => (k0 (x31, x32, x33, x34))) (x20, x21, x22, x23, x24, true)) else (j12_1 fuel (fun (x35, x36, x37, x38) => (k0 (x35, x36, x37, x38))) (x20, x21, x22, x23, x24, (decide (x24 < x22)))))
def al12_2 : AN := (.fin ⟨[0, 5, 6, 7], padK 0 []⟩ (.seq .leaf (.hole ⟨[0, 5, 6, 7, 8, 51], padK 0 []⟩ 1)))
theorem u12_2 (fuel : Nat) {R : Type} (k : AExit → St → Option R) : ∀ x : ((List Int) × Int × Int × Int × Int), runK R T (fns12 fuel) fuel [] (subsOf [sub12_0 fuel R, sub12_1 fuel R]) (partOf c12_2 al12_2) (fr12_2.st [0, 5, 6, 7, 8] x) k = j12_2 fuel (fun y => k .normal (fx12_1.st [0, 5, 6, 7] y)) x := by
  rintro ⟨x20, x21, x22, x23, x24⟩
  kernel_rfl
noncomputable def sub12_2 (fuel : Nat) (R : Type) : Sub R := Sub.of [0, 5, 6, 7, 8] c12_2 fr12_2 fun x k => j12_2 fuel (fun y => k .normal (fx12_1.st [0, 5, 6, 7] y)) x
theorem subOk12_2 (fuel : Nat) (R : Type) : SubOk P [] 55 (sub12_2 fuel R) :=
  subOk_part (fns := (fns12 fuel)) (fuel := fuel) (subs := (subsOf [sub12_0 fuel R, sub12_1 fuel R])) (an := al12_2) T_ok (fnsOk12 fuel) mixed (subsOk_cons (subOk12_0 fuel R) (subsOk_cons (subOk12_1 fuel R) subsOk_nil)) (by kernel_rfl) (by kernel_rfl) fun _ _ _ _ h => Sub.of_run (fun (x : ((List Int) × Int × Int × Int × Int)) k => u12_2 fuel k x) h
def fx12_2 : Fr := ⟨[.d true (.int .i64)], [], 0⟩
def fr12_3 : Fr := ⟨[.d true (.slice (.int .i64)), .d true (.int .i64), .d true (.int .i64), .d true (.int .i64)], [], 0⟩
noncomputable def c12_3 : Code := bodyAt Try.f12 [1, 1, 1, 1, 1, 0, 1, 0]
def s12_3 (fuel : Nat) {R : Type} (F : ((List Int) × Int × Int × Int) → Option R) (k0 : Int → Option R) : ((List Int) × Int × Int × Int) → Option R := fun (x3, x4, x5, x6) => (bif (decide (x6 < ((List.length x3 : Nat) : Int))) then (l12_0 fuel (fun (x15, x16, x17, x18, x19) => (bif (decide (x19 < (0 : Int))) then (j12_2 fuel (fun (x39, x40, x41, x42) => (F (x39, x40, x41, (IntKind.wrap .i64 (x42 + (1 : Int)))))) (x15, x16, x17, x18, (IntKind.wrap .i64 (0 - x19)))) else (j12_2 fuel (fun (x43, x44, x45, x46) => (F (x43, x44, x45, (IntKind.wrap .i64 (x46 + (1 : Int)))))) (x15, x16, x17, x18, x19)))) fuel (x3, x4, x5, x6, (0 : Int), (0 : Int))) else (k0 x4))
def l12_3 (fuel : Nat) {R : Type} (k0 : Int → Option R) : Nat → ((List Int) × Int × Int × Int) → Option R
  | 0, _ => none
  | n + 1, x => s12_3 fuel (l12_3 fuel k0 n) k0 x
def nm12_3 : Norm := ⟨[0, 5, 6, 7], padK 0 []⟩
def an12_3 : AN := (.seq (.seq .leaf (.cond .leaf (.norm ⟨[5], padK 0 []⟩ .leaf))) (.seq (.block (.seq .leaf (.seq (.seq .leaf (.block (.hole ⟨[0, 5, 6, 7, 8, 9], padK 0 []⟩ 0))) (.seq (.seq .leaf (.cond (.fin ⟨[0, 5, 6, 7, 8], padK 0 []⟩ .leaf) (.fin ⟨[0, 5, 6, 7, 8], padK 0 []⟩ .leaf))) (.hole ⟨[0, 5, 6, 7, 8], padK 0 []⟩ 2))))) .leaf))
def al12_3 : AN := .loop nm12_3 an12_3
noncomputable def d12_3 : Code := bodyAt Try.f12 [1, 1, 1, 1, 1, 0, 1, 0, 0]
theorem e12_3 (fuel : Nat) {R : Type} (F : St → Option R) (k : AExit → St → Option R) : ∀ x : ((List Int) × Int × Int × Int), runK R T (fns12 fuel) fuel [] (subsOf [sub12_0 fuel R, sub12_1 fuel R, sub12_2 fuel R]) (partOf d12_3 an12_3) (fr12_3.st [0, 5, 6, 7] x) (backTo R [] nm12_3 F k) = s12_3 fuel (fun x => F (fr12_3.st [0, 5, 6, 7] x)) (fun y => k (.exit 0) (fx12_2.st [5] y)) x := by
  rintro ⟨x3, x4, x5, x6⟩
  kernel_rfl
theorem u12_3 (fuel : Nat) {R : Type} (k : AExit → St → Option R) (x : ((List Int) × Int × Int × Int)) : runK R T (fns12 fuel) fuel [] (subsOf [sub12_0 fuel R, sub12_1 fuel R, sub12_2 fuel R]) (partOf c12_3 al12_3) (fr12_3.st [0, 5, 6, 7] x) k = l12_3 fuel (fun y => k (.exit 0) (fx12_2.st [5] y)) fuel x :=
  loop_eq (mk := fr12_3.st [0, 5, 6, 7]) (s := fun F x => s12_3 fuel F (fun y => k (.exit 0) (fx12_2.st [5] y)) x) (l := fun n x => l12_3 fuel (fun y => k (.exit 0) (fx12_2.st [5] y)) n x) (d := d12_3) (by kernel_rfl) (fun G x => by
    revert x
    rintro ⟨x3, x4, x5, x6⟩
    kernel_rfl) (fun F x => e12_3 fuel F k x) (fun _ => rfl) (fun _ _ => rfl) x
noncomputable def sub12_3 (fuel : Nat) (R : Type) : Sub R := Sub.of [0, 5, 6, 7] c12_3 fr12_3 fun x k => l12_3 fuel (fun y => k (.exit 0) (fx12_2.st [5] y)) fuel x
theorem subOk12_3 (fuel : Nat) (R : Type) : SubOk P [] 55 (sub12_3 fuel R) :=
  subOk_part (fns := (fns12 fuel)) (fuel := fuel) (subs := (subsOf [sub12_0 fuel R, sub12_1 fuel R, sub12_2 fuel R])) (an := al12_3) T_ok (fnsOk12 fuel) mixed (subsOk_cons (subOk12_0 fuel R) (subsOk_cons (subOk12_1 fuel R) (subsOk_cons (subOk12_2 fuel R) subsOk_nil))) (by kernel_rfl) (by kernel_rfl) fun _ _ _ _ h => Sub.of_run (fun (x : ((List Int) × Int × Int × Int)) k => u12_3 fuel k x) h
def an12 : AN := (.seq .leaf (.seq .leaf (.seq (.seq .leaf (.cond (.seq .leaf (.norm ⟨[2, 3], padK 0 []⟩ (.ret []))) .leaf)) (.seq .leaf (.seq .leaf (.seq (.seq .leaf (.block (.hole ⟨[0, 5, 6, 7], padK 0 []⟩ 3))) (.seq .leaf (.norm ⟨[2, 3], padK 0 []⟩ (.ret [])))))))))
def p12 (fuel : Nat) : (List Int) → Option (Int × Int) := fun x1 => (match p23 fuel (x1, (2 : Int), (64 : Int)) with | some z2 => (bif (!z2) then (some ((0 : Int), (171 : Int))) else (l12_3 fuel (fun x47 => (some (x47, (0 : Int)))) fuel (x1, (0 : Int), (0 : Int), (1 : Int)))) | none => none)
def F12 (fuel : Nat) : Fun := funOfA fi12 al12 (p12 fuel)
theorem run12 (fuel : Nat) : ∀ y : (List Int), runF (Int × Int) T (fns12 fuel) fuel (subsOf [sub12_0 fuel (Int × Int), sub12_1 fuel (Int × Int), sub12_2 fuel (Int × Int), sub12_3 fuel (Int × Int)]) (defOf Try.f12 an12 0 [] []) (fi12.vs y) (fi12.os y) (altsDec al12) = p12 fuel y := by
  rintro x1
  kernel_rfl
theorem ok12 (fuel : Nat) : FunOk P 12 (funOfA fi12 al12 (p12 fuel)) :=
  funOfA_ok (subs := (subsOf [sub12_0 fuel (Int × Int), sub12_1 fuel (Int × Int), sub12_2 fuel (Int × Int), sub12_3 fuel (Int × Int)])) (an := an12) (room := 0) (ks := []) (g0 := []) (fuel := fuel) T_ok (fnsOk12 fuel) mixed (fn := Try.f12) (by kernel_rfl) (by kernel_rfl) (subsOk_cons (subOk12_0 fuel _) (subsOk_cons (subOk12_1 fuel _) (subsOk_cons (subOk12_2 fuel _) (subsOk_cons (subOk12_3 fuel _) subsOk_nil)))) (by kernel_rfl) (fun _ => ⟨by kernel_rfl, by kernel_rfl⟩) (run12 fuel)

-- f18: tontine/tontineref17.Same
def fns18 (fuel : Nat) : Fns := fnsOf []
theorem fnsOk18 (fuel : Nat) : FnsOk P (fns18 fuel) := fnsOk_nil
def fi18 : Fr := ⟨[.d false (.slice (.int .i64)), .d true (.slice (.int .i64))], [], 0⟩
def al18 : List (Tm × List To) := [(.d true (.bool), [])]
def fx18_0 : Fr := ⟨[.d true (.bool)], [], 0⟩
def fx18_1 : Fr := ⟨[], [], 0⟩
def fr18_0 : Fr := ⟨[.d false (.slice (.int .i64)), .d true (.slice (.int .i64)), .d true (.int .i64)], [], 0⟩
noncomputable def c18_0 : Code := bodyAt Try.f18 [1, 1, 0, 1, 0]
def s18_0 (fuel : Nat) {R : Type} (F : ((List Int) × (List Int) × Int) → Option R) (k0 : Bool → Option R) (k1 : Unit → Option R) : ((List Int) × (List Int) × Int) → Option R := fun (x4, x5, x6) => (bif (decide (x6 < ((List.length x4 : Nat) : Int))) then (if 0 ≤ x6 then (match (x4)[Int.toNat x6]? with | some y7 => (if 0 ≤ x6 then (match (x5)[Int.toNat x6]? with | some y8 => (bif (!decide (y7 = y8)) then (k0 false) else (F (x4, x5, (IntKind.wrap .i64 (x6 + (1 : Int)))))) | none => none) else none) | none => none) else none) else (k1 ()))
def l18_0 (fuel : Nat) {R : Type} (k0 : Bool → Option R) (k1 : Unit → Option R) : Nat → ((List Int) × (List Int) × Int) → Option R
  | 0, _ => none
  | n + 1, x => s18_0 fuel (l18_0 fuel k0 k1 n) k0 k1 x
def nm18_0 : Norm := ⟨[0, 1, 5], padK 0 []⟩
def an18_0 : AN := (.seq (.seq .leaf (.cond .leaf (.norm ⟨[], padK 0 []⟩ .leaf))) (.seq (.block (.seq .leaf (.cond (.seq .leaf (.norm ⟨[4], padK 0 []⟩ (.ret []))) .leaf))) .leaf))
def al18_0 : AN := .loop nm18_0 an18_0
noncomputable def d18_0 : Code := bodyAt Try.f18 [1, 1, 0, 1, 0, 0]
theorem e18_0 (fuel : Nat) {R : Type} (F : St → Option R) (k : AExit → St → Option R) : ∀ x : ((List Int) × (List Int) × Int), runK R T (fns18 fuel) fuel [] (subsOf []) (partOf d18_0 an18_0) (fr18_0.st [0, 1, 5] x) (backTo R [] nm18_0 F k) = s18_0 fuel (fun x => F (fr18_0.st [0, 1, 5] x)) (fun y => k (.ret []) (fx18_0.st [4] y)) (fun y => k (.exit 0) (fx18_1.st [] y)) x := by
  rintro ⟨x4, x5, x6⟩
  kernel_rfl
theorem u18_0 (fuel : Nat) {R : Type} (k : AExit → St → Option R) (x : ((List Int) × (List Int) × Int)) : runK R T (fns18 fuel) fuel [] (subsOf []) (partOf c18_0 al18_0) (fr18_0.st [0, 1, 5] x) k = l18_0 fuel (fun y => k (.ret []) (fx18_0.st [4] y)) (fun y => k (.exit 0) (fx18_1.st [] y)) fuel x :=
  loop_eq (mk := fr18_0.st [0, 1, 5]) (s := fun F x => s18_0 fuel F (fun y => k (.ret []) (fx18_0.st [4] y)) (fun y => k (.exit 0) (fx18_1.st [] y)) x) (l := fun n x => l18_0 fuel (fun y => k (.ret []) (fx18_0.st [4] y)) (fun y => k (.exit 0) (fx18_1.st [] y)) n x) (d := d18_0) (by kernel_rfl) (fun G x => by
    revert x
    rintro ⟨x4, x5, x6⟩
    kernel_rfl) (fun F x => e18_0 fuel F k x) (fun _ => rfl) (fun _ _ => rfl) x
noncomputable def sub18_0 (fuel : Nat) (R : Type) : Sub R := Sub.of [0, 1, 5] c18_0 fr18_0 fun x k => l18_0 fuel (fun y => k (.ret []) (fx18_0.st [4] y)) (fun y => k (.exit 0) (fx18_1.st [] y)) fuel x
theorem subOk18_0 (fuel : Nat) (R : Type) : SubOk P [] 26 (sub18_0 fuel R) :=
  subOk_part (fns := (fns18 fuel)) (fuel := fuel) (subs := (subsOf [])) (an := al18_0) T_ok (fnsOk18 fuel) mixed subsOk_nil (by kernel_rfl) (by kernel_rfl) fun _ _ _ _ h => Sub.of_run (fun (x : ((List Int) × (List Int) × Int)) k => u18_0 fuel k x) h
def an18 : AN := (.seq .leaf (.seq (.seq .leaf (.cond (.seq .leaf (.norm ⟨[4], padK 0 []⟩ (.ret []))) .leaf)) (.seq (.seq .leaf (.block (.hole ⟨[0, 1, 5], padK 0 []⟩ 0))) (.seq .leaf (.norm ⟨[4], padK 0 []⟩ (.ret []))))))
def p18 (fuel : Nat) : ((List Int) × (List Int)) → Option Bool := fun (x1, x2) => let v3 := (!decide (((List.length x1 : Nat) : Int) = ((List.length x2 : Nat) : Int))); (bif v3 then (some false) else (l18_0 fuel (fun x9 => (some x9)) (fun _ => (some true)) fuel (x1, x2, (0 : Int))))
def F18 (fuel : Nat) : Fun := funOfA fi18 al18 (p18 fuel)
theorem run18 (fuel : Nat) : ∀ y : ((List Int) × (List Int)), runF Bool T (fns18 fuel) fuel (subsOf [sub18_0 fuel Bool]) (defOf Try.f18 an18 0 [] []) (fi18.vs y) (fi18.os y) (altsDec al18) = p18 fuel y := by
  rintro ⟨x1, x2⟩
  kernel_rfl
theorem ok18 (fuel : Nat) : FunOk P 18 (funOfA fi18 al18 (p18 fuel)) :=
  funOfA_ok (subs := (subsOf [sub18_0 fuel Bool])) (an := an18) (room := 0) (ks := []) (g0 := []) (fuel := fuel) T_ok (fnsOk18 fuel) mixed (fn := Try.f18) (by kernel_rfl) (by kernel_rfl) (subsOk_cons (subOk18_0 fuel _) subsOk_nil) (by kernel_rfl) (fun _ => ⟨by kernel_rfl, by kernel_rfl⟩) (run18 fuel)

-- f13: tontine/tontinelaw17.still
def fns13 (fuel : Nat) : Fns := fnsOf [(18, F18 fuel)]
theorem fnsOk13 (fuel : Nat) : FnsOk P (fns13 fuel) := (fnsOk_cons (ok18 fuel) fnsOk_nil)
def fi13 : Fr := ⟨[.sub 0 0 false, .d true (.slice (.int .i64))], [.arr 0 (.int .i64)], 0⟩
def al13 : List (Tm × List To) := [(.d true (.bool), [.arr 0 (.int .i64)])]
def an13 : AN := (.seq .leaf (.seq (.region [(2, { touch := [0], lend := [some (.slice (.int .i64)), none] })]) (.seq (.region [(6, { touch := [0] }), (9, { touch := [0] }), (10, { touch := [0] })]) (.norm ⟨[4], padK 0 [some (0, 0)]⟩ (.ret [some (0, 0)])))))
def p13 (fuel : Nat) : (Nat × Nat × (List Int) × (List Int)) → Option (Bool × (List Int)) := fun (x1, x2, x3, x4) => (match p18 fuel ((List.take x2 (List.drop x1 x4)), x3) with | some z5 => (bif z5 then (if 0 ≤ (IntKind.wrap .i64 (((List.length x3 : Nat) : Int) + (1 : Int))) ∧ (IntKind.wrap .i64 (((List.length x3 : Nat) : Int) + (1 : Int))) ≤ (((List.length x4 - x1) : Nat) : Int) then (if 0 ≤ ((List.length x3 : Nat) : Int) ∧ ((List.length x3 : Nat) : Int) < ((((Int.toNat (IntKind.wrap .i64 (((List.length x3 : Nat) : Int) + (1 : Int)))) - 0) : Nat) : Int) then (match (x4)[((x1 + 0) + Int.toNat ((List.length x3 : Nat) : Int))]? with | some y6 => (some ((decide (y6 = (77 : Int))), x4)) | none => none) else none) else none) else (some (false, x4))) | none => none)
def F13 (fuel : Nat) : Fun := funOfA fi13 al13 (p13 fuel)
theorem run13 (fuel : Nat) : ∀ y : (Nat × Nat × (List Int) × (List Int)), runF (Bool × (List Int)) T (fns13 fuel) fuel (subsOf []) (defOf Try.f13 an13 0 [] [true]) (fi13.vs y) (fi13.os y) (altsDec al13) = p13 fuel y := by
  rintro ⟨x1, x2, x3, x4⟩
  kernel_rfl
theorem ok13 (fuel : Nat) : FunOk P 13 (funOfA fi13 al13 (p13 fuel)) :=
  funOfA_ok (subs := (subsOf [])) (an := an13) (room := 0) (ks := []) (g0 := [true]) (fuel := fuel) T_ok (fnsOk13 fuel) mixed (fn := Try.f13) (by kernel_rfl) (by kernel_rfl) subsOk_nil (by kernel_rfl) (fun _ => ⟨by kernel_rfl, by kernel_rfl⟩) (run13 fuel)

-- f4: tontine/tontinelaw17.BalanceSplits
def fns4 (fuel : Nat) : Fns := fnsOf [(7, F7 fuel), (10, F10 fuel), (11, F11 fuel), (12, F12 fuel), (13, F13 fuel)]
theorem fnsOk4 (fuel : Nat) : FnsOk P (fns4 fuel) := (fnsOk_cons (ok7 fuel) (fnsOk_cons (ok10 fuel) (fnsOk_cons (ok11 fuel) (fnsOk_cons (ok12 fuel) (fnsOk_cons (ok13 fuel) fnsOk_nil)))))
def fi4 : Fr := ⟨[.d true (.slice (.int .i64))], [], 0⟩
def al4 : List (Tm × List To) := [(.d true (.bool), [])]
def an4 : AN := (.seq .leaf (.seq .leaf (.seq (.region [(1, { touch := [0], ro := false, fresh := 1 })]) (.seq (.region [(1, { touch := [0], lend := [some (.slice (.int .i64))] })]) (.seq .leaf (.seq (.region [(2, { touch := [0], ro := false, loc := [0] })]) (.seq .leaf (.norm ⟨[2], padK 1 []⟩ (.ret [])))))))))
def p4 (fuel : Nat) : (List Int) → Option Bool := fun x1 => (match p7 fuel () with | some z2 => (match p10 fuel x1 with | some z3 => (match p11 fuel (List.take z3.2.1 (List.drop z3.1 z3.2.2)) with | some z4 => (match p12 fuel x1 with | some z5 => (match p13 fuel (z3.1, z3.2.1, x1, z3.2.2) with | some z6 => (bif z2 then (bif z6.1 then (bif (decide (z4.1 = z5.1)) then (some (decide (z4.2 = z5.2))) else (some false)) else (some false)) else (some false)) | none => none) | none => none) | none => none) | none => none) | none => none)
def F4 (fuel : Nat) : Fun := funOfA fi4 al4 (p4 fuel)
theorem run4 (fuel : Nat) : ∀ y : (List Int), runF Bool T (fns4 fuel) fuel (subsOf []) (defOf Try.f4 an4 1 [] []) (fi4.vs y) (fi4.os y) (altsDec al4) = p4 fuel y := by
  rintro x1
  kernel_rfl
theorem ok4 (fuel : Nat) : FunOk P 4 (funOfA fi4 al4 (p4 fuel)) :=
  funOfA_ok (subs := (subsOf [])) (an := an4) (room := 1) (ks := []) (g0 := []) (fuel := fuel) T_ok (fnsOk4 fuel) mixed (fn := Try.f4) (by kernel_rfl) (by kernel_rfl) subsOk_nil (by kernel_rfl) (fun _ => ⟨by kernel_rfl, by kernel_rfl⟩) (run4 fuel)
end Go.Am.Ytbbbdckbcicmbaa
