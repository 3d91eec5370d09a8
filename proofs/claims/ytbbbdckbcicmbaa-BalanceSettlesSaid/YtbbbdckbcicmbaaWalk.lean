/- Printed by gen2.py: functions as plain Lean functions, each with its equality with the machine run. -/
import Derived.Test.YtbbbdckbcicmbaaProg
import Derived.Test.YtbbbdckbcicmbaaAmZC
namespace Go.Am.Ytbbbdckbcicmbaa
open Go.Proofs
noncomputable abbrev P : Program := Try.prog
noncomputable def td3 : TD := { und := .int .i64, size := 1, bytes := 8, zero := (.dat true (.int .i64) ((0 : Int) : Int)), cmp := true }
theorem tdOk3 : TdOk P 3 td3 := tdOk_of (i := infoAt P 3) (cs := cellsOfTD td3) (by kernel_rfl) (by kernel_rfl) (by kernel_rfl) (by kernel_rfl) (show P.underlying 3 = some (.int .i64) by kernel_rfl) (fun _ => ⟨by kernel_rfl, by kernel_rfl⟩)
noncomputable def td4 : TD := { und := .bool, size := 1, bytes := 1, zero := (.dat true (.bool) (false : Bool)), cmp := true }
theorem tdOk4 : TdOk P 4 td4 := tdOk_of (i := infoAt P 4) (cs := cellsOfTD td4) (by kernel_rfl) (by kernel_rfl) (by kernel_rfl) (by kernel_rfl) (show P.underlying 4 = some .bool by kernel_rfl) (fun _ => ⟨by kernel_rfl, by kernel_rfl⟩)
noncomputable def td5 : TD := { und := .int .u8, size := 1, bytes := 1, zero := (.dat true (.int .u8) ((0 : Int) : Int)), cmp := true }
theorem tdOk5 : TdOk P 5 td5 := tdOk_of (i := infoAt P 5) (cs := cellsOfTD td5) (by kernel_rfl) (by kernel_rfl) (by kernel_rfl) (by kernel_rfl) (show P.underlying 5 = some (.int .u8) by kernel_rfl) (fun _ => ⟨by kernel_rfl, by kernel_rfl⟩)
noncomputable def td9 : TD := { und := .str, size := 1, bytes := 16, zero := (.dat true (.str) (ByteArray.empty : ByteArray)), cmp := true }
theorem tdOk9 : TdOk P 9 td9 := tdOk_of (i := infoAt P 9) (cs := cellsOfTD td9) (by kernel_rfl) (by kernel_rfl) (by kernel_rfl) (by kernel_rfl) (show P.underlying 9 = some .string by kernel_rfl) (fun _ => ⟨by kernel_rfl, by kernel_rfl⟩)
noncomputable def td22 : TD := { und := .slice 9, size := 1, bytes := 24, zero := .nils, cmp := false }
theorem tdOk22 : TdOk P 22 td22 := tdOk_of (i := infoAt P 22) (cs := cellsOfTD td22) (by kernel_rfl) (by kernel_rfl) (by kernel_rfl) (by kernel_rfl) (show P.underlying 22 = some (.slice 9) by kernel_rfl) (fun h => by cases h)
noncomputable def td24 : TD := { und := .int .i64, size := 1, bytes := 8, zero := (.dat true (.int .i64) ((0 : Int) : Int)), cmp := true }
theorem tdOk24 : TdOk P 24 td24 := tdOk_of (i := infoAt P 24) (cs := cellsOfTD td24) (by kernel_rfl) (by kernel_rfl) (by kernel_rfl) (by kernel_rfl) (show P.underlying 24 = some (.int .i64) by kernel_rfl) (fun _ => ⟨by kernel_rfl, by kernel_rfl⟩)
noncomputable def td28 : TD := { und := .slice 3, size := 1, bytes := 24, zero := .nils, cmp := false }
theorem tdOk28 : TdOk P 28 td28 := tdOk_of (i := infoAt P 28) (cs := cellsOfTD td28) (by kernel_rfl) (by kernel_rfl) (by kernel_rfl) (by kernel_rfl) (show P.underlying 28 = some (.slice 3) by kernel_rfl) (fun h => by cases h)
noncomputable def td34 : TD := { und := .int .i64, size := 1, bytes := 8, zero := (.dat true (.int .i64) ((0 : Int) : Int)), cmp := true }
theorem tdOk34 : TdOk P 34 td34 := tdOk_of (i := infoAt P 34) (cs := cellsOfTD td34) (by kernel_rfl) (by kernel_rfl) (by kernel_rfl) (by kernel_rfl) (show P.underlying 34 = some (.int .i64) by kernel_rfl) (fun _ => ⟨by kernel_rfl, by kernel_rfl⟩)
noncomputable def td36 : TD := { und := .struct [(0, 34), (1, 3), (2, 3), (3, 3)], size := 4, bytes := 32, zero := (.dat true (.pair (.int .i64) (.pair (.int .i64) (.pair (.int .i64) (.int .i64)))) (((0 : Int), ((0 : Int), ((0 : Int), (0 : Int)))) : (Int × (Int × (Int × Int))))), cmp := true }
theorem tdOk36 : TdOk P 36 td36 := tdOk_of (i := infoAt P 36) (cs := cellsOfTD td36) (by kernel_rfl) (by kernel_rfl) (by kernel_rfl) (by kernel_rfl) (undStruct (fieldsAt P 36) (by kernel_rfl) (by kernel_rfl) (by kernel_rfl)) (fun _ => ⟨by kernel_rfl, by kernel_rfl⟩)
noncomputable def td42 : TD := { und := .slice 36, size := 1, bytes := 24, zero := .nils, cmp := false }
theorem tdOk42 : TdOk P 42 td42 := tdOk_of (i := infoAt P 42) (cs := cellsOfTD td42) (by kernel_rfl) (by kernel_rfl) (by kernel_rfl) (by kernel_rfl) (show P.underlying 42 = some (.slice 36) by kernel_rfl) (fun h => by cases h)
noncomputable def td45 : TD := { und := .int .u64, size := 1, bytes := 8, zero := (.dat true (.int .u64) ((0 : Int) : Int)), cmp := true }
theorem tdOk45 : TdOk P 45 td45 := tdOk_of (i := infoAt P 45) (cs := cellsOfTD td45) (by kernel_rfl) (by kernel_rfl) (by kernel_rfl) (by kernel_rfl) (show P.underlying 45 = some (.int .u64) by kernel_rfl) (fun _ => ⟨by kernel_rfl, by kernel_rfl⟩)
noncomputable def td55 : TD := { und := .other, size := 1, bytes := 8, zero := .nilf, cmp := false }
theorem tdOk55 : TdOk P 55 td55 := tdOk_of (i := infoAt P 55) (cs := cellsOfTD td55) (by kernel_rfl) (by kernel_rfl) (by kernel_rfl) (by kernel_rfl) (⟨descAt P 55, by kernel_rfl, by kernel_rfl⟩) (fun h => by cases h)
noncomputable def T : Tbl := tblOf [(3, td3), (4, td4), (5, td5), (9, td9), (22, td22), (24, td24), (28, td28), (34, td34), (36, td36), (42, td42), (45, td45), (55, td55)]
theorem T_ok : TblOk P T := (tblOk_cons tdOk3 (tblOk_cons tdOk4 (tblOk_cons tdOk5 (tblOk_cons tdOk9 (tblOk_cons tdOk22 (tblOk_cons tdOk24 (tblOk_cons tdOk28 (tblOk_cons tdOk34 (tblOk_cons tdOk36 (tblOk_cons tdOk42 (tblOk_cons tdOk45 (tblOk_cons tdOk55 tblOk_nil))))))))))))
theorem mixed : P.follows .mixedOrders = true := by kernel_rfl

-- f35: tontine/balance.fair$1
def fns35 (fuel : Nat) : Fns := fnsOf []
theorem fnsOk35 (fuel : Nat) : FnsOk P (fns35 fuel) := fnsOk_nil
def fi35 : Fr := ⟨[.d false (.int .i64)], [], 0⟩
def al35 : List (Tm × List To) := [(.d true (.bool), [])]
def an35 : AN := (.seq .leaf (.seq .leaf (.norm ⟨[2], padK 0 []⟩ (.ret []))))
def p35 (fuel : Nat) : Int → Option Bool := fun x1 => (bif (decide (x1 < (0 : Int))) then (some true) else (some (decide ((2147483647 : Int) < x1))))
def F35 (fuel : Nat) : Fun := funOfA fi35 al35 (p35 fuel)
theorem run35 (fuel : Nat) : ∀ y : Int, runF Bool T (fns35 fuel) fuel (subsOf []) (defOf Try.f35 an35 0 [] []) (fi35.vs y) (fi35.os y) (altsDec al35) = p35 fuel y := by
  rintro x1
  kernel_rfl
theorem ok35 (fuel : Nat) : FunOk P 35 (funOfA fi35 al35 (p35 fuel)) :=
  funOfA_ok (subs := (subsOf [])) (an := an35) (room := 0) (ks := []) (g0 := []) (fuel := fuel) T_ok (fnsOk35 fuel) mixed (fn := Try.f35) (by kernel_rfl) (by kernel_rfl) subsOk_nil (by kernel_rfl) (fun _ => ⟨by kernel_rfl, by kernel_rfl⟩) (run35 fuel)

-- f36: slices.IndexFunc[[]int,int]
def fns36 (fuel : Nat) : Fns := fnsOf [(35, F35 fuel)]
theorem fnsOk36 (fuel : Nat) : FnsOk P (fns36 fuel) := (fnsOk_cons (ok35 fuel) fnsOk_nil)
def fi36 : Fr := ⟨[.d false (.slice (.int .i64)), .c (.fn 35 .nil)], [], 0⟩
def al36 : List (Tm × List To) := [(.d true (.int .i64), [])]
def fx36_0 : Fr := ⟨[.d true (.int .i64)], [], 0⟩
def fx36_1 : Fr := ⟨[], [], 0⟩
def fr36_0 : Fr := ⟨[.d false (.slice (.int .i64)), .c (.fn 35 .nil), .d true (.int .i64), .d true (.int .i64)], [], 0⟩
noncomputable def c36_0 : Code := bodyAt Try.f36 [1, 0, 1, 0]
def s36_0 (fuel : Nat) {R : Type} (F : ((List Int) × Int × Int) → Option R) (k0 : Int → Option R) (k1 : Unit → Option R) : ((List Int) × Int × Int) → Option R := fun (x2, x3, x4) => (bif (decide (x4 < x3)) then (if 0 ≤ x4 then (match (x2)[Int.toNat x4]? with | some y5 => (match p35 fuel y5 with | some z6 => (bif z6 then (k0 x4) else (F (x2, x3, (IntKind.wrap .i64 (x4 + (1 : Int)))))) | none => none) | none => none) else none) else (k1 ()))
def l36_0 (fuel : Nat) {R : Type} (k0 : Int → Option R) (k1 : Unit → Option R) : Nat → ((List Int) × Int × Int) → Option R
  | 0, _ => none
  | n + 1, x => s36_0 fuel (l36_0 fuel k0 k1 n) k0 k1 x
def nm36_0 : Norm := ⟨[0, 1, 7, 8], padK 0 []⟩
def an36_0 : AN := (.seq .leaf (.seq (.cond .leaf (.norm ⟨[], padK 0 []⟩ .leaf)) (.seq (.block (.seq .leaf (.seq .leaf (.cond (.seq .leaf (.norm ⟨[4], padK 0 []⟩ (.ret []))) .leaf)))) .leaf)))
def al36_0 : AN := .loop nm36_0 an36_0
noncomputable def d36_0 : Code := bodyAt Try.f36 [1, 0, 1, 0, 0]
theorem e36_0 (fuel : Nat) {R : Type} (F : St → Option R) (k : AExit → St → Option R) : ∀ x : ((List Int) × Int × Int), runK R T (fns36 fuel) fuel [] (subsOf []) (partOf d36_0 an36_0) (fr36_0.st [0, 1, 7, 8] x) (backTo R [] nm36_0 F k) = s36_0 fuel (fun x => F (fr36_0.st [0, 1, 7, 8] x)) (fun y => k (.ret []) (fx36_0.st [4] y)) (fun y => k (.exit 0) (fx36_1.st [] y)) x := by
  rintro ⟨x2, x3, x4⟩
  kernel_rfl
theorem u36_0 (fuel : Nat) {R : Type} (k : AExit → St → Option R) (x : ((List Int) × Int × Int)) : runK R T (fns36 fuel) fuel [] (subsOf []) (partOf c36_0 al36_0) (fr36_0.st [0, 1, 7, 8] x) k = l36_0 fuel (fun y => k (.ret []) (fx36_0.st [4] y)) (fun y => k (.exit 0) (fx36_1.st [] y)) fuel x :=
  loop_eq (mk := fr36_0.st [0, 1, 7, 8]) (s := fun F x => s36_0 fuel F (fun y => k (.ret []) (fx36_0.st [4] y)) (fun y => k (.exit 0) (fx36_1.st [] y)) x) (l := fun n x => l36_0 fuel (fun y => k (.ret []) (fx36_0.st [4] y)) (fun y => k (.exit 0) (fx36_1.st [] y)) n x) (d := d36_0) (by kernel_rfl) (fun G x => by
    revert x
    rintro ⟨x2, x3, x4⟩
    kernel_rfl) (fun F x => e36_0 fuel F k x) (fun _ => rfl) (fun _ _ => rfl) x
noncomputable def sub36_0 (fuel : Nat) (R : Type) : Sub R := Sub.of [0, 1, 7, 8] c36_0 fr36_0 fun x k => l36_0 fuel (fun y => k (.ret []) (fx36_0.st [4] y)) (fun y => k (.exit 0) (fx36_1.st [] y)) fuel x
theorem subOk36_0 (fuel : Nat) (R : Type) : SubOk P [] 19 (sub36_0 fuel R) :=
  subOk_part (fns := (fns36 fuel)) (fuel := fuel) (subs := (subsOf [])) (an := al36_0) T_ok (fnsOk36 fuel) mixed subsOk_nil (by kernel_rfl) (by kernel_rfl) fun _ _ _ _ h => Sub.of_run (fun (x : ((List Int) × Int × Int)) k => u36_0 fuel k x) h
def an36 : AN := (.seq .leaf (.seq (.seq .leaf (.block (.hole ⟨[0, 1, 7, 8], padK 0 []⟩ 0))) (.seq .leaf (.norm ⟨[4], padK 0 []⟩ (.ret [])))))
def p36 (fuel : Nat) : (List Int) → Option Int := fun x1 => (l36_0 fuel (fun x7 => (some x7)) (fun _ => (some (-1 : Int))) fuel (x1, ((List.length x1 : Nat) : Int), (0 : Int)))
def F36 (fuel : Nat) : Fun := funOfA fi36 al36 (p36 fuel)
theorem run36 (fuel : Nat) : ∀ y : (List Int), runF Int T (fns36 fuel) fuel (subsOf [sub36_0 fuel Int]) (defOf Try.f36 an36 0 [] []) (fi36.vs y) (fi36.os y) (altsDec al36) = p36 fuel y := by
  rintro x1
  kernel_rfl
theorem ok36 (fuel : Nat) : FunOk P 36 (funOfA fi36 al36 (p36 fuel)) :=
  funOfA_ok (subs := (subsOf [sub36_0 fuel Int])) (an := an36) (room := 0) (ks := []) (g0 := []) (fuel := fuel) T_ok (fnsOk36 fuel) mixed (fn := Try.f36) (by kernel_rfl) (by kernel_rfl) (subsOk_cons (subOk36_0 fuel _) subsOk_nil) (by kernel_rfl) (fun _ => ⟨by kernel_rfl, by kernel_rfl⟩) (run36 fuel)

-- f34: slices.ContainsFunc[[]int,int]
def fns34 (fuel : Nat) : Fns := fnsOf [(36, F36 fuel)]
theorem fnsOk34 (fuel : Nat) : FnsOk P (fns34 fuel) := (fnsOk_cons (ok36 fuel) fnsOk_nil)
def fi34 : Fr := ⟨[.d false (.slice (.int .i64)), .c (.fn 35 .nil)], [], 0⟩
def al34 : List (Tm × List To) := [(.d true (.bool), [])]
def an34 : AN := (.seq .leaf (.seq .leaf (.norm ⟨[4], padK 0 []⟩ (.ret []))))
def p34 (fuel : Nat) : (List Int) → Option Bool := fun x1 => (match p36 fuel x1 with | some z2 => (some (decide ((0 : Int) ≤ z2))) | none => none)
def F34 (fuel : Nat) : Fun := funOfA fi34 al34 (p34 fuel)
theorem run34 (fuel : Nat) : ∀ y : (List Int), runF Bool T (fns34 fuel) fuel (subsOf []) (defOf Try.f34 an34 0 [] []) (fi34.vs y) (fi34.os y) (altsDec al34) = p34 fuel y := by
  rintro x1
  kernel_rfl
theorem ok34 (fuel : Nat) : FunOk P 34 (funOfA fi34 al34 (p34 fuel)) :=
  funOfA_ok (subs := (subsOf [])) (an := an34) (room := 0) (ks := []) (g0 := []) (fuel := fuel) T_ok (fnsOk34 fuel) mixed (fn := Try.f34) (by kernel_rfl) (by kernel_rfl) subsOk_nil (by kernel_rfl) (fun _ => ⟨by kernel_rfl, by kernel_rfl⟩) (run34 fuel)

-- f22: tontine/balance.fair
def fns22 (fuel : Nat) : Fns := fnsOf [(34, F34 fuel)]
theorem fnsOk22 (fuel : Nat) : FnsOk P (fns22 fuel) := (fnsOk_cons (ok34 fuel) fnsOk_nil)
def fi22 : Fr := ⟨[.d false (.slice (.int .i64)), .d false (.int .i64), .d false (.int .i64)], [], 0⟩
def al22 : List (Tm × List To) := [(.d true (.bool), [])]
def an22 : AN := (.seq .leaf (.seq .leaf (.norm ⟨[6], padK 0 []⟩ (.ret []))))
def p22 (fuel : Nat) : ((List Int) × Int × Int) → Option Bool := fun (x1, x2, x3) => (bif (decide (x2 ≤ ((List.length x1 : Nat) : Int))) then (bif (decide (((List.length x1 : Nat) : Int) ≤ x3)) then (match p34 fuel x1 with | some z4 => (some (!z4)) | none => none) else (some false)) else (some false))
def F22 (fuel : Nat) : Fun := funOfA fi22 al22 (p22 fuel)
theorem run22 (fuel : Nat) : ∀ y : ((List Int) × Int × Int), runF Bool T (fns22 fuel) fuel (subsOf []) (defOf Try.f22 an22 0 [] []) (fi22.vs y) (fi22.os y) (altsDec al22) = p22 fuel y := by
  rintro ⟨x1, x2, x3⟩
  kernel_rfl
theorem ok22 (fuel : Nat) : FunOk P 22 (funOfA fi22 al22 (p22 fuel)) :=
  funOfA_ok (subs := (subsOf [])) (an := an22) (room := 0) (ks := []) (g0 := []) (fuel := fuel) T_ok (fnsOk22 fuel) mixed (fn := Try.f22) (by kernel_rfl) (by kernel_rfl) subsOk_nil (by kernel_rfl) (fun _ => ⟨by kernel_rfl, by kernel_rfl⟩) (run22 fuel)

-- f25: slices.Max[[]int,int]
def fns25 (fuel : Nat) : Fns := fnsOf []
theorem fnsOk25 (fuel : Nat) : FnsOk P (fns25 fuel) := fnsOk_nil
def fi25 : Fr := ⟨[.d false (.slice (.int .i64))], [], 0⟩
def al25 : List (Tm × List To) := [(.d true (.int .i64), [])]
def fx25_0 : Fr := ⟨[.d true (.int .i64)], [], 0⟩
def fr25_0 : Fr := ⟨[.d false (.slice (.int .i64)), .d true (.int .i64), .d true (.int .i64)], [], 0⟩
noncomputable def c25_0 : Code := bodyAt Try.f25 [1, 1, 1, 0, 1, 0]
def s25_0 (fuel : Nat) {R : Type} (F : ((List Int) × Int × Int) → Option R) (k0 : Int → Option R) : ((List Int) × Int × Int) → Option R := fun (x3, x4, x5) => (bif (decide (x5 < ((List.length x3 : Nat) : Int))) then (if 0 ≤ x5 then (match (x3)[Int.toNat x5]? with | some y6 => (F (x3, (if x4 < y6 then y6 else x4), (IntKind.wrap .i64 (x5 + (1 : Int))))) | none => none) else none) else (k0 x4))
def l25_0 (fuel : Nat) {R : Type} (k0 : Int → Option R) : Nat → ((List Int) × Int × Int) → Option R
  | 0, _ => none
  | n + 1, x => s25_0 fuel (l25_0 fuel k0 n) k0 x
def nm25_0 : Norm := ⟨[0, 3, 4], padK 0 []⟩
def an25_0 : AN := (.seq (.seq .leaf (.cond .leaf (.norm ⟨[3], padK 0 []⟩ .leaf))) (.seq (.block .leaf) .leaf))
def al25_0 : AN := .loop nm25_0 an25_0
noncomputable def d25_0 : Code := bodyAt Try.f25 [1, 1, 1, 0, 1, 0, 0]
theorem e25_0 (fuel : Nat) {R : Type} (F : St → Option R) (k : AExit → St → Option R) : ∀ x : ((List Int) × Int × Int), runK R T (fns25 fuel) fuel [] (subsOf []) (partOf d25_0 an25_0) (fr25_0.st [0, 3, 4] x) (backTo R [] nm25_0 F k) = s25_0 fuel (fun x => F (fr25_0.st [0, 3, 4] x)) (fun y => k (.exit 0) (fx25_0.st [3] y)) x := by
  rintro ⟨x3, x4, x5⟩
  kernel_rfl
theorem u25_0 (fuel : Nat) {R : Type} (k : AExit → St → Option R) (x : ((List Int) × Int × Int)) : runK R T (fns25 fuel) fuel [] (subsOf []) (partOf c25_0 al25_0) (fr25_0.st [0, 3, 4] x) k = l25_0 fuel (fun y => k (.exit 0) (fx25_0.st [3] y)) fuel x :=
  loop_eq (mk := fr25_0.st [0, 3, 4]) (s := fun F x => s25_0 fuel F (fun y => k (.exit 0) (fx25_0.st [3] y)) x) (l := fun n x => l25_0 fuel (fun y => k (.exit 0) (fx25_0.st [3] y)) n x) (d := d25_0) (by kernel_rfl) (fun G x => by
    revert x
    rintro ⟨x3, x4, x5⟩
    kernel_rfl) (fun F x => e25_0 fuel F k x) (fun _ => rfl) (fun _ _ => rfl) x
noncomputable def sub25_0 (fuel : Nat) (R : Type) : Sub R := Sub.of [0, 3, 4] c25_0 fr25_0 fun x k => l25_0 fuel (fun y => k (.exit 0) (fx25_0.st [3] y)) fuel x
theorem subOk25_0 (fuel : Nat) (R : Type) : SubOk P [] 25 (sub25_0 fuel R) :=
  subOk_part (fns := (fns25 fuel)) (fuel := fuel) (subs := (subsOf [])) (an := al25_0) T_ok (fnsOk25 fuel) mixed subsOk_nil (by kernel_rfl) (by kernel_rfl) fun _ _ _ _ h => Sub.of_run (fun (x : ((List Int) × Int × Int)) k => u25_0 fuel k x) h
def an25 : AN := (.seq .leaf (.seq (.seq .leaf (.cond .leaf .leaf)) (.seq .leaf (.seq (.seq .leaf (.block (.hole ⟨[0, 3, 4], padK 0 []⟩ 0))) (.seq .leaf (.norm ⟨[2], padK 0 []⟩ (.ret [])))))))
def p25 (fuel : Nat) : (List Int) → Option Int := fun x1 => (bif (decide (((List.length x1 : Nat) : Int) < (1 : Int))) then none else (if 0 ≤ (0 : Int) then (match (x1)[Int.toNat (0 : Int)]? with | some y2 => (l25_0 fuel (fun x7 => (some x7)) fuel (x1, y2, (1 : Int))) | none => none) else none))
def F25 (fuel : Nat) : Fun := funOfA fi25 al25 (p25 fuel)
theorem run25 (fuel : Nat) : ∀ y : (List Int), runF Int T (fns25 fuel) fuel (subsOf [sub25_0 fuel Int]) (defOf Try.f25 an25 0 [] []) (fi25.vs y) (fi25.os y) (altsDec al25) = p25 fuel y := by
  rintro x1
  kernel_rfl
theorem ok25 (fuel : Nat) : FunOk P 25 (funOfA fi25 al25 (p25 fuel)) :=
  funOfA_ok (subs := (subsOf [sub25_0 fuel Int])) (an := an25) (room := 0) (ks := []) (g0 := []) (fuel := fuel) T_ok (fnsOk25 fuel) mixed (fn := Try.f25) (by kernel_rfl) (by kernel_rfl) (subsOk_cons (subOk25_0 fuel _) subsOk_nil) (by kernel_rfl) (fun _ => ⟨by kernel_rfl, by kernel_rfl⟩) (run25 fuel)

-- f24: slices.Index[[]int,int]
def fns24 (fuel : Nat) : Fns := fnsOf []
theorem fnsOk24 (fuel : Nat) : FnsOk P (fns24 fuel) := fnsOk_nil
def fi24 : Fr := ⟨[.d false (.slice (.int .i64)), .d false (.int .i64)], [], 0⟩
def al24 : List (Tm × List To) := [(.d true (.int .i64), [])]
def fx24_0 : Fr := ⟨[.d true (.int .i64)], [], 0⟩
def fx24_1 : Fr := ⟨[], [], 0⟩
def fr24_0 : Fr := ⟨[.d false (.slice (.int .i64)), .d true (.int .i64), .d true (.int .i64), .d true (.int .i64)], [], 0⟩
noncomputable def c24_0 : Code := bodyAt Try.f24 [1, 0, 1, 0]
def s24_0 (fuel : Nat) {R : Type} (F : ((List Int) × Int × Int × Int) → Option R) (k0 : Int → Option R) (k1 : Unit → Option R) : ((List Int) × Int × Int × Int) → Option R := fun (x3, x4, x5, x6) => (bif (decide (x6 < x5)) then (if 0 ≤ x6 then (match (x3)[Int.toNat x6]? with | some y7 => (bif (decide (x4 = y7)) then (k0 x6) else (F (x3, x4, x5, (IntKind.wrap .i64 (x6 + (1 : Int)))))) | none => none) else none) else (k1 ()))
def l24_0 (fuel : Nat) {R : Type} (k0 : Int → Option R) (k1 : Unit → Option R) : Nat → ((List Int) × Int × Int × Int) → Option R
  | 0, _ => none
  | n + 1, x => s24_0 fuel (l24_0 fuel k0 k1 n) k0 k1 x
def nm24_0 : Norm := ⟨[0, 1, 7, 8], padK 0 []⟩
def an24_0 : AN := (.seq .leaf (.seq (.cond .leaf (.norm ⟨[], padK 0 []⟩ .leaf)) (.seq (.block (.seq .leaf (.seq .leaf (.cond (.seq .leaf (.norm ⟨[4], padK 0 []⟩ (.ret []))) .leaf)))) .leaf)))
def al24_0 : AN := .loop nm24_0 an24_0
noncomputable def d24_0 : Code := bodyAt Try.f24 [1, 0, 1, 0, 0]
theorem e24_0 (fuel : Nat) {R : Type} (F : St → Option R) (k : AExit → St → Option R) : ∀ x : ((List Int) × Int × Int × Int), runK R T (fns24 fuel) fuel [] (subsOf []) (partOf d24_0 an24_0) (fr24_0.st [0, 1, 7, 8] x) (backTo R [] nm24_0 F k) = s24_0 fuel (fun x => F (fr24_0.st [0, 1, 7, 8] x)) (fun y => k (.ret []) (fx24_0.st [4] y)) (fun y => k (.exit 0) (fx24_1.st [] y)) x := by
  rintro ⟨x3, x4, x5, x6⟩
  kernel_rfl
theorem u24_0 (fuel : Nat) {R : Type} (k : AExit → St → Option R) (x : ((List Int) × Int × Int × Int)) : runK R T (fns24 fuel) fuel [] (subsOf []) (partOf c24_0 al24_0) (fr24_0.st [0, 1, 7, 8] x) k = l24_0 fuel (fun y => k (.ret []) (fx24_0.st [4] y)) (fun y => k (.exit 0) (fx24_1.st [] y)) fuel x :=
  loop_eq (mk := fr24_0.st [0, 1, 7, 8]) (s := fun F x => s24_0 fuel F (fun y => k (.ret []) (fx24_0.st [4] y)) (fun y => k (.exit 0) (fx24_1.st [] y)) x) (l := fun n x => l24_0 fuel (fun y => k (.ret []) (fx24_0.st [4] y)) (fun y => k (.exit 0) (fx24_1.st [] y)) n x) (d := d24_0) (by kernel_rfl) (fun G x => by
    revert x
    rintro ⟨x3, x4, x5, x6⟩
    kernel_rfl) (fun F x => e24_0 fuel F k x) (fun _ => rfl) (fun _ _ => rfl) x
noncomputable def sub24_0 (fuel : Nat) (R : Type) : Sub R := Sub.of [0, 1, 7, 8] c24_0 fr24_0 fun x k => l24_0 fuel (fun y => k (.ret []) (fx24_0.st [4] y)) (fun y => k (.exit 0) (fx24_1.st [] y)) fuel x
theorem subOk24_0 (fuel : Nat) (R : Type) : SubOk P [] 19 (sub24_0 fuel R) :=
  subOk_part (fns := (fns24 fuel)) (fuel := fuel) (subs := (subsOf [])) (an := al24_0) T_ok (fnsOk24 fuel) mixed subsOk_nil (by kernel_rfl) (by kernel_rfl) fun _ _ _ _ h => Sub.of_run (fun (x : ((List Int) × Int × Int × Int)) k => u24_0 fuel k x) h
def an24 : AN := (.seq .leaf (.seq (.seq .leaf (.block (.hole ⟨[0, 1, 7, 8], padK 0 []⟩ 0))) (.seq .leaf (.norm ⟨[4], padK 0 []⟩ (.ret [])))))
def p24 (fuel : Nat) : ((List Int) × Int) → Option Int := fun (x1, x2) => (l24_0 fuel (fun x8 => (some x8)) (fun _ => (some (-1 : Int))) fuel (x1, x2, ((List.length x1 : Nat) : Int), (0 : Int)))
def F24 (fuel : Nat) : Fun := funOfA fi24 al24 (p24 fuel)
theorem run24 (fuel : Nat) : ∀ y : ((List Int) × Int), runF Int T (fns24 fuel) fuel (subsOf [sub24_0 fuel Int]) (defOf Try.f24 an24 0 [] []) (fi24.vs y) (fi24.os y) (altsDec al24) = p24 fuel y := by
  rintro ⟨x1, x2⟩
  kernel_rfl
theorem ok24 (fuel : Nat) : FunOk P 24 (funOfA fi24 al24 (p24 fuel)) :=
  funOfA_ok (subs := (subsOf [sub24_0 fuel Int])) (an := an24) (room := 0) (ks := []) (g0 := []) (fuel := fuel) T_ok (fnsOk24 fuel) mixed (fn := Try.f24) (by kernel_rfl) (by kernel_rfl) (subsOk_cons (subOk24_0 fuel _) subsOk_nil) (by kernel_rfl) (fun _ => ⟨by kernel_rfl, by kernel_rfl⟩) (run24 fuel)

-- f26: slices.Min[[]int,int]
def fns26 (fuel : Nat) : Fns := fnsOf []
theorem fnsOk26 (fuel : Nat) : FnsOk P (fns26 fuel) := fnsOk_nil
def fi26 : Fr := ⟨[.d false (.slice (.int .i64))], [], 0⟩
def al26 : List (Tm × List To) := [(.d true (.int .i64), [])]
def fx26_0 : Fr := ⟨[.d true (.int .i64)], [], 0⟩
def fr26_0 : Fr := ⟨[.d false (.slice (.int .i64)), .d true (.int .i64), .d true (.int .i64)], [], 0⟩
noncomputable def c26_0 : Code := bodyAt Try.f26 [1, 1, 1, 0, 1, 0]
def s26_0 (fuel : Nat) {R : Type} (F : ((List Int) × Int × Int) → Option R) (k0 : Int → Option R) : ((List Int) × Int × Int) → Option R := fun (x3, x4, x5) => (bif (decide (x5 < ((List.length x3 : Nat) : Int))) then (if 0 ≤ x5 then (match (x3)[Int.toNat x5]? with | some y6 => (F (x3, (if y6 < x4 then y6 else x4), (IntKind.wrap .i64 (x5 + (1 : Int))))) | none => none) else none) else (k0 x4))
def l26_0 (fuel : Nat) {R : Type} (k0 : Int → Option R) : Nat → ((List Int) × Int × Int) → Option R
  | 0, _ => none
  | n + 1, x => s26_0 fuel (l26_0 fuel k0 n) k0 x
def nm26_0 : Norm := ⟨[0, 3, 4], padK 0 []⟩
def an26_0 : AN := (.seq (.seq .leaf (.cond .leaf (.norm ⟨[3], padK 0 []⟩ .leaf))) (.seq (.block .leaf) .leaf))
def al26_0 : AN := .loop nm26_0 an26_0
noncomputable def d26_0 : Code := bodyAt Try.f26 [1, 1, 1, 0, 1, 0, 0]
theorem e26_0 (fuel : Nat) {R : Type} (F : St → Option R) (k : AExit → St → Option R) : ∀ x : ((List Int) × Int × Int), runK R T (fns26 fuel) fuel [] (subsOf []) (partOf d26_0 an26_0) (fr26_0.st [0, 3, 4] x) (backTo R [] nm26_0 F k) = s26_0 fuel (fun x => F (fr26_0.st [0, 3, 4] x)) (fun y => k (.exit 0) (fx26_0.st [3] y)) x := by
  rintro ⟨x3, x4, x5⟩
  kernel_rfl
theorem u26_0 (fuel : Nat) {R : Type} (k : AExit → St → Option R) (x : ((List Int) × Int × Int)) : runK R T (fns26 fuel) fuel [] (subsOf []) (partOf c26_0 al26_0) (fr26_0.st [0, 3, 4] x) k = l26_0 fuel (fun y => k (.exit 0) (fx26_0.st [3] y)) fuel x :=
  loop_eq (mk := fr26_0.st [0, 3, 4]) (s := fun F x => s26_0 fuel F (fun y => k (.exit 0) (fx26_0.st [3] y)) x) (l := fun n x => l26_0 fuel (fun y => k (.exit 0) (fx26_0.st [3] y)) n x) (d := d26_0) (by kernel_rfl) (fun G x => by
    revert x
    rintro ⟨x3, x4, x5⟩
    kernel_rfl) (fun F x => e26_0 fuel F k x) (fun _ => rfl) (fun _ _ => rfl) x
noncomputable def sub26_0 (fuel : Nat) (R : Type) : Sub R := Sub.of [0, 3, 4] c26_0 fr26_0 fun x k => l26_0 fuel (fun y => k (.exit 0) (fx26_0.st [3] y)) fuel x
theorem subOk26_0 (fuel : Nat) (R : Type) : SubOk P [] 25 (sub26_0 fuel R) :=
  subOk_part (fns := (fns26 fuel)) (fuel := fuel) (subs := (subsOf [])) (an := al26_0) T_ok (fnsOk26 fuel) mixed subsOk_nil (by kernel_rfl) (by kernel_rfl) fun _ _ _ _ h => Sub.of_run (fun (x : ((List Int) × Int × Int)) k => u26_0 fuel k x) h
def an26 : AN := (.seq .leaf (.seq (.seq .leaf (.cond .leaf .leaf)) (.seq .leaf (.seq (.seq .leaf (.block (.hole ⟨[0, 3, 4], padK 0 []⟩ 0))) (.seq .leaf (.norm ⟨[2], padK 0 []⟩ (.ret [])))))))
def p26 (fuel : Nat) : (List Int) → Option Int := fun x1 => (bif (decide (((List.length x1 : Nat) : Int) < (1 : Int))) then none else (if 0 ≤ (0 : Int) then (match (x1)[Int.toNat (0 : Int)]? with | some y2 => (l26_0 fuel (fun x7 => (some x7)) fuel (x1, y2, (1 : Int))) | none => none) else none))
def F26 (fuel : Nat) : Fun := funOfA fi26 al26 (p26 fuel)
theorem run26 (fuel : Nat) : ∀ y : (List Int), runF Int T (fns26 fuel) fuel (subsOf [sub26_0 fuel Int]) (defOf Try.f26 an26 0 [] []) (fi26.vs y) (fi26.os y) (altsDec al26) = p26 fuel y := by
  rintro x1
  kernel_rfl
theorem ok26 (fuel : Nat) : FunOk P 26 (funOfA fi26 al26 (p26 fuel)) :=
  funOfA_ok (subs := (subsOf [sub26_0 fuel Int])) (an := an26) (room := 0) (ks := []) (g0 := []) (fuel := fuel) T_ok (fnsOk26 fuel) mixed (fn := Try.f26) (by kernel_rfl) (by kernel_rfl) (subsOk_cons (subOk26_0 fuel _) subsOk_nil) (by kernel_rfl) (fun _ => ⟨by kernel_rfl, by kernel_rfl⟩) (run26 fuel)

-- f27: tontine/balance.beside
def fns27 (fuel : Nat) : Fns := fnsOf []
theorem fnsOk27 (fuel : Nat) : FnsOk P (fns27 fuel) := fnsOk_nil
def fi27 : Fr := ⟨[.d false (.int .i64), .d false (.int .i64), .d false (.int .i64)], [], 0⟩
def al27 : List (Tm × List To) := [(.d true (.bool), [])]
def an27 : AN := (.seq .leaf (.seq .leaf (.norm ⟨[6], padK 0 []⟩ (.ret []))))
def p27 (fuel : Nat) : (Int × Int × Int) → Option Bool := fun (x1, x2, x3) => (bif (!decide (x1 = x2)) then (if x3 = 0 then none else (bif (decide ((Int.tmod (IntKind.wrap .i64 (x1 + (1 : Int))) x3) = x2)) then (some true) else (if x3 = 0 then none else (some (decide ((Int.tmod (IntKind.wrap .i64 (x2 + (1 : Int))) x3) = x1)))))) else (some false))
def F27 (fuel : Nat) : Fun := funOfA fi27 al27 (p27 fuel)
theorem run27 (fuel : Nat) : ∀ y : (Int × Int × Int), runF Bool T (fns27 fuel) fuel (subsOf []) (defOf Try.f27 an27 0 [] []) (fi27.vs y) (fi27.os y) (altsDec al27) = p27 fuel y := by
  rintro ⟨x1, x2, x3⟩
  kernel_rfl
theorem ok27 (fuel : Nat) : FunOk P 27 (funOfA fi27 al27 (p27 fuel)) :=
  funOfA_ok (subs := (subsOf [])) (an := an27) (room := 0) (ks := []) (g0 := []) (fuel := fuel) T_ok (fnsOk27 fuel) mixed (fn := Try.f27) (by kernel_rfl) (by kernel_rfl) subsOk_nil (by kernel_rfl) (fun _ => ⟨by kernel_rfl, by kernel_rfl⟩) (run27 fuel)

-- f14: tontine/balance.Plan
def fns14 (fuel : Nat) : Fns := fnsOf [(22, F22 fuel), (25, F25 fuel), (24, F24 fuel), (26, F26 fuel), (27, F27 fuel)]
theorem fnsOk14 (fuel : Nat) : FnsOk P (fns14 fuel) := (fnsOk_cons (ok22 fuel) (fnsOk_cons (ok25 fuel) (fnsOk_cons (ok24 fuel) (fnsOk_cons (ok26 fuel) (fnsOk_cons (ok27 fuel) fnsOk_nil)))))
def fi14 : Fr := ⟨[.d false (.slice (.int .i64))], [], 0⟩
def al14 : List (Tm × List To) := [(.tup (.cons (.d true (.pair (.int .i64) (.pair (.int .i64) (.pair (.int .i64) (.int .i64))))) (.cons (.d true (.bool)) (.cons (.d true (.int .i64)) (.c .nil)))), [])]
def fx14_0 : Fr := ⟨[.c (.ptr 0 0 []), .d true (.bool), .d true (.int .i64)], [.box (.d true (.pair (.int .i64) (.pair (.int .i64) (.pair (.int .i64) (.int .i64)))))], 1⟩
def fx14_1 : Fr := ⟨[.d false (.slice (.int .i64)), .c (.ptr 0 0 []), .d true (.int .i64), .d true (.int .i64), .d true (.int .i64)], [.box (.d true (.pair (.int .i64) (.pair (.int .i64) (.pair (.int .i64) (.int .i64)))))], 1⟩
def fr14_0 : Fr := ⟨[.d false (.slice (.int .i64)), .c (.ptr 0 0 []), .d true (.int .i64), .d true (.int .i64), .d true (.int .i64), .d true (.bool)], [.box (.d true (.pair (.int .i64) (.pair (.int .i64) (.pair (.int .i64) (.int .i64)))))], 1⟩
noncomputable def c14_0 : Code := bodyAt Try.f14 [1, 1, 1, 1, 0, 1]
def j14_0 (fuel : Nat) {R : Type} (k0 : (Bool × Int × (Int × (Int × (Int × Int)))) → Option R) (k1 : ((List Int) × Int × Int × Int × (Int × (Int × (Int × Int)))) → Option R) : ((List Int) × Int × Int × Int × Bool × (Int × (Int × (Int × Int)))) → Option R := fun (x10, x11, x12, x13, x14, x15) => (bif x14 then (k0 (false, (0 : Int), ((0 : Int), ((0 : Int), ((0 : Int), (0 : Int)))))) else (k1 (x10, x11, x12, x13, x15)))
def al14_0 : AN := (.fin ⟨[0, 2, 5, 6, 7], padK 1 [some (0, 0)]⟩ (.cond (.seq (.region [(1, { touch := [0], ro := false })]) (.norm ⟨[2, 3, 4], padK 1 [some (0, 0)]⟩ (.ret []))) .leaf))
theorem u14_0 (fuel : Nat) {R : Type} (k : AExit → St → Option R) : ∀ x : ((List Int) × Int × Int × Int × Bool × (Int × (Int × (Int × Int)))), runK R T (fns14 fuel) fuel [] (subsOf []) (partOf c14_0 al14_0) (fr14_0.st [0, 2, 5, 6, 7, 44] x) k = j14_0 fuel (fun y => k (.ret []) (fx14_0.st [2, 3, 4] y)) (fun y => k .normal (fx14_1.st [0, 2, 5, 6, 7] y)) x := by
  rintro ⟨x10, x11, x12, x13, x14, x15⟩
  kernel_rfl
noncomputable def sub14_0 (fuel : Nat) (R : Type) : Sub R := Sub.of [0, 2, 5, 6, 7, 44] c14_0 fr14_0 fun x k => j14_0 fuel (fun y => k (.ret []) (fx14_0.st [2, 3, 4] y)) (fun y => k .normal (fx14_1.st [0, 2, 5, 6, 7] y)) x
theorem subOk14_0 (fuel : Nat) (R : Type) : SubOk P [] 124 (sub14_0 fuel R) :=
  subOk_part (fns := (fns14 fuel)) (fuel := fuel) (subs := (subsOf [])) (an := al14_0) T_ok (fnsOk14 fuel) mixed subsOk_nil (by kernel_rfl) (by kernel_rfl) fun _ _ _ _ h => Sub.of_run (fun (x : ((List Int) × Int × Int × Int × Bool × (Int × (Int × (Int × Int))))) k => u14_0 fuel k x) h
def fx14_2 : Fr := ⟨[.c (.ptr 0 0 [])], [.box (.d true (.pair (.int .i64) (.pair (.int .i64) (.pair (.int .i64) (.int .i64)))))], 1⟩
def fr14_1 : Fr := ⟨[.d false (.slice (.int .i64)), .c (.ptr 0 0 []), .d true (.int .i64), .d true (.int .i64), .d true (.bool)], [.box (.d true (.pair (.int .i64) (.pair (.int .i64) (.pair (.int .i64) (.int .i64)))))], 1⟩
noncomputable def c14_1 : Code := bodyAt Try.f14 [1, 1, 1, 1, 1, 1, 1, 1, 0, 1]
def j14_1 (fuel : Nat) {R : Type} (k0 : (Bool × Int × (Int × (Int × (Int × Int)))) → Option R) (k1 : (Int × (Int × (Int × Int))) → Option R) : ((List Int) × Int × Int × Bool × (Int × (Int × (Int × Int)))) → Option R := fun (x64, x65, x66, x67, x68) => (bif x67 then (if 0 ≤ x65 then (match (x64)[Int.toNat x65]? with | some y69 => (k0 (true, (0 : Int), ((2 : Int), (x65, (x66, (IntKind.wrap .i64 (Int.tdiv y69 (2 : Int)))))))) | none => none) else none) else (k1 x68))
def al14_1 : AN := (.fin ⟨[2], padK 1 [some (0, 0)]⟩ (.cond (.seq (.region [(8, { touch := [0], ro := false })]) (.norm ⟨[2, 3, 4], padK 1 [some (0, 0)]⟩ (.ret []))) .leaf))
theorem u14_1 (fuel : Nat) {R : Type} (k : AExit → St → Option R) : ∀ x : ((List Int) × Int × Int × Bool × (Int × (Int × (Int × Int)))), runK R T (fns14 fuel) fuel [] (subsOf [sub14_0 fuel R]) (partOf c14_1 al14_1) (fr14_1.st [0, 2, 6, 7, 114] x) k = j14_1 fuel (fun y => k (.ret []) (fx14_0.st [2, 3, 4] y)) (fun y => k .normal (fx14_2.st [2] y)) x := by
  rintro ⟨x64, x65, x66, x67, x68⟩
  kernel_rfl
noncomputable def sub14_1 (fuel : Nat) (R : Type) : Sub R := Sub.of [0, 2, 6, 7, 114] c14_1 fr14_1 fun x k => j14_1 fuel (fun y => k (.ret []) (fx14_0.st [2, 3, 4] y)) (fun y => k .normal (fx14_2.st [2] y)) x
theorem subOk14_1 (fuel : Nat) (R : Type) : SubOk P [] 124 (sub14_1 fuel R) :=
  subOk_part (fns := (fns14 fuel)) (fuel := fuel) (subs := (subsOf [sub14_0 fuel R])) (an := al14_1) T_ok (fnsOk14 fuel) mixed (subsOk_cons (subOk14_0 fuel R) subsOk_nil) (by kernel_rfl) (by kernel_rfl) fun _ _ _ _ h => Sub.of_run (fun (x : ((List Int) × Int × Int × Bool × (Int × (Int × (Int × Int))))) k => u14_1 fuel k x) h
def fr14_2 : Fr := ⟨[.c (.ptr 0 0 [])], [.box (.d true (.pair (.int .i64) (.pair (.int .i64) (.pair (.int .i64) (.int .i64)))))], 1⟩
noncomputable def c14_2 : Code := bodyAt Try.f14 [1, 1, 1, 1, 1, 1, 1, 1, 1]
def j14_2 (fuel : Nat) {R : Type} (k0 : (Bool × Int × (Int × (Int × (Int × Int)))) → Option R) : (Int × (Int × (Int × Int))) → Option R := fun _ => (k0 (false, (0 : Int), ((0 : Int), ((0 : Int), ((0 : Int), (0 : Int))))))
def al14_2 : AN := (.seq (.region [(1, { touch := [0], ro := false })]) (.norm ⟨[2, 3, 4], padK 1 [some (0, 0)]⟩ (.ret [])))
theorem u14_2 (fuel : Nat) {R : Type} (k : AExit → St → Option R) : ∀ x : (Int × (Int × (Int × Int))), runK R T (fns14 fuel) fuel [] (subsOf [sub14_0 fuel R, sub14_1 fuel R]) (partOf c14_2 al14_2) (fr14_2.st [2] x) k = j14_2 fuel (fun y => k (.ret []) (fx14_0.st [2, 3, 4] y)) x := by
  rintro x78
  kernel_rfl
noncomputable def sub14_2 (fuel : Nat) (R : Type) : Sub R := Sub.of [2] c14_2 fr14_2 fun x k => j14_2 fuel (fun y => k (.ret []) (fx14_0.st [2, 3, 4] y)) x
theorem subOk14_2 (fuel : Nat) (R : Type) : SubOk P [] 124 (sub14_2 fuel R) :=
  subOk_part (fns := (fns14 fuel)) (fuel := fuel) (subs := (subsOf [sub14_0 fuel R, sub14_1 fuel R])) (an := al14_2) T_ok (fnsOk14 fuel) mixed (subsOk_cons (subOk14_0 fuel R) (subsOk_cons (subOk14_1 fuel R) subsOk_nil)) (by kernel_rfl) (by kernel_rfl) fun _ _ _ _ h => Sub.of_run (fun (x : (Int × (Int × (Int × Int)))) k => u14_2 fuel k x) h
def fr14_3 : Fr := ⟨[.d false (.slice (.int .i64)), .c (.ptr 0 0 []), .d true (.int .i64), .d true (.int .i64), .d true (.int .i64), .d true (.int .i64)], [.box (.d true (.pair (.int .i64) (.pair (.int .i64) (.pair (.int .i64) (.int .i64)))))], 1⟩
noncomputable def c14_3 : Code := bodyAt Try.f14 [1, 1, 1, 1, 1, 1, 1]
def j14_3 (fuel : Nat) {R : Type} (k0 : (Bool × Int × (Int × (Int × (Int × Int)))) → Option R) : ((List Int) × Int × Int × Int × Int × (Int × (Int × (Int × Int)))) → Option R := fun (x48, x49, x50, x51, x52, x53) => (if 0 ≤ x50 then (match (x48)[Int.toNat x50]? with | some y54 => (if 0 ≤ x52 then (match (x48)[Int.toNat x52]? with | some y55 => (bif (decide ((IntKind.wrap .i64 ((2 : Int) * y55)) < y54)) then (if 0 ≤ x50 then (match (x48)[Int.toNat x50]? with | some y56 => (if 0 ≤ x52 then (match (x48)[Int.toNat x52]? with | some y57 => let v58 := (IntKind.wrap .i64 (Int.tdiv (IntKind.wrap .i64 (y56 - y57)) (2 : Int))); (k0 (true, (0 : Int), ((1 : Int), (x50, (x52, v58))))) | none => none) else none) | none => none) else none) else (match p27 fuel (x50, x51, x49) with | some z59 => (bif (!z59) then (if x49 = 0 then none else (if 0 ≤ (Int.tmod (IntKind.wrap .i64 (x51 + (1 : Int))) x49) then (match (x48)[Int.toNat (Int.tmod (IntKind.wrap .i64 (x51 + (1 : Int))) x49)]? with | some y60 => (if 0 ≤ x51 then (match (x48)[Int.toNat x51]? with | some y61 => (if 0 ≤ x50 then (match (x48)[Int.toNat x50]? with | some y62 => let v63 := (decide ((IntKind.wrap .i64 ((4 : Int) * (IntKind.wrap .i64 (y60 + y61)))) ≤ (IntKind.wrap .i64 ((3 : Int) * y62)))); (j14_1 fuel (fun (x70, x71, x72) => (k0 (x70, x71, x72))) (fun x73 => (j14_2 fuel (fun (x79, x80, x81) => (k0 (x79, x80, x81))) x73)) (x48, x50, x51, v63, x53)) | none => none) else none) | none => none) else none) | none => none) else none)) else (j14_1 fuel (fun (x74, x75, x76) => (k0 (x74, x75, x76))) (fun x77 => (j14_2 fuel (fun (x82, x83, x84) => (k0 (x82, x83, x84))) x77)) (x48, x50, x51, false, x53))) | none => none)) | none => none) else none) | none => none) else none)
def al14_3 : AN := (.seq (.seq .leaf (.cond (.seq (.region [(13, { touch := [0], ro := false })]) (.norm ⟨[2, 3, 4], padK 1 [some (0, 0)]⟩ (.ret []))) .leaf)) (.seq (.seq .leaf (.hole ⟨[0, 2, 6, 7, 114], padK 1 [some (0, 0)]⟩ 1)) (.hole ⟨[2], padK 1 [some (0, 0)]⟩ 2)))
theorem u14_3 (fuel : Nat) {R : Type} (k : AExit → St → Option R) : ∀ x : ((List Int) × Int × Int × Int × Int × (Int × (Int × (Int × Int)))), runK R T (fns14 fuel) fuel [] (subsOf [sub14_0 fuel R, sub14_1 fuel R, sub14_2 fuel R]) (partOf c14_3 al14_3) (fr14_3.st [0, 2, 5, 6, 7, 8] x) k = j14_3 fuel (fun y => k (.ret []) (fx14_0.st [2, 3, 4] y)) x := by
  rintro ⟨x48, x49, x50, x51, x52, x53⟩
  kernel_rfl
noncomputable def sub14_3 (fuel : Nat) (R : Type) : Sub R := Sub.of [0, 2, 5, 6, 7, 8] c14_3 fr14_3 fun x k => j14_3 fuel (fun y => k (.ret []) (fx14_0.st [2, 3, 4] y)) x
theorem subOk14_3 (fuel : Nat) (R : Type) : SubOk P [] 124 (sub14_3 fuel R) :=
  subOk_part (fns := (fns14 fuel)) (fuel := fuel) (subs := (subsOf [sub14_0 fuel R, sub14_1 fuel R, sub14_2 fuel R])) (an := al14_3) T_ok (fnsOk14 fuel) mixed (subsOk_cons (subOk14_0 fuel R) (subsOk_cons (subOk14_1 fuel R) (subsOk_cons (subOk14_2 fuel R) subsOk_nil))) (by kernel_rfl) (by kernel_rfl) fun _ _ _ _ h => Sub.of_run (fun (x : ((List Int) × Int × Int × Int × Int × (Int × (Int × (Int × Int))))) k => u14_3 fuel k x) h
def fr14_4 : Fr := ⟨[.d false (.slice (.int .i64)), .c (.ptr 0 0 []), .d true (.int .i64), .d true (.int .i64), .d true (.int .i64)], [.box (.d true (.pair (.int .i64) (.pair (.int .i64) (.pair (.int .i64) (.int .i64)))))], 1⟩
noncomputable def c14_4 : Code := bodyAt Try.f14 [1, 1, 1, 1, 1]
def j14_4 (fuel : Nat) {R : Type} (k0 : (Bool × Int × (Int × (Int × (Int × Int)))) → Option R) : ((List Int) × Int × Int × Int × (Int × (Int × (Int × Int)))) → Option R := fun (x40, x41, x42, x43, x44) => (if x41 = 0 then none else let v45 := (Int.tmod (IntKind.wrap .i64 ((IntKind.wrap .i64 (x42 + x41)) - (1 : Int))) x41); (if x41 = 0 then none else (if 0 ≤ (Int.tmod (IntKind.wrap .i64 (x42 + (1 : Int))) x41) then (match (x40)[Int.toNat (Int.tmod (IntKind.wrap .i64 (x42 + (1 : Int))) x41)]? with | some y46 => (if 0 ≤ v45 then (match (x40)[Int.toNat v45]? with | some y47 => (bif (decide (y46 < y47)) then (j14_3 fuel (fun (x85, x86, x87) => (k0 (x85, x86, x87))) (x40, x41, x42, x43, (Int.tmod (IntKind.wrap .i64 (x42 + (1 : Int))) x41), x44)) else (j14_3 fuel (fun (x88, x89, x90) => (k0 (x88, x89, x90))) (x40, x41, x42, x43, v45, x44))) | none => none) else none) | none => none) else none)))
def al14_4 : AN := (.seq .leaf (.seq (.seq .leaf (.seq .leaf (.cond (.fin ⟨[0, 2, 5, 6, 7, 8], padK 1 [some (0, 0)]⟩ .leaf) (.fin ⟨[0, 2, 5, 6, 7, 8], padK 1 [some (0, 0)]⟩ .leaf)))) (.hole ⟨[0, 2, 5, 6, 7, 8], padK 1 [some (0, 0)]⟩ 3)))
theorem u14_4 (fuel : Nat) {R : Type} (k : AExit → St → Option R) : ∀ x : ((List Int) × Int × Int × Int × (Int × (Int × (Int × Int)))), runK R T (fns14 fuel) fuel [] (subsOf [sub14_0 fuel R, sub14_1 fuel R, sub14_2 fuel R, sub14_3 fuel R]) (partOf c14_4 al14_4) (fr14_4.st [0, 2, 5, 6, 7] x) k = j14_4 fuel (fun y => k (.ret []) (fx14_0.st [2, 3, 4] y)) x := by
  rintro ⟨x40, x41, x42, x43, x44⟩
  kernel_rfl
noncomputable def sub14_4 (fuel : Nat) (R : Type) : Sub R := Sub.of [0, 2, 5, 6, 7] c14_4 fr14_4 fun x k => j14_4 fuel (fun y => k (.ret []) (fx14_0.st [2, 3, 4] y)) x
theorem subOk14_4 (fuel : Nat) (R : Type) : SubOk P [] 124 (sub14_4 fuel R) :=
  subOk_part (fns := (fns14 fuel)) (fuel := fuel) (subs := (subsOf [sub14_0 fuel R, sub14_1 fuel R, sub14_2 fuel R, sub14_3 fuel R])) (an := al14_4) T_ok (fnsOk14 fuel) mixed (subsOk_cons (subOk14_0 fuel R) (subsOk_cons (subOk14_1 fuel R) (subsOk_cons (subOk14_2 fuel R) (subsOk_cons (subOk14_3 fuel R) subsOk_nil)))) (by kernel_rfl) (by kernel_rfl) fun _ _ _ _ h => Sub.of_run (fun (x : ((List Int) × Int × Int × Int × (Int × (Int × (Int × Int))))) k => u14_4 fuel k x) h
def an14 : AN := (.seq (.region [(0, { touch := [1], base := 1, ro := false })]) (.seq .leaf (.seq (.seq .leaf (.cond (.seq (.region [(1, { touch := [1], ro := false })]) (.norm ⟨[2, 3, 4], padK 1 [some (1, 0)]⟩ (.ret []))) .leaf)) (.seq .leaf (.seq (.seq .leaf (.hole ⟨[0, 2, 5, 6, 7, 44], padK 1 [some (1, 0)]⟩ 0)) (.hole ⟨[0, 2, 5, 6, 7], padK 1 [some (0, 0)]⟩ 4))))))
def p14 (fuel : Nat) : (List Int) → Option ((Int × (Int × (Int × Int))) × Bool × Int) := fun x1 => (match p22 fuel (x1, (1 : Int), (12 : Int)) with | some z2 => (bif (!z2) then (some (((0 : Int), ((0 : Int), ((0 : Int), (0 : Int)))), false, (171 : Int))) else (match p25 fuel x1 with | some z3 => (match p24 fuel (x1, z3) with | some z4 => (match p26 fuel x1 with | some z5 => (match p24 fuel (x1, z5) with | some z6 => (bif (decide (((List.length x1 : Nat) : Int) = (1 : Int))) then (j14_0 fuel (fun (x16, x17, x18) => (some (x18, x16, x17))) (fun (x19, x20, x21, x22, x23) => (j14_4 fuel (fun (x91, x92, x93) => (some (x93, x91, x92))) (x19, x20, x21, x22, x23))) (x1, ((List.length x1 : Nat) : Int), z4, z6, true, ((0 : Int), ((0 : Int), ((0 : Int), (0 : Int)))))) else (if 0 ≤ z4 then (match (x1)[Int.toNat z4]? with | some y7 => (bif (decide (y7 < (2 : Int))) then (j14_0 fuel (fun (x24, x25, x26) => (some (x26, x24, x25))) (fun (x27, x28, x29, x30, x31) => (j14_4 fuel (fun (x94, x95, x96) => (some (x96, x94, x95))) (x27, x28, x29, x30, x31))) (x1, ((List.length x1 : Nat) : Int), z4, z6, true, ((0 : Int), ((0 : Int), ((0 : Int), (0 : Int)))))) else (if 0 ≤ z4 then (match (x1)[Int.toNat z4]? with | some y8 => (if 0 ≤ z6 then (match (x1)[Int.toNat z6]? with | some y9 => (j14_0 fuel (fun (x32, x33, x34) => (some (x34, x32, x33))) (fun (x35, x36, x37, x38, x39) => (j14_4 fuel (fun (x97, x98, x99) => (some (x99, x97, x98))) (x35, x36, x37, x38, x39))) (x1, ((List.length x1 : Nat) : Int), z4, z6, (decide (y8 ≤ (IntKind.wrap .i64 ((2 : Int) * y9)))), ((0 : Int), ((0 : Int), ((0 : Int), (0 : Int)))))) | none => none) else none) | none => none) else none)) | none => none) else none)) | none => none) | none => none) | none => none) | none => none)) | none => none)
def F14 (fuel : Nat) : Fun := funOfA fi14 al14 (p14 fuel)
theorem run14 (fuel : Nat) : ∀ y : (List Int), runF ((Int × (Int × (Int × Int))) × Bool × Int) T (fns14 fuel) fuel (subsOf [sub14_0 fuel ((Int × (Int × (Int × Int))) × Bool × Int), sub14_1 fuel ((Int × (Int × (Int × Int))) × Bool × Int), sub14_2 fuel ((Int × (Int × (Int × Int))) × Bool × Int), sub14_3 fuel ((Int × (Int × (Int × Int))) × Bool × Int), sub14_4 fuel ((Int × (Int × (Int × Int))) × Bool × Int)]) (defOf Try.f14 an14 2 [] []) (fi14.vs y) (fi14.os y) (altsDec al14) = p14 fuel y := by
  rintro x1
  kernel_rfl
theorem ok14 (fuel : Nat) : FunOk P 14 (funOfA fi14 al14 (p14 fuel)) :=
  funOfA_ok (subs := (subsOf [sub14_0 fuel ((Int × (Int × (Int × Int))) × Bool × Int), sub14_1 fuel ((Int × (Int × (Int × Int))) × Bool × Int), sub14_2 fuel ((Int × (Int × (Int × Int))) × Bool × Int), sub14_3 fuel ((Int × (Int × (Int × Int))) × Bool × Int), sub14_4 fuel ((Int × (Int × (Int × Int))) × Bool × Int)])) (an := an14) (room := 2) (ks := []) (g0 := []) (fuel := fuel) T_ok (fnsOk14 fuel) mixed (fn := Try.f14) (by kernel_rfl) (by kernel_rfl) (subsOk_cons (subOk14_0 fuel _) (subsOk_cons (subOk14_1 fuel _) (subsOk_cons (subOk14_2 fuel _) (subsOk_cons (subOk14_3 fuel _) (subsOk_cons (subOk14_4 fuel _) subsOk_nil))))) (by kernel_rfl) (fun _ => ⟨by kernel_rfl, by kernel_rfl⟩) (run14 fuel)

-- f8: tontine/balance.Key
def fns8 (fuel : Nat) : Fns := fnsOf []
theorem fnsOk8 (fuel : Nat) : FnsOk P (fns8 fuel) := fnsOk_nil
def fi8 : Fr := ⟨[.d false (.slice (.str)), .d false (.int .i64)], [], 0⟩
def al8 : List (Tm × List To) := [(.tup (.cons (.d true (.str)) (.cons (.d true (.int .i64)) (.c .nil))), [])]
def fx8_0 : Fr := ⟨[.d true (.str), .d true (.int .i64)], [], 0⟩
def fx8_1 : Fr := ⟨[.d false (.slice (.str)), .d true (.int .i64)], [], 0⟩
def fr8_0 : Fr := ⟨[.d false (.slice (.str)), .d true (.int .i64), .d true (.int .i64), .d true (.int .i64)], [], 0⟩
noncomputable def c8_0 : Code := bodyAt Try.f8 [1, 1, 0, 1, 0]
def s8_0 (fuel : Nat) {R : Type} (F : ((List ByteArray) × Int × Int × Int) → Option R) (k0 : (ByteArray × Int) → Option R) (k1 : ((List ByteArray) × Int) → Option R) : ((List ByteArray) × Int × Int × Int) → Option R := fun (x3, x4, x5, x6) => (bif (decide (x6 < x5)) then (bif (decide ((0 : Int) < x6)) then (if 0 ≤ (IntKind.wrap .i64 (x6 - (1 : Int))) then (match (x3)[Int.toNat (IntKind.wrap .i64 (x6 - (1 : Int)))]? with | some y7 => (if 0 ≤ x6 then (match (x3)[Int.toNat x6]? with | some y8 => (bif (!strLess y7 y8) then (k0 (ByteArray.empty, (171 : Int))) else (F (x3, x4, x5, (IntKind.wrap .i64 (x6 + (1 : Int)))))) | none => none) else none) | none => none) else none) else (F (x3, x4, x5, (IntKind.wrap .i64 (x6 + (1 : Int)))))) else (k1 (x3, x4)))
def l8_0 (fuel : Nat) {R : Type} (k0 : (ByteArray × Int) → Option R) (k1 : ((List ByteArray) × Int) → Option R) : Nat → ((List ByteArray) × Int × Int × Int) → Option R
  | 0, _ => none
  | n + 1, x => s8_0 fuel (l8_0 fuel k0 k1 n) k0 k1 x
def nm8_0 : Norm := ⟨[0, 1, 12, 13], padK 0 []⟩
def an8_0 : AN := (.seq .leaf (.seq (.cond .leaf (.norm ⟨[0, 1], padK 0 []⟩ .leaf)) (.seq (.block (.seq .leaf (.seq .leaf (.cond (.seq .leaf (.norm ⟨[4, 5], padK 0 []⟩ (.ret []))) .leaf)))) .leaf)))
def al8_0 : AN := .loop nm8_0 an8_0
noncomputable def d8_0 : Code := bodyAt Try.f8 [1, 1, 0, 1, 0, 0]
theorem e8_0 (fuel : Nat) {R : Type} (F : St → Option R) (k : AExit → St → Option R) : ∀ x : ((List ByteArray) × Int × Int × Int), runK R T (fns8 fuel) fuel [] (subsOf []) (partOf d8_0 an8_0) (fr8_0.st [0, 1, 12, 13] x) (backTo R [] nm8_0 F k) = s8_0 fuel (fun x => F (fr8_0.st [0, 1, 12, 13] x)) (fun y => k (.ret []) (fx8_0.st [4, 5] y)) (fun y => k (.exit 0) (fx8_1.st [0, 1] y)) x := by
  rintro ⟨x3, x4, x5, x6⟩
  kernel_rfl
theorem u8_0 (fuel : Nat) {R : Type} (k : AExit → St → Option R) (x : ((List ByteArray) × Int × Int × Int)) : runK R T (fns8 fuel) fuel [] (subsOf []) (partOf c8_0 al8_0) (fr8_0.st [0, 1, 12, 13] x) k = l8_0 fuel (fun y => k (.ret []) (fx8_0.st [4, 5] y)) (fun y => k (.exit 0) (fx8_1.st [0, 1] y)) fuel x :=
  loop_eq (mk := fr8_0.st [0, 1, 12, 13]) (s := fun F x => s8_0 fuel F (fun y => k (.ret []) (fx8_0.st [4, 5] y)) (fun y => k (.exit 0) (fx8_1.st [0, 1] y)) x) (l := fun n x => l8_0 fuel (fun y => k (.ret []) (fx8_0.st [4, 5] y)) (fun y => k (.exit 0) (fx8_1.st [0, 1] y)) n x) (d := d8_0) (by kernel_rfl) (fun G x => by
    revert x
    rintro ⟨x3, x4, x5, x6⟩
    kernel_rfl) (fun F x => e8_0 fuel F k x) (fun _ => rfl) (fun _ _ => rfl) x
noncomputable def sub8_0 (fuel : Nat) (R : Type) : Sub R := Sub.of [0, 1, 12, 13] c8_0 fr8_0 fun x k => l8_0 fuel (fun y => k (.ret []) (fx8_0.st [4, 5] y)) (fun y => k (.exit 0) (fx8_1.st [0, 1] y)) fuel x
theorem subOk8_0 (fuel : Nat) (R : Type) : SubOk P [] 81 (sub8_0 fuel R) :=
  subOk_part (fns := (fns8 fuel)) (fuel := fuel) (subs := (subsOf [])) (an := al8_0) T_ok (fnsOk8 fuel) mixed subsOk_nil (by kernel_rfl) (by kernel_rfl) fun _ _ _ _ h => Sub.of_run (fun (x : ((List ByteArray) × Int × Int × Int)) k => u8_0 fuel k x) h
def fx8_2 : Fr := ⟨[.d false (.slice (.str)), .d true (.int .i64), .d true (.int .i64)], [], 0⟩
def fr8_1 : Fr := ⟨[.d false (.slice (.str)), .d true (.int .i64), .d true (.int .i64)], [], 0⟩
noncomputable def c8_1 : Code := bodyAt Try.f8 [1, 1, 1, 1, 1, 0, 0]
def s8_1 (fuel : Nat) {R : Type} (F : ((List ByteArray) × Int × Int) → Option R) (k0 : ((List ByteArray) × Int × Int) → Option R) : ((List ByteArray) × Int × Int) → Option R := fun (x13, x14, x15) => (if 0 ≤ (IntKind.wrap .i64 (x14 - (1 : Int))) then (match (x13)[Int.toNat (IntKind.wrap .i64 (x14 - (1 : Int)))]? with | some y16 => (bif (decide (x15 < ((ByteArray.size y16 : Nat) : Int))) then (if 0 ≤ x14 then (match (x13)[Int.toNat x14]? with | some y17 => (bif (decide (x15 < ((ByteArray.size y17 : Nat) : Int))) then (if 0 ≤ (IntKind.wrap .i64 (x14 - (1 : Int))) then (match (x13)[Int.toNat (IntKind.wrap .i64 (x14 - (1 : Int)))]? with | some y18 => (if 0 ≤ x15 ∧ x15 < ((ByteArray.size y18 : Nat) : Int) then (if 0 ≤ x14 then (match (x13)[Int.toNat x14]? with | some y19 => (if 0 ≤ x15 ∧ x15 < ((ByteArray.size y19 : Nat) : Int) then (bif (decide ((byteAt y18 (Int.toNat x15)) = (byteAt y19 (Int.toNat x15)))) then (F (x13, x14, (IntKind.wrap .i64 (x15 + (1 : Int))))) else (k0 (x13, x14, x15))) else none) | none => none) else none) else none) | none => none) else none) else (k0 (x13, x14, x15))) | none => none) else none) else (k0 (x13, x14, x15))) | none => none) else none)
def l8_1 (fuel : Nat) {R : Type} (k0 : ((List ByteArray) × Int × Int) → Option R) : Nat → ((List ByteArray) × Int × Int) → Option R
  | 0, _ => none
  | n + 1, x => s8_1 fuel (l8_1 fuel k0 n) k0 x
def nm8_1 : Norm := ⟨[0, 1, 7], padK 0 []⟩
def an8_1 : AN := (.seq (.seq .leaf (.cond .leaf (.norm ⟨[0, 1, 7], padK 0 []⟩ .leaf))) (.block .leaf))
def al8_1 : AN := .loop nm8_1 an8_1
noncomputable def d8_1 : Code := bodyAt Try.f8 [1, 1, 1, 1, 1, 0, 0, 0]
theorem e8_1 (fuel : Nat) {R : Type} (F : St → Option R) (k : AExit → St → Option R) : ∀ x : ((List ByteArray) × Int × Int), runK R T (fns8 fuel) fuel [] (subsOf [sub8_0 fuel R]) (partOf d8_1 an8_1) (fr8_1.st [0, 1, 7] x) (backTo R [] nm8_1 F k) = s8_1 fuel (fun x => F (fr8_1.st [0, 1, 7] x)) (fun y => k (.exit 2) (fx8_2.st [0, 1, 7] y)) x := by
  rintro ⟨x13, x14, x15⟩
  kernel_rfl
theorem u8_1 (fuel : Nat) {R : Type} (k : AExit → St → Option R) (x : ((List ByteArray) × Int × Int)) : runK R T (fns8 fuel) fuel [] (subsOf [sub8_0 fuel R]) (partOf c8_1 al8_1) (fr8_1.st [0, 1, 7] x) k = l8_1 fuel (fun y => k (.exit 2) (fx8_2.st [0, 1, 7] y)) fuel x :=
  loop_eq (mk := fr8_1.st [0, 1, 7]) (s := fun F x => s8_1 fuel F (fun y => k (.exit 2) (fx8_2.st [0, 1, 7] y)) x) (l := fun n x => l8_1 fuel (fun y => k (.exit 2) (fx8_2.st [0, 1, 7] y)) n x) (d := d8_1) (by kernel_rfl) (fun G x => by
    revert x
    rintro ⟨x13, x14, x15⟩
    kernel_rfl) (fun F x => e8_1 fuel F k x) (fun _ => rfl) (fun _ _ => rfl) x
noncomputable def sub8_1 (fuel : Nat) (R : Type) : Sub R := Sub.of [0, 1, 7] c8_1 fr8_1 fun x k => l8_1 fuel (fun y => k (.exit 2) (fx8_2.st [0, 1, 7] y)) fuel x
theorem subOk8_1 (fuel : Nat) (R : Type) : SubOk P [] 81 (sub8_1 fuel R) :=
  subOk_part (fns := (fns8 fuel)) (fuel := fuel) (subs := (subsOf [sub8_0 fuel R])) (an := al8_1) T_ok (fnsOk8 fuel) mixed (subsOk_cons (subOk8_0 fuel R) subsOk_nil) (by kernel_rfl) (by kernel_rfl) fun _ _ _ _ h => Sub.of_run (fun (x : ((List ByteArray) × Int × Int)) k => u8_1 fuel k x) h
def an8 : AN := (.seq .leaf (.seq (.seq .leaf (.cond (.seq .leaf (.norm ⟨[4, 5], padK 0 []⟩ (.ret []))) .leaf)) (.seq (.seq .leaf (.block (.hole ⟨[0, 1, 12, 13], padK 0 []⟩ 0))) (.seq (.seq .leaf (.cond (.seq .leaf (.norm ⟨[4, 5], padK 0 []⟩ (.ret []))) .leaf)) (.seq .leaf (.seq (.block (.hole ⟨[0, 1, 7], padK 0 []⟩ 1)) (.seq .leaf (.norm ⟨[4, 5], padK 0 []⟩ (.ret [])))))))))
def p8 (fuel : Nat) : ((List ByteArray) × Int) → Option (ByteArray × Int) := fun (x1, x2) => (bif (decide ((1000 : Int) < ((List.length x1 : Nat) : Int))) then (some (ByteArray.empty, (171 : Int))) else (l8_0 fuel (fun (x9, x10) => (some (x9, x10))) (fun (x11, x12) => (bif (decide (x12 < (1 : Int))) then (some (ByteArray.empty, (172 : Int))) else (bif (decide (((List.length x11 : Nat) : Int) ≤ x12)) then (some (ByteArray.empty, (172 : Int))) else (l8_1 fuel (fun (x20, x21, x22) => (if 0 ≤ x21 then (match (x20)[Int.toNat x21]? with | some y23 => (if 0 ≤ (IntKind.wrap .i64 (x22 + (1 : Int))) ∧ (IntKind.wrap .i64 (x22 + (1 : Int))) ≤ (((ByteArray.size y23) : Nat) : Int) then let v24 := (ByteArray.extract y23 0 (Int.toNat (IntKind.wrap .i64 (x22 + (1 : Int))))); (some (v24, (0 : Int))) else none) | none => none) else none)) fuel (x11, x12, (0 : Int)))))) fuel (x1, x2, ((List.length x1 : Nat) : Int), (0 : Int))))
def F8 (fuel : Nat) : Fun := funOfA fi8 al8 (p8 fuel)
theorem run8 (fuel : Nat) : ∀ y : ((List ByteArray) × Int), runF (ByteArray × Int) T (fns8 fuel) fuel (subsOf [sub8_0 fuel (ByteArray × Int), sub8_1 fuel (ByteArray × Int)]) (defOf Try.f8 an8 0 [] []) (fi8.vs y) (fi8.os y) (altsDec al8) = p8 fuel y := by
  rintro ⟨x1, x2⟩
  kernel_rfl
theorem ok8 (fuel : Nat) : FunOk P 8 (funOfA fi8 al8 (p8 fuel)) :=
  funOfA_ok (subs := (subsOf [sub8_0 fuel (ByteArray × Int), sub8_1 fuel (ByteArray × Int)])) (an := an8) (room := 0) (ks := []) (g0 := []) (fuel := fuel) T_ok (fnsOk8 fuel) mixed (fn := Try.f8) (by kernel_rfl) (by kernel_rfl) (subsOk_cons (subOk8_0 fuel _) (subsOk_cons (subOk8_1 fuel _) subsOk_nil)) (by kernel_rfl) (fun _ => ⟨by kernel_rfl, by kernel_rfl⟩) (run8 fuel)

-- f7: tontine/tontinelaw17.awake
def fns7 (fuel : Nat) : Fns := fnsOf [(14, F14 fuel), (8, F8 fuel)]
theorem fnsOk7 (fuel : Nat) : FnsOk P (fns7 fuel) := (fnsOk_cons (ok14 fuel) (fnsOk_cons (ok8 fuel) fnsOk_nil))
def fi7 : Fr := ⟨[], [], 0⟩
def al7 : List (Tm × List To) := [(.d true (.bool), [])]
def an7 : AN := (.seq .leaf (.seq (.region [(0, { touch := [0], ro := false }), (1, { touch := [0], lend := [some (.slice (.int .i64))] }), (6, { touch := [1], base := 1, ro := false }), (7, { touch := [1], ro := false })]) (.seq (.region [(0, { touch := [2], base := 2, ro := false }), (1, { touch := [2], lend := [some (.slice (.str)), none] })]) (.seq (.region [(6, { touch := [1] })]) (.norm ⟨[0], padK 3 []⟩ (.ret []))))))
def p7 (fuel : Nat) : Unit → Option Bool := fun _ => (match p14 fuel [(9 : Int), (6 : Int), (1 : Int), (5 : Int), (6 : Int)] with | some z1 => (match p8 fuel ([(⟨#[97, 98]⟩ : ByteArray), (⟨#[97, 98, 99]⟩ : ByteArray), (⟨#[98]⟩ : ByteArray)], (2 : Int)) with | some z2 => (bif z1.2.1 then (bif (decide (z1.2.2 = (0 : Int))) then let v3 := (Ty.eqB (.pair (.int .i64) (.pair (.int .i64) (.pair (.int .i64) (.int .i64)))) z1.1 ((2 : Int), ((0 : Int), ((2 : Int), (4 : Int))))); (bif v3 then (bif (strEq z2.1 (⟨#[98]⟩ : ByteArray)) then (some (decide (z2.2 = (0 : Int)))) else (some false)) else (some false)) else (some false)) else (some false)) | none => none) | none => none)
def F7 (fuel : Nat) : Fun := funOfA fi7 al7 (p7 fuel)
theorem run7 (fuel : Nat) : ∀ y : Unit, runF Bool T (fns7 fuel) fuel (subsOf []) (defOf Try.f7 an7 3 [] []) (fi7.vs y) (fi7.os y) (altsDec al7) = p7 fuel y := by
  rintro ⟨⟩
  kernel_rfl
theorem ok7 (fuel : Nat) : FunOk P 7 (funOfA fi7 al7 (p7 fuel)) :=
  funOfA_ok (subs := (subsOf [])) (an := an7) (room := 3) (ks := []) (g0 := []) (fuel := fuel) T_ok (fnsOk7 fuel) mixed (fn := Try.f7) (by kernel_rfl) (by kernel_rfl) subsOk_nil (by kernel_rfl) (fun _ => ⟨by kernel_rfl, by kernel_rfl⟩) (run7 fuel)

-- f9: tontine/tontineref17.Key
def fns9 (fuel : Nat) : Fns := fnsOf []
theorem fnsOk9 (fuel : Nat) : FnsOk P (fns9 fuel) := fnsOk_nil
def fi9 : Fr := ⟨[.d true (.slice (.str)), .d false (.int .i64)], [], 0⟩
def al9 : List (Tm × List To) := [(.tup (.cons (.d true (.str)) (.cons (.d true (.int .i64)) (.c .nil))), [])]
def fx9_0 : Fr := ⟨[.d true (.str), .d true (.int .i64)], [], 0⟩
def fx9_1 : Fr := ⟨[.d true (.slice (.str)), .d true (.int .i64)], [], 0⟩
def fr9_0 : Fr := ⟨[.d true (.slice (.str)), .d true (.int .i64), .d true (.int .i64)], [], 0⟩
noncomputable def c9_0 : Code := bodyAt Try.f9 [1, 1, 0, 1, 0]
def s9_0 (fuel : Nat) {R : Type} (F : ((List ByteArray) × Int × Int) → Option R) (k0 : (ByteArray × Int) → Option R) (k1 : ((List ByteArray) × Int) → Option R) : ((List ByteArray) × Int × Int) → Option R := fun (x3, x4, x5) => (bif (decide (x5 < ((List.length x3 : Nat) : Int))) then (if 0 ≤ (IntKind.wrap .i64 (x5 - (1 : Int))) then (match (x3)[Int.toNat (IntKind.wrap .i64 (x5 - (1 : Int)))]? with | some y6 => (if 0 ≤ x5 then (match (x3)[Int.toNat x5]? with | some y7 => (bif (!strLess y6 y7) then (k0 (ByteArray.empty, (171 : Int))) else (F (x3, x4, (IntKind.wrap .i64 (x5 + (1 : Int)))))) | none => none) else none) | none => none) else none) else (k1 (x3, x4)))
def l9_0 (fuel : Nat) {R : Type} (k0 : (ByteArray × Int) → Option R) (k1 : ((List ByteArray) × Int) → Option R) : Nat → ((List ByteArray) × Int × Int) → Option R
  | 0, _ => none
  | n + 1, x => s9_0 fuel (l9_0 fuel k0 k1 n) k0 k1 x
def nm9_0 : Norm := ⟨[0, 1, 6], padK 0 []⟩
def an9_0 : AN := (.seq (.seq .leaf (.cond .leaf (.norm ⟨[0, 1], padK 0 []⟩ .leaf))) (.seq (.block (.seq .leaf (.cond (.seq .leaf (.norm ⟨[4, 5], padK 0 []⟩ (.ret []))) .leaf))) .leaf))
def al9_0 : AN := .loop nm9_0 an9_0
noncomputable def d9_0 : Code := bodyAt Try.f9 [1, 1, 0, 1, 0, 0]
theorem e9_0 (fuel : Nat) {R : Type} (F : St → Option R) (k : AExit → St → Option R) : ∀ x : ((List ByteArray) × Int × Int), runK R T (fns9 fuel) fuel [] (subsOf []) (partOf d9_0 an9_0) (fr9_0.st [0, 1, 6] x) (backTo R [] nm9_0 F k) = s9_0 fuel (fun x => F (fr9_0.st [0, 1, 6] x)) (fun y => k (.ret []) (fx9_0.st [4, 5] y)) (fun y => k (.exit 0) (fx9_1.st [0, 1] y)) x := by
  rintro ⟨x3, x4, x5⟩
  kernel_rfl
theorem u9_0 (fuel : Nat) {R : Type} (k : AExit → St → Option R) (x : ((List ByteArray) × Int × Int)) : runK R T (fns9 fuel) fuel [] (subsOf []) (partOf c9_0 al9_0) (fr9_0.st [0, 1, 6] x) k = l9_0 fuel (fun y => k (.ret []) (fx9_0.st [4, 5] y)) (fun y => k (.exit 0) (fx9_1.st [0, 1] y)) fuel x :=
  loop_eq (mk := fr9_0.st [0, 1, 6]) (s := fun F x => s9_0 fuel F (fun y => k (.ret []) (fx9_0.st [4, 5] y)) (fun y => k (.exit 0) (fx9_1.st [0, 1] y)) x) (l := fun n x => l9_0 fuel (fun y => k (.ret []) (fx9_0.st [4, 5] y)) (fun y => k (.exit 0) (fx9_1.st [0, 1] y)) n x) (d := d9_0) (by kernel_rfl) (fun G x => by
    revert x
    rintro ⟨x3, x4, x5⟩
    kernel_rfl) (fun F x => e9_0 fuel F k x) (fun _ => rfl) (fun _ _ => rfl) x
noncomputable def sub9_0 (fuel : Nat) (R : Type) : Sub R := Sub.of [0, 1, 6] c9_0 fr9_0 fun x k => l9_0 fuel (fun y => k (.ret []) (fx9_0.st [4, 5] y)) (fun y => k (.exit 0) (fx9_1.st [0, 1] y)) fuel x
theorem subOk9_0 (fuel : Nat) (R : Type) : SubOk P [] 67 (sub9_0 fuel R) :=
  subOk_part (fns := (fns9 fuel)) (fuel := fuel) (subs := (subsOf [])) (an := al9_0) T_ok (fnsOk9 fuel) mixed subsOk_nil (by kernel_rfl) (by kernel_rfl) fun _ _ _ _ h => Sub.of_run (fun (x : ((List ByteArray) × Int × Int)) k => u9_0 fuel k x) h
def fr9_1 : Fr := ⟨[.d true (.slice (.str)), .d true (.int .i64), .d true (.int .i64)], [], 0⟩
noncomputable def c9_1 : Code := bodyAt Try.f9 [1, 1, 1, 1, 0, 1, 0]
def s9_1 (fuel : Nat) {R : Type} (F : ((List ByteArray) × Int × Int) → Option R) (k0 : (ByteArray × Int) → Option R) (k1 : ((List ByteArray) × Int) → Option R) : ((List ByteArray) × Int × Int) → Option R := fun (x13, x14, x15) => (if 0 ≤ x14 then (match (x13)[Int.toNat x14]? with | some y16 => (bif (decide (x15 ≤ ((ByteArray.size y16 : Nat) : Int))) then (if 0 ≤ x14 then (match (x13)[Int.toNat x14]? with | some y17 => (if 0 ≤ x15 ∧ x15 ≤ (((ByteArray.size y17) : Nat) : Int) then (if 0 ≤ (IntKind.wrap .i64 (x14 - (1 : Int))) then (match (x13)[Int.toNat (IntKind.wrap .i64 (x14 - (1 : Int)))]? with | some y18 => let v19 := (!(strLess (ByteArray.extract y17 0 (Int.toNat x15)) y18 || strEq (ByteArray.extract y17 0 (Int.toNat x15)) y18)); (bif v19 then (if 0 ≤ x14 then (match (x13)[Int.toNat x14]? with | some y20 => (if 0 ≤ x15 ∧ x15 ≤ (((ByteArray.size y20) : Nat) : Int) then (k0 ((ByteArray.extract y20 0 (Int.toNat x15)), (0 : Int))) else none) | none => none) else none) else (F (x13, x14, (IntKind.wrap .i64 (x15 + (1 : Int)))))) | none => none) else none) else none) | none => none) else none) else (k1 (x13, x14))) | none => none) else none)
def l9_1 (fuel : Nat) {R : Type} (k0 : (ByteArray × Int) → Option R) (k1 : ((List ByteArray) × Int) → Option R) : Nat → ((List ByteArray) × Int × Int) → Option R
  | 0, _ => none
  | n + 1, x => s9_1 fuel (l9_1 fuel k0 k1 n) k0 k1 x
def nm9_1 : Norm := ⟨[0, 1, 7], padK 0 []⟩
def an9_1 : AN := (.seq (.seq .leaf (.cond .leaf (.norm ⟨[0, 1], padK 0 []⟩ .leaf))) (.seq (.block (.seq .leaf (.cond (.seq .leaf (.norm ⟨[4, 5], padK 0 []⟩ (.ret []))) .leaf))) .leaf))
def al9_1 : AN := .loop nm9_1 an9_1
noncomputable def d9_1 : Code := bodyAt Try.f9 [1, 1, 1, 1, 0, 1, 0, 0]
theorem e9_1 (fuel : Nat) {R : Type} (F : St → Option R) (k : AExit → St → Option R) : ∀ x : ((List ByteArray) × Int × Int), runK R T (fns9 fuel) fuel [] (subsOf [sub9_0 fuel R]) (partOf d9_1 an9_1) (fr9_1.st [0, 1, 7] x) (backTo R [] nm9_1 F k) = s9_1 fuel (fun x => F (fr9_1.st [0, 1, 7] x)) (fun y => k (.ret []) (fx9_0.st [4, 5] y)) (fun y => k (.exit 2) (fx9_1.st [0, 1] y)) x := by
  rintro ⟨x13, x14, x15⟩
  kernel_rfl
theorem u9_1 (fuel : Nat) {R : Type} (k : AExit → St → Option R) (x : ((List ByteArray) × Int × Int)) : runK R T (fns9 fuel) fuel [] (subsOf [sub9_0 fuel R]) (partOf c9_1 al9_1) (fr9_1.st [0, 1, 7] x) k = l9_1 fuel (fun y => k (.ret []) (fx9_0.st [4, 5] y)) (fun y => k (.exit 2) (fx9_1.st [0, 1] y)) fuel x :=
  loop_eq (mk := fr9_1.st [0, 1, 7]) (s := fun F x => s9_1 fuel F (fun y => k (.ret []) (fx9_0.st [4, 5] y)) (fun y => k (.exit 2) (fx9_1.st [0, 1] y)) x) (l := fun n x => l9_1 fuel (fun y => k (.ret []) (fx9_0.st [4, 5] y)) (fun y => k (.exit 2) (fx9_1.st [0, 1] y)) n x) (d := d9_1) (by kernel_rfl) (fun G x => by
    revert x
    rintro ⟨x13, x14, x15⟩
    kernel_rfl) (fun F x => e9_1 fuel F k x) (fun _ => rfl) (fun _ _ => rfl) x
noncomputable def sub9_1 (fuel : Nat) (R : Type) : Sub R := Sub.of [0, 1, 7] c9_1 fr9_1 fun x k => l9_1 fuel (fun y => k (.ret []) (fx9_0.st [4, 5] y)) (fun y => k (.exit 2) (fx9_1.st [0, 1] y)) fuel x
theorem subOk9_1 (fuel : Nat) (R : Type) : SubOk P [] 67 (sub9_1 fuel R) :=
  subOk_part (fns := (fns9 fuel)) (fuel := fuel) (subs := (subsOf [sub9_0 fuel R])) (an := al9_1) T_ok (fnsOk9 fuel) mixed (subsOk_cons (subOk9_0 fuel R) subsOk_nil) (by kernel_rfl) (by kernel_rfl) fun _ _ _ _ h => Sub.of_run (fun (x : ((List ByteArray) × Int × Int)) k => u9_1 fuel k x) h
def an9 : AN := (.seq .leaf (.seq (.seq .leaf (.cond (.seq .leaf (.norm ⟨[4, 5], padK 0 []⟩ (.ret []))) .leaf)) (.seq (.seq .leaf (.block (.hole ⟨[0, 1, 6], padK 0 []⟩ 0))) (.seq (.seq .leaf (.cond (.seq .leaf (.norm ⟨[4, 5], padK 0 []⟩ (.ret []))) .leaf)) (.seq (.seq .leaf (.block (.hole ⟨[0, 1, 7], padK 0 []⟩ 1))) (.seq .leaf (.norm ⟨[4, 5], padK 0 []⟩ (.ret []))))))))
def p9 (fuel : Nat) : ((List ByteArray) × Int) → Option (ByteArray × Int) := fun (x1, x2) => (bif (decide ((1000 : Int) < ((List.length x1 : Nat) : Int))) then (some (ByteArray.empty, (171 : Int))) else (l9_0 fuel (fun (x8, x9) => (some (x8, x9))) (fun (x10, x11) => (bif (decide (x11 < (1 : Int))) then (some (ByteArray.empty, (172 : Int))) else let v12 := (decide ((IntKind.wrap .i64 (((List.length x10 : Nat) : Int) - (1 : Int))) < x11)); (bif v12 then (some (ByteArray.empty, (172 : Int))) else (l9_1 fuel (fun (x21, x22) => (some (x21, x22))) (fun (x23, x24) => (if 0 ≤ x24 then (match (x23)[Int.toNat x24]? with | some y25 => (some (y25, (0 : Int))) | none => none) else none)) fuel (x10, x11, (0 : Int)))))) fuel (x1, x2, (1 : Int))))
def F9 (fuel : Nat) : Fun := funOfA fi9 al9 (p9 fuel)
theorem run9 (fuel : Nat) : ∀ y : ((List ByteArray) × Int), runF (ByteArray × Int) T (fns9 fuel) fuel (subsOf [sub9_0 fuel (ByteArray × Int), sub9_1 fuel (ByteArray × Int)]) (defOf Try.f9 an9 0 [] []) (fi9.vs y) (fi9.os y) (altsDec al9) = p9 fuel y := by
  rintro ⟨x1, x2⟩
  kernel_rfl
theorem ok9 (fuel : Nat) : FunOk P 9 (funOfA fi9 al9 (p9 fuel)) :=
  funOfA_ok (subs := (subsOf [sub9_0 fuel (ByteArray × Int), sub9_1 fuel (ByteArray × Int)])) (an := an9) (room := 0) (ks := []) (g0 := []) (fuel := fuel) T_ok (fnsOk9 fuel) mixed (fn := Try.f9) (by kernel_rfl) (by kernel_rfl) (subsOk_cons (subOk9_0 fuel _) (subsOk_cons (subOk9_1 fuel _) subsOk_nil)) (by kernel_rfl) (fun _ => ⟨by kernel_rfl, by kernel_rfl⟩) (run9 fuel)

-- f3: tontine/tontinelaw17.BalanceKeys
def fns3 (fuel : Nat) : Fns := fnsOf [(7, F7 fuel), (8, F8 fuel), (9, F9 fuel)]
theorem fnsOk3 (fuel : Nat) : FnsOk P (fns3 fuel) := (fnsOk_cons (ok7 fuel) (fnsOk_cons (ok8 fuel) (fnsOk_cons (ok9 fuel) fnsOk_nil)))
def fi3 : Fr := ⟨[.d true (.slice (.str)), .d false (.int .i64)], [], 0⟩
def al3 : List (Tm × List To) := [(.d true (.bool), [])]
def fx3_0 : Fr := ⟨[.d true (.bool)], [], 2⟩
def fx3_1 : Fr := ⟨[], [], 2⟩
def fr3_0 : Fr := ⟨[.d true (.slice (.str)), .d true (.int .i64), .c (.slc 0 0), .d true (.str), .d true (.int .i64), .d true (.int .i64)], [.arr 0 (.str)], 1⟩
noncomputable def c3_0 : Code := bodyAt Try.f3 [1, 1, 1, 1, 1, 1, 0, 1, 0]
def s3_0 (fuel : Nat) {R : Type} (F : ((List ByteArray) × Int × ByteArray × Int × Int × (List ByteArray)) → Option R) (k0 : Bool → Option R) (k1 : Unit → Option R) : ((List ByteArray) × Int × ByteArray × Int × Int × (List ByteArray)) → Option R := fun (x6, x7, x8, x9, x10, x11) => (bif (decide (x10 < ((List.length x6 : Nat) : Int))) then (if 0 ≤ x10 ∧ x10 < ((List.length x11 : Nat) : Int) then (match (x11)[(Int.toNat x10)]? with | some y12 => (if 0 ≤ x10 then (match (x6)[Int.toNat x10]? with | some y13 => (bif (!strEq y12 y13) then (k0 false) else (bif (decide (x9 = (0 : Int))) then (if 0 ≤ x10 then (match (x6)[Int.toNat x10]? with | some y14 => (bif (!((!strLess y14 x8) == (decide (x7 ≤ x10)))) then (k0 false) else (F (x6, x7, x8, x9, (IntKind.wrap .i64 (x10 + (1 : Int))), x11))) | none => none) else none) else (F (x6, x7, x8, x9, (IntKind.wrap .i64 (x10 + (1 : Int))), x11)))) | none => none) else none) | none => none) else none) else (k1 ()))
def l3_0 (fuel : Nat) {R : Type} (k0 : Bool → Option R) (k1 : Unit → Option R) : Nat → ((List ByteArray) × Int × ByteArray × Int × Int × (List ByteArray)) → Option R
  | 0, _ => none
  | n + 1, x => s3_0 fuel (l3_0 fuel k0 k1 n) k0 k1 x
def nm3_0 : Norm := ⟨[0, 1, 6, 7, 8, 11], padK 1 [some (0, 0)]⟩
def an3_0 : AN := (.seq (.seq .leaf (.cond .leaf (.norm ⟨[], padK 2 []⟩ .leaf))) (.seq (.block (.seq (.region [(2, { touch := [0] }), (3, { touch := [0] })]) (.cond (.seq .leaf (.norm ⟨[4], padK 2 []⟩ (.ret []))) .leaf))) .leaf))
def al3_0 : AN := .loop nm3_0 an3_0
noncomputable def d3_0 : Code := bodyAt Try.f3 [1, 1, 1, 1, 1, 1, 0, 1, 0, 0]
theorem e3_0 (fuel : Nat) {R : Type} (F : St → Option R) (k : AExit → St → Option R) : ∀ x : ((List ByteArray) × Int × ByteArray × Int × Int × (List ByteArray)), runK R T (fns3 fuel) fuel [] (subsOf []) (partOf d3_0 an3_0) (fr3_0.st [0, 1, 6, 7, 8, 11] x) (backTo R [] nm3_0 F k) = s3_0 fuel (fun x => F (fr3_0.st [0, 1, 6, 7, 8, 11] x)) (fun y => k (.ret []) (fx3_0.st [4] y)) (fun y => k (.exit 0) (fx3_1.st [] y)) x := by
  rintro ⟨x6, x7, x8, x9, x10, x11⟩
  kernel_rfl
theorem u3_0 (fuel : Nat) {R : Type} (k : AExit → St → Option R) (x : ((List ByteArray) × Int × ByteArray × Int × Int × (List ByteArray))) : runK R T (fns3 fuel) fuel [] (subsOf []) (partOf c3_0 al3_0) (fr3_0.st [0, 1, 6, 7, 8, 11] x) k = l3_0 fuel (fun y => k (.ret []) (fx3_0.st [4] y)) (fun y => k (.exit 0) (fx3_1.st [] y)) fuel x :=
  loop_eq (mk := fr3_0.st [0, 1, 6, 7, 8, 11]) (s := fun F x => s3_0 fuel F (fun y => k (.ret []) (fx3_0.st [4] y)) (fun y => k (.exit 0) (fx3_1.st [] y)) x) (l := fun n x => l3_0 fuel (fun y => k (.ret []) (fx3_0.st [4] y)) (fun y => k (.exit 0) (fx3_1.st [] y)) n x) (d := d3_0) (by kernel_rfl) (fun G x => by
    revert x
    rintro ⟨x6, x7, x8, x9, x10, x11⟩
    kernel_rfl) (fun F x => e3_0 fuel F k x) (fun _ => rfl) (fun _ _ => rfl) x
noncomputable def sub3_0 (fuel : Nat) (R : Type) : Sub R := Sub.of [0, 1, 6, 7, 8, 11] c3_0 fr3_0 fun x k => l3_0 fuel (fun y => k (.ret []) (fx3_0.st [4] y)) (fun y => k (.exit 0) (fx3_1.st [] y)) fuel x
theorem subOk3_0 (fuel : Nat) (R : Type) : SubOk P [] 71 (sub3_0 fuel R) :=
  subOk_part (fns := (fns3 fuel)) (fuel := fuel) (subs := (subsOf [])) (an := al3_0) T_ok (fnsOk3 fuel) mixed subsOk_nil (by kernel_rfl) (by kernel_rfl) fun _ _ _ _ h => Sub.of_run (fun (x : ((List ByteArray) × Int × ByteArray × Int × Int × (List ByteArray))) k => u3_0 fuel k x) h
def an3 : AN := (.seq .leaf (.seq .leaf (.seq (.region [(0, { touch := [1], base := 1, ro := false }), (2, { touch := [1], ro := false })]) (.seq (.region [(2, { touch := [1], lend := [some (.slice (.str)), none] })]) (.seq .leaf (.seq (.seq .leaf (.cond (.seq .leaf (.norm ⟨[4], padK 2 []⟩ (.ret []))) .leaf)) (.seq (.seq .leaf (.block (.hole ⟨[0, 1, 6, 7, 8, 11], padK 1 [some (1, 0)]⟩ 0))) (.seq .leaf (.norm ⟨[4], padK 2 []⟩ (.ret []))))))))))
def p3 (fuel : Nat) : ((List ByteArray) × Int) → Option Bool := fun (x1, x2) => (match p7 fuel () with | some z3 => (if (List.length ([] : List ByteArray) + List.length x1) * 16 ≤ 140737488355328 then (match p8 fuel ((([] : List ByteArray) ++ x1), x2) with | some z4 => (match p9 fuel (x1, x2) with | some z5 => (bif (!z3) then (some false) else (bif (!strEq z4.1 z5.1) then (some false) else (bif (!decide (z4.2 = z5.2)) then (some false) else (l3_0 fuel (fun x15 => (some x15)) (fun _ => (some true)) fuel (x1, x2, z4.1, z4.2, (0 : Int), (([] : List ByteArray) ++ x1)))))) | none => none) | none => none) else none) | none => none)
def F3 (fuel : Nat) : Fun := funOfA fi3 al3 (p3 fuel)
theorem run3 (fuel : Nat) : ∀ y : ((List ByteArray) × Int), runF Bool T (fns3 fuel) fuel (subsOf [sub3_0 fuel Bool]) (defOf Try.f3 an3 2 [] []) (fi3.vs y) (fi3.os y) (altsDec al3) = p3 fuel y := by
  rintro ⟨x1, x2⟩
  kernel_rfl
theorem ok3 (fuel : Nat) : FunOk P 3 (funOfA fi3 al3 (p3 fuel)) :=
  funOfA_ok (subs := (subsOf [sub3_0 fuel Bool])) (an := an3) (room := 2) (ks := []) (g0 := []) (fuel := fuel) T_ok (fnsOk3 fuel) mixed (fn := Try.f3) (by kernel_rfl) (by kernel_rfl) (subsOk_cons (subOk3_0 fuel _) subsOk_nil) (by kernel_rfl) (fun _ => ⟨by kernel_rfl, by kernel_rfl⟩) (run3 fuel)

-- f10: tontine/tontinelaw17.own
def fns10 (fuel : Nat) : Fns := fnsOf []
theorem fnsOk10 (fuel : Nat) : FnsOk P (fns10 fuel) := fnsOk_nil
def fi10 : Fr := ⟨[.d true (.slice (.int .i64))], [], 0⟩
def al10 : List (Tm × List To) := [(.sub 0 0 false, [.arr 0 (.int .i64)])]
def an10 : AN := (.seq .leaf (.seq (.region [(0, { touch := [1], base := 1, ro := false }), (2, { touch := [1], ro := false }), (3, { touch := [2], base := 2, ro := false }), (4, { touch := [1, 2], ro := false }), (7, { touch := [1] })]) (.norm ⟨[2], padK 2 [some (1, 0)]⟩ (.ret [some (0, 0)]))))
def p10 (fuel : Nat) : (List Int) → Option (Nat × Nat × (List Int)) := fun x1 => (if (List.length ([] : List Int) + List.length x1) * 8 ≤ 140737488355328 then (if (List.length (([] : List Int) ++ x1) + List.length [(77 : Int)]) * 8 ≤ 140737488355328 then (if 0 ≤ ((List.length x1 : Nat) : Int) ∧ ((List.length x1 : Nat) : Int) ≤ (((List.length ((([] : List Int) ++ x1) ++ [(77 : Int)])) : Nat) : Int) then (some (0, ((Int.toNat ((List.length x1 : Nat) : Int)) - 0), ((([] : List Int) ++ x1) ++ [(77 : Int)]))) else none) else none) else none)
def F10 (fuel : Nat) : Fun := funOfA fi10 al10 (p10 fuel)
theorem run10 (fuel : Nat) : ∀ y : (List Int), runF (Nat × Nat × (List Int)) T (fns10 fuel) fuel (subsOf []) (defOf Try.f10 an10 3 [] []) (fi10.vs y) (fi10.os y) (altsDec al10) = p10 fuel y := by
  rintro x1
  kernel_rfl
theorem ok10 (fuel : Nat) : FunOk P 10 (funOfA fi10 al10 (p10 fuel)) :=
  funOfA_ok (subs := (subsOf [])) (an := an10) (room := 3) (ks := []) (g0 := []) (fuel := fuel) T_ok (fnsOk10 fuel) mixed (fn := Try.f10) (by kernel_rfl) (by kernel_rfl) subsOk_nil (by kernel_rfl) (fun _ => ⟨by kernel_rfl, by kernel_rfl⟩) (run10 fuel)

-- f11: tontine/balance.Split
def fns11 (fuel : Nat) : Fns := fnsOf [(22, F22 fuel)]
theorem fnsOk11 (fuel : Nat) : FnsOk P (fns11 fuel) := (fnsOk_cons (ok22 fuel) fnsOk_nil)
def fi11 : Fr := ⟨[.d false (.slice (.int .i64))], [], 0⟩
def al11 : List (Tm × List To) := [(.tup (.cons (.d true (.int .i64)) (.cons (.d true (.int .i64)) (.c .nil))), [])]
def fx11_0 : Fr := ⟨[.d false (.slice (.int .i64)), .d true (.int .i64)], [], 0⟩
def fr11_0 : Fr := ⟨[.d false (.slice (.int .i64)), .d true (.int .i64), .d false (.slice (.int .i64)), .d true (.int .i64), .d true (.int .i64)], [], 0⟩
noncomputable def c11_0 : Code := bodyAt Try.f11 [1, 1, 1, 0, 1, 0]
def s11_0 (fuel : Nat) {R : Type} (F : ((List Int) × Int × (List Int) × Int × Int) → Option R) (k0 : ((List Int) × Int) → Option R) : ((List Int) × Int × (List Int) × Int × Int) → Option R := fun (x3, x4, x5, x6, x7) => (bif (decide (x7 < x6)) then (if 0 ≤ x7 then (match (x5)[Int.toNat x7]? with | some y8 => (F (x3, (IntKind.wrap .i64 (x4 + y8)), x5, x6, (IntKind.wrap .i64 (x7 + (1 : Int))))) | none => none) else none) else (k0 (x3, x4)))
def l11_0 (fuel : Nat) {R : Type} (k0 : ((List Int) × Int) → Option R) : Nat → ((List Int) × Int × (List Int) × Int × Int) → Option R
  | 0, _ => none
  | n + 1, x => s11_0 fuel (l11_0 fuel k0 n) k0 x
def nm11_0 : Norm := ⟨[0, 4, 16, 17, 18], padK 0 []⟩
def an11_0 : AN := (.seq .leaf (.seq (.cond .leaf (.norm ⟨[0, 4], padK 0 []⟩ .leaf)) (.seq (.block (.seq .leaf .leaf)) .leaf)))
def al11_0 : AN := .loop nm11_0 an11_0
noncomputable def d11_0 : Code := bodyAt Try.f11 [1, 1, 1, 0, 1, 0, 0]
theorem e11_0 (fuel : Nat) {R : Type} (F : St → Option R) (k : AExit → St → Option R) : ∀ x : ((List Int) × Int × (List Int) × Int × Int), runK R T (fns11 fuel) fuel [] (subsOf []) (partOf d11_0 an11_0) (fr11_0.st [0, 4, 16, 17, 18] x) (backTo R [] nm11_0 F k) = s11_0 fuel (fun x => F (fr11_0.st [0, 4, 16, 17, 18] x)) (fun y => k (.exit 0) (fx11_0.st [0, 4] y)) x := by
  rintro ⟨x3, x4, x5, x6, x7⟩
  kernel_rfl
theorem u11_0 (fuel : Nat) {R : Type} (k : AExit → St → Option R) (x : ((List Int) × Int × (List Int) × Int × Int)) : runK R T (fns11 fuel) fuel [] (subsOf []) (partOf c11_0 al11_0) (fr11_0.st [0, 4, 16, 17, 18] x) k = l11_0 fuel (fun y => k (.exit 0) (fx11_0.st [0, 4] y)) fuel x :=
  loop_eq (mk := fr11_0.st [0, 4, 16, 17, 18]) (s := fun F x => s11_0 fuel F (fun y => k (.exit 0) (fx11_0.st [0, 4] y)) x) (l := fun n x => l11_0 fuel (fun y => k (.exit 0) (fx11_0.st [0, 4] y)) n x) (d := d11_0) (by kernel_rfl) (fun G x => by
    revert x
    rintro ⟨x3, x4, x5, x6, x7⟩
    kernel_rfl) (fun F x => e11_0 fuel F k x) (fun _ => rfl) (fun _ _ => rfl) x
noncomputable def sub11_0 (fuel : Nat) (R : Type) : Sub R := Sub.of [0, 4, 16, 17, 18] c11_0 fr11_0 fun x k => l11_0 fuel (fun y => k (.exit 0) (fx11_0.st [0, 4] y)) fuel x
theorem subOk11_0 (fuel : Nat) (R : Type) : SubOk P [] 61 (sub11_0 fuel R) :=
  subOk_part (fns := (fns11 fuel)) (fuel := fuel) (subs := (subsOf [])) (an := al11_0) T_ok (fnsOk11 fuel) mixed subsOk_nil (by kernel_rfl) (by kernel_rfl) fun _ _ _ _ h => Sub.of_run (fun (x : ((List Int) × Int × (List Int) × Int × Int)) k => u11_0 fuel k x) h
def fx11_1 : Fr := ⟨[.d true (.int .i64), .d true (.int .i64), .d true (.int .i64), .d true (.int .i64), .d false (.slice (.int .i64)), .d true (.int .i64), .d true (.int .i64)], [], 0⟩
def fr11_1 : Fr := ⟨[.d true (.int .i64), .d true (.int .i64), .d true (.int .i64), .d true (.int .i64), .d true (.int .i64), .d true (.int .i64), .d false (.slice (.int .i64)), .d true (.int .i64), .d true (.int .i64), .d true (.bool)], [], 0⟩
noncomputable def c11_1 : Code := bodyAt Try.f11 [1, 1, 1, 1, 1, 0, 1, 0, 0, 1, 1, 0, 0, 1, 1, 1, 1]
def j11_1 (fuel : Nat) {R : Type} (k0 : (Int × Int × Int × Int × (List Int) × Int × Int) → Option R) : (Int × Int × Int × Int × Int × Int × (List Int) × Int × Int × Bool) → Option R := fun (x22, x23, x24, x25, x26, x27, x28, x29, x30, x31) => (bif x31 then (k0 (x22, (IntKind.wrap .i64 (x26 + (1 : Int))), x27, x25, x28, x29, x30)) else (k0 (x22, x23, x24, x25, x28, x29, x30)))
def al11_1 : AN := (.fin ⟨[4, 7, 8, 9, 30, 31, 32], padK 0 []⟩ (.cond (.fin ⟨[4, 7, 8, 9, 30, 31, 32], padK 0 []⟩ .leaf) (.fin ⟨[4, 7, 8, 9, 30, 31, 32], padK 0 []⟩ .leaf)))
theorem u11_1 (fuel : Nat) {R : Type} (k : AExit → St → Option R) : ∀ x : (Int × Int × Int × Int × Int × Int × (List Int) × Int × Int × Bool), runK R T (fns11 fuel) fuel [] (subsOf [sub11_0 fuel R]) (partOf c11_1 al11_1) (fr11_1.st [4, 7, 8, 9, 10, 12, 30, 31, 32, 55] x) k = j11_1 fuel (fun y => k .normal (fx11_1.st [4, 7, 8, 9, 30, 31, 32] y)) x := by
  rintro ⟨x22, x23, x24, x25, x26, x27, x28, x29, x30, x31⟩
  kernel_rfl
noncomputable def sub11_1 (fuel : Nat) (R : Type) : Sub R := Sub.of [4, 7, 8, 9, 10, 12, 30, 31, 32, 55] c11_1 fr11_1 fun x k => j11_1 fuel (fun y => k .normal (fx11_1.st [4, 7, 8, 9, 30, 31, 32] y)) x
theorem subOk11_1 (fuel : Nat) (R : Type) : SubOk P [] 61 (sub11_1 fuel R) :=
  subOk_part (fns := (fns11 fuel)) (fuel := fuel) (subs := (subsOf [sub11_0 fuel R])) (an := al11_1) T_ok (fnsOk11 fuel) mixed (subsOk_cons (subOk11_0 fuel R) subsOk_nil) (by kernel_rfl) (by kernel_rfl) fun _ _ _ _ h => Sub.of_run (fun (x : (Int × Int × Int × Int × Int × Int × (List Int) × Int × Int × Bool)) k => u11_1 fuel k x) h
def fx11_2 : Fr := ⟨[.d true (.int .i64)], [], 0⟩
def fr11_2 : Fr := ⟨[.d true (.int .i64), .d true (.int .i64), .d true (.int .i64), .d true (.int .i64), .d false (.slice (.int .i64)), .d true (.int .i64), .d true (.int .i64)], [], 0⟩
noncomputable def c11_2 : Code := bodyAt Try.f11 [1, 1, 1, 1, 1, 0, 1, 0]
def s11_2 (fuel : Nat) {R : Type} (F : (Int × Int × Int × Int × (List Int) × Int × Int) → Option R) (k0 : Int → Option R) : (Int × Int × Int × Int × (List Int) × Int × Int) → Option R := fun (x12, x13, x14, x15, x16, x17, x18) => (bif (decide (x18 < x17)) then (if 0 ≤ x18 then (match (x16)[Int.toNat x18]? with | some y19 => let v20 := (IntKind.wrap .i64 (x12 - (IntKind.wrap .i64 ((2 : Int) * (IntKind.wrap .i64 (x15 + y19)))))); let v21 := (IntKind.wrap .i64 ((IntKind.wrap .i64 ((2 : Int) * (IntKind.wrap .i64 (x15 + y19)))) - x12)); (bif (decide (x18 = (0 : Int))) then (j11_1 fuel (fun (x32, x33, x34, x35, x36, x37, x38) => (F (x32, x33, x34, x35, x36, x37, (IntKind.wrap .i64 (x38 + (1 : Int)))))) (x12, x13, x14, (IntKind.wrap .i64 (x15 + y19)), x18, (if v20 < v21 then v21 else v20), x16, x17, x18, true)) else (j11_1 fuel (fun (x39, x40, x41, x42, x43, x44, x45) => (F (x39, x40, x41, x42, x43, x44, (IntKind.wrap .i64 (x45 + (1 : Int)))))) (x12, x13, x14, (IntKind.wrap .i64 (x15 + y19)), x18, (if v20 < v21 then v21 else v20), x16, x17, x18, (decide ((if v20 < v21 then v21 else v20) < x14))))) | none => none) else none) else (k0 x13))
def l11_2 (fuel : Nat) {R : Type} (k0 : Int → Option R) : Nat → (Int × Int × Int × Int × (List Int) × Int × Int) → Option R
  | 0, _ => none
  | n + 1, x => s11_2 fuel (l11_2 fuel k0 n) k0 x
def nm11_2 : Norm := ⟨[4, 7, 8, 9, 30, 31, 32], padK 0 []⟩
def an11_2 : AN := (.seq .leaf (.seq (.cond .leaf (.norm ⟨[7], padK 0 []⟩ .leaf)) (.seq (.block (.seq .leaf (.seq .leaf (.seq .leaf (.seq .leaf (.hole ⟨[4, 7, 8, 9, 10, 12, 30, 31, 32, 55], padK 0 []⟩ 1)))))) .leaf)))
def al11_2 : AN := .loop nm11_2 an11_2
noncomputable def d11_2 : Code := bodyAt Try.f11 [1, 1, 1, 1, 1, 0, 1, 0, 0]
theorem e11_2 (fuel : Nat) {R : Type} (F : St → Option R) (k : AExit → St → Option R) : ∀ x : (Int × Int × Int × Int × (List Int) × Int × Int), runK R T (fns11 fuel) fuel [] (subsOf [sub11_0 fuel R, sub11_1 fuel R]) (partOf d11_2 an11_2) (fr11_2.st [4, 7, 8, 9, 30, 31, 32] x) (backTo R [] nm11_2 F k) = s11_2 fuel (fun x => F (fr11_2.st [4, 7, 8, 9, 30, 31, 32] x)) (fun y => k (.exit 2) (fx11_2.st [7] y)) x := by
  rintro ⟨x12, x13, x14, x15, x16, x17, x18⟩
  kernel_rfl
theorem u11_2 (fuel : Nat) {R : Type} (k : AExit → St → Option R) (x : (Int × Int × Int × Int × (List Int) × Int × Int)) : runK R T (fns11 fuel) fuel [] (subsOf [sub11_0 fuel R, sub11_1 fuel R]) (partOf c11_2 al11_2) (fr11_2.st [4, 7, 8, 9, 30, 31, 32] x) k = l11_2 fuel (fun y => k (.exit 2) (fx11_2.st [7] y)) fuel x :=
  loop_eq (mk := fr11_2.st [4, 7, 8, 9, 30, 31, 32]) (s := fun F x => s11_2 fuel F (fun y => k (.exit 2) (fx11_2.st [7] y)) x) (l := fun n x => l11_2 fuel (fun y => k (.exit 2) (fx11_2.st [7] y)) n x) (d := d11_2) (by kernel_rfl) (fun G x => by
    revert x
    rintro ⟨x12, x13, x14, x15, x16, x17, x18⟩
    kernel_rfl) (fun F x => e11_2 fuel F k x) (fun _ => rfl) (fun _ _ => rfl) x
noncomputable def sub11_2 (fuel : Nat) (R : Type) : Sub R := Sub.of [4, 7, 8, 9, 30, 31, 32] c11_2 fr11_2 fun x k => l11_2 fuel (fun y => k (.exit 2) (fx11_2.st [7] y)) fuel x
theorem subOk11_2 (fuel : Nat) (R : Type) : SubOk P [] 61 (sub11_2 fuel R) :=
  subOk_part (fns := (fns11 fuel)) (fuel := fuel) (subs := (subsOf [sub11_0 fuel R, sub11_1 fuel R])) (an := al11_2) T_ok (fnsOk11 fuel) mixed (subsOk_cons (subOk11_0 fuel R) (subsOk_cons (subOk11_1 fuel R) subsOk_nil)) (by kernel_rfl) (by kernel_rfl) fun _ _ _ _ h => Sub.of_run (fun (x : (Int × Int × Int × Int × (List Int) × Int × Int)) k => u11_2 fuel k x) h
def an11 : AN := (.seq .leaf (.seq (.seq .leaf (.cond (.seq .leaf (.norm ⟨[2, 3], padK 0 []⟩ (.ret []))) .leaf)) (.seq .leaf (.seq (.seq .leaf (.block (.hole ⟨[0, 4, 16, 17, 18], padK 0 []⟩ 0))) (.seq .leaf (.seq (.seq .leaf (.block (.hole ⟨[4, 7, 8, 9, 30, 31, 32], padK 0 []⟩ 2))) (.seq .leaf (.norm ⟨[2, 3], padK 0 []⟩ (.ret [])))))))))
def p11 (fuel : Nat) : (List Int) → Option (Int × Int) := fun x1 => (match p22 fuel (x1, (2 : Int), (64 : Int)) with | some z2 => (bif (!z2) then (some ((0 : Int), (171 : Int))) else (l11_0 fuel (fun (x9, x10) => (if 0 ≤ (IntKind.wrap .i64 (((List.length x9 : Nat) : Int) - (1 : Int))) ∧ (IntKind.wrap .i64 (((List.length x9 : Nat) : Int) - (1 : Int))) ≤ (((List.length x9) : Nat) : Int) then let v11 := (List.drop 0 (List.take (Int.toNat (IntKind.wrap .i64 (((List.length x9 : Nat) : Int) - (1 : Int)))) x9)); (l11_2 fuel (fun x46 => (some (x46, (0 : Int)))) fuel (x10, (1 : Int), (0 : Int), (0 : Int), v11, ((List.length v11 : Nat) : Int), (0 : Int))) else none)) fuel (x1, (0 : Int), x1, ((List.length x1 : Nat) : Int), (0 : Int)))) | none => none)
def F11 (fuel : Nat) : Fun := funOfA fi11 al11 (p11 fuel)
theorem run11 (fuel : Nat) : ∀ y : (List Int), runF (Int × Int) T (fns11 fuel) fuel (subsOf [sub11_0 fuel (Int × Int), sub11_1 fuel (Int × Int), sub11_2 fuel (Int × Int)]) (defOf Try.f11 an11 0 [] []) (fi11.vs y) (fi11.os y) (altsDec al11) = p11 fuel y := by
  rintro x1
  kernel_rfl
theorem ok11 (fuel : Nat) : FunOk P 11 (funOfA fi11 al11 (p11 fuel)) :=
  funOfA_ok (subs := (subsOf [sub11_0 fuel (Int × Int), sub11_1 fuel (Int × Int), sub11_2 fuel (Int × Int)])) (an := an11) (room := 0) (ks := []) (g0 := []) (fuel := fuel) T_ok (fnsOk11 fuel) mixed (fn := Try.f11) (by kernel_rfl) (by kernel_rfl) (subsOk_cons (subOk11_0 fuel _) (subsOk_cons (subOk11_1 fuel _) (subsOk_cons (subOk11_2 fuel _) subsOk_nil))) (by kernel_rfl) (fun _ => ⟨by kernel_rfl, by kernel_rfl⟩) (run11 fuel)

-- f23: tontine/tontineref17.Fair
def fns23 (fuel : Nat) : Fns := fnsOf []
theorem fnsOk23 (fuel : Nat) : FnsOk P (fns23 fuel) := fnsOk_nil
def fi23 : Fr := ⟨[.d true (.slice (.int .i64)), .d false (.int .i64), .d false (.int .i64)], [], 0⟩
def al23 : List (Tm × List To) := [(.d true (.bool), [])]
def fx23_0 : Fr := ⟨[.d true (.bool)], [], 0⟩
def fx23_1 : Fr := ⟨[], [], 0⟩
def fr23_0 : Fr := ⟨[.d true (.slice (.int .i64)), .d true (.int .i64)], [], 0⟩
noncomputable def c23_0 : Code := bodyAt Try.f23 [1, 1, 0, 1, 0]
def s23_0 (fuel : Nat) {R : Type} (F : ((List Int) × Int) → Option R) (k0 : Bool → Option R) (k1 : Unit → Option R) : ((List Int) × Int) → Option R := fun (x4, x5) => (bif (decide (x5 < ((List.length x4 : Nat) : Int))) then (if 0 ≤ x5 then (match (x4)[Int.toNat x5]? with | some y6 => (bif (decide (y6 < (0 : Int))) then (k0 false) else (if 0 ≤ x5 then (match (x4)[Int.toNat x5]? with | some y7 => (bif (decide ((2147483647 : Int) < y7)) then (k0 false) else (F (x4, (IntKind.wrap .i64 (x5 + (1 : Int)))))) | none => none) else none)) | none => none) else none) else (k1 ()))
def l23_0 (fuel : Nat) {R : Type} (k0 : Bool → Option R) (k1 : Unit → Option R) : Nat → ((List Int) × Int) → Option R
  | 0, _ => none
  | n + 1, x => s23_0 fuel (l23_0 fuel k0 k1 n) k0 k1 x
def nm23_0 : Norm := ⟨[0, 7], padK 0 []⟩
def an23_0 : AN := (.seq (.seq .leaf (.cond .leaf (.norm ⟨[], padK 0 []⟩ .leaf))) (.seq (.block (.seq .leaf (.cond (.seq .leaf (.norm ⟨[6], padK 0 []⟩ (.ret []))) .leaf))) .leaf))
def al23_0 : AN := .loop nm23_0 an23_0
noncomputable def d23_0 : Code := bodyAt Try.f23 [1, 1, 0, 1, 0, 0]
theorem e23_0 (fuel : Nat) {R : Type} (F : St → Option R) (k : AExit → St → Option R) : ∀ x : ((List Int) × Int), runK R T (fns23 fuel) fuel [] (subsOf []) (partOf d23_0 an23_0) (fr23_0.st [0, 7] x) (backTo R [] nm23_0 F k) = s23_0 fuel (fun x => F (fr23_0.st [0, 7] x)) (fun y => k (.ret []) (fx23_0.st [6] y)) (fun y => k (.exit 0) (fx23_1.st [] y)) x := by
  rintro ⟨x4, x5⟩
  kernel_rfl
theorem u23_0 (fuel : Nat) {R : Type} (k : AExit → St → Option R) (x : ((List Int) × Int)) : runK R T (fns23 fuel) fuel [] (subsOf []) (partOf c23_0 al23_0) (fr23_0.st [0, 7] x) k = l23_0 fuel (fun y => k (.ret []) (fx23_0.st [6] y)) (fun y => k (.exit 0) (fx23_1.st [] y)) fuel x :=
  loop_eq (mk := fr23_0.st [0, 7]) (s := fun F x => s23_0 fuel F (fun y => k (.ret []) (fx23_0.st [6] y)) (fun y => k (.exit 0) (fx23_1.st [] y)) x) (l := fun n x => l23_0 fuel (fun y => k (.ret []) (fx23_0.st [6] y)) (fun y => k (.exit 0) (fx23_1.st [] y)) n x) (d := d23_0) (by kernel_rfl) (fun G x => by
    revert x
    rintro ⟨x4, x5⟩
    kernel_rfl) (fun F x => e23_0 fuel F k x) (fun _ => rfl) (fun _ _ => rfl) x
noncomputable def sub23_0 (fuel : Nat) (R : Type) : Sub R := Sub.of [0, 7] c23_0 fr23_0 fun x k => l23_0 fuel (fun y => k (.ret []) (fx23_0.st [6] y)) (fun y => k (.exit 0) (fx23_1.st [] y)) fuel x
theorem subOk23_0 (fuel : Nat) (R : Type) : SubOk P [] 36 (sub23_0 fuel R) :=
  subOk_part (fns := (fns23 fuel)) (fuel := fuel) (subs := (subsOf [])) (an := al23_0) T_ok (fnsOk23 fuel) mixed subsOk_nil (by kernel_rfl) (by kernel_rfl) fun _ _ _ _ h => Sub.of_run (fun (x : ((List Int) × Int)) k => u23_0 fuel k x) h
def an23 : AN := (.seq .leaf (.seq (.seq .leaf (.cond (.seq .leaf (.norm ⟨[6], padK 0 []⟩ (.ret []))) .leaf)) (.seq (.seq .leaf (.block (.hole ⟨[0, 7], padK 0 []⟩ 0))) (.seq .leaf (.norm ⟨[6], padK 0 []⟩ (.ret []))))))
def p23 (fuel : Nat) : ((List Int) × Int × Int) → Option Bool := fun (x1, x2, x3) => (bif (decide (((List.length x1 : Nat) : Int) < x2)) then (some false) else (bif (decide (x3 < ((List.length x1 : Nat) : Int))) then (some false) else (l23_0 fuel (fun x8 => (some x8)) (fun _ => (some true)) fuel (x1, (0 : Int)))))
def F23 (fuel : Nat) : Fun := funOfA fi23 al23 (p23 fuel)
theorem run23 (fuel : Nat) : ∀ y : ((List Int) × Int × Int), runF Bool T (fns23 fuel) fuel (subsOf [sub23_0 fuel Bool]) (defOf Try.f23 an23 0 [] []) (fi23.vs y) (fi23.os y) (altsDec al23) = p23 fuel y := by
  rintro ⟨x1, x2, x3⟩
  kernel_rfl
theorem ok23 (fuel : Nat) : FunOk P 23 (funOfA fi23 al23 (p23 fuel)) :=
  funOfA_ok (subs := (subsOf [sub23_0 fuel Bool])) (an := an23) (room := 0) (ks := []) (g0 := []) (fuel := fuel) T_ok (fnsOk23 fuel) mixed (fn := Try.f23) (by kernel_rfl) (by kernel_rfl) (subsOk_cons (subOk23_0 fuel _) subsOk_nil) (by kernel_rfl) (fun _ => ⟨by kernel_rfl, by kernel_rfl⟩) (run23 fuel)

-- f12: tontine/tontineref17.Split
def fns12 (fuel : Nat) : Fns := fnsOf [(23, F23 fuel)]
theorem fnsOk12 (fuel : Nat) : FnsOk P (fns12 fuel) := (fnsOk_cons (ok23 fuel) fnsOk_nil)
def fi12 : Fr := ⟨[.d true (.slice (.int .i64))], [], 0⟩
def al12 : List (Tm × List To) := [(.tup (.cons (.d true (.int .i64)) (.cons (.d true (.int .i64)) (.c .nil))), [])]
def fx12_0 : Fr := ⟨[.d true (.slice (.int .i64)), .d true (.int .i64), .d true (.int .i64), .d true (.int .i64), .d true (.int .i64)], [], 0⟩
def fr12_0 : Fr := ⟨[.d true (.slice (.int .i64)), .d true (.int .i64), .d true (.int .i64), .d true (.int .i64), .d true (.int .i64), .d true (.int .i64)], [], 0⟩
noncomputable def c12_0 : Code := bodyAt Try.f12 [1, 1, 1, 1, 1, 0, 1, 0, 0, 1, 0, 0, 1, 0, 1, 0]
def s12_0 (fuel : Nat) {R : Type} (F : ((List Int) × Int × Int × Int × Int × Int) → Option R) (k0 : ((List Int) × Int × Int × Int × Int) → Option R) : ((List Int) × Int × Int × Int × Int × Int) → Option R := fun (x7, x8, x9, x10, x11, x12) => (bif (decide (x12 < ((List.length x7 : Nat) : Int))) then (bif (decide (x12 < x10)) then (if 0 ≤ x12 then (match (x7)[Int.toNat x12]? with | some y13 => (F (x7, x8, x9, x10, (IntKind.wrap .i64 (x11 + y13)), (IntKind.wrap .i64 (x12 + (1 : Int))))) | none => none) else none) else (if 0 ≤ x12 then (match (x7)[Int.toNat x12]? with | some y14 => (F (x7, x8, x9, x10, (IntKind.wrap .i64 (x11 - y14)), (IntKind.wrap .i64 (x12 + (1 : Int))))) | none => none) else none)) else (k0 (x7, x8, x9, x10, x11)))
def l12_0 (fuel : Nat) {R : Type} (k0 : ((List Int) × Int × Int × Int × Int) → Option R) : Nat → ((List Int) × Int × Int × Int × Int × Int) → Option R
  | 0, _ => none
  | n + 1, x => s12_0 fuel (l12_0 fuel k0 n) k0 x
def nm12_0 : Norm := ⟨[0, 5, 6, 7, 8, 9], padK 0 []⟩
def an12_0 : AN := (.seq (.seq .leaf (.cond .leaf (.norm ⟨[0, 5, 6, 7, 8], padK 0 []⟩ .leaf))) (.seq (.block (.seq .leaf (.cond (.fin ⟨[0, 5, 6, 7, 8, 9], padK 0 []⟩ .leaf) (.fin ⟨[0, 5, 6, 7, 8, 9], padK 0 []⟩ .leaf)))) .leaf))
def al12_0 : AN := .loop nm12_0 an12_0
noncomputable def d12_0 : Code := bodyAt Try.f12 [1, 1, 1, 1, 1, 0, 1, 0, 0, 1, 0, 0, 1, 0, 1, 0, 0]
theorem e12_0 (fuel : Nat) {R : Type} (F : St → Option R) (k : AExit → St → Option R) : ∀ x : ((List Int) × Int × Int × Int × Int × Int), runK R T (fns12 fuel) fuel [] (subsOf []) (partOf d12_0 an12_0) (fr12_0.st [0, 5, 6, 7, 8, 9] x) (backTo R [] nm12_0 F k) = s12_0 fuel (fun x => F (fr12_0.st [0, 5, 6, 7, 8, 9] x)) (fun y => k (.exit 2) (fx12_0.st [0, 5, 6, 7, 8] y)) x := by
  rintro ⟨x7, x8, x9, x10, x11, x12⟩
  kernel_rfl
theorem u12_0 (fuel : Nat) {R : Type} (k : AExit → St → Option R) (x : ((List Int) × Int × Int × Int × Int × Int)) : runK R T (fns12 fuel) fuel [] (subsOf []) (partOf c12_0 al12_0) (fr12_0.st [0, 5, 6, 7, 8, 9] x) k = l12_0 fuel (fun y => k (.exit 2) (fx12_0.st [0, 5, 6, 7, 8] y)) fuel x :=
  loop_eq (mk := fr12_0.st [0, 5, 6, 7, 8, 9]) (s := fun F x => s12_0 fuel F (fun y => k (.exit 2) (fx12_0.st [0, 5, 6, 7, 8] y)) x) (l := fun n x => l12_0 fuel (fun y => k (.exit 2) (fx12_0.st [0, 5, 6, 7, 8] y)) n x) (d := d12_0) (by kernel_rfl) (fun G x => by
    revert x
    rintro ⟨x7, x8, x9, x10, x11, x12⟩
    kernel_rfl) (fun F x => e12_0 fuel F k x) (fun _ => rfl) (fun _ _ => rfl) x
noncomputable def sub12_0 (fuel : Nat) (R : Type) : Sub R := Sub.of [0, 5, 6, 7, 8, 9] c12_0 fr12_0 fun x k => l12_0 fuel (fun y => k (.exit 2) (fx12_0.st [0, 5, 6, 7, 8] y)) fuel x
theorem subOk12_0 (fuel : Nat) (R : Type) : SubOk P [] 55 (sub12_0 fuel R) :=
  subOk_part (fns := (fns12 fuel)) (fuel := fuel) (subs := (subsOf [])) (an := al12_0) T_ok (fnsOk12 fuel) mixed subsOk_nil (by kernel_rfl) (by kernel_rfl) fun _ _ _ _ h => Sub.of_run (fun (x : ((List Int) × Int × Int × Int × Int × Int)) k => u12_0 fuel k x) h
def fx12_1 : Fr := ⟨[.d true (.slice (.int .i64)), .d true (.int .i64), .d true (.int .i64), .d true (.int .i64)], [], 0⟩
def fr12_1 : Fr := ⟨[.d true (.slice (.int .i64)), .d true (.int .i64), .d true (.int .i64), .d true (.int .i64), .d true (.int .i64), .d true (.bool)], [], 0⟩
noncomputable def c12_1 : Code := bodyAt Try.f12 [1, 1, 1, 1, 1, 0, 1, 0, 0, 1, 0, 0, 1, 1, 1, 1]
def j12_1 (fuel : Nat) {R : Type} (k0 : ((List Int) × Int × Int × Int) → Option R) : ((List Int) × Int × Int × Int × Int × Bool) → Option R := fun (x25, x26, x27, x28, x29, x30) => (bif x30 then (k0 (x25, x28, x29, x28)) else (k0 (x25, x26, x27, x28)))
def al12_1 : AN := (.fin ⟨[0, 5, 6, 7], padK 0 []⟩ (.cond (.fin ⟨[0, 5, 6, 7], padK 0 []⟩ (.seq .leaf .leaf)) (.fin ⟨[0, 5, 6, 7], padK 0 []⟩ .leaf)))
theorem u12_1 (fuel : Nat) {R : Type} (k : AExit → St → Option R) : ∀ x : ((List Int) × Int × Int × Int × Int × Bool), runK R T (fns12 fuel) fuel [] (subsOf [sub12_0 fuel R]) (partOf c12_1 al12_1) (fr12_1.st [0, 5, 6, 7, 8, 51] x) k = j12_1 fuel (fun y => k .normal (fx12_1.st [0, 5, 6, 7] y)) x := by
  rintro ⟨x25, x26, x27, x28, x29, x30⟩
  kernel_rfl
noncomputable def sub12_1 (fuel : Nat) (R : Type) : Sub R := Sub.of [0, 5, 6, 7, 8, 51] c12_1 fr12_1 fun x k => j12_1 fuel (fun y => k .normal (fx12_1.st [0, 5, 6, 7] y)) x
theorem subOk12_1 (fuel : Nat) (R : Type) : SubOk P [] 55 (sub12_1 fuel R) :=
  subOk_part (fns := (fns12 fuel)) (fuel := fuel) (subs := (subsOf [sub12_0 fuel R])) (an := al12_1) T_ok (fnsOk12 fuel) mixed (subsOk_cons (subOk12_0 fuel R) subsOk_nil) (by kernel_rfl) (by kernel_rfl) fun _ _ _ _ h => Sub.of_run (fun (x : ((List Int) × Int × Int × Int × Int × Bool)) k => u12_1 fuel k x) h
def fr12_2 : Fr := ⟨[.d true (.slice (.int .i64)), .d true (.int .i64), .d true (.int .i64), .d true (.int .i64), .d true (.int .i64)], [], 0⟩
noncomputable def c12_2 : Code := bodyAt Try.f12 [1, 1, 1, 1, 1, 0, 1, 0, 0, 1, 0, 0, 1, 1, 1]
def j12_2 (fuel : Nat) {R : Type} (k0 : ((List Int) × Int × Int × Int) → Option R) : ((List Int) × Int × Int × Int × Int) → Option R := fun (x20, x21, x22, x23, x24) => (bif (decide (x21 = (0 : Int))) then (j12_1 fuel (fun (x31, x32, x33, x34) => (k0 (x31, x32, x33, x34))) (x20, x21, x22, x23, x24, true)) else (j12_1 fuel (fun (x35, x36, x37, x38) => (k0 (x35, x36, x37, x38))) (x20, x21, x22, x23, x24, (decide (x24 < x22)))))
def al12_2 : AN := (.fin ⟨[0, 5, 6, 7], padK 0 []⟩ (.seq .leaf (.hole ⟨[0, 5, 6, 7, 8, 51], padK 0 []⟩ 1)))
theorem u12_2 (fuel : Nat) {R : Type} (k : AExit → St → Option R) : ∀ x : ((List Int) × Int × Int × Int × Int), runK R T (fns12 fuel) fuel [] (subsOf [sub12_0 fuel R, sub12_1 fuel R]) (partOf c12_2 al12_2) (fr12_2.st [0, 5, 6, 7, 8] x) k = j12_2 fuel (fun y => k .normal (fx12_1.st [0, 5, 6, 7] y)) x := by
  rintro ⟨x20, x21, x22, x23, x24⟩
  kernel_rfl
noncomputable def sub12_2 (fuel : Nat) (R : Type) : Sub R := Sub.of [0, 5, 6, 7, 8] c12_2 fr12_2 fun x k => j12_2 fuel (fun y => k .normal (fx12_1.st [0, 5, 6, 7] y)) x
theorem subOk12_2 (fuel : Nat) (R : Type) : SubOk P [] 55 (sub12_2 fuel R) :=
  subOk_part (fns := (fns12 fuel)) (fuel := fuel) (subs := (subsOf [sub12_0 fuel R, sub12_1 fuel R])) (an := al12_2) T_ok (fnsOk12 fuel) mixed (subsOk_cons (subOk12_0 fuel R) (subsOk_cons (subOk12_1 fuel R) subsOk_nil)) (by kernel_rfl) (by kernel_rfl) fun _ _ _ _ h => Sub.of_run (fun (x : ((List Int) × Int × Int × Int × Int)) k => u12_2 fuel k x) h
def fx12_2 : Fr := ⟨[.d true (.int .i64)], [], 0⟩
def fr12_3 : Fr := ⟨[.d true (.slice (.int .i64)), .d true (.int .i64), .d true (.int .i64), .d true (.int .i64)], [], 0⟩
noncomputable def c12_3 : Code := bodyAt Try.f12 [1, 1, 1, 1, 1, 0, 1, 0]
def s12_3 (fuel : Nat) {R : Type} (F : ((List Int) × Int × Int × Int) → Option R) (k0 : Int → Option R) : ((List Int) × Int × Int × Int) → Option R := fun (x3, x4, x5, x6) => (bif (decide (x6 < ((List.length x3 : Nat) : Int))) then (l12_0 fuel (fun (x15, x16, x17, x18, x19) => (bif (decide (x19 < (0 : Int))) then (j12_2 fuel (fun (x39, x40, x41, x42) => (F (x39, x40, x41, (IntKind.wrap .i64 (x42 + (1 : Int)))))) (x15, x16, x17, x18, (IntKind.wrap .i64 (0 - x19)))) else (j12_2 fuel (fun (x43, x44, x45, x46) => (F (x43, x44, x45, (IntKind.wrap .i64 (x46 + (1 : Int)))))) (x15, x16, x17, x18, x19)))) fuel (x3, x4, x5, x6, (0 : Int), (0 : Int))) else (k0 x4))
def l12_3 (fuel : Nat) {R : Type} (k0 : Int → Option R) : Nat → ((List Int) × Int × Int × Int) → Option R
  | 0, _ => none
  | n + 1, x => s12_3 fuel (l12_3 fuel k0 n) k0 x
def nm12_3 : Norm := ⟨[0, 5, 6, 7], padK 0 []⟩
def an12_3 : AN := (.seq (.seq .leaf (.cond .leaf (.norm ⟨[5], padK 0 []⟩ .leaf))) (.seq (.block (.seq .leaf (.seq (.seq .leaf (.block (.hole ⟨[0, 5, 6, 7, 8, 9], padK 0 []⟩ 0))) (.seq (.seq .leaf (.cond (.fin ⟨[0, 5, 6, 7, 8], padK 0 []⟩ .leaf) (.fin ⟨[0, 5, 6, 7, 8], padK 0 []⟩ .leaf))) (.hole ⟨[0, 5, 6, 7, 8], padK 0 []⟩ 2))))) .leaf))
def al12_3 : AN := .loop nm12_3 an12_3
noncomputable def d12_3 : Code := bodyAt Try.f12 [1, 1, 1, 1, 1, 0, 1, 0, 0]
theorem e12_3 (fuel : Nat) {R : Type} (F : St → Option R) (k : AExit → St → Option R) : ∀ x : ((List Int) × Int × Int × Int), runK R T (fns12 fuel) fuel [] (subsOf [sub12_0 fuel R, sub12_1 fuel R, sub12_2 fuel R]) (partOf d12_3 an12_3) (fr12_3.st [0, 5, 6, 7] x) (backTo R [] nm12_3 F k) = s12_3 fuel (fun x => F (fr12_3.st [0, 5, 6, 7] x)) (fun y => k (.exit 0) (fx12_2.st [5] y)) x := by
  rintro ⟨x3, x4, x5, x6⟩
  kernel_rfl
theorem u12_3 (fuel : Nat) {R : Type} (k : AExit → St → Option R) (x : ((List Int) × Int × Int × Int)) : runK R T (fns12 fuel) fuel [] (subsOf [sub12_0 fuel R, sub12_1 fuel R, sub12_2 fuel R]) (partOf c12_3 al12_3) (fr12_3.st [0, 5, 6, 7] x) k = l12_3 fuel (fun y => k (.exit 0) (fx12_2.st [5] y)) fuel x :=
  loop_eq (mk := fr12_3.st [0, 5, 6, 7]) (s := fun F x => s12_3 fuel F (fun y => k (.exit 0) (fx12_2.st [5] y)) x) (l := fun n x => l12_3 fuel (fun y => k (.exit 0) (fx12_2.st [5] y)) n x) (d := d12_3) (by kernel_rfl) (fun G x => by
    revert x
    rintro ⟨x3, x4, x5, x6⟩
    kernel_rfl) (fun F x => e12_3 fuel F k x) (fun _ => rfl) (fun _ _ => rfl) x
noncomputable def sub12_3 (fuel : Nat) (R : Type) : Sub R := Sub.of [0, 5, 6, 7] c12_3 fr12_3 fun x k => l12_3 fuel (fun y => k (.exit 0) (fx12_2.st [5] y)) fuel x
theorem subOk12_3 (fuel : Nat) (R : Type) : SubOk P [] 55 (sub12_3 fuel R) :=
  subOk_part (fns := (fns12 fuel)) (fuel := fuel) (subs := (subsOf [sub12_0 fuel R, sub12_1 fuel R, sub12_2 fuel R])) (an := al12_3) T_ok (fnsOk12 fuel) mixed (subsOk_cons (subOk12_0 fuel R) (subsOk_cons (subOk12_1 fuel R) (subsOk_cons (subOk12_2 fuel R) subsOk_nil))) (by kernel_rfl) (by kernel_rfl) fun _ _ _ _ h => Sub.of_run (fun (x : ((List Int) × Int × Int × Int)) k => u12_3 fuel k x) h
def an12 : AN := (.seq .leaf (.seq .leaf (.seq (.seq .leaf (.cond (.seq .leaf (.norm ⟨[2, 3], padK 0 []⟩ (.ret []))) .leaf)) (.seq .leaf (.seq .leaf (.seq (.seq .leaf (.block (.hole ⟨[0, 5, 6, 7], padK 0 []⟩ 3))) (.seq .leaf (.norm ⟨[2, 3], padK 0 []⟩ (.ret [])))))))))
def p12 (fuel : Nat) : (List Int) → Option (Int × Int) := fun x1 => (match p23 fuel (x1, (2 : Int), (64 : Int)) with | some z2 => (bif (!z2) then (some ((0 : Int), (171 : Int))) else (l12_3 fuel (fun x47 => (some (x47, (0 : Int)))) fuel (x1, (0 : Int), (0 : Int), (1 : Int)))) | none => none)
def F12 (fuel : Nat) : Fun := funOfA fi12 al12 (p12 fuel)
theorem run12 (fuel : Nat) : ∀ y : (List Int), runF (Int × Int) T (fns12 fuel) fuel (subsOf [sub12_0 fuel (Int × Int), sub12_1 fuel (Int × Int), sub12_2 fuel (Int × Int), sub12_3 fuel (Int × Int)]) (defOf Try.f12 an12 0 [] []) (fi12.vs y) (fi12.os y) (altsDec al12) = p12 fuel y := by
  rintro x1
  kernel_rfl
theorem ok12 (fuel : Nat) : FunOk P 12 (funOfA fi12 al12 (p12 fuel)) :=
  funOfA_ok (subs := (subsOf [sub12_0 fuel (Int × Int), sub12_1 fuel (Int × Int), sub12_2 fuel (Int × Int), sub12_3 fuel (Int × Int)])) (an := an12) (room := 0) (ks := []) (g0 := []) (fuel := fuel) T_ok (fnsOk12 fuel) mixed (fn := Try.f12) (by kernel_rfl) (by kernel_rfl) (subsOk_cons (subOk12_0 fuel _) (subsOk_cons (subOk12_1 fuel _) (subsOk_cons (subOk12_2 fuel _) (subsOk_cons (subOk12_3 fuel _) subsOk_nil)))) (by kernel_rfl) (fun _ => ⟨by kernel_rfl, by kernel_rfl⟩) (run12 fuel)

-- f18: tontine/tontineref17.Same
def fns18 (fuel : Nat) : Fns := fnsOf []
theorem fnsOk18 (fuel : Nat) : FnsOk P (fns18 fuel) := fnsOk_nil
def fi18 : Fr := ⟨[.d false (.slice (.int .i64)), .d true (.slice (.int .i64))], [], 0⟩
def al18 : List (Tm × List To) := [(.d true (.bool), [])]
def fx18_0 : Fr := ⟨[.d true (.bool)], [], 0⟩
def fx18_1 : Fr := ⟨[], [], 0⟩
def fr18_0 : Fr := ⟨[.d false (.slice (.int .i64)), .d true (.slice (.int .i64)), .d true (.int .i64)], [], 0⟩
noncomputable def c18_0 : Code := bodyAt Try.f18 [1, 1, 0, 1, 0]
def s18_0 (fuel : Nat) {R : Type} (F : ((List Int) × (List Int) × Int) → Option R) (k0 : Bool → Option R) (k1 : Unit → Option R) : ((List Int) × (List Int) × Int) → Option R := fun (x4, x5, x6) => (bif (decide (x6 < ((List.length x4 : Nat) : Int))) then (if 0 ≤ x6 then (match (x4)[Int.toNat x6]? with | some y7 => (if 0 ≤ x6 then (match (x5)[Int.toNat x6]? with | some y8 => (bif (!decide (y7 = y8)) then (k0 false) else (F (x4, x5, (IntKind.wrap .i64 (x6 + (1 : Int)))))) | none => none) else none) | none => none) else none) else (k1 ()))
def l18_0 (fuel : Nat) {R : Type} (k0 : Bool → Option R) (k1 : Unit → Option R) : Nat → ((List Int) × (List Int) × Int) → Option R
  | 0, _ => none
  | n + 1, x => s18_0 fuel (l18_0 fuel k0 k1 n) k0 k1 x
def nm18_0 : Norm := ⟨[0, 1, 5], padK 0 []⟩
def an18_0 : AN := (.seq (.seq .leaf (.cond .leaf (.norm ⟨[], padK 0 []⟩ .leaf))) (.seq (.block (.seq .leaf (.cond (.seq .leaf (.norm ⟨[4], padK 0 []⟩ (.ret []))) .leaf))) .leaf))
def al18_0 : AN := .loop nm18_0 an18_0
noncomputable def d18_0 : Code := bodyAt Try.f18 [1, 1, 0, 1, 0, 0]
theorem e18_0 (fuel : Nat) {R : Type} (F : St → Option R) (k : AExit → St → Option R) : ∀ x : ((List Int) × (List Int) × Int), runK R T (fns18 fuel) fuel [] (subsOf []) (partOf d18_0 an18_0) (fr18_0.st [0, 1, 5] x) (backTo R [] nm18_0 F k) = s18_0 fuel (fun x => F (fr18_0.st [0, 1, 5] x)) (fun y => k (.ret []) (fx18_0.st [4] y)) (fun y => k (.exit 0) (fx18_1.st [] y)) x := by
  rintro ⟨x4, x5, x6⟩
  kernel_rfl
theorem u18_0 (fuel : Nat) {R : Type} (k : AExit → St → Option R) (x : ((List Int) × (List Int) × Int)) : runK R T (fns18 fuel) fuel [] (subsOf []) (partOf c18_0 al18_0) (fr18_0.st [0, 1, 5] x) k = l18_0 fuel (fun y => k (.ret []) (fx18_0.st [4] y)) (fun y => k (.exit 0) (fx18_1.st [] y)) fuel x :=
  loop_eq (mk := fr18_0.st [0, 1, 5]) (s := fun F x => s18_0 fuel F (fun y => k (.ret []) (fx18_0.st [4] y)) (fun y => k (.exit 0) (fx18_1.st [] y)) x) (l := fun n x => l18_0 fuel (fun y => k (.ret []) (fx18_0.st [4] y)) (fun y => k (.exit 0) (fx18_1.st [] y)) n x) (d := d18_0) (by kernel_rfl) (fun G x => by
    revert x
    rintro ⟨x4, x5, x6⟩
    kernel_rfl) (fun F x => e18_0 fuel F k x) (fun _ => rfl) (fun _ _ => rfl) x
noncomputable def sub18_0 (fuel : Nat) (R : Type) : Sub R := Sub.of [0, 1, 5] c18_0 fr18_0 fun x k => l18_0 fuel (fun y => k (.ret []) (fx18_0.st [4] y)) (fun y => k (.exit 0) (fx18_1.st [] y)) fuel x
theorem subOk18_0 (fuel : Nat) (R : Type) : SubOk P [] 26 (sub18_0 fuel R) :=
  subOk_part (fns := (fns18 fuel)) (fuel := fuel) (subs := (subsOf [])) (an := al18_0) T_ok (fnsOk18 fuel) mixed subsOk_nil (by kernel_rfl) (by kernel_rfl) fun _ _ _ _ h => Sub.of_run (fun (x : ((List Int) × (List Int) × Int)) k => u18_0 fuel k x) h
def an18 : AN := (.seq .leaf (.seq (.seq .leaf (.cond (.seq .leaf (.norm ⟨[4], padK 0 []⟩ (.ret []))) .leaf)) (.seq (.seq .leaf (.block (.hole ⟨[0, 1, 5], padK 0 []⟩ 0))) (.seq .leaf (.norm ⟨[4], padK 0 []⟩ (.ret []))))))
def p18 (fuel : Nat) : ((List Int) × (List Int)) → Option Bool := fun (x1, x2) => let v3 := (!decide (((List.length x1 : Nat) : Int) = ((List.length x2 : Nat) : Int))); (bif v3 then (some false) else (l18_0 fuel (fun x9 => (some x9)) (fun _ => (some true)) fuel (x1, x2, (0 : Int))))
def F18 (fuel : Nat) : Fun := funOfA fi18 al18 (p18 fuel)
theorem run18 (fuel : Nat) : ∀ y : ((List Int) × (List Int)), runF Bool T (fns18 fuel) fuel (subsOf [sub18_0 fuel Bool]) (defOf Try.f18 an18 0 [] []) (fi18.vs y) (fi18.os y) (altsDec al18) = p18 fuel y := by
  rintro ⟨x1, x2⟩
  kernel_rfl
theorem ok18 (fuel : Nat) : FunOk P 18 (funOfA fi18 al18 (p18 fuel)) :=
  funOfA_ok (subs := (subsOf [sub18_0 fuel Bool])) (an := an18) (room := 0) (ks := []) (g0 := []) (fuel := fuel) T_ok (fnsOk18 fuel) mixed (fn := Try.f18) (by kernel_rfl) (by kernel_rfl) (subsOk_cons (subOk18_0 fuel _) subsOk_nil) (by kernel_rfl) (fun _ => ⟨by kernel_rfl, by kernel_rfl⟩) (run18 fuel)

-- f13: tontine/tontinelaw17.still
def fns13 (fuel : Nat) : Fns := fnsOf [(18, F18 fuel)]
theorem fnsOk13 (fuel : Nat) : FnsOk P (fns13 fuel) := (fnsOk_cons (ok18 fuel) fnsOk_nil)
def fi13 : Fr := ⟨[.sub 0 0 false, .d true (.slice (.int .i64))], [.arr 0 (.int .i64)], 0⟩
def al13 : List (Tm × List To) := [(.d true (.bool), [.arr 0 (.int .i64)])]
def an13 : AN := (.seq .leaf (.seq (.region [(2, { touch := [0], lend := [some (.slice (.int .i64)), none] })]) (.seq (.region [(6, { touch := [0] }), (9, { touch := [0] }), (10, { touch := [0] })]) (.norm ⟨[4], padK 0 [some (0, 0)]⟩ (.ret [some (0, 0)])))))
def p13 (fuel : Nat) : (Nat × Nat × (List Int) × (List Int)) → Option (Bool × (List Int)) := fun (x1, x2, x3, x4) => (match p18 fuel ((List.take x2 (List.drop x1 x4)), x3) with | some z5 => (bif z5 then (if 0 ≤ (IntKind.wrap .i64 (((List.length x3 : Nat) : Int) + (1 : Int))) ∧ (IntKind.wrap .i64 (((List.length x3 : Nat) : Int) + (1 : Int))) ≤ (((List.length x4 - x1) : Nat) : Int) then (if 0 ≤ ((List.length x3 : Nat) : Int) ∧ ((List.length x3 : Nat) : Int) < ((((Int.toNat (IntKind.wrap .i64 (((List.length x3 : Nat) : Int) + (1 : Int)))) - 0) : Nat) : Int) then (match (x4)[((x1 + 0) + Int.toNat ((List.length x3 : Nat) : Int))]? with | some y6 => (some ((decide (y6 = (77 : Int))), x4)) | none => none) else none) else none) else (some (false, x4))) | none => none)
def F13 (fuel : Nat) : Fun := funOfA fi13 al13 (p13 fuel)
theorem run13 (fuel : Nat) : ∀ y : (Nat × Nat × (List Int) × (List Int)), runF (Bool × (List Int)) T (fns13 fuel) fuel (subsOf []) (defOf Try.f13 an13 0 [] [true]) (fi13.vs y) (fi13.os y) (altsDec al13) = p13 fuel y := by
  rintro ⟨x1, x2, x3, x4⟩
  kernel_rfl
theorem ok13 (fuel : Nat) : FunOk P 13 (funOfA fi13 al13 (p13 fuel)) :=
  funOfA_ok (subs := (subsOf [])) (an := an13) (room := 0) (ks := []) (g0 := [true]) (fuel := fuel) T_ok (fnsOk13 fuel) mixed (fn := Try.f13) (by kernel_rfl) (by kernel_rfl) subsOk_nil (by kernel_rfl) (fun _ => ⟨by kernel_rfl, by kernel_rfl⟩) (run13 fuel)

-- f4: tontine/tontinelaw17.BalanceSplits
def fns4 (fuel : Nat) : Fns := fnsOf [(7, F7 fuel), (10, F10 fuel), (11, F11 fuel), (12, F12 fuel), (13, F13 fuel)]
theorem fnsOk4 (fuel : Nat) : FnsOk P (fns4 fuel) := (fnsOk_cons (ok7 fuel) (fnsOk_cons (ok10 fuel) (fnsOk_cons (ok11 fuel) (fnsOk_cons (ok12 fuel) (fnsOk_cons (ok13 fuel) fnsOk_nil)))))
def fi4 : Fr := ⟨[.d true (.slice (.int .i64))], [], 0⟩
def al4 : List (Tm × List To) := [(.d true (.bool), [])]
def an4 : AN := (.seq .leaf (.seq .leaf (.seq (.region [(1, { touch := [0], ro := false, fresh := 1 })]) (.seq (.region [(1, { touch := [0], lend := [some (.slice (.int .i64))] })]) (.seq .leaf (.seq (.region [(2, { touch := [0], ro := false, loc := [0] })]) (.seq .leaf (.norm ⟨[2], padK 1 []⟩ (.ret [])))))))))
def p4 (fuel : Nat) : (List Int) → Option Bool := fun x1 => (match p7 fuel () with | some z2 => (match p10 fuel x1 with | some z3 => (match p11 fuel (List.take z3.2.1 (List.drop z3.1 z3.2.2)) with | some z4 => (match p12 fuel x1 with | some z5 => (match p13 fuel (z3.1, z3.2.1, x1, z3.2.2) with | some z6 => (bif z2 then (bif z6.1 then (bif (decide (z4.1 = z5.1)) then (some (decide (z4.2 = z5.2))) else (some false)) else (some false)) else (some false)) | none => none) | none => none) | none => none) | none => none) | none => none)
def F4 (fuel : Nat) : Fun := funOfA fi4 al4 (p4 fuel)
theorem run4 (fuel : Nat) : ∀ y : (List Int), runF Bool T (fns4 fuel) fuel (subsOf []) (defOf Try.f4 an4 1 [] []) (fi4.vs y) (fi4.os y) (altsDec al4) = p4 fuel y := by
  rintro x1
  kernel_rfl
theorem ok4 (fuel : Nat) : FunOk P 4 (funOfA fi4 al4 (p4 fuel)) :=
  funOfA_ok (subs := (subsOf [])) (an := an4) (room := 1) (ks := []) (g0 := []) (fuel := fuel) T_ok (fnsOk4 fuel) mixed (fn := Try.f4) (by kernel_rfl) (by kernel_rfl) subsOk_nil (by kernel_rfl) (fun _ => ⟨by kernel_rfl, by kernel_rfl⟩) (run4 fuel)

-- f28: tontine/balance.may
def fns28 (fuel : Nat) : Fns := fnsOf [(27, F27 fuel)]
theorem fnsOk28 (fuel : Nat) : FnsOk P (fns28 fuel) := (fnsOk_cons (ok27 fuel) fnsOk_nil)
def fi28 : Fr := ⟨[.d false (.slice (.int .i64)), .d false (.pair (.int .i64) (.pair (.int .i64) (.pair (.int .i64) (.int .i64))))], [], 0⟩
def al28 : List (Tm × List To) := [(.d true (.bool), [])]
def an28 : AN := (.seq (.region [(0, { touch := [1], base := 1, ro := false })]) (.seq .leaf (.seq (.seq (.region [(0, { touch := [1] }), (1, { touch := [1] }), (4, { touch := [1] }), (5, { touch := [1] }), (10, { touch := [1] }), (11, { touch := [1] }), (15, { touch := [1] }), (16, { touch := [1] }), (21, { touch := [1] }), (22, { touch := [1] }), (23, { touch := [1] }), (24, { touch := [1] }), (28, { touch := [1] }), (29, { touch := [1] }), (33, { touch := [1] }), (34, { touch := [1] }), (36, { touch := [1] }), (37, { touch := [1] })]) (.cond (.seq .leaf (.norm ⟨[4], padK 2 []⟩ (.ret []))) .leaf)) (.seq (.seq (.region [(0, { touch := [1] }), (1, { touch := [1] }), (2, { touch := [1] }), (3, { touch := [1] })]) (.seq (.region [(0, { touch := [1] }), (1, { touch := [1] })]) (.block (.seq .leaf (.cond (.seq (.region [(2, { touch := [1] }), (3, { touch := [1] }), (5, { touch := [1] }), (6, { touch := [1] })]) (.norm ⟨[4], padK 2 []⟩ (.ret []))) (.seq .leaf (.cond (.seq (.region [(4, { touch := [1] }), (5, { touch := [1] }), (9, { touch := [1] }), (10, { touch := [1] })]) (.norm ⟨[4], padK 2 []⟩ (.ret []))) .leaf))))))) (.seq .leaf (.norm ⟨[4], padK 2 []⟩ (.ret [])))))))
def p28 (fuel : Nat) : ((List Int) × (Int × (Int × (Int × Int)))) → Option Bool := fun (x1, x2) => (bif (decide (x2.2.1 < (0 : Int))) then (some false) else (bif (decide (((List.length x1 : Nat) : Int) ≤ x2.2.1)) then (some false) else (bif (decide (x2.2.2.1 < (0 : Int))) then (some false) else (bif (decide (((List.length x1 : Nat) : Int) ≤ x2.2.2.1)) then (some false) else (bif (decide (x2.2.1 = x2.2.2.1)) then (some false) else (bif (decide (x2.2.2.2 < (1 : Int))) then (some false) else (if 0 ≤ x2.2.1 then (match (x1)[Int.toNat x2.2.1]? with | some y3 => (bif (decide (y3 < x2.2.2.2)) then (some false) else (match p27 fuel (x2.2.1, x2.2.2.1, ((List.length x1 : Nat) : Int)) with | some z4 => (bif (decide (x2.1 = (1 : Int))) then (bif z4 then (if 0 ≤ x2.2.2.1 then (match (x1)[Int.toNat x2.2.2.1]? with | some y5 => (some (decide (x2.2.2.2 ≤ (IntKind.wrap .i64 ((2147483647 : Int) - y5))))) | none => none) else none) else (some false)) else (bif (decide (x2.1 = (2 : Int))) then (bif (!z4) then (if 0 ≤ x2.2.2.1 then (match (x1)[Int.toNat x2.2.2.1]? with | some y6 => (if ((List.length x1 : Nat) : Int) = 0 then none else let v7 := (Int.tmod (IntKind.wrap .i64 (x2.2.2.1 + (1 : Int))) ((List.length x1 : Nat) : Int)); (if 0 ≤ v7 then (match (x1)[Int.toNat v7]? with | some y8 => (some (decide (y6 ≤ (IntKind.wrap .i64 ((2147483647 : Int) - y8))))) | none => none) else none)) | none => none) else none) else (some false)) else (some false))) | none => none)) | none => none) else none)))))))
def F28 (fuel : Nat) : Fun := funOfA fi28 al28 (p28 fuel)
theorem run28 (fuel : Nat) : ∀ y : ((List Int) × (Int × (Int × (Int × Int)))), runF Bool T (fns28 fuel) fuel (subsOf []) (defOf Try.f28 an28 2 [] []) (fi28.vs y) (fi28.os y) (altsDec al28) = p28 fuel y := by
  rintro ⟨x1, x2⟩
  kernel_rfl
theorem ok28 (fuel : Nat) : FunOk P 28 (funOfA fi28 al28 (p28 fuel)) :=
  funOfA_ok (subs := (subsOf [])) (an := an28) (room := 2) (ks := []) (g0 := []) (fuel := fuel) T_ok (fnsOk28 fuel) mixed (fn := Try.f28) (by kernel_rfl) (by kernel_rfl) subsOk_nil (by kernel_rfl) (fun _ => ⟨by kernel_rfl, by kernel_rfl⟩) (run28 fuel)

-- f29: slices.Clone[[]int,int]
def fns29 (fuel : Nat) : Fns := fnsOf []
theorem fnsOk29 (fuel : Nat) : FnsOk P (fns29 fuel) := fnsOk_nil
def fi29 : Fr := ⟨[.d false (.slice (.int .i64))], [], 0⟩
def al29 : List (Tm × List To) := [(.c (.slc 0 0), [.arr 0 (.int .i64)])]
def fx29_0 : Fr := ⟨[.c (.slc 0 0)], [.arr 0 (.int .i64)], 2⟩
def fr29_0 : Fr := ⟨[.d false (.slice (.int .i64))], [], 3⟩
noncomputable def c29_0 : Code := bodyAt Try.f29 [1, 1]
def j29_0 (fuel : Nat) {R : Type} (k0 : (List Int) → Option R) : (List Int) → Option R := fun x2 => (if (List.length ([] : List Int) + List.length x2) * 8 ≤ 140737488355328 then (k0 (([] : List Int) ++ x2)) else none)
def al29_0 : AN := (.seq (.region [(0, { touch := [1], base := 1, ro := false }), (2, { touch := [1], ro := false })]) (.norm ⟨[2], padK 2 [some (1, 0)]⟩ (.ret [some (0, 0)])))
theorem u29_0 (fuel : Nat) {R : Type} (k : AExit → St → Option R) : ∀ x : (List Int), runK R T (fns29 fuel) fuel [] (subsOf []) (partOf c29_0 al29_0) (fr29_0.st [0] x) k = j29_0 fuel (fun y => k (.ret [some (0, 0)]) (fx29_0.st [2] y)) x := by
  rintro x2
  kernel_rfl
noncomputable def sub29_0 (fuel : Nat) (R : Type) : Sub R := Sub.of [0] c29_0 fr29_0 fun x k => j29_0 fuel (fun y => k (.ret [some (0, 0)]) (fx29_0.st [2] y)) x
theorem subOk29_0 (fuel : Nat) (R : Type) : SubOk P [] 8 (sub29_0 fuel R) :=
  subOk_part (fns := (fns29 fuel)) (fuel := fuel) (subs := (subsOf [])) (an := al29_0) T_ok (fnsOk29 fuel) mixed subsOk_nil (by kernel_rfl) (by kernel_rfl) fun _ _ _ _ h => Sub.of_run (fun (x : (List Int)) k => u29_0 fuel k x) h
def an29 : AN := (.seq .leaf (.seq (.seq (.wild 1 []) (.cond (.seq .leaf (.co (.empty (.slot 2 []) 2 (.int .i64)) (.norm ⟨[2], padK 2 [some (2, 0)]⟩ (.ret [some (0, 0)])))) .leaf)) (.hole ⟨[0], padK 3 []⟩ 0)))
noncomputable def p29 (fuel : Nat) : (List Int) → Option (List Int) := fun x1 => (bif List.isEmpty x1 then (fork (some ([] : List Int)) (j29_0 fuel (fun x3 => (some x3)) x1)) else (j29_0 fuel (fun x4 => (some x4)) x1))
noncomputable def F29 (fuel : Nat) : Fun := funOfA fi29 al29 (p29 fuel)
theorem run29 (fuel : Nat) : ∀ y : (List Int), runF (List Int) T (fns29 fuel) fuel (subsOf [sub29_0 fuel (List Int)]) (defOf Try.f29 an29 3 [] []) (fi29.vs y) (fi29.os y) (altsDec al29) = p29 fuel y := by
  rintro x1
  kernel_rfl
theorem ok29 (fuel : Nat) : FunOk P 29 (funOfA fi29 al29 (p29 fuel)) :=
  funOfA_ok (subs := (subsOf [sub29_0 fuel (List Int)])) (an := an29) (room := 3) (ks := []) (g0 := []) (fuel := fuel) T_ok (fnsOk29 fuel) mixed (fn := Try.f29) (by kernel_rfl) (by kernel_rfl) (subsOk_cons (subOk29_0 fuel _) subsOk_nil) (by kernel_rfl) (fun _ => ⟨by kernel_rfl, by kernel_rfl⟩) (run29 fuel)

-- f30: slices.Delete[[]int,int]
def fns30 (fuel : Nat) : Fns := fnsOf []
theorem fnsOk30 (fuel : Nat) : FnsOk P (fns30 fuel) := fnsOk_nil
def fi30 : Fr := ⟨[.c (.slc 0 0), .d false (.int .i64), .d false (.int .i64)], [.arr 0 (.int .i64)], 0⟩
def al30 : List (Tm × List To) := [(.c (.slc 0 1), [.arr 1 (.int .i64)])]
def an30 : AN := (.seq .leaf (.seq (.region [(4, { touch := [0] }), (5, { touch := [0], mode := 2 })]) (.seq (.seq .leaf (.cond (.seq .leaf (.norm ⟨[6], padK 0 [some (0, 1)]⟩ (.ret [some (0, 1)]))) .leaf)) (.seq (.region [(1, { touch := [0] })]) (.seq (.region [(2, { touch := [0] }), (5, { touch := [0] }), (6, { touch := [0], ro := false })]) (.seq (.region [(2, { touch := [0] }), (4, { touch := [0] }), (5, { touch := [0], ro := false })]) (.seq .leaf (.co (.cut (.slot 6 [])) (.norm ⟨[6], padK 0 [some (0, 1)]⟩ (.ret [some (0, 1)]))))))))))
def p30 (fuel : Nat) : (Int × Int × (List Int)) → Option (List Int) := fun (x1, x2, x3) => (if 0 ≤ ((List.length x3 : Nat) : Int) ∧ ((List.length x3 : Nat) : Int) ≤ (((List.length x3) : Nat) : Int) then (if 0 ≤ x2 ∧ x2 ≤ (((Int.toNat ((List.length x3 : Nat) : Int)) : Nat) : Int) then (if 0 ≤ x1 ∧ x1 ≤ (((Int.toNat x2) : Nat) : Int) then (if (Int.toNat ((List.length x3 : Nat) : Int)) = (List.length x3) then (bif (decide (x1 = x2)) then (some x3) else (if 0 ≤ x1 ∧ x1 ≤ (((List.length x3) : Nat) : Int) then (if 0 ≤ x2 ∧ x2 ≤ (((List.length x3) : Nat) : Int) then (if 0 + ((Int.toNat x1) - 0) + List.length (List.take ((List.length x3) - (Int.toNat x2)) (List.drop (Int.toNat x2) x3)) ≤ List.length x3 then let v4 := (List.take (0 + ((Int.toNat x1) - 0)) x3 ++ (List.take ((List.length x3) - (Int.toNat x2)) (List.drop (Int.toNat x2) x3)) ++ List.drop (0 + ((Int.toNat x1) - 0) + List.length (List.take ((List.length x3) - (Int.toNat x2)) (List.drop (Int.toNat x2) x3))) x3); let v5 := (((((Int.toNat x1) - 0) + List.length (List.take ((List.length x3) - (Int.toNat x2)) (List.drop (Int.toNat x2) x3))) : Nat) : Int); (if 0 ≤ ((List.length x3 : Nat) : Int) ∧ ((List.length x3 : Nat) : Int) ≤ (((List.length v4 - 0) : Nat) : Int) then (if 0 ≤ v5 ∧ v5 ≤ (((Int.toNat ((List.length x3 : Nat) : Int)) : Nat) : Int) then let v6 := (List.take (0 + (Int.toNat v5)) v4 ++ List.replicate ((Int.toNat ((List.length x3 : Nat) : Int)) - (Int.toNat v5)) (0 : Int) ++ List.drop ((0 + (Int.toNat v5)) + ((Int.toNat ((List.length x3 : Nat) : Int)) - (Int.toNat v5))) v4); (bif (Nat.blt 0 (List.length v6)) then (some (List.take (((Int.toNat x1) - 0) + List.length (List.take ((List.length x3) - (Int.toNat x2)) (List.drop (Int.toNat x2) x3))) (List.drop 0 v6))) else none) else none) else none) else none) else none) else none)) else none) else none) else none) else none)
def F30 (fuel : Nat) : Fun := funOfA fi30 al30 (p30 fuel)
theorem run30 (fuel : Nat) : ∀ y : (Int × Int × (List Int)), runF (List Int) T (fns30 fuel) fuel (subsOf []) (defOf Try.f30 an30 0 [] [true]) (fi30.vs y) (fi30.os y) (altsDec al30) = p30 fuel y := by
  rintro ⟨x1, x2, x3⟩
  kernel_rfl
theorem ok30 (fuel : Nat) : FunOk P 30 (funOfA fi30 al30 (p30 fuel)) :=
  funOfA_ok (subs := (subsOf [])) (an := an30) (room := 0) (ks := []) (g0 := [true]) (fuel := fuel) T_ok (fnsOk30 fuel) mixed (fn := Try.f30) (by kernel_rfl) (by kernel_rfl) subsOk_nil (by kernel_rfl) (fun _ => ⟨by kernel_rfl, by kernel_rfl⟩) (run30 fuel)

-- f15: tontine/balance.Apply
noncomputable def fns15 (fuel : Nat) : Fns := fnsOf [(22, F22 fuel), (28, F28 fuel), (29, F29 fuel), (30, F30 fuel)]
theorem fnsOk15 (fuel : Nat) : FnsOk P (fns15 fuel) := (fnsOk_cons (ok22 fuel) (fnsOk_cons (ok28 fuel) (fnsOk_cons (ok29 fuel) (fnsOk_cons (ok30 fuel) fnsOk_nil))))
def fi15 : Fr := ⟨[.d false (.slice (.int .i64)), .d false (.pair (.int .i64) (.pair (.int .i64) (.pair (.int .i64) (.int .i64))))], [], 0⟩
def al15 : List (Tm × List To) := [(.tup (.cons (.c (.slc 0 0)) (.cons (.d true (.int .i64)) (.c .nil))), [.arr 0 (.int .i64)])]
def fx15_0 : Fr := ⟨[.c (.slc 0 0), .d true (.int .i64)], [.arr 0 (.int .i64)], 5⟩
def fr15_0 : Fr := ⟨[.c (.slc 0 0), .d true (.int .i64)], [.arr 0 (.int .i64)], 5⟩
noncomputable def c15_0 : Code := bodyAt Try.f15 [1, 1, 1, 1, 1, 1, 1, 1, 1, 1]
def j15_0 (fuel : Nat) {R : Type} (k0 : (Int × (List Int)) → Option R) : (Int × (List Int)) → Option R := fun (x17, x18) => (match p30 fuel (x17, (IntKind.wrap .i64 (x17 + (1 : Int))), x18) with | some z19 => (k0 ((0 : Int), z19)) | none => none)
def al15_0 : AN := (.seq (.region [(4, { touch := [0], ro := false, loc := [0] })]) (.norm ⟨[4, 5], padK 5 [some (0, 0)]⟩ (.ret [some (0, 0)])))
theorem u15_0 (fuel : Nat) {R : Type} (k : AExit → St → Option R) : ∀ x : (Int × (List Int)), runK R T (fns15 fuel) fuel [] (subsOf []) (partOf c15_0 al15_0) (fr15_0.st [7, 8] x) k = j15_0 fuel (fun y => k (.ret [some (0, 0)]) (fx15_0.st [4, 5] y)) x := by
  rintro ⟨x17, x18⟩
  kernel_rfl
noncomputable def sub15_0 (fuel : Nat) (R : Type) : Sub R := Sub.of [7, 8] c15_0 fr15_0 fun x k => j15_0 fuel (fun y => k (.ret [some (0, 0)]) (fx15_0.st [4, 5] y)) x
theorem subOk15_0 (fuel : Nat) (R : Type) : SubOk P [] 87 (sub15_0 fuel R) :=
  subOk_part (fns := (fns15 fuel)) (fuel := fuel) (subs := (subsOf [])) (an := al15_0) T_ok (fnsOk15 fuel) mixed subsOk_nil (by kernel_rfl) (by kernel_rfl) fun _ _ _ _ h => Sub.of_run (fun (x : (Int × (List Int))) k => u15_0 fuel k x) h
def an15 : AN := (.seq (.region [(0, { touch := [1], base := 1, ro := false })]) (.seq (.block (.seq .leaf (.cond (.seq .leaf (.co (.empty (.slot 4 []) 5 (.int .i64)) (.norm ⟨[4, 5], padK 5 [some (5, 0)]⟩ (.ret [some (0, 0)])))) (.seq (.region [(1, { touch := [1] })]) (.cond (.seq .leaf (.co (.empty (.slot 4 []) 5 (.int .i64)) (.norm ⟨[4, 5], padK 5 [some (5, 0)]⟩ (.ret [some (0, 0)])))) .leaf))))) (.seq (.region [(1, { touch := [2], base := 2, ro := false, fresh := 1 })]) (.seq (.region [(1, { touch := [1] }), (2, { touch := [1] }), (3, { touch := [2] }), (4, { touch := [2] }), (5, { touch := [1] }), (6, { touch := [1] }), (8, { touch := [2] }), (9, { touch := [2], ro := false })]) (.seq (.seq (.region [(0, { touch := [1] }), (1, { touch := [1] })]) (.cond (.seq (.region [(1, { touch := [1] }), (2, { touch := [1] }), (3, { touch := [2] }), (4, { touch := [2] }), (5, { touch := [1] }), (6, { touch := [1] }), (8, { touch := [2] }), (9, { touch := [2], ro := false })]) (.seq .leaf (.norm ⟨[4, 5], padK 5 [some (2, 0)]⟩ (.ret [some (0, 0)])))) .leaf)) (.seq (.region [(1, { touch := [1] }), (2, { touch := [1] }), (5, { touch := [2] }), (7, { touch := [2] }), (8, { touch := [2] }), (10, { touch := [1] }), (11, { touch := [1] }), (12, { touch := [2] }), (13, { touch := [2] }), (15, { touch := [2] }), (16, { touch := [2], ro := false })]) (.seq (.region [(1, { touch := [1] }), (2, { touch := [1] }), (3, { touch := [1] }), (4, { touch := [1] }), (5, { touch := [2] }), (6, { touch := [1] }), (7, { touch := [1] }), (8, { touch := [3], base := 3, ro := false }), (9, { touch := [2, 3, 4], base := 4, ro := false })]) (.seq (.region [(2, { touch := [1] }), (3, { touch := [1] }), (4, { touch := [2] }), (5, { touch := [2, 4], ro := false })]) (.seq (.region [(0, { touch := [1] }), (1, { touch := [1] })]) (.seq (.seq (.region [(1, { touch := [1] }), (2, { touch := [1] })]) (.cond (.fin ⟨[7, 8], padK 5 [some (4, 0)]⟩ .leaf) (.fin ⟨[7, 8], padK 5 [some (4, 0)]⟩ .leaf))) (.hole ⟨[7, 8], padK 5 [some (0, 0)]⟩ 0)))))))))))
noncomputable def p15 (fuel : Nat) : ((List Int) × (Int × (Int × (Int × Int)))) → Option (Int × (List Int)) := fun (x1, x2) => (match p22 fuel (x1, (1 : Int), (12 : Int)) with | some z3 => (bif (!z3) then (some ((171 : Int), ([] : List Int))) else (match p28 fuel (x1, x2) with | some z4 => (bif (!z4) then (some ((172 : Int), ([] : List Int))) else (match p29 fuel x1 with | some z5 => (if 0 ≤ x2.2.1 ∧ x2.2.1 < ((List.length z5 : Nat) : Int) then (match (z5)[(Int.toNat x2.2.1)]? with | some y6 => (if 0 ≤ x2.2.1 ∧ x2.2.1 < ((List.length z5 : Nat) : Int) then (match (z5)[(Int.toNat x2.2.1)]? with | some y7 => (bif (decide (x2.1 = (1 : Int))) then (if 0 ≤ x2.2.2.1 ∧ x2.2.2.1 < ((List.length (List.set z5 (Int.toNat x2.2.1) (IntKind.wrap .i64 (y6 - x2.2.2.2))) : Nat) : Int) then (match ((List.set z5 (Int.toNat x2.2.1) (IntKind.wrap .i64 (y6 - x2.2.2.2))))[(Int.toNat x2.2.2.1)]? with | some y8 => (if 0 ≤ x2.2.2.1 ∧ x2.2.2.1 < ((List.length (List.set z5 (Int.toNat x2.2.1) (IntKind.wrap .i64 (y6 - x2.2.2.2))) : Nat) : Int) then (match ((List.set z5 (Int.toNat x2.2.1) (IntKind.wrap .i64 (y6 - x2.2.2.2))))[(Int.toNat x2.2.2.1)]? with | some y9 => let v10 := (List.set (List.set z5 (Int.toNat x2.2.1) (IntKind.wrap .i64 (y6 - x2.2.2.2))) (Int.toNat x2.2.2.1) (IntKind.wrap .i64 (y8 + x2.2.2.2))); (some ((0 : Int), v10)) | none => none) else none) | none => none) else none) else let v11 := ((List.length (List.set z5 (Int.toNat x2.2.1) (IntKind.wrap .i64 (y6 - x2.2.2.2))) : Nat) : Int); (if v11 = 0 then none else (if 0 ≤ (Int.tmod (IntKind.wrap .i64 (x2.2.2.1 + (1 : Int))) v11) ∧ (Int.tmod (IntKind.wrap .i64 (x2.2.2.1 + (1 : Int))) v11) < ((List.length (List.set z5 (Int.toNat x2.2.1) (IntKind.wrap .i64 (y6 - x2.2.2.2))) : Nat) : Int) then (match ((List.set z5 (Int.toNat x2.2.1) (IntKind.wrap .i64 (y6 - x2.2.2.2))))[(Int.toNat (Int.tmod (IntKind.wrap .i64 (x2.2.2.1 + (1 : Int))) v11))]? with | some y12 => (if 0 ≤ x2.2.2.1 ∧ x2.2.2.1 < ((List.length (List.set z5 (Int.toNat x2.2.1) (IntKind.wrap .i64 (y6 - x2.2.2.2))) : Nat) : Int) then (match ((List.set z5 (Int.toNat x2.2.1) (IntKind.wrap .i64 (y6 - x2.2.2.2))))[(Int.toNat x2.2.2.1)]? with | some y13 => (if 0 ≤ (Int.tmod (IntKind.wrap .i64 (x2.2.2.1 + (1 : Int))) v11) ∧ (Int.tmod (IntKind.wrap .i64 (x2.2.2.1 + (1 : Int))) v11) < ((List.length (List.set z5 (Int.toNat x2.2.1) (IntKind.wrap .i64 (y6 - x2.2.2.2))) : Nat) : Int) then (match ((List.set z5 (Int.toNat x2.2.1) (IntKind.wrap .i64 (y6 - x2.2.2.2))))[(Int.toNat (Int.tmod (IntKind.wrap .i64 (x2.2.2.1 + (1 : Int))) v11))]? with | some y14 => let v15 := (List.set (List.set z5 (Int.toNat x2.2.1) (IntKind.wrap .i64 (y6 - x2.2.2.2))) (Int.toNat (Int.tmod (IntKind.wrap .i64 (x2.2.2.1 + (1 : Int))) v11)) (IntKind.wrap .i64 (y12 + y13))); (if 0 ≤ x2.2.1 ∧ x2.2.1 ≤ (((List.length v15) : Nat) : Int) then (if 0 ≤ x2.2.1 ∧ x2.2.1 ≤ (((Int.toNat x2.2.1) : Nat) : Int) then (if (Int.toNat x2.2.1) = (Int.toNat x2.2.1) then (if (0 < List.length [x2.2.2.2] ∨ ((Int.toNat x2.2.1) - 0) = 0) ∧ (((Int.toNat x2.2.1) - 0) + List.length [x2.2.2.2]) * 8 ≤ 140737488355328 then (if 0 ≤ x2.2.1 ∧ x2.2.1 ≤ (((List.length v15) : Nat) : Int) then (if (List.length (List.take ((Int.toNat x2.2.1) - 0) (List.drop 0 v15) ++ [x2.2.2.2]) + List.length (List.take ((List.length v15) - (Int.toNat x2.2.1)) (List.drop (Int.toNat x2.2.1) v15))) * 8 ≤ 140737488355328 then let v16 := ((List.take ((Int.toNat x2.2.1) - 0) (List.drop 0 v15) ++ [x2.2.2.2]) ++ (List.take ((List.length v15) - (Int.toNat x2.2.1)) (List.drop (Int.toNat x2.2.1) v15))); (bif (decide (x2.2.1 < x2.2.2.1)) then (j15_0 fuel (fun (x20, x21) => (some (x20, x21))) ((IntKind.wrap .i64 (x2.2.2.1 + (1 : Int))), v16)) else (j15_0 fuel (fun (x22, x23) => (some (x22, x23))) (x2.2.2.1, v16))) else none) else none) else none) else none) else none) else none) | none => none) else none) | none => none) else none) | none => none) else none))) | none => none) else none) | none => none) else none) | none => none)) | none => none)) | none => none)
noncomputable def F15 (fuel : Nat) : Fun := funOfA fi15 al15 (p15 fuel)
theorem run15 (fuel : Nat) : ∀ y : ((List Int) × (Int × (Int × (Int × Int)))), runF (Int × (List Int)) T (fns15 fuel) fuel (subsOf [sub15_0 fuel (Int × (List Int))]) (defOf Try.f15 an15 6 [] []) (fi15.vs y) (fi15.os y) (altsDec al15) = p15 fuel y := by
  rintro ⟨x1, x2⟩
  kernel_rfl
theorem ok15 (fuel : Nat) : FunOk P 15 (funOfA fi15 al15 (p15 fuel)) :=
  funOfA_ok (subs := (subsOf [sub15_0 fuel (Int × (List Int))])) (an := an15) (room := 6) (ks := []) (g0 := []) (fuel := fuel) T_ok (fnsOk15 fuel) mixed (fn := Try.f15) (by kernel_rfl) (by kernel_rfl) (subsOk_cons (subOk15_0 fuel _) subsOk_nil) (by kernel_rfl) (fun _ => ⟨by kernel_rfl, by kernel_rfl⟩) (run15 fuel)

-- f31: tontine/tontineref17.ahead
def fns31 (fuel : Nat) : Fns := fnsOf []
theorem fnsOk31 (fuel : Nat) : FnsOk P (fns31 fuel) := fnsOk_nil
def fi31 : Fr := ⟨[.d false (.int .i64), .d false (.int .i64)], [], 0⟩
def al31 : List (Tm × List To) := [(.d true (.int .i64), [])]
def an31 : AN := (.seq .leaf (.seq (.seq .leaf (.cond (.seq .leaf (.norm ⟨[4], padK 0 []⟩ (.ret []))) .leaf)) (.seq .leaf (.norm ⟨[4], padK 0 []⟩ (.ret [])))))
def p31 (fuel : Nat) : (Int × Int) → Option Int := fun (x1, x2) => (bif (decide (x1 = (0 : Int))) then (some (IntKind.wrap .i64 (x2 - (1 : Int)))) else (some (IntKind.wrap .i64 (x1 - (1 : Int)))))
def F31 (fuel : Nat) : Fun := funOfA fi31 al31 (p31 fuel)
theorem run31 (fuel : Nat) : ∀ y : (Int × Int), runF Int T (fns31 fuel) fuel (subsOf []) (defOf Try.f31 an31 0 [] []) (fi31.vs y) (fi31.os y) (altsDec al31) = p31 fuel y := by
  rintro ⟨x1, x2⟩
  kernel_rfl
theorem ok31 (fuel : Nat) : FunOk P 31 (funOfA fi31 al31 (p31 fuel)) :=
  funOfA_ok (subs := (subsOf [])) (an := an31) (room := 0) (ks := []) (g0 := []) (fuel := fuel) T_ok (fnsOk31 fuel) mixed (fn := Try.f31) (by kernel_rfl) (by kernel_rfl) subsOk_nil (by kernel_rfl) (fun _ => ⟨by kernel_rfl, by kernel_rfl⟩) (run31 fuel)

-- f32: tontine/tontineref17.behind
def fns32 (fuel : Nat) : Fns := fnsOf []
theorem fnsOk32 (fuel : Nat) : FnsOk P (fns32 fuel) := fnsOk_nil
def fi32 : Fr := ⟨[.d false (.int .i64), .d false (.int .i64)], [], 0⟩
def al32 : List (Tm × List To) := [(.d true (.int .i64), [])]
def an32 : AN := (.seq .leaf (.seq (.seq .leaf (.cond (.seq .leaf (.norm ⟨[4], padK 0 []⟩ (.ret []))) .leaf)) (.seq .leaf (.norm ⟨[4], padK 0 []⟩ (.ret [])))))
def p32 (fuel : Nat) : (Int × Int) → Option Int := fun (x1, x2) => (bif (decide (x1 = (IntKind.wrap .i64 (x2 - (1 : Int))))) then (some (0 : Int)) else (some (IntKind.wrap .i64 (x1 + (1 : Int)))))
def F32 (fuel : Nat) : Fun := funOfA fi32 al32 (p32 fuel)
theorem run32 (fuel : Nat) : ∀ y : (Int × Int), runF Int T (fns32 fuel) fuel (subsOf []) (defOf Try.f32 an32 0 [] []) (fi32.vs y) (fi32.os y) (altsDec al32) = p32 fuel y := by
  rintro ⟨x1, x2⟩
  kernel_rfl
theorem ok32 (fuel : Nat) : FunOk P 32 (funOfA fi32 al32 (p32 fuel)) :=
  funOfA_ok (subs := (subsOf [])) (an := an32) (room := 0) (ks := []) (g0 := []) (fuel := fuel) T_ok (fnsOk32 fuel) mixed (fn := Try.f32) (by kernel_rfl) (by kernel_rfl) subsOk_nil (by kernel_rfl) (fun _ => ⟨by kernel_rfl, by kernel_rfl⟩) (run32 fuel)

-- f33: tontine/tontineref17.Beside
def fns33 (fuel : Nat) : Fns := fnsOf [(32, F32 fuel), (31, F31 fuel)]
theorem fnsOk33 (fuel : Nat) : FnsOk P (fns33 fuel) := (fnsOk_cons (ok32 fuel) (fnsOk_cons (ok31 fuel) fnsOk_nil))
def fi33 : Fr := ⟨[.d false (.int .i64), .d false (.int .i64), .d false (.int .i64)], [], 0⟩
def al33 : List (Tm × List To) := [(.d true (.bool), [])]
def an33 : AN := (.seq .leaf (.seq .leaf (.norm ⟨[6], padK 0 []⟩ (.ret []))))
def p33 (fuel : Nat) : (Int × Int × Int) → Option Bool := fun (x1, x2, x3) => (bif (!decide (x1 = x2)) then (match p32 fuel (x1, x3) with | some z4 => (bif (decide (z4 = x2)) then (some true) else (match p31 fuel (x1, x3) with | some z5 => (some (decide (z5 = x2))) | none => none)) | none => none) else (some false))
def F33 (fuel : Nat) : Fun := funOfA fi33 al33 (p33 fuel)
theorem run33 (fuel : Nat) : ∀ y : (Int × Int × Int), runF Bool T (fns33 fuel) fuel (subsOf []) (defOf Try.f33 an33 0 [] []) (fi33.vs y) (fi33.os y) (altsDec al33) = p33 fuel y := by
  rintro ⟨x1, x2, x3⟩
  kernel_rfl
theorem ok33 (fuel : Nat) : FunOk P 33 (funOfA fi33 al33 (p33 fuel)) :=
  funOfA_ok (subs := (subsOf [])) (an := an33) (room := 0) (ks := []) (g0 := []) (fuel := fuel) T_ok (fnsOk33 fuel) mixed (fn := Try.f33) (by kernel_rfl) (by kernel_rfl) subsOk_nil (by kernel_rfl) (fun _ => ⟨by kernel_rfl, by kernel_rfl⟩) (run33 fuel)

-- f16: tontine/tontineref17.Plan
def fns16 (fuel : Nat) : Fns := fnsOf [(23, F23 fuel), (31, F31 fuel), (32, F32 fuel), (33, F33 fuel)]
theorem fnsOk16 (fuel : Nat) : FnsOk P (fns16 fuel) := (fnsOk_cons (ok23 fuel) (fnsOk_cons (ok31 fuel) (fnsOk_cons (ok32 fuel) (fnsOk_cons (ok33 fuel) fnsOk_nil))))
def fi16 : Fr := ⟨[.d true (.slice (.int .i64))], [], 0⟩
def al16 : List (Tm × List To) := [(.tup (.cons (.d true (.pair (.int .i64) (.pair (.int .i64) (.pair (.int .i64) (.int .i64))))) (.cons (.d true (.bool)) (.cons (.d true (.int .i64)) (.c .nil)))), [])]
def fx16_0 : Fr := ⟨[.d true (.slice (.int .i64)), .c (.ptr 0 0 []), .d true (.int .i64), .d true (.int .i64), .d true (.int .i64), .d true (.int .i64)], [.box (.d true (.pair (.int .i64) (.pair (.int .i64) (.pair (.int .i64) (.int .i64)))))], 1⟩
def fr16_0 : Fr := ⟨[.d true (.slice (.int .i64)), .c (.ptr 0 0 []), .d true (.int .i64), .d true (.int .i64), .d true (.int .i64), .d true (.int .i64)], [.box (.d true (.pair (.int .i64) (.pair (.int .i64) (.pair (.int .i64) (.int .i64)))))], 1⟩
noncomputable def c16_0 : Code := bodyAt Try.f16 [1, 1, 1, 1, 1, 1, 0, 1, 0, 0, 1, 0, 0, 1]
def j16_0 (fuel : Nat) {R : Type} (k0 : ((List Int) × Int × Int × Int × Int × (Int × (Int × (Int × Int)))) → Option R) : ((List Int) × Int × Int × Int × Int × (Int × (Int × (Int × Int)))) → Option R := fun (x11, x12, x13, x14, x15, x16) => (if 0 ≤ x15 then (match (x11)[Int.toNat x15]? with | some y17 => (if 0 ≤ x14 then (match (x11)[Int.toNat x14]? with | some y18 => (bif (decide (y17 < y18)) then (k0 (x11, x12, x13, x15, x15, x16)) else (k0 (x11, x12, x13, x14, x15, x16))) | none => none) else none) | none => none) else none)
def al16_0 : AN := (.fin ⟨[0, 2, 5, 7, 8, 9], padK 1 [some (0, 0)]⟩ (.seq .leaf (.cond (.fin ⟨[0, 2, 5, 7, 8, 9], padK 1 [some (0, 0)]⟩ .leaf) (.fin ⟨[0, 2, 5, 7, 8, 9], padK 1 [some (0, 0)]⟩ .leaf))))
theorem u16_0 (fuel : Nat) {R : Type} (k : AExit → St → Option R) : ∀ x : ((List Int) × Int × Int × Int × Int × (Int × (Int × (Int × Int)))), runK R T (fns16 fuel) fuel [] (subsOf []) (partOf c16_0 al16_0) (fr16_0.st [0, 2, 5, 7, 8, 9] x) k = j16_0 fuel (fun y => k .normal (fx16_0.st [0, 2, 5, 7, 8, 9] y)) x := by
  rintro ⟨x11, x12, x13, x14, x15, x16⟩
  kernel_rfl
noncomputable def sub16_0 (fuel : Nat) (R : Type) : Sub R := Sub.of [0, 2, 5, 7, 8, 9] c16_0 fr16_0 fun x k => j16_0 fuel (fun y => k .normal (fx16_0.st [0, 2, 5, 7, 8, 9] y)) x
theorem subOk16_0 (fuel : Nat) (R : Type) : SubOk P [] 142 (sub16_0 fuel R) :=
  subOk_part (fns := (fns16 fuel)) (fuel := fuel) (subs := (subsOf [])) (an := al16_0) T_ok (fnsOk16 fuel) mixed subsOk_nil (by kernel_rfl) (by kernel_rfl) fun _ _ _ _ h => Sub.of_run (fun (x : ((List Int) × Int × Int × Int × Int × (Int × (Int × (Int × Int))))) k => u16_0 fuel k x) h
def fx16_1 : Fr := ⟨[.d true (.slice (.int .i64)), .c (.ptr 0 0 []), .d true (.int .i64), .d true (.int .i64), .d true (.int .i64)], [.box (.d true (.pair (.int .i64) (.pair (.int .i64) (.pair (.int .i64) (.int .i64)))))], 1⟩
def fr16_1 : Fr := ⟨[.d true (.slice (.int .i64)), .c (.ptr 0 0 []), .d true (.int .i64), .d true (.int .i64), .d true (.int .i64), .d true (.int .i64)], [.box (.d true (.pair (.int .i64) (.pair (.int .i64) (.pair (.int .i64) (.int .i64)))))], 1⟩
noncomputable def c16_1 : Code := bodyAt Try.f16 [1, 1, 1, 1, 1, 1, 0, 1, 0]
def s16_1 (fuel : Nat) {R : Type} (F : ((List Int) × Int × Int × Int × Int × (Int × (Int × (Int × Int)))) → Option R) (k0 : ((List Int) × Int × Int × Int × (Int × (Int × (Int × Int)))) → Option R) : ((List Int) × Int × Int × Int × Int × (Int × (Int × (Int × Int)))) → Option R := fun (x3, x4, x5, x6, x7, x8) => (bif (decide (x7 < x4)) then (if 0 ≤ x7 then (match (x3)[Int.toNat x7]? with | some y9 => (if 0 ≤ x5 then (match (x3)[Int.toNat x5]? with | some y10 => (bif (decide (y10 < y9)) then (j16_0 fuel (fun (x19, x20, x21, x22, x23, x24) => (F (x19, x20, x21, x22, (IntKind.wrap .i64 (x23 + (1 : Int))), x24))) (x3, x4, x7, x6, x7, x8)) else (j16_0 fuel (fun (x25, x26, x27, x28, x29, x30) => (F (x25, x26, x27, x28, (IntKind.wrap .i64 (x29 + (1 : Int))), x30))) (x3, x4, x5, x6, x7, x8))) | none => none) else none) | none => none) else none) else (k0 (x3, x4, x5, x6, x8)))
def l16_1 (fuel : Nat) {R : Type} (k0 : ((List Int) × Int × Int × Int × (Int × (Int × (Int × Int)))) → Option R) : Nat → ((List Int) × Int × Int × Int × Int × (Int × (Int × (Int × Int)))) → Option R
  | 0, _ => none
  | n + 1, x => s16_1 fuel (l16_1 fuel k0 n) k0 x
def nm16_1 : Norm := ⟨[0, 2, 5, 7, 8, 9], padK 1 [some (0, 0)]⟩
def an16_1 : AN := (.seq (.seq .leaf (.cond .leaf (.norm ⟨[0, 2, 5, 7, 8], padK 1 [some (0, 0)]⟩ .leaf))) (.seq (.block (.seq (.seq .leaf (.cond (.fin ⟨[0, 2, 5, 7, 8, 9], padK 1 [some (0, 0)]⟩ .leaf) (.fin ⟨[0, 2, 5, 7, 8, 9], padK 1 [some (0, 0)]⟩ .leaf))) (.hole ⟨[0, 2, 5, 7, 8, 9], padK 1 [some (0, 0)]⟩ 0))) .leaf))
def al16_1 : AN := .loop nm16_1 an16_1
noncomputable def d16_1 : Code := bodyAt Try.f16 [1, 1, 1, 1, 1, 1, 0, 1, 0, 0]
theorem e16_1 (fuel : Nat) {R : Type} (F : St → Option R) (k : AExit → St → Option R) : ∀ x : ((List Int) × Int × Int × Int × Int × (Int × (Int × (Int × Int)))), runK R T (fns16 fuel) fuel [] (subsOf [sub16_0 fuel R]) (partOf d16_1 an16_1) (fr16_1.st [0, 2, 5, 7, 8, 9] x) (backTo R [] nm16_1 F k) = s16_1 fuel (fun x => F (fr16_1.st [0, 2, 5, 7, 8, 9] x)) (fun y => k (.exit 0) (fx16_1.st [0, 2, 5, 7, 8] y)) x := by
  rintro ⟨x3, x4, x5, x6, x7, x8⟩
  kernel_rfl
theorem u16_1 (fuel : Nat) {R : Type} (k : AExit → St → Option R) (x : ((List Int) × Int × Int × Int × Int × (Int × (Int × (Int × Int))))) : runK R T (fns16 fuel) fuel [] (subsOf [sub16_0 fuel R]) (partOf c16_1 al16_1) (fr16_1.st [0, 2, 5, 7, 8, 9] x) k = l16_1 fuel (fun y => k (.exit 0) (fx16_1.st [0, 2, 5, 7, 8] y)) fuel x :=
  loop_eq (mk := fr16_1.st [0, 2, 5, 7, 8, 9]) (s := fun F x => s16_1 fuel F (fun y => k (.exit 0) (fx16_1.st [0, 2, 5, 7, 8] y)) x) (l := fun n x => l16_1 fuel (fun y => k (.exit 0) (fx16_1.st [0, 2, 5, 7, 8] y)) n x) (d := d16_1) (by kernel_rfl) (fun G x => by
    revert x
    rintro ⟨x3, x4, x5, x6, x7, x8⟩
    kernel_rfl) (fun F x => e16_1 fuel F k x) (fun _ => rfl) (fun _ _ => rfl) x
noncomputable def sub16_1 (fuel : Nat) (R : Type) : Sub R := Sub.of [0, 2, 5, 7, 8, 9] c16_1 fr16_1 fun x k => l16_1 fuel (fun y => k (.exit 0) (fx16_1.st [0, 2, 5, 7, 8] y)) fuel x
theorem subOk16_1 (fuel : Nat) (R : Type) : SubOk P [] 142 (sub16_1 fuel R) :=
  subOk_part (fns := (fns16 fuel)) (fuel := fuel) (subs := (subsOf [sub16_0 fuel R])) (an := al16_1) T_ok (fnsOk16 fuel) mixed (subsOk_cons (subOk16_0 fuel R) subsOk_nil) (by kernel_rfl) (by kernel_rfl) fun _ _ _ _ h => Sub.of_run (fun (x : ((List Int) × Int × Int × Int × Int × (Int × (Int × (Int × Int))))) k => u16_1 fuel k x) h
def fx16_2 : Fr := ⟨[.c (.ptr 0 0 []), .d true (.bool), .d true (.int .i64)], [.box (.d true (.pair (.int .i64) (.pair (.int .i64) (.pair (.int .i64) (.int .i64)))))], 1⟩
def fr16_2 : Fr := ⟨[.d true (.slice (.int .i64)), .c (.ptr 0 0 []), .d true (.int .i64), .d true (.int .i64), .d true (.int .i64), .d true (.bool)], [.box (.d true (.pair (.int .i64) (.pair (.int .i64) (.pair (.int .i64) (.int .i64)))))], 1⟩
noncomputable def c16_2 : Code := bodyAt Try.f16 [1, 1, 1, 1, 1, 1, 1, 0, 1]
def j16_2 (fuel : Nat) {R : Type} (k0 : (Bool × Int × (Int × (Int × (Int × Int)))) → Option R) (k1 : ((List Int) × Int × Int × Int × (Int × (Int × (Int × Int)))) → Option R) : ((List Int) × Int × Int × Int × Bool × (Int × (Int × (Int × Int)))) → Option R := fun (x39, x40, x41, x42, x43, x44) => (bif x43 then (k0 (false, (0 : Int), ((0 : Int), ((0 : Int), ((0 : Int), (0 : Int)))))) else (k1 (x39, x40, x41, x42, x44)))
def al16_2 : AN := (.fin ⟨[0, 2, 5, 7, 8], padK 1 [some (0, 0)]⟩ (.cond (.seq (.region [(1, { touch := [0], ro := false })]) (.norm ⟨[2, 3, 4], padK 1 [some (0, 0)]⟩ (.ret []))) .leaf))
theorem u16_2 (fuel : Nat) {R : Type} (k : AExit → St → Option R) : ∀ x : ((List Int) × Int × Int × Int × Bool × (Int × (Int × (Int × Int)))), runK R T (fns16 fuel) fuel [] (subsOf [sub16_0 fuel R, sub16_1 fuel R]) (partOf c16_2 al16_2) (fr16_2.st [0, 2, 5, 7, 8, 64] x) k = j16_2 fuel (fun y => k (.ret []) (fx16_2.st [2, 3, 4] y)) (fun y => k .normal (fx16_1.st [0, 2, 5, 7, 8] y)) x := by
  rintro ⟨x39, x40, x41, x42, x43, x44⟩
  kernel_rfl
noncomputable def sub16_2 (fuel : Nat) (R : Type) : Sub R := Sub.of [0, 2, 5, 7, 8, 64] c16_2 fr16_2 fun x k => j16_2 fuel (fun y => k (.ret []) (fx16_2.st [2, 3, 4] y)) (fun y => k .normal (fx16_1.st [0, 2, 5, 7, 8] y)) x
theorem subOk16_2 (fuel : Nat) (R : Type) : SubOk P [] 142 (sub16_2 fuel R) :=
  subOk_part (fns := (fns16 fuel)) (fuel := fuel) (subs := (subsOf [sub16_0 fuel R, sub16_1 fuel R])) (an := al16_2) T_ok (fnsOk16 fuel) mixed (subsOk_cons (subOk16_0 fuel R) (subsOk_cons (subOk16_1 fuel R) subsOk_nil)) (by kernel_rfl) (by kernel_rfl) fun _ _ _ _ h => Sub.of_run (fun (x : ((List Int) × Int × Int × Int × Bool × (Int × (Int × (Int × Int))))) k => u16_2 fuel k x) h
def fx16_3 : Fr := ⟨[.c (.ptr 0 0 [])], [.box (.d true (.pair (.int .i64) (.pair (.int .i64) (.pair (.int .i64) (.int .i64)))))], 1⟩
def fr16_3 : Fr := ⟨[.d true (.slice (.int .i64)), .c (.ptr 0 0 []), .d true (.int .i64), .d true (.int .i64), .d true (.bool)], [.box (.d true (.pair (.int .i64) (.pair (.int .i64) (.pair (.int .i64) (.int .i64)))))], 1⟩
noncomputable def c16_3 : Code := bodyAt Try.f16 [1, 1, 1, 1, 1, 1, 1, 1, 1, 1, 1, 1, 0, 1]
def j16_3 (fuel : Nat) {R : Type} (k0 : (Bool × Int × (Int × (Int × (Int × Int)))) → Option R) (k1 : (Int × (Int × (Int × Int))) → Option R) : ((List Int) × Int × Int × Bool × (Int × (Int × (Int × Int)))) → Option R := fun (x96, x97, x98, x99, x100) => (bif x99 then (if 0 ≤ x97 then (match (x96)[Int.toNat x97]? with | some y101 => (k0 (true, (0 : Int), ((2 : Int), (x97, (x98, (IntKind.wrap .i64 (Int.tdiv y101 (2 : Int)))))))) | none => none) else none) else (k1 x100))
def al16_3 : AN := (.fin ⟨[2], padK 1 [some (0, 0)]⟩ (.cond (.seq (.region [(8, { touch := [0], ro := false })]) (.norm ⟨[2, 3, 4], padK 1 [some (0, 0)]⟩ (.ret []))) .leaf))
theorem u16_3 (fuel : Nat) {R : Type} (k : AExit → St → Option R) : ∀ x : ((List Int) × Int × Int × Bool × (Int × (Int × (Int × Int)))), runK R T (fns16 fuel) fuel [] (subsOf [sub16_0 fuel R, sub16_1 fuel R, sub16_2 fuel R]) (partOf c16_3 al16_3) (fr16_3.st [0, 2, 7, 8, 132] x) k = j16_3 fuel (fun y => k (.ret []) (fx16_2.st [2, 3, 4] y)) (fun y => k .normal (fx16_3.st [2] y)) x := by
  rintro ⟨x96, x97, x98, x99, x100⟩
  kernel_rfl
noncomputable def sub16_3 (fuel : Nat) (R : Type) : Sub R := Sub.of [0, 2, 7, 8, 132] c16_3 fr16_3 fun x k => j16_3 fuel (fun y => k (.ret []) (fx16_2.st [2, 3, 4] y)) (fun y => k .normal (fx16_3.st [2] y)) x
theorem subOk16_3 (fuel : Nat) (R : Type) : SubOk P [] 142 (sub16_3 fuel R) :=
  subOk_part (fns := (fns16 fuel)) (fuel := fuel) (subs := (subsOf [sub16_0 fuel R, sub16_1 fuel R, sub16_2 fuel R])) (an := al16_3) T_ok (fnsOk16 fuel) mixed (subsOk_cons (subOk16_0 fuel R) (subsOk_cons (subOk16_1 fuel R) (subsOk_cons (subOk16_2 fuel R) subsOk_nil))) (by kernel_rfl) (by kernel_rfl) fun _ _ _ _ h => Sub.of_run (fun (x : ((List Int) × Int × Int × Bool × (Int × (Int × (Int × Int))))) k => u16_3 fuel k x) h
def fr16_4 : Fr := ⟨[.c (.ptr 0 0 [])], [.box (.d true (.pair (.int .i64) (.pair (.int .i64) (.pair (.int .i64) (.int .i64)))))], 1⟩
noncomputable def c16_4 : Code := bodyAt Try.f16 [1, 1, 1, 1, 1, 1, 1, 1, 1, 1, 1, 1, 1]
def j16_4 (fuel : Nat) {R : Type} (k0 : (Bool × Int × (Int × (Int × (Int × Int)))) → Option R) : (Int × (Int × (Int × Int))) → Option R := fun _ => (k0 (false, (0 : Int), ((0 : Int), ((0 : Int), ((0 : Int), (0 : Int))))))
def al16_4 : AN := (.seq (.region [(1, { touch := [0], ro := false })]) (.norm ⟨[2, 3, 4], padK 1 [some (0, 0)]⟩ (.ret [])))
theorem u16_4 (fuel : Nat) {R : Type} (k : AExit → St → Option R) : ∀ x : (Int × (Int × (Int × Int))), runK R T (fns16 fuel) fuel [] (subsOf [sub16_0 fuel R, sub16_1 fuel R, sub16_2 fuel R, sub16_3 fuel R]) (partOf c16_4 al16_4) (fr16_4.st [2] x) k = j16_4 fuel (fun y => k (.ret []) (fx16_2.st [2, 3, 4] y)) x := by
  rintro x110
  kernel_rfl
noncomputable def sub16_4 (fuel : Nat) (R : Type) : Sub R := Sub.of [2] c16_4 fr16_4 fun x k => j16_4 fuel (fun y => k (.ret []) (fx16_2.st [2, 3, 4] y)) x
theorem subOk16_4 (fuel : Nat) (R : Type) : SubOk P [] 142 (sub16_4 fuel R) :=
  subOk_part (fns := (fns16 fuel)) (fuel := fuel) (subs := (subsOf [sub16_0 fuel R, sub16_1 fuel R, sub16_2 fuel R, sub16_3 fuel R])) (an := al16_4) T_ok (fnsOk16 fuel) mixed (subsOk_cons (subOk16_0 fuel R) (subsOk_cons (subOk16_1 fuel R) (subsOk_cons (subOk16_2 fuel R) (subsOk_cons (subOk16_3 fuel R) subsOk_nil)))) (by kernel_rfl) (by kernel_rfl) fun _ _ _ _ h => Sub.of_run (fun (x : (Int × (Int × (Int × Int)))) k => u16_4 fuel k x) h
def fr16_5 : Fr := ⟨[.d true (.slice (.int .i64)), .c (.ptr 0 0 []), .d true (.int .i64), .d true (.int .i64), .d true (.int .i64), .d true (.int .i64)], [.box (.d true (.pair (.int .i64) (.pair (.int .i64) (.pair (.int .i64) (.int .i64)))))], 1⟩
noncomputable def c16_5 : Code := bodyAt Try.f16 [1, 1, 1, 1, 1, 1, 1, 1, 1, 1]
def j16_5 (fuel : Nat) {R : Type} (k0 : (Bool × Int × (Int × (Int × (Int × Int)))) → Option R) : ((List Int) × Int × Int × Int × Int × (Int × (Int × (Int × Int)))) → Option R := fun (x79, x80, x81, x82, x83, x84) => (if 0 ≤ x81 then (match (x79)[Int.toNat x81]? with | some y85 => (if 0 ≤ x83 then (match (x79)[Int.toNat x83]? with | some y86 => (bif (decide ((IntKind.wrap .i64 ((2 : Int) * y86)) < y85)) then (if 0 ≤ x81 then (match (x79)[Int.toNat x81]? with | some y87 => (if 0 ≤ x83 then (match (x79)[Int.toNat x83]? with | some y88 => let v89 := (IntKind.wrap .i64 (Int.tdiv (IntKind.wrap .i64 (y87 - y88)) (2 : Int))); (k0 (true, (0 : Int), ((1 : Int), (x81, (x83, v89))))) | none => none) else none) | none => none) else none) else (match p33 fuel (x81, x82, x80) with | some z90 => (bif (!z90) then (match p32 fuel (x82, x80) with | some z91 => (if 0 ≤ z91 then (match (x79)[Int.toNat z91]? with | some y92 => (if 0 ≤ x82 then (match (x79)[Int.toNat x82]? with | some y93 => let v94 := (IntKind.wrap .i64 ((IntKind.wrap .i64 ((4 : Int) * y92)) + (IntKind.wrap .i64 ((4 : Int) * y93)))); (if 0 ≤ x81 then (match (x79)[Int.toNat x81]? with | some y95 => (j16_3 fuel (fun (x102, x103, x104) => (k0 (x102, x103, x104))) (fun x105 => (j16_4 fuel (fun (x111, x112, x113) => (k0 (x111, x112, x113))) x105)) (x79, x81, x82, (decide (v94 ≤ (IntKind.wrap .i64 ((3 : Int) * y95)))), x84)) | none => none) else none) | none => none) else none) | none => none) else none) | none => none) else (j16_3 fuel (fun (x106, x107, x108) => (k0 (x106, x107, x108))) (fun x109 => (j16_4 fuel (fun (x114, x115, x116) => (k0 (x114, x115, x116))) x109)) (x79, x81, x82, false, x84))) | none => none)) | none => none) else none) | none => none) else none)
def al16_5 : AN := (.seq (.seq .leaf (.cond (.seq (.region [(13, { touch := [0], ro := false })]) (.norm ⟨[2, 3, 4], padK 1 [some (0, 0)]⟩ (.ret []))) .leaf)) (.seq .leaf (.seq (.seq .leaf (.hole ⟨[0, 2, 7, 8, 132], padK 1 [some (0, 0)]⟩ 3)) (.hole ⟨[2], padK 1 [some (0, 0)]⟩ 4))))
theorem u16_5 (fuel : Nat) {R : Type} (k : AExit → St → Option R) : ∀ x : ((List Int) × Int × Int × Int × Int × (Int × (Int × (Int × Int)))), runK R T (fns16 fuel) fuel [] (subsOf [sub16_0 fuel R, sub16_1 fuel R, sub16_2 fuel R, sub16_3 fuel R, sub16_4 fuel R]) (partOf c16_5 al16_5) (fr16_5.st [0, 2, 5, 7, 8, 10] x) k = j16_5 fuel (fun y => k (.ret []) (fx16_2.st [2, 3, 4] y)) x := by
  rintro ⟨x79, x80, x81, x82, x83, x84⟩
  kernel_rfl
noncomputable def sub16_5 (fuel : Nat) (R : Type) : Sub R := Sub.of [0, 2, 5, 7, 8, 10] c16_5 fr16_5 fun x k => j16_5 fuel (fun y => k (.ret []) (fx16_2.st [2, 3, 4] y)) x
theorem subOk16_5 (fuel : Nat) (R : Type) : SubOk P [] 142 (sub16_5 fuel R) :=
  subOk_part (fns := (fns16 fuel)) (fuel := fuel) (subs := (subsOf [sub16_0 fuel R, sub16_1 fuel R, sub16_2 fuel R, sub16_3 fuel R, sub16_4 fuel R])) (an := al16_5) T_ok (fnsOk16 fuel) mixed (subsOk_cons (subOk16_0 fuel R) (subsOk_cons (subOk16_1 fuel R) (subsOk_cons (subOk16_2 fuel R) (subsOk_cons (subOk16_3 fuel R) (subsOk_cons (subOk16_4 fuel R) subsOk_nil))))) (by kernel_rfl) (by kernel_rfl) fun _ _ _ _ h => Sub.of_run (fun (x : ((List Int) × Int × Int × Int × Int × (Int × (Int × (Int × Int))))) k => u16_5 fuel k x) h
def fr16_6 : Fr := ⟨[.d true (.slice (.int .i64)), .c (.ptr 0 0 []), .d true (.int .i64), .d true (.int .i64), .d true (.int .i64)], [.box (.d true (.pair (.int .i64) (.pair (.int .i64) (.pair (.int .i64) (.int .i64)))))], 1⟩
noncomputable def c16_6 : Code := bodyAt Try.f16 [1, 1, 1, 1, 1, 1, 1, 1]
def j16_6 (fuel : Nat) {R : Type} (k0 : (Bool × Int × (Int × (Int × (Int × Int)))) → Option R) : ((List Int) × Int × Int × Int × (Int × (Int × (Int × Int)))) → Option R := fun (x69, x70, x71, x72, x73) => (match p31 fuel (x71, x70) with | some z74 => (match p32 fuel (x71, x70) with | some z75 => (if 0 ≤ z75 then (match (x69)[Int.toNat z75]? with | some y76 => (if 0 ≤ z74 then (match (x69)[Int.toNat z74]? with | some y77 => (bif (decide (y76 < y77)) then (match p32 fuel (x71, x70) with | some z78 => (j16_5 fuel (fun (x117, x118, x119) => (k0 (x117, x118, x119))) (x69, x70, x71, x72, z78, x73)) | none => none) else (j16_5 fuel (fun (x120, x121, x122) => (k0 (x120, x121, x122))) (x69, x70, x71, x72, z74, x73))) | none => none) else none) | none => none) else none) | none => none) | none => none)
def al16_6 : AN := (.seq .leaf (.seq (.seq .leaf (.cond (.fin ⟨[0, 2, 5, 7, 8, 10], padK 1 [some (0, 0)]⟩ .leaf) (.fin ⟨[0, 2, 5, 7, 8, 10], padK 1 [some (0, 0)]⟩ .leaf))) (.hole ⟨[0, 2, 5, 7, 8, 10], padK 1 [some (0, 0)]⟩ 5)))
theorem u16_6 (fuel : Nat) {R : Type} (k : AExit → St → Option R) : ∀ x : ((List Int) × Int × Int × Int × (Int × (Int × (Int × Int)))), runK R T (fns16 fuel) fuel [] (subsOf [sub16_0 fuel R, sub16_1 fuel R, sub16_2 fuel R, sub16_3 fuel R, sub16_4 fuel R, sub16_5 fuel R]) (partOf c16_6 al16_6) (fr16_6.st [0, 2, 5, 7, 8] x) k = j16_6 fuel (fun y => k (.ret []) (fx16_2.st [2, 3, 4] y)) x := by
  rintro ⟨x69, x70, x71, x72, x73⟩
  kernel_rfl
noncomputable def sub16_6 (fuel : Nat) (R : Type) : Sub R := Sub.of [0, 2, 5, 7, 8] c16_6 fr16_6 fun x k => j16_6 fuel (fun y => k (.ret []) (fx16_2.st [2, 3, 4] y)) x
theorem subOk16_6 (fuel : Nat) (R : Type) : SubOk P [] 142 (sub16_6 fuel R) :=
  subOk_part (fns := (fns16 fuel)) (fuel := fuel) (subs := (subsOf [sub16_0 fuel R, sub16_1 fuel R, sub16_2 fuel R, sub16_3 fuel R, sub16_4 fuel R, sub16_5 fuel R])) (an := al16_6) T_ok (fnsOk16 fuel) mixed (subsOk_cons (subOk16_0 fuel R) (subsOk_cons (subOk16_1 fuel R) (subsOk_cons (subOk16_2 fuel R) (subsOk_cons (subOk16_3 fuel R) (subsOk_cons (subOk16_4 fuel R) (subsOk_cons (subOk16_5 fuel R) subsOk_nil)))))) (by kernel_rfl) (by kernel_rfl) fun _ _ _ _ h => Sub.of_run (fun (x : ((List Int) × Int × Int × Int × (Int × (Int × (Int × Int))))) k => u16_6 fuel k x) h
def an16 : AN := (.seq (.region [(0, { touch := [1], base := 1, ro := false })]) (.seq .leaf (.seq .leaf (.seq (.seq .leaf (.cond (.seq (.region [(1, { touch := [1], ro := false })]) (.norm ⟨[2, 3, 4], padK 1 [some (1, 0)]⟩ (.ret []))) .leaf)) (.seq .leaf (.seq .leaf (.seq (.seq .leaf (.block (.hole ⟨[0, 2, 5, 7, 8, 9], padK 1 [some (1, 0)]⟩ 1))) (.seq (.seq .leaf (.hole ⟨[0, 2, 5, 7, 8, 64], padK 1 [some (0, 0)]⟩ 2)) (.hole ⟨[0, 2, 5, 7, 8], padK 1 [some (0, 0)]⟩ 6)))))))))
def p16 (fuel : Nat) : (List Int) → Option ((Int × (Int × (Int × Int))) × Bool × Int) := fun x1 => (match p23 fuel (x1, (1 : Int), (12 : Int)) with | some z2 => (bif (!z2) then (some (((0 : Int), ((0 : Int), ((0 : Int), (0 : Int)))), false, (171 : Int))) else (l16_1 fuel (fun (x31, x32, x33, x34, x35) => (bif (decide (x32 = (1 : Int))) then (j16_2 fuel (fun (x45, x46, x47) => (some (x47, x45, x46))) (fun (x48, x49, x50, x51, x52) => (j16_6 fuel (fun (x123, x124, x125) => (some (x125, x123, x124))) (x48, x49, x50, x51, x52))) (x31, x32, x33, x34, true, x35)) else (if 0 ≤ x33 then (match (x31)[Int.toNat x33]? with | some y36 => (bif (decide (y36 < (2 : Int))) then (j16_2 fuel (fun (x53, x54, x55) => (some (x55, x53, x54))) (fun (x56, x57, x58, x59, x60) => (j16_6 fuel (fun (x126, x127, x128) => (some (x128, x126, x127))) (x56, x57, x58, x59, x60))) (x31, x32, x33, x34, true, x35)) else (if 0 ≤ x33 then (match (x31)[Int.toNat x33]? with | some y37 => (if 0 ≤ x34 then (match (x31)[Int.toNat x34]? with | some y38 => (j16_2 fuel (fun (x61, x62, x63) => (some (x63, x61, x62))) (fun (x64, x65, x66, x67, x68) => (j16_6 fuel (fun (x129, x130, x131) => (some (x131, x129, x130))) (x64, x65, x66, x67, x68))) (x31, x32, x33, x34, (decide (y37 ≤ (IntKind.wrap .i64 ((2 : Int) * y38)))), x35)) | none => none) else none) | none => none) else none)) | none => none) else none))) fuel (x1, ((List.length x1 : Nat) : Int), (0 : Int), (0 : Int), (1 : Int), ((0 : Int), ((0 : Int), ((0 : Int), (0 : Int))))))) | none => none)
def F16 (fuel : Nat) : Fun := funOfA fi16 al16 (p16 fuel)
theorem run16 (fuel : Nat) : ∀ y : (List Int), runF ((Int × (Int × (Int × Int))) × Bool × Int) T (fns16 fuel) fuel (subsOf [sub16_0 fuel ((Int × (Int × (Int × Int))) × Bool × Int), sub16_1 fuel ((Int × (Int × (Int × Int))) × Bool × Int), sub16_2 fuel ((Int × (Int × (Int × Int))) × Bool × Int), sub16_3 fuel ((Int × (Int × (Int × Int))) × Bool × Int), sub16_4 fuel ((Int × (Int × (Int × Int))) × Bool × Int), sub16_5 fuel ((Int × (Int × (Int × Int))) × Bool × Int), sub16_6 fuel ((Int × (Int × (Int × Int))) × Bool × Int)]) (defOf Try.f16 an16 2 [] []) (fi16.vs y) (fi16.os y) (altsDec al16) = p16 fuel y := by
  rintro x1
  kernel_rfl
theorem ok16 (fuel : Nat) : FunOk P 16 (funOfA fi16 al16 (p16 fuel)) :=
  funOfA_ok (subs := (subsOf [sub16_0 fuel ((Int × (Int × (Int × Int))) × Bool × Int), sub16_1 fuel ((Int × (Int × (Int × Int))) × Bool × Int), sub16_2 fuel ((Int × (Int × (Int × Int))) × Bool × Int), sub16_3 fuel ((Int × (Int × (Int × Int))) × Bool × Int), sub16_4 fuel ((Int × (Int × (Int × Int))) × Bool × Int), sub16_5 fuel ((Int × (Int × (Int × Int))) × Bool × Int), sub16_6 fuel ((Int × (Int × (Int × Int))) × Bool × Int)])) (an := an16) (room := 2) (ks := []) (g0 := []) (fuel := fuel) T_ok (fnsOk16 fuel) mixed (fn := Try.f16) (by kernel_rfl) (by kernel_rfl) (subsOk_cons (subOk16_0 fuel _) (subsOk_cons (subOk16_1 fuel _) (subsOk_cons (subOk16_2 fuel _) (subsOk_cons (subOk16_3 fuel _) (subsOk_cons (subOk16_4 fuel _) (subsOk_cons (subOk16_5 fuel _) (subsOk_cons (subOk16_6 fuel _) subsOk_nil))))))) (by kernel_rfl) (fun _ => ⟨by kernel_rfl, by kernel_rfl⟩) (run16 fuel)

-- f23b: tontine/tontineref17.Fair
def fns23b (fuel : Nat) : Fns := fnsOf []
theorem fnsOk23b (fuel : Nat) : FnsOk P (fns23b fuel) := fnsOk_nil
def fi23b : Fr := ⟨[.d false (.slice (.int .i64)), .d false (.int .i64), .d false (.int .i64)], [], 0⟩
def al23b : List (Tm × List To) := [(.d true (.bool), [])]
def fx23b_0 : Fr := ⟨[.d true (.bool)], [], 0⟩
def fx23b_1 : Fr := ⟨[], [], 0⟩
def fr23b_0 : Fr := ⟨[.d false (.slice (.int .i64)), .d true (.int .i64)], [], 0⟩
noncomputable def c23b_0 : Code := bodyAt Try.f23 [1, 1, 0, 1, 0]
def s23b_0 (fuel : Nat) {R : Type} (F : ((List Int) × Int) → Option R) (k0 : Bool → Option R) (k1 : Unit → Option R) : ((List Int) × Int) → Option R := fun (x4, x5) => (bif (decide (x5 < ((List.length x4 : Nat) : Int))) then (if 0 ≤ x5 then (match (x4)[Int.toNat x5]? with | some y6 => (bif (decide (y6 < (0 : Int))) then (k0 false) else (if 0 ≤ x5 then (match (x4)[Int.toNat x5]? with | some y7 => (bif (decide ((2147483647 : Int) < y7)) then (k0 false) else (F (x4, (IntKind.wrap .i64 (x5 + (1 : Int)))))) | none => none) else none)) | none => none) else none) else (k1 ()))
def l23b_0 (fuel : Nat) {R : Type} (k0 : Bool → Option R) (k1 : Unit → Option R) : Nat → ((List Int) × Int) → Option R
  | 0, _ => none
  | n + 1, x => s23b_0 fuel (l23b_0 fuel k0 k1 n) k0 k1 x
def nm23b_0 : Norm := ⟨[0, 7], padK 0 []⟩
def an23b_0 : AN := (.seq (.seq .leaf (.cond .leaf (.norm ⟨[], padK 0 []⟩ .leaf))) (.seq (.block (.seq .leaf (.cond (.seq .leaf (.norm ⟨[6], padK 0 []⟩ (.ret []))) .leaf))) .leaf))
def al23b_0 : AN := .loop nm23b_0 an23b_0
noncomputable def d23b_0 : Code := bodyAt Try.f23 [1, 1, 0, 1, 0, 0]
theorem e23b_0 (fuel : Nat) {R : Type} (F : St → Option R) (k : AExit → St → Option R) : ∀ x : ((List Int) × Int), runK R T (fns23b fuel) fuel [] (subsOf []) (partOf d23b_0 an23b_0) (fr23b_0.st [0, 7] x) (backTo R [] nm23b_0 F k) = s23b_0 fuel (fun x => F (fr23b_0.st [0, 7] x)) (fun y => k (.ret []) (fx23b_0.st [6] y)) (fun y => k (.exit 0) (fx23b_1.st [] y)) x := by
  rintro ⟨x4, x5⟩
  kernel_rfl
theorem u23b_0 (fuel : Nat) {R : Type} (k : AExit → St → Option R) (x : ((List Int) × Int)) : runK R T (fns23b fuel) fuel [] (subsOf []) (partOf c23b_0 al23b_0) (fr23b_0.st [0, 7] x) k = l23b_0 fuel (fun y => k (.ret []) (fx23b_0.st [6] y)) (fun y => k (.exit 0) (fx23b_1.st [] y)) fuel x :=
  loop_eq (mk := fr23b_0.st [0, 7]) (s := fun F x => s23b_0 fuel F (fun y => k (.ret []) (fx23b_0.st [6] y)) (fun y => k (.exit 0) (fx23b_1.st [] y)) x) (l := fun n x => l23b_0 fuel (fun y => k (.ret []) (fx23b_0.st [6] y)) (fun y => k (.exit 0) (fx23b_1.st [] y)) n x) (d := d23b_0) (by kernel_rfl) (fun G x => by
    revert x
    rintro ⟨x4, x5⟩
    kernel_rfl) (fun F x => e23b_0 fuel F k x) (fun _ => rfl) (fun _ _ => rfl) x
noncomputable def sub23b_0 (fuel : Nat) (R : Type) : Sub R := Sub.of [0, 7] c23b_0 fr23b_0 fun x k => l23b_0 fuel (fun y => k (.ret []) (fx23b_0.st [6] y)) (fun y => k (.exit 0) (fx23b_1.st [] y)) fuel x
theorem subOk23b_0 (fuel : Nat) (R : Type) : SubOk P [] 36 (sub23b_0 fuel R) :=
  subOk_part (fns := (fns23b fuel)) (fuel := fuel) (subs := (subsOf [])) (an := al23b_0) T_ok (fnsOk23b fuel) mixed subsOk_nil (by kernel_rfl) (by kernel_rfl) fun _ _ _ _ h => Sub.of_run (fun (x : ((List Int) × Int)) k => u23b_0 fuel k x) h
def an23b : AN := (.seq .leaf (.seq (.seq .leaf (.cond (.seq .leaf (.norm ⟨[6], padK 0 []⟩ (.ret []))) .leaf)) (.seq (.seq .leaf (.block (.hole ⟨[0, 7], padK 0 []⟩ 0))) (.seq .leaf (.norm ⟨[6], padK 0 []⟩ (.ret []))))))
def p23b (fuel : Nat) : ((List Int) × Int × Int) → Option Bool := fun (x1, x2, x3) => (bif (decide (((List.length x1 : Nat) : Int) < x2)) then (some false) else (bif (decide (x3 < ((List.length x1 : Nat) : Int))) then (some false) else (l23b_0 fuel (fun x8 => (some x8)) (fun _ => (some true)) fuel (x1, (0 : Int)))))
def F23b (fuel : Nat) : Fun := funOfA fi23b al23b (p23b fuel)
theorem run23b (fuel : Nat) : ∀ y : ((List Int) × Int × Int), runF Bool T (fns23b fuel) fuel (subsOf [sub23b_0 fuel Bool]) (defOf Try.f23 an23b 0 [] []) (fi23b.vs y) (fi23b.os y) (altsDec al23b) = p23b fuel y := by
  rintro ⟨x1, x2, x3⟩
  kernel_rfl
theorem ok23b (fuel : Nat) : FunOk P 23 (funOfA fi23b al23b (p23b fuel)) :=
  funOfA_ok (subs := (subsOf [sub23b_0 fuel Bool])) (an := an23b) (room := 0) (ks := []) (g0 := []) (fuel := fuel) T_ok (fnsOk23b fuel) mixed (fn := Try.f23) (by kernel_rfl) (by kernel_rfl) (subsOk_cons (subOk23b_0 fuel _) subsOk_nil) (by kernel_rfl) (fun _ => ⟨by kernel_rfl, by kernel_rfl⟩) (run23b fuel)

-- f17: tontine/tontineref17.Apply
def fns17 (fuel : Nat) : Fns := fnsOf [(23, orFun (Fr.has fi23) (F23 fuel) (F23b fuel)), (33, F33 fuel), (32, F32 fuel)]
theorem fnsOk17 (fuel : Nat) : FnsOk P (fns17 fuel) := (fnsOk_cons (orFun_ok (ok23 fuel) (ok23b fuel)) (fnsOk_cons (ok33 fuel) (fnsOk_cons (ok32 fuel) fnsOk_nil)))
def fi17 : Fr := ⟨[.d true (.slice (.int .i64)), .d false (.pair (.int .i64) (.pair (.int .i64) (.pair (.int .i64) (.int .i64))))], [], 0⟩
def al17 : List (Tm × List To) := [(.tup (.cons (.c (.slc 0 0)) (.cons (.d true (.int .i64)) (.c .nil))), [.arr 0 (.int .i64)])]
def fx17_0 : Fr := ⟨[.d true (.slice (.int .i64)), .c (.ptr 0 0 []), .d true (.int .i64), .c (.slc 1 0), .d true (.int .i64)], [.box (.d true (.pair (.int .i64) (.pair (.int .i64) (.pair (.int .i64) (.int .i64))))), .arr 0 (.int .i64)], 5⟩
def fr17_0 : Fr := ⟨[.d true (.slice (.int .i64)), .c (.ptr 0 0 []), .d true (.int .i64), .c (.slc 1 0), .d true (.int .i64), .d true (.int .i64)], [.box (.d true (.pair (.int .i64) (.pair (.int .i64) (.pair (.int .i64) (.int .i64))))), .arr 0 (.int .i64)], 5⟩
noncomputable def c17_0 : Code := bodyAt Try.f17 [1, 1, 1, 1, 1, 1, 1, 1, 0, 1, 0, 0, 1, 0, 0, 1, 1, 0, 1, 0, 1]
def j17_0 (fuel : Nat) {R : Type} (k0 : ((List Int) × Int × Int × (Int × (Int × (Int × Int))) × (List Int)) → Option R) : ((List Int) × Int × Int × Int × (Int × (Int × (Int × Int))) × (List Int)) → Option R := fun (x22, x23, x24, x25, x26, x27) => (if (List.length x27 + List.length [x25]) * 8 ≤ 140737488355328 then (k0 (x22, x23, x24, x26, (x27 ++ [x25]))) else none)
def al17_0 : AN := (.seq (.region [(2, { touch := [3], base := 3, ro := false }), (3, { touch := [1, 3], ro := false })]) (.norm ⟨[0, 3, 6, 9, 10], padK 5 [some (0, 0), some (1, 0)]⟩ .leaf))
theorem u17_0 (fuel : Nat) {R : Type} (k : AExit → St → Option R) : ∀ x : ((List Int) × Int × Int × Int × (Int × (Int × (Int × Int))) × (List Int)), runK R T (fns17 fuel) fuel [] (subsOf []) (partOf c17_0 al17_0) (fr17_0.st [0, 3, 6, 9, 10, 11] x) k = j17_0 fuel (fun y => k (.exit 1) (fx17_0.st [0, 3, 6, 9, 10] y)) x := by
  rintro ⟨x22, x23, x24, x25, x26, x27⟩
  kernel_rfl
noncomputable def sub17_0 (fuel : Nat) (R : Type) : Sub R := Sub.of [0, 3, 6, 9, 10, 11] c17_0 fr17_0 fun x k => j17_0 fuel (fun y => k (.exit 1) (fx17_0.st [0, 3, 6, 9, 10] y)) x
theorem subOk17_0 (fuel : Nat) (R : Type) : SubOk P [] 149 (sub17_0 fuel R) :=
  subOk_part (fns := (fns17 fuel)) (fuel := fuel) (subs := (subsOf [])) (an := al17_0) T_ok (fnsOk17 fuel) mixed subsOk_nil (by kernel_rfl) (by kernel_rfl) fun _ _ _ _ h => Sub.of_run (fun (x : ((List Int) × Int × Int × Int × (Int × (Int × (Int × Int))) × (List Int))) k => u17_0 fuel k x) h
def fr17_1 : Fr := ⟨[.d true (.slice (.int .i64)), .c (.ptr 0 0 []), .d true (.int .i64), .c (.slc 1 0), .d true (.int .i64), .d true (.int .i64)], [.box (.d true (.pair (.int .i64) (.pair (.int .i64) (.pair (.int .i64) (.int .i64))))), .arr 0 (.int .i64)], 5⟩
noncomputable def c17_1 : Code := bodyAt Try.f17 [1, 1, 1, 1, 1, 1, 1, 1, 0, 1, 0, 0, 1, 0, 0, 1, 1, 1, 1, 1, 1]
def j17_1 (fuel : Nat) {R : Type} (k0 : ((List Int) × Int × Int × (Int × (Int × (Int × Int))) × (List Int)) → Option R) : ((List Int) × Int × Int × Int × (Int × (Int × (Int × Int))) × (List Int)) → Option R := fun (x46, x47, x48, x49, x50, x51) => (if (List.length x51 + List.length [x49]) * 8 ≤ 140737488355328 then (k0 (x46, x47, x48, x50, (x51 ++ [x49]))) else none)
def al17_1 : AN := (.fin ⟨[0, 3, 6, 9, 10], padK 5 [some (0, 0), some (1, 0)]⟩ (.region [(2, { touch := [5], base := 5, ro := false }), (3, { touch := [1, 5], ro := false })]))
theorem u17_1 (fuel : Nat) {R : Type} (k : AExit → St → Option R) : ∀ x : ((List Int) × Int × Int × Int × (Int × (Int × (Int × Int))) × (List Int)), runK R T (fns17 fuel) fuel [] (subsOf [sub17_0 fuel R]) (partOf c17_1 al17_1) (fr17_1.st [0, 3, 6, 9, 10, 11] x) k = j17_1 fuel (fun y => k .normal (fx17_0.st [0, 3, 6, 9, 10] y)) x := by
  rintro ⟨x46, x47, x48, x49, x50, x51⟩
  kernel_rfl
noncomputable def sub17_1 (fuel : Nat) (R : Type) : Sub R := Sub.of [0, 3, 6, 9, 10, 11] c17_1 fr17_1 fun x k => j17_1 fuel (fun y => k .normal (fx17_0.st [0, 3, 6, 9, 10] y)) x
theorem subOk17_1 (fuel : Nat) (R : Type) : SubOk P [] 149 (sub17_1 fuel R) :=
  subOk_part (fns := (fns17 fuel)) (fuel := fuel) (subs := (subsOf [sub17_0 fuel R])) (an := al17_1) T_ok (fnsOk17 fuel) mixed (subsOk_cons (subOk17_0 fuel R) subsOk_nil) (by kernel_rfl) (by kernel_rfl) fun _ _ _ _ h => Sub.of_run (fun (x : ((List Int) × Int × Int × Int × (Int × (Int × (Int × Int))) × (List Int))) k => u17_1 fuel k x) h
def fr17_2 : Fr := ⟨[.d true (.slice (.int .i64)), .c (.ptr 0 0 []), .d true (.int .i64), .c (.slc 1 0), .d true (.int .i64), .d true (.int .i64)], [.box (.d true (.pair (.int .i64) (.pair (.int .i64) (.pair (.int .i64) (.int .i64))))), .arr 0 (.int .i64)], 5⟩
noncomputable def c17_2 : Code := bodyAt Try.f17 [1, 1, 1, 1, 1, 1, 1, 1, 0, 1, 0, 0, 1, 0, 0, 1, 1, 1, 1, 1]
def j17_2 (fuel : Nat) {R : Type} (k0 : ((List Int) × Int × Int × (Int × (Int × (Int × Int))) × (List Int)) → Option R) : ((List Int) × Int × Int × Int × (Int × (Int × (Int × Int))) × (List Int)) → Option R := fun (x40, x41, x42, x43, x44, x45) => (bif (decide (x42 = x44.2.1)) then (if (List.length x45 + List.length [x44.2.2.2]) * 8 ≤ 140737488355328 then (j17_1 fuel (fun (x52, x53, x54, x55, x56) => (k0 (x52, x53, x54, x55, x56))) (x40, x41, x42, x43, x44, (x45 ++ [x44.2.2.2]))) else none) else (j17_1 fuel (fun (x57, x58, x59, x60, x61) => (k0 (x57, x58, x59, x60, x61))) (x40, x41, x42, x43, x44, x45)))
def al17_2 : AN := (.fin ⟨[0, 3, 6, 9, 10], padK 5 [some (0, 0), some (1, 0)]⟩ (.seq (.seq (.region [(1, { touch := [0] }), (2, { touch := [0] })]) (.cond (.fin ⟨[0, 3, 6, 9, 10, 11], padK 5 [some (0, 0), some (1, 0)]⟩ (.region [(1, { touch := [0] }), (2, { touch := [0] }), (3, { touch := [4], base := 4, ro := false }), (4, { touch := [1, 4], ro := false })])) (.fin ⟨[0, 3, 6, 9, 10, 11], padK 5 [some (0, 0), some (1, 0)]⟩ .leaf))) (.hole ⟨[0, 3, 6, 9, 10, 11], padK 5 [some (0, 0), some (1, 0)]⟩ 1)))
theorem u17_2 (fuel : Nat) {R : Type} (k : AExit → St → Option R) : ∀ x : ((List Int) × Int × Int × Int × (Int × (Int × (Int × Int))) × (List Int)), runK R T (fns17 fuel) fuel [] (subsOf [sub17_0 fuel R, sub17_1 fuel R]) (partOf c17_2 al17_2) (fr17_2.st [0, 3, 6, 9, 10, 11] x) k = j17_2 fuel (fun y => k .normal (fx17_0.st [0, 3, 6, 9, 10] y)) x := by
  rintro ⟨x40, x41, x42, x43, x44, x45⟩
  kernel_rfl
noncomputable def sub17_2 (fuel : Nat) (R : Type) : Sub R := Sub.of [0, 3, 6, 9, 10, 11] c17_2 fr17_2 fun x k => j17_2 fuel (fun y => k .normal (fx17_0.st [0, 3, 6, 9, 10] y)) x
theorem subOk17_2 (fuel : Nat) (R : Type) : SubOk P [] 149 (sub17_2 fuel R) :=
  subOk_part (fns := (fns17 fuel)) (fuel := fuel) (subs := (subsOf [sub17_0 fuel R, sub17_1 fuel R])) (an := al17_2) T_ok (fnsOk17 fuel) mixed (subsOk_cons (subOk17_0 fuel R) (subsOk_cons (subOk17_1 fuel R) subsOk_nil)) (by kernel_rfl) (by kernel_rfl) fun _ _ _ _ h => Sub.of_run (fun (x : ((List Int) × Int × Int × Int × (Int × (Int × (Int × Int))) × (List Int))) k => u17_2 fuel k x) h
def fr17_3 : Fr := ⟨[.d true (.slice (.int .i64)), .c (.ptr 0 0 []), .d true (.int .i64), .c (.slc 1 0), .d true (.int .i64), .d true (.int .i64)], [.box (.d true (.pair (.int .i64) (.pair (.int .i64) (.pair (.int .i64) (.int .i64))))), .arr 0 (.int .i64)], 5⟩
noncomputable def c17_3 : Code := bodyAt Try.f17 [1, 1, 1, 1, 1, 1, 1, 1, 0, 1, 0, 0, 1, 0, 0, 1, 1]
def j17_3 (fuel : Nat) {R : Type} (k0 : ((List Int) × Int × Int × (Int × (Int × (Int × Int))) × (List Int)) → Option R) (k1 : ((List Int) × Int × Int × (Int × (Int × (Int × Int))) × (List Int)) → Option R) : ((List Int) × Int × Int × Int × (Int × (Int × (Int × Int))) × (List Int)) → Option R := fun (x16, x17, x18, x19, x20, x21) => (bif (decide (x20.1 = (1 : Int))) then (bif (decide (x18 = x20.2.2.1)) then (j17_0 fuel (fun (x28, x29, x30, x31, x32) => (k0 (x28, x29, x30, x31, x32))) (x16, x17, x18, (IntKind.wrap .i64 (x19 + x20.2.2.2)), x20, x21)) else (j17_0 fuel (fun (x33, x34, x35, x36, x37) => (k0 (x33, x34, x35, x36, x37))) (x16, x17, x18, x19, x20, x21))) else (bif (decide (x18 = x20.2.2.1)) then (k0 (x16, x17, x18, x20, x21)) else (match p32 fuel (x20.2.2.1, x17) with | some z38 => (bif (decide (x18 = z38)) then (if 0 ≤ x20.2.2.1 then (match (x16)[Int.toNat x20.2.2.1]? with | some y39 => (j17_2 fuel (fun (x62, x63, x64, x65, x66) => (k1 (x62, x63, x64, x65, x66))) (x16, x17, x18, (IntKind.wrap .i64 (x19 + y39)), x20, x21)) | none => none) else none) else (j17_2 fuel (fun (x67, x68, x69, x70, x71) => (k1 (x67, x68, x69, x70, x71))) (x16, x17, x18, x19, x20, x21))) | none => none)))
def al17_3 : AN := (.fin ⟨[0, 3, 6, 9, 10], padK 5 [some (0, 0), some (1, 0)]⟩ (.seq (.seq (.region [(0, { touch := [0] }), (1, { touch := [0] })]) (.cond (.seq (.seq (.region [(1, { touch := [0] }), (2, { touch := [0] })]) (.cond (.fin ⟨[0, 3, 6, 9, 10, 11], padK 5 [some (0, 0), some (1, 0)]⟩ (.region [(1, { touch := [0] }), (2, { touch := [0] })])) (.fin ⟨[0, 3, 6, 9, 10, 11], padK 5 [some (0, 0), some (1, 0)]⟩ .leaf))) (.hole ⟨[0, 3, 6, 9, 10, 11], padK 5 [some (0, 0), some (1, 0)]⟩ 0)) .leaf)) (.seq (.seq (.region [(1, { touch := [0] }), (2, { touch := [0] })]) (.cond (.norm ⟨[0, 3, 6, 9, 10], padK 5 [some (0, 0), some (1, 0)]⟩ .leaf) .leaf)) (.seq (.seq (.region [(1, { touch := [0] }), (2, { touch := [0] })]) (.cond (.fin ⟨[0, 3, 6, 9, 10, 11], padK 5 [some (0, 0), some (1, 0)]⟩ (.region [(2, { touch := [0] }), (3, { touch := [0] })])) (.fin ⟨[0, 3, 6, 9, 10, 11], padK 5 [some (0, 0), some (1, 0)]⟩ .leaf))) (.hole ⟨[0, 3, 6, 9, 10, 11], padK 5 [some (0, 0), some (1, 0)]⟩ 2)))))
theorem u17_3 (fuel : Nat) {R : Type} (k : AExit → St → Option R) : ∀ x : ((List Int) × Int × Int × Int × (Int × (Int × (Int × Int))) × (List Int)), runK R T (fns17 fuel) fuel [] (subsOf [sub17_0 fuel R, sub17_1 fuel R, sub17_2 fuel R]) (partOf c17_3 al17_3) (fr17_3.st [0, 3, 6, 9, 10, 11] x) k = j17_3 fuel (fun y => k (.exit 1) (fx17_0.st [0, 3, 6, 9, 10] y)) (fun y => k .normal (fx17_0.st [0, 3, 6, 9, 10] y)) x := by
  rintro ⟨x16, x17, x18, x19, x20, x21⟩
  kernel_rfl
noncomputable def sub17_3 (fuel : Nat) (R : Type) : Sub R := Sub.of [0, 3, 6, 9, 10, 11] c17_3 fr17_3 fun x k => j17_3 fuel (fun y => k (.exit 1) (fx17_0.st [0, 3, 6, 9, 10] y)) (fun y => k .normal (fx17_0.st [0, 3, 6, 9, 10] y)) x
theorem subOk17_3 (fuel : Nat) (R : Type) : SubOk P [] 149 (sub17_3 fuel R) :=
  subOk_part (fns := (fns17 fuel)) (fuel := fuel) (subs := (subsOf [sub17_0 fuel R, sub17_1 fuel R, sub17_2 fuel R])) (an := al17_3) T_ok (fnsOk17 fuel) mixed (subsOk_cons (subOk17_0 fuel R) (subsOk_cons (subOk17_1 fuel R) (subsOk_cons (subOk17_2 fuel R) subsOk_nil))) (by kernel_rfl) (by kernel_rfl) fun _ _ _ _ h => Sub.of_run (fun (x : ((List Int) × Int × Int × Int × (Int × (Int × (Int × Int))) × (List Int))) k => u17_3 fuel k x) h
def fx17_1 : Fr := ⟨[.c (.slc 0 0)], [.arr 0 (.int .i64)], 6⟩
def fr17_4 : Fr := ⟨[.d true (.slice (.int .i64)), .c (.ptr 0 0 []), .d true (.int .i64), .c (.slc 1 0), .d true (.int .i64)], [.box (.d true (.pair (.int .i64) (.pair (.int .i64) (.pair (.int .i64) (.int .i64))))), .arr 0 (.int .i64)], 5⟩
noncomputable def c17_4 : Code := bodyAt Try.f17 [1, 1, 1, 1, 1, 1, 1, 1, 0, 1, 0]
def s17_4 (fuel : Nat) {R : Type} (F : ((List Int) × Int × Int × (Int × (Int × (Int × Int))) × (List Int)) → Option R) (k0 : (List Int) → Option R) : ((List Int) × Int × Int × (Int × (Int × (Int × Int))) × (List Int)) → Option R := fun (x10, x11, x12, x13, x14) => (bif (decide (x12 < x11)) then (if 0 ≤ x12 then (match (x10)[Int.toNat x12]? with | some y15 => (bif (decide (x12 = x13.2.1)) then (j17_3 fuel (fun (x72, x73, x74, x75, x76) => (F (x72, x73, (IntKind.wrap .i64 (x74 + (1 : Int))), x75, x76))) (fun (x77, x78, x79, x80, x81) => (F (x77, x78, (IntKind.wrap .i64 (x79 + (1 : Int))), x80, x81))) (x10, x11, x12, (IntKind.wrap .i64 (y15 - x13.2.2.2)), x13, x14)) else (j17_3 fuel (fun (x82, x83, x84, x85, x86) => (F (x82, x83, (IntKind.wrap .i64 (x84 + (1 : Int))), x85, x86))) (fun (x87, x88, x89, x90, x91) => (F (x87, x88, (IntKind.wrap .i64 (x89 + (1 : Int))), x90, x91))) (x10, x11, x12, y15, x13, x14))) | none => none) else none) else (k0 x14))
def l17_4 (fuel : Nat) {R : Type} (k0 : (List Int) → Option R) : Nat → ((List Int) × Int × Int × (Int × (Int × (Int × Int))) × (List Int)) → Option R
  | 0, _ => none
  | n + 1, x => s17_4 fuel (l17_4 fuel k0 n) k0 x
def nm17_4 : Norm := ⟨[0, 3, 6, 9, 10], padK 5 [some (0, 0), some (1, 0)]⟩
def an17_4 : AN := (.seq (.seq .leaf (.cond .leaf (.norm ⟨[9], padK 6 [some (1, 0)]⟩ .leaf))) (.seq (.block (.seq .leaf (.seq (.seq (.region [(1, { touch := [0] }), (2, { touch := [0] })]) (.cond (.fin ⟨[0, 3, 6, 9, 10, 11], padK 5 [some (0, 0), some (1, 0)]⟩ (.region [(1, { touch := [0] }), (2, { touch := [0] })])) (.fin ⟨[0, 3, 6, 9, 10, 11], padK 5 [some (0, 0), some (1, 0)]⟩ .leaf))) (.hole ⟨[0, 3, 6, 9, 10, 11], padK 5 [some (0, 0), some (1, 0)]⟩ 3)))) .leaf))
def al17_4 : AN := .loop nm17_4 an17_4
noncomputable def d17_4 : Code := bodyAt Try.f17 [1, 1, 1, 1, 1, 1, 1, 1, 0, 1, 0, 0]
theorem e17_4 (fuel : Nat) {R : Type} (F : St → Option R) (k : AExit → St → Option R) : ∀ x : ((List Int) × Int × Int × (Int × (Int × (Int × Int))) × (List Int)), runK R T (fns17 fuel) fuel [] (subsOf [sub17_0 fuel R, sub17_1 fuel R, sub17_2 fuel R, sub17_3 fuel R]) (partOf d17_4 an17_4) (fr17_4.st [0, 3, 6, 9, 10] x) (backTo R [] nm17_4 F k) = s17_4 fuel (fun x => F (fr17_4.st [0, 3, 6, 9, 10] x)) (fun y => k (.exit 0) (fx17_1.st [9] y)) x := by
  rintro ⟨x10, x11, x12, x13, x14⟩
  kernel_rfl
theorem u17_4 (fuel : Nat) {R : Type} (k : AExit → St → Option R) (x : ((List Int) × Int × Int × (Int × (Int × (Int × Int))) × (List Int))) : runK R T (fns17 fuel) fuel [] (subsOf [sub17_0 fuel R, sub17_1 fuel R, sub17_2 fuel R, sub17_3 fuel R]) (partOf c17_4 al17_4) (fr17_4.st [0, 3, 6, 9, 10] x) k = l17_4 fuel (fun y => k (.exit 0) (fx17_1.st [9] y)) fuel x :=
  loop_eq (mk := fr17_4.st [0, 3, 6, 9, 10]) (s := fun F x => s17_4 fuel F (fun y => k (.exit 0) (fx17_1.st [9] y)) x) (l := fun n x => l17_4 fuel (fun y => k (.exit 0) (fx17_1.st [9] y)) n x) (d := d17_4) (by kernel_rfl) (fun G x => by
    revert x
    rintro ⟨x10, x11, x12, x13, x14⟩
    kernel_rfl) (fun F x => e17_4 fuel F k x) (fun _ => rfl) (fun _ _ => rfl) x
noncomputable def sub17_4 (fuel : Nat) (R : Type) : Sub R := Sub.of [0, 3, 6, 9, 10] c17_4 fr17_4 fun x k => l17_4 fuel (fun y => k (.exit 0) (fx17_1.st [9] y)) fuel x
theorem subOk17_4 (fuel : Nat) (R : Type) : SubOk P [] 149 (sub17_4 fuel R) :=
  subOk_part (fns := (fns17 fuel)) (fuel := fuel) (subs := (subsOf [sub17_0 fuel R, sub17_1 fuel R, sub17_2 fuel R, sub17_3 fuel R])) (an := al17_4) T_ok (fnsOk17 fuel) mixed (subsOk_cons (subOk17_0 fuel R) (subsOk_cons (subOk17_1 fuel R) (subsOk_cons (subOk17_2 fuel R) (subsOk_cons (subOk17_3 fuel R) subsOk_nil)))) (by kernel_rfl) (by kernel_rfl) fun _ _ _ _ h => Sub.of_run (fun (x : ((List Int) × Int × Int × (Int × (Int × (Int × Int))) × (List Int))) k => u17_4 fuel k x) h
def fx17_2 : Fr := ⟨[.c (.slc 0 0), .d true (.int .i64)], [.arr 0 (.int .i64)], 6⟩
def fr17_5 : Fr := ⟨[.d true (.slice (.int .i64)), .c (.ptr 0 0 []), .d true (.int .i64)], [.box (.d true (.pair (.int .i64) (.pair (.int .i64) (.pair (.int .i64) (.int .i64)))))], 6⟩
noncomputable def c17_5 : Code := bodyAt Try.f17 [1, 1, 1, 1, 1]
def j17_5 (fuel : Nat) {R : Type} (k0 : (Int × (List Int)) → Option R) : ((List Int) × Int × (Int × (Int × (Int × Int)))) → Option R := fun (x6, x7, x8) => (match p33 fuel (x8.2.1, x8.2.2.1, x7) with | some z9 => (bif (!(z9 == (decide (x8.1 = (1 : Int))))) then (k0 ((172 : Int), ([] : List Int))) else (l17_4 fuel (fun x92 => (match p23b fuel (x92, (1 : Int), (12 : Int)) with | some z93 => (bif (!z93) then (k0 ((172 : Int), ([] : List Int))) else (k0 ((0 : Int), x92))) | none => none)) fuel (x6, x7, (0 : Int), x8, ([] : List Int)))) | none => none)
def al17_5 : AN := (.seq (.region [(0, { touch := [0] }), (1, { touch := [0] }), (2, { touch := [0] }), (3, { touch := [0] })]) (.seq (.seq (.region [(1, { touch := [0] }), (2, { touch := [0] })]) (.cond (.seq .leaf (.co (.empty (.slot 4 []) 6 (.int .i64)) (.norm ⟨[4, 5], padK 6 [some (6, 0)]⟩ (.ret [some (0, 0)])))) .leaf)) (.seq .leaf (.seq (.seq .leaf (.block (.co (.empty (.slot 9 []) 6 (.int .i64)) (.hole ⟨[0, 3, 6, 9, 10], padK 5 [some (0, 0), some (6, 0)]⟩ 4)))) (.seq (.region [(1, { touch := [0], lend := [some (.slice (.int .i64)), none, none] })]) (.seq (.seq .leaf (.cond (.seq .leaf (.co (.empty (.slot 4 []) 6 (.int .i64)) (.norm ⟨[4, 5], padK 6 [some (6, 0)]⟩ (.ret [some (0, 0)])))) .leaf)) (.seq .leaf (.norm ⟨[4, 5], padK 6 [some (0, 0)]⟩ (.ret [some (0, 0)])))))))))
theorem u17_5 (fuel : Nat) {R : Type} (k : AExit → St → Option R) : ∀ x : ((List Int) × Int × (Int × (Int × (Int × Int)))), runK R T (fns17 fuel) fuel [] (subsOf [sub17_0 fuel R, sub17_1 fuel R, sub17_2 fuel R, sub17_3 fuel R, sub17_4 fuel R]) (partOf c17_5 al17_5) (fr17_5.st [0, 3, 6] x) k = j17_5 fuel (fun y => k (.ret [some (0, 0)]) (fx17_2.st [4, 5] y)) x := by
  rintro ⟨x6, x7, x8⟩
  kernel_rfl
noncomputable def sub17_5 (fuel : Nat) (R : Type) : Sub R := Sub.of [0, 3, 6] c17_5 fr17_5 fun x k => j17_5 fuel (fun y => k (.ret [some (0, 0)]) (fx17_2.st [4, 5] y)) x
theorem subOk17_5 (fuel : Nat) (R : Type) : SubOk P [] 149 (sub17_5 fuel R) :=
  subOk_part (fns := (fns17 fuel)) (fuel := fuel) (subs := (subsOf [sub17_0 fuel R, sub17_1 fuel R, sub17_2 fuel R, sub17_3 fuel R, sub17_4 fuel R])) (an := al17_5) T_ok (fnsOk17 fuel) mixed (subsOk_cons (subOk17_0 fuel R) (subsOk_cons (subOk17_1 fuel R) (subsOk_cons (subOk17_2 fuel R) (subsOk_cons (subOk17_3 fuel R) (subsOk_cons (subOk17_4 fuel R) subsOk_nil))))) (by kernel_rfl) (by kernel_rfl) fun _ _ _ _ h => Sub.of_run (fun (x : ((List Int) × Int × (Int × (Int × (Int × Int))))) k => u17_5 fuel k x) h
def an17 : AN := (.seq (.region [(0, { touch := [2], base := 2, ro := false })]) (.seq .leaf (.seq .leaf (.seq (.seq .leaf (.cond (.seq .leaf (.co (.empty (.slot 4 []) 6 (.int .i64)) (.norm ⟨[4, 5], padK 6 [some (6, 0)]⟩ (.ret [some (0, 0)])))) .leaf)) (.seq (.seq (.region [(0, { touch := [2] }), (1, { touch := [2] }), (4, { touch := [2] }), (5, { touch := [2] }), (9, { touch := [2] }), (10, { touch := [2] }), (14, { touch := [2] }), (15, { touch := [2] }), (20, { touch := [2] }), (21, { touch := [2] }), (25, { touch := [2] }), (26, { touch := [2] }), (31, { touch := [2] }), (32, { touch := [2] }), (33, { touch := [2] }), (34, { touch := [2] }), (38, { touch := [2] }), (39, { touch := [2] }), (43, { touch := [2] }), (44, { touch := [2] }), (46, { touch := [2] }), (47, { touch := [2] })]) (.cond (.seq .leaf (.co (.empty (.slot 4 []) 6 (.int .i64)) (.norm ⟨[4, 5], padK 6 [some (6, 0)]⟩ (.ret [some (0, 0)])))) .leaf)) (.hole ⟨[0, 3, 6], padK 6 [some (2, 0)]⟩ 5))))))
def p17 (fuel : Nat) : ((List Int) × (Int × (Int × (Int × Int)))) → Option (Int × (List Int)) := fun (x1, x2) => (match p23 fuel (x1, (1 : Int), (12 : Int)) with | some z3 => (bif (!z3) then (some ((171 : Int), ([] : List Int))) else (bif (!decide (x2.1 = (1 : Int))) then (bif (!decide (x2.1 = (2 : Int))) then (some ((172 : Int), ([] : List Int))) else (bif (decide (x2.2.1 < (0 : Int))) then (some ((172 : Int), ([] : List Int))) else (bif (decide (((List.length x1 : Nat) : Int) ≤ x2.2.1)) then (some ((172 : Int), ([] : List Int))) else (bif (decide (x2.2.2.1 < (0 : Int))) then (some ((172 : Int), ([] : List Int))) else (bif (decide (((List.length x1 : Nat) : Int) ≤ x2.2.2.1)) then (some ((172 : Int), ([] : List Int))) else (bif (decide (x2.2.1 = x2.2.2.1)) then (some ((172 : Int), ([] : List Int))) else (bif (decide (x2.2.2.2 < (1 : Int))) then (some ((172 : Int), ([] : List Int))) else (if 0 ≤ x2.2.1 then (match (x1)[Int.toNat x2.2.1]? with | some y4 => (bif (decide (y4 < x2.2.2.2)) then (some ((172 : Int), ([] : List Int))) else (j17_5 fuel (fun (x94, x95) => (some (x94, x95))) (x1, ((List.length x1 : Nat) : Int), x2))) | none => none) else none)))))))) else (bif (decide (x2.2.1 < (0 : Int))) then (some ((172 : Int), ([] : List Int))) else (bif (decide (((List.length x1 : Nat) : Int) ≤ x2.2.1)) then (some ((172 : Int), ([] : List Int))) else (bif (decide (x2.2.2.1 < (0 : Int))) then (some ((172 : Int), ([] : List Int))) else (bif (decide (((List.length x1 : Nat) : Int) ≤ x2.2.2.1)) then (some ((172 : Int), ([] : List Int))) else (bif (decide (x2.2.1 = x2.2.2.1)) then (some ((172 : Int), ([] : List Int))) else (bif (decide (x2.2.2.2 < (1 : Int))) then (some ((172 : Int), ([] : List Int))) else (if 0 ≤ x2.2.1 then (match (x1)[Int.toNat x2.2.1]? with | some y5 => (bif (decide (y5 < x2.2.2.2)) then (some ((172 : Int), ([] : List Int))) else (j17_5 fuel (fun (x96, x97) => (some (x96, x97))) (x1, ((List.length x1 : Nat) : Int), x2))) | none => none) else none))))))))) | none => none)
def F17 (fuel : Nat) : Fun := funOfA fi17 al17 (p17 fuel)
theorem run17 (fuel : Nat) : ∀ y : ((List Int) × (Int × (Int × (Int × Int)))), runF (Int × (List Int)) T (fns17 fuel) fuel (subsOf [sub17_0 fuel (Int × (List Int)), sub17_1 fuel (Int × (List Int)), sub17_2 fuel (Int × (List Int)), sub17_3 fuel (Int × (List Int)), sub17_4 fuel (Int × (List Int)), sub17_5 fuel (Int × (List Int))]) (defOf Try.f17 an17 7 [] []) (fi17.vs y) (fi17.os y) (altsDec al17) = p17 fuel y := by
  rintro ⟨x1, x2⟩
  kernel_rfl
theorem ok17 (fuel : Nat) : FunOk P 17 (funOfA fi17 al17 (p17 fuel)) :=
  funOfA_ok (subs := (subsOf [sub17_0 fuel (Int × (List Int)), sub17_1 fuel (Int × (List Int)), sub17_2 fuel (Int × (List Int)), sub17_3 fuel (Int × (List Int)), sub17_4 fuel (Int × (List Int)), sub17_5 fuel (Int × (List Int))])) (an := an17) (room := 7) (ks := []) (g0 := []) (fuel := fuel) T_ok (fnsOk17 fuel) mixed (fn := Try.f17) (by kernel_rfl) (by kernel_rfl) (subsOk_cons (subOk17_0 fuel _) (subsOk_cons (subOk17_1 fuel _) (subsOk_cons (subOk17_2 fuel _) (subsOk_cons (subOk17_3 fuel _) (subsOk_cons (subOk17_4 fuel _) (subsOk_cons (subOk17_5 fuel _) subsOk_nil)))))) (by kernel_rfl) (fun _ => ⟨by kernel_rfl, by kernel_rfl⟩) (run17 fuel)

-- f18b: tontine/tontineref17.Same
def fns18b (fuel : Nat) : Fns := fnsOf []
theorem fnsOk18b (fuel : Nat) : FnsOk P (fns18b fuel) := fnsOk_nil
def fi18b : Fr := ⟨[.d false (.slice (.int .i64)), .d false (.slice (.int .i64))], [], 0⟩
def al18b : List (Tm × List To) := [(.d true (.bool), [])]
def fx18b_0 : Fr := ⟨[.d true (.bool)], [], 0⟩
def fx18b_1 : Fr := ⟨[], [], 0⟩
def fr18b_0 : Fr := ⟨[.d false (.slice (.int .i64)), .d false (.slice (.int .i64)), .d true (.int .i64)], [], 0⟩
noncomputable def c18b_0 : Code := bodyAt Try.f18 [1, 1, 0, 1, 0]
def s18b_0 (fuel : Nat) {R : Type} (F : ((List Int) × (List Int) × Int) → Option R) (k0 : Bool → Option R) (k1 : Unit → Option R) : ((List Int) × (List Int) × Int) → Option R := fun (x4, x5, x6) => (bif (decide (x6 < ((List.length x4 : Nat) : Int))) then (if 0 ≤ x6 then (match (x4)[Int.toNat x6]? with | some y7 => (if 0 ≤ x6 then (match (x5)[Int.toNat x6]? with | some y8 => (bif (!decide (y7 = y8)) then (k0 false) else (F (x4, x5, (IntKind.wrap .i64 (x6 + (1 : Int)))))) | none => none) else none) | none => none) else none) else (k1 ()))
def l18b_0 (fuel : Nat) {R : Type} (k0 : Bool → Option R) (k1 : Unit → Option R) : Nat → ((List Int) × (List Int) × Int) → Option R
  | 0, _ => none
  | n + 1, x => s18b_0 fuel (l18b_0 fuel k0 k1 n) k0 k1 x
def nm18b_0 : Norm := ⟨[0, 1, 5], padK 0 []⟩
def an18b_0 : AN := (.seq (.seq .leaf (.cond .leaf (.norm ⟨[], padK 0 []⟩ .leaf))) (.seq (.block (.seq .leaf (.cond (.seq .leaf (.norm ⟨[4], padK 0 []⟩ (.ret []))) .leaf))) .leaf))
def al18b_0 : AN := .loop nm18b_0 an18b_0
noncomputable def d18b_0 : Code := bodyAt Try.f18 [1, 1, 0, 1, 0, 0]
theorem e18b_0 (fuel : Nat) {R : Type} (F : St → Option R) (k : AExit → St → Option R) : ∀ x : ((List Int) × (List Int) × Int), runK R T (fns18b fuel) fuel [] (subsOf []) (partOf d18b_0 an18b_0) (fr18b_0.st [0, 1, 5] x) (backTo R [] nm18b_0 F k) = s18b_0 fuel (fun x => F (fr18b_0.st [0, 1, 5] x)) (fun y => k (.ret []) (fx18b_0.st [4] y)) (fun y => k (.exit 0) (fx18b_1.st [] y)) x := by
  rintro ⟨x4, x5, x6⟩
  kernel_rfl
theorem u18b_0 (fuel : Nat) {R : Type} (k : AExit → St → Option R) (x : ((List Int) × (List Int) × Int)) : runK R T (fns18b fuel) fuel [] (subsOf []) (partOf c18b_0 al18b_0) (fr18b_0.st [0, 1, 5] x) k = l18b_0 fuel (fun y => k (.ret []) (fx18b_0.st [4] y)) (fun y => k (.exit 0) (fx18b_1.st [] y)) fuel x :=
  loop_eq (mk := fr18b_0.st [0, 1, 5]) (s := fun F x => s18b_0 fuel F (fun y => k (.ret []) (fx18b_0.st [4] y)) (fun y => k (.exit 0) (fx18b_1.st [] y)) x) (l := fun n x => l18b_0 fuel (fun y => k (.ret []) (fx18b_0.st [4] y)) (fun y => k (.exit 0) (fx18b_1.st [] y)) n x) (d := d18b_0) (by kernel_rfl) (fun G x => by
    revert x
    rintro ⟨x4, x5, x6⟩
    kernel_rfl) (fun F x => e18b_0 fuel F k x) (fun _ => rfl) (fun _ _ => rfl) x
noncomputable def sub18b_0 (fuel : Nat) (R : Type) : Sub R := Sub.of [0, 1, 5] c18b_0 fr18b_0 fun x k => l18b_0 fuel (fun y => k (.ret []) (fx18b_0.st [4] y)) (fun y => k (.exit 0) (fx18b_1.st [] y)) fuel x
theorem subOk18b_0 (fuel : Nat) (R : Type) : SubOk P [] 26 (sub18b_0 fuel R) :=
  subOk_part (fns := (fns18b fuel)) (fuel := fuel) (subs := (subsOf [])) (an := al18b_0) T_ok (fnsOk18b fuel) mixed subsOk_nil (by kernel_rfl) (by kernel_rfl) fun _ _ _ _ h => Sub.of_run (fun (x : ((List Int) × (List Int) × Int)) k => u18b_0 fuel k x) h
def an18b : AN := (.seq .leaf (.seq (.seq .leaf (.cond (.seq .leaf (.norm ⟨[4], padK 0 []⟩ (.ret []))) .leaf)) (.seq (.seq .leaf (.block (.hole ⟨[0, 1, 5], padK 0 []⟩ 0))) (.seq .leaf (.norm ⟨[4], padK 0 []⟩ (.ret []))))))
def p18b (fuel : Nat) : ((List Int) × (List Int)) → Option Bool := fun (x1, x2) => let v3 := (!decide (((List.length x1 : Nat) : Int) = ((List.length x2 : Nat) : Int))); (bif v3 then (some false) else (l18b_0 fuel (fun x9 => (some x9)) (fun _ => (some true)) fuel (x1, x2, (0 : Int))))
def F18b (fuel : Nat) : Fun := funOfA fi18b al18b (p18b fuel)
theorem run18b (fuel : Nat) : ∀ y : ((List Int) × (List Int)), runF Bool T (fns18b fuel) fuel (subsOf [sub18b_0 fuel Bool]) (defOf Try.f18 an18b 0 [] []) (fi18b.vs y) (fi18b.os y) (altsDec al18b) = p18b fuel y := by
  rintro ⟨x1, x2⟩
  kernel_rfl
theorem ok18b (fuel : Nat) : FunOk P 18 (funOfA fi18b al18b (p18b fuel)) :=
  funOfA_ok (subs := (subsOf [sub18b_0 fuel Bool])) (an := an18b) (room := 0) (ks := []) (g0 := []) (fuel := fuel) T_ok (fnsOk18b fuel) mixed (fn := Try.f18) (by kernel_rfl) (by kernel_rfl) (subsOk_cons (subOk18b_0 fuel _) subsOk_nil) (by kernel_rfl) (fun _ => ⟨by kernel_rfl, by kernel_rfl⟩) (run18b fuel)

-- f5: tontine/tontinelaw17.BalancePlans
noncomputable def fns5 (fuel : Nat) : Fns := fnsOf [(7, F7 fuel), (10, F10 fuel), (14, F14 fuel), (15, F15 fuel), (16, F16 fuel), (17, F17 fuel), (18, F18b fuel), (13, F13 fuel)]
theorem fnsOk5 (fuel : Nat) : FnsOk P (fns5 fuel) := (fnsOk_cons (ok7 fuel) (fnsOk_cons (ok10 fuel) (fnsOk_cons (ok14 fuel) (fnsOk_cons (ok15 fuel) (fnsOk_cons (ok16 fuel) (fnsOk_cons (ok17 fuel) (fnsOk_cons (ok18b fuel) (fnsOk_cons (ok13 fuel) fnsOk_nil))))))))
def fi5 : Fr := ⟨[.d true (.slice (.int .i64)), .d false (.pair (.int .i64) (.pair (.int .i64) (.pair (.int .i64) (.int .i64))))], [], 0⟩
def al5 : List (Tm × List To) := [(.d true (.bool), [])]
def fx5_0 : Fr := ⟨[.d true (.slice (.int .i64)), .d true (.bool), .sub 0 0 false, .c (.ptr 1 0 []), .d true (.bool), .d true (.int .i64), .c (.slc 2 0), .d true (.int .i64), .c (.ptr 3 0 []), .d true (.bool), .d true (.int .i64), .d true (.int .i64), .d true (.bool)], [.arr 0 (.int .i64), .box (.d true (.pair (.int .i64) (.pair (.int .i64) (.pair (.int .i64) (.int .i64))))), .arr 0 (.int .i64), .box (.d true (.pair (.int .i64) (.pair (.int .i64) (.pair (.int .i64) (.int .i64)))))], 7⟩
def fr5_0 : Fr := ⟨[.d true (.slice (.int .i64)), .d true (.bool), .sub 0 0 false, .c (.ptr 1 0 []), .d true (.bool), .d true (.int .i64), .c (.slc 2 0), .d true (.int .i64), .c (.ptr 3 0 []), .d true (.bool), .d true (.int .i64), .d true (.int .i64), .d true (.bool), .d true (.int .i64)], [.arr 0 (.int .i64), .box (.d true (.pair (.int .i64) (.pair (.int .i64) (.pair (.int .i64) (.int .i64))))), .arr 0 (.int .i64), .box (.d true (.pair (.int .i64) (.pair (.int .i64) (.pair (.int .i64) (.int .i64)))))], 7⟩
noncomputable def c5_0 : Code := bodyAt Try.f5 [1, 1, 1, 1, 1, 1, 1, 1, 0, 1, 0]
def s5_0 (fuel : Nat) {R : Type} (F : ((List Int) × Bool × Nat × Nat × Bool × Int × Int × Bool × Int × Int × Bool × Int × (List Int) × (Int × (Int × (Int × Int))) × (List Int) × (Int × (Int × (Int × Int)))) → Option R) (k0 : ((List Int) × Bool × Nat × Nat × Bool × Int × Int × Bool × Int × Int × Bool × (List Int) × (Int × (Int × (Int × Int))) × (List Int) × (Int × (Int × (Int × Int)))) → Option R) : ((List Int) × Bool × Nat × Nat × Bool × Int × Int × Bool × Int × Int × Bool × Int × (List Int) × (Int × (Int × (Int × Int))) × (List Int) × (Int × (Int × (Int × Int)))) → Option R := fun (x10, x11, x12, x13, x14, x15, x16, x17, x18, x19, x20, x21, x22, x23, x24, x25) => (bif (decide (x21 < ((List.length x24 : Nat) : Int))) then (if 0 ≤ x21 ∧ x21 < ((List.length x24 : Nat) : Int) then (match (x24)[(Int.toNat x21)]? with | some y26 => (F (x10, x11, x12, x13, x14, x15, x16, x17, x18, x19, x20, (IntKind.wrap .i64 (x21 + (1 : Int))), x22, x23, (List.set x24 (Int.toNat x21) (-1 : Int)), x25)) | none => none) else none) else (k0 (x10, x11, x12, x13, x14, x15, x16, x17, x18, x19, x20, x22, x23, x24, x25)))
def l5_0 (fuel : Nat) {R : Type} (k0 : ((List Int) × Bool × Nat × Nat × Bool × Int × Int × Bool × Int × Int × Bool × (List Int) × (Int × (Int × (Int × Int))) × (List Int) × (Int × (Int × (Int × Int)))) → Option R) : Nat → ((List Int) × Bool × Nat × Nat × Bool × Int × Int × Bool × Int × Int × Bool × Int × (List Int) × (Int × (Int × (Int × Int))) × (List Int) × (Int × (Int × (Int × Int)))) → Option R
  | 0, _ => none
  | n + 1, x => s5_0 fuel (l5_0 fuel k0 n) k0 x
def nm5_0 : Norm := ⟨[0, 5, 6, 7, 8, 9, 10, 11, 12, 13, 14, 16, 17, 18], padK 7 [some (0, 0), some (1, 0), some (2, 0), some (3, 0)]⟩
def an5_0 : AN := (.seq (.seq (.region [(2, { touch := [2] })]) (.cond .leaf (.norm ⟨[0, 5, 6, 7, 8, 9, 10, 11, 12, 13, 14, 16, 17], padK 7 [some (0, 0), some (1, 0), some (2, 0), some (3, 0)]⟩ .leaf))) (.seq (.block (.region [(2, { touch := [2] }), (3, { touch := [2], ro := false })])) .leaf))
def al5_0 : AN := .loop nm5_0 an5_0
noncomputable def d5_0 : Code := bodyAt Try.f5 [1, 1, 1, 1, 1, 1, 1, 1, 0, 1, 0, 0]
theorem e5_0 (fuel : Nat) {R : Type} (F : St → Option R) (k : AExit → St → Option R) : ∀ x : ((List Int) × Bool × Nat × Nat × Bool × Int × Int × Bool × Int × Int × Bool × Int × (List Int) × (Int × (Int × (Int × Int))) × (List Int) × (Int × (Int × (Int × Int)))), runK R T (fns5 fuel) fuel [] (subsOf []) (partOf d5_0 an5_0) (fr5_0.st [0, 5, 6, 7, 8, 9, 10, 11, 12, 13, 14, 16, 17, 18] x) (backTo R [] nm5_0 F k) = s5_0 fuel (fun x => F (fr5_0.st [0, 5, 6, 7, 8, 9, 10, 11, 12, 13, 14, 16, 17, 18] x)) (fun y => k (.exit 0) (fx5_0.st [0, 5, 6, 7, 8, 9, 10, 11, 12, 13, 14, 16, 17] y)) x := by
  rintro ⟨x10, x11, x12, x13, x14, x15, x16, x17, x18, x19, x20, x21, x22, x23, x24, x25⟩
  kernel_rfl
theorem u5_0 (fuel : Nat) {R : Type} (k : AExit → St → Option R) (x : ((List Int) × Bool × Nat × Nat × Bool × Int × Int × Bool × Int × Int × Bool × Int × (List Int) × (Int × (Int × (Int × Int))) × (List Int) × (Int × (Int × (Int × Int))))) : runK R T (fns5 fuel) fuel [] (subsOf []) (partOf c5_0 al5_0) (fr5_0.st [0, 5, 6, 7, 8, 9, 10, 11, 12, 13, 14, 16, 17, 18] x) k = l5_0 fuel (fun y => k (.exit 0) (fx5_0.st [0, 5, 6, 7, 8, 9, 10, 11, 12, 13, 14, 16, 17] y)) fuel x :=
  loop_eq (mk := fr5_0.st [0, 5, 6, 7, 8, 9, 10, 11, 12, 13, 14, 16, 17, 18]) (s := fun F x => s5_0 fuel F (fun y => k (.exit 0) (fx5_0.st [0, 5, 6, 7, 8, 9, 10, 11, 12, 13, 14, 16, 17] y)) x) (l := fun n x => l5_0 fuel (fun y => k (.exit 0) (fx5_0.st [0, 5, 6, 7, 8, 9, 10, 11, 12, 13, 14, 16, 17] y)) n x) (d := d5_0) (by kernel_rfl) (fun G x => by
    revert x
    rintro ⟨x10, x11, x12, x13, x14, x15, x16, x17, x18, x19, x20, x21, x22, x23, x24, x25⟩
    kernel_rfl) (fun F x => e5_0 fuel F k x) (fun _ => rfl) (fun _ _ => rfl) x
noncomputable def sub5_0 (fuel : Nat) (R : Type) : Sub R := Sub.of [0, 5, 6, 7, 8, 9, 10, 11, 12, 13, 14, 16, 17, 18] c5_0 fr5_0 fun x k => l5_0 fuel (fun y => k (.exit 0) (fx5_0.st [0, 5, 6, 7, 8, 9, 10, 11, 12, 13, 14, 16, 17] y)) fuel x
theorem subOk5_0 (fuel : Nat) (R : Type) : SubOk P [] 92 (sub5_0 fuel R) :=
  subOk_part (fns := (fns5 fuel)) (fuel := fuel) (subs := (subsOf [])) (an := al5_0) T_ok (fnsOk5 fuel) mixed subsOk_nil (by kernel_rfl) (by kernel_rfl) fun _ _ _ _ h => Sub.of_run (fun (x : ((List Int) × Bool × Nat × Nat × Bool × Int × Int × Bool × Int × Int × Bool × Int × (List Int) × (Int × (Int × (Int × Int))) × (List Int) × (Int × (Int × (Int × Int))))) k => u5_0 fuel k x) h
def an5 : AN := (.seq (.region [(0, { touch := [4], base := 4, ro := false })]) (.seq .leaf (.seq (.region [(1, { touch := [5], base := 5, ro := false, fresh := 1 })]) (.seq (.region [(1, { touch := [5], lend := [some (.slice (.int .i64))] }), (6, { touch := [6], base := 6, ro := false }), (7, { touch := [6], ro := false })]) (.seq (.region [(1, { touch := [4] }), (2, { touch := [5, 7], base := 7, ro := false, fresh := 1, lend := [some (.slice (.int .i64)), none] })]) (.seq (.region [(6, { touch := [8], base := 8, ro := false }), (7, { touch := [8], ro := false })]) (.seq (.region [(1, { touch := [4] }), (2, { touch := [9], base := 9, ro := false, fresh := 1 })]) (.seq (.region [(2, { touch := [7, 9], lend := [some (.slice (.int .i64)), some (.slice (.int .i64))] })]) (.seq (.seq .leaf (.block (.hole ⟨[0, 5, 6, 7, 8, 9, 10, 11, 12, 13, 14, 16, 17, 18], padK 7 [some (5, 0), some (6, 0), some (7, 0), some (8, 0)]⟩ 0))) (.seq (.region [(1, { touch := [10], base := 10, ro := false }), (2, { touch := [2, 10], ro := false })]) (.seq (.region [(2, { touch := [0], ro := false, loc := [0] })]) (.seq (.region [(8, { touch := [1] }), (9, { touch := [3] })]) (.norm ⟨[4], padK 11 []⟩ (.ret []))))))))))))))
noncomputable def p5 (fuel : Nat) : ((List Int) × (Int × (Int × (Int × Int)))) → Option Bool := fun (x1, x2) => (match p7 fuel () with | some z3 => (match p10 fuel x1 with | some z4 => (match p14 fuel (List.take z4.2.1 (List.drop z4.1 z4.2.2)) with | some z5 => (match p15 fuel ((List.take z4.2.1 (List.drop z4.1 z4.2.2)), x2) with | some z6 => (match p16 fuel x1 with | some z7 => (match p17 fuel (x1, x2) with | some z8 => (match p18b fuel (z6.2, z8.2) with | some z9 => (l5_0 fuel (fun (x27, x28, x29, x30, x31, x32, x33, x34, x35, x36, x37, x38, x39, x40, x41) => (if (List.length x40 + List.length [(-1 : Int), (-1 : Int)]) * 8 ≤ 140737488355328 then (match p13 fuel (x29, x30, x27, x38) with | some z42 => (bif x28 then (bif x37 then (bif z42.1 then let v43 := (Ty.eqB (.pair (.int .i64) (.pair (.int .i64) (.pair (.int .i64) (.int .i64)))) x39 x41); (bif v43 then (bif (x31 == x34) then (bif (decide (x32 = x35)) then (some (decide (x33 = x36))) else (some false)) else (some false)) else (some false)) else (some false)) else (some false)) else (some false)) | none => none) else none)) fuel (x1, z3, z4.1, z4.2.1, z5.2.1, z5.2.2, z6.1, z7.2.1, z7.2.2, z8.1, z9, (0 : Int), z4.2.2, z5.1, z6.2, z7.1)) | none => none) | none => none) | none => none) | none => none) | none => none) | none => none) | none => none)
noncomputable def F5 (fuel : Nat) : Fun := funOfA fi5 al5 (p5 fuel)
theorem run5 (fuel : Nat) : ∀ y : ((List Int) × (Int × (Int × (Int × Int)))), runF Bool T (fns5 fuel) fuel (subsOf [sub5_0 fuel Bool]) (defOf Try.f5 an5 11 [] []) (fi5.vs y) (fi5.os y) (altsDec al5) = p5 fuel y := by
  rintro ⟨x1, x2⟩
  kernel_rfl
theorem ok5 (fuel : Nat) : FunOk P 5 (funOfA fi5 al5 (p5 fuel)) :=
  funOfA_ok (subs := (subsOf [sub5_0 fuel Bool])) (an := an5) (room := 11) (ks := []) (g0 := []) (fuel := fuel) T_ok (fnsOk5 fuel) mixed (fn := Try.f5) (by kernel_rfl) (by kernel_rfl) (subsOk_cons (subOk5_0 fuel _) subsOk_nil) (by kernel_rfl) (fun _ => ⟨by kernel_rfl, by kernel_rfl⟩) (run5 fuel)

-- f19: tontine/balance.Settle
noncomputable def fns19 (fuel : Nat) : Fns := fnsOf [(22, F22 fuel), (29, F29 fuel), (14, F14 fuel), (15, F15 fuel)]
theorem fnsOk19 (fuel : Nat) : FnsOk P (fns19 fuel) := (fnsOk_cons (ok22 fuel) (fnsOk_cons (ok29 fuel) (fnsOk_cons (ok14 fuel) (fnsOk_cons (ok15 fuel) fnsOk_nil))))
def fi19 : Fr := ⟨[.d false (.slice (.int .i64))], [], 0⟩
def al19 : List (Tm × List To) := [(.tup (.cons (.c (.slc 0 0)) (.cons (.c (.slc 1 0)) (.cons (.d true (.int .i64)) (.c .nil)))), [.arr 0 (.pair (.int .i64) (.pair (.int .i64) (.pair (.int .i64) (.int .i64)))), .arr 0 (.int .i64)])]
def fx19_0 : Fr := ⟨[.c (.slc 0 0), .c (.slc 1 0), .d true (.int .i64)], [.arr 0 (.pair (.int .i64) (.pair (.int .i64) (.pair (.int .i64) (.int .i64)))), .arr 0 (.int .i64)], 6⟩
def fr19_0 : Fr := ⟨[.c (.slc 0 0), .c (.slc 1 0)], [.arr 0 (.pair (.int .i64) (.pair (.int .i64) (.pair (.int .i64) (.int .i64)))), .arr 0 (.int .i64)], 6⟩
noncomputable def c19_0 : Code := bodyAt Try.f19 [1, 1, 1, 1, 0]
noncomputable def s19_0 (fuel : Nat) {R : Type} (F : ((List (Int × (Int × (Int × Int)))) × (List Int)) → Option R) (k0 : (Int × (List (Int × (Int × (Int × Int)))) × (List Int)) → Option R) : ((List (Int × (Int × (Int × Int)))) × (List Int)) → Option R := fun (x4, x5) => (match p14 fuel x5 with | some z6 => (bif (!z6.2.1) then (k0 ((0 : Int), x4, x5)) else (if (List.length x4 + List.length [z6.1]) * 32 ≤ 140737488355328 then (match p15 fuel (x5, z6.1) with | some z7 => (F ((x4 ++ [z6.1]), z7.2)) | none => none) else none)) | none => none)
noncomputable def l19_0 (fuel : Nat) {R : Type} (k0 : (Int × (List (Int × (Int × (Int × Int)))) × (List Int)) → Option R) : Nat → ((List (Int × (Int × (Int × Int)))) × (List Int)) → Option R
  | 0, _ => none
  | n + 1, x => s19_0 fuel (l19_0 fuel k0 n) k0 x
def nm19_0 : Norm := ⟨[5, 6], padK 6 [some (0, 0), some (1, 0)]⟩
def an19_0 : AN := (.fin ⟨[5, 6], padK 6 [some (0, 0), some (5, 0)]⟩ (.block (.seq (.region [(1, { touch := [1], lend := [some (.slice (.int .i64))] }), (6, { touch := [3], base := 3, ro := false }), (7, { touch := [3], ro := false })]) (.seq (.seq .leaf (.cond (.seq .leaf (.norm ⟨[2, 3, 4], padK 6 [some (0, 0), some (1, 0)]⟩ (.ret [some (0, 0), some (1, 0)]))) .leaf)) (.seq (.region [(1, { touch := [3] }), (2, { touch := [4], base := 4, ro := false }), (3, { touch := [0, 4], ro := false })]) (.region [(1, { touch := [3] }), (2, { touch := [1, 5], base := 5, ro := false, fresh := 1, lend := [some (.slice (.int .i64)), none] })]))))))
def al19_0 : AN := .loop nm19_0 an19_0
noncomputable def d19_0 : Code := bodyAt Try.f19 [1, 1, 1, 1, 0, 0]
theorem e19_0 (fuel : Nat) {R : Type} (F : St → Option R) (k : AExit → St → Option R) : ∀ x : ((List (Int × (Int × (Int × Int)))) × (List Int)), runK R T (fns19 fuel) fuel [] (subsOf []) (partOf d19_0 an19_0) (fr19_0.st [5, 6] x) (backTo R [] nm19_0 F k) = s19_0 fuel (fun x => F (fr19_0.st [5, 6] x)) (fun y => k (.ret [some (0, 0), some (1, 0)]) (fx19_0.st [2, 3, 4] y)) x := by
  rintro ⟨x4, x5⟩
  kernel_rfl
theorem u19_0 (fuel : Nat) {R : Type} (k : AExit → St → Option R) (x : ((List (Int × (Int × (Int × Int)))) × (List Int))) : runK R T (fns19 fuel) fuel [] (subsOf []) (partOf c19_0 al19_0) (fr19_0.st [5, 6] x) k = l19_0 fuel (fun y => k (.ret [some (0, 0), some (1, 0)]) (fx19_0.st [2, 3, 4] y)) fuel x :=
  loop_eq (mk := fr19_0.st [5, 6]) (s := fun F x => s19_0 fuel F (fun y => k (.ret [some (0, 0), some (1, 0)]) (fx19_0.st [2, 3, 4] y)) x) (l := fun n x => l19_0 fuel (fun y => k (.ret [some (0, 0), some (1, 0)]) (fx19_0.st [2, 3, 4] y)) n x) (d := d19_0) (by kernel_rfl) (fun G x => by
    revert x
    rintro ⟨x4, x5⟩
    kernel_rfl) (fun F x => e19_0 fuel F k x) (fun _ => rfl) (fun _ _ => rfl) x
noncomputable def sub19_0 (fuel : Nat) (R : Type) : Sub R := Sub.of [5, 6] c19_0 fr19_0 fun x k => l19_0 fuel (fun y => k (.ret [some (0, 0), some (1, 0)]) (fx19_0.st [2, 3, 4] y)) fuel x
theorem subOk19_0 (fuel : Nat) (R : Type) : SubOk P [] 35 (sub19_0 fuel R) :=
  subOk_part (fns := (fns19 fuel)) (fuel := fuel) (subs := (subsOf [])) (an := al19_0) T_ok (fnsOk19 fuel) mixed subsOk_nil (by kernel_rfl) (by kernel_rfl) fun _ _ _ _ h => Sub.of_run (fun (x : ((List (Int × (Int × (Int × Int)))) × (List Int))) k => u19_0 fuel k x) h
def an19 : AN := (.seq .leaf (.seq (.seq .leaf (.cond (.seq .leaf (.co (.empty (.slot 2 []) 6 (.pair (.int .i64) (.pair (.int .i64) (.pair (.int .i64) (.int .i64))))) (.co (.empty (.slot 3 []) 7 (.int .i64)) (.norm ⟨[2, 3, 4], padK 6 [some (6, 0), some (7, 0)]⟩ (.ret [some (0, 0), some (1, 0)]))))) .leaf)) (.seq .leaf (.seq (.region [(1, { touch := [2], base := 2, ro := false, fresh := 1 })]) (.block (.co (.empty (.slot 5 []) 6 (.pair (.int .i64) (.pair (.int .i64) (.pair (.int .i64) (.int .i64))))) (.hole ⟨[5, 6], padK 6 [some (6, 0), some (2, 0)]⟩ 0)))))))
noncomputable def p19 (fuel : Nat) : (List Int) → Option (Int × (List (Int × (Int × (Int × Int)))) × (List Int)) := fun x1 => (match p22 fuel (x1, (1 : Int), (12 : Int)) with | some z2 => (bif (!z2) then (some ((171 : Int), ([] : List (Int × (Int × (Int × Int)))), ([] : List Int))) else (match p29 fuel x1 with | some z3 => (l19_0 fuel (fun (x8, x9, x10) => (some (x8, x9, x10))) fuel (([] : List (Int × (Int × (Int × Int)))), z3)) | none => none)) | none => none)
noncomputable def F19 (fuel : Nat) : Fun := funOfA fi19 al19 (p19 fuel)
theorem run19 (fuel : Nat) : ∀ y : (List Int), runF (Int × (List (Int × (Int × (Int × Int)))) × (List Int)) T (fns19 fuel) fuel (subsOf [sub19_0 fuel (Int × (List (Int × (Int × (Int × Int)))) × (List Int))]) (defOf Try.f19 an19 8 [] []) (fi19.vs y) (fi19.os y) (altsDec al19) = p19 fuel y := by
  rintro x1
  kernel_rfl
theorem ok19 (fuel : Nat) : FunOk P 19 (funOfA fi19 al19 (p19 fuel)) :=
  funOfA_ok (subs := (subsOf [sub19_0 fuel (Int × (List (Int × (Int × (Int × Int)))) × (List Int))])) (an := an19) (room := 8) (ks := []) (g0 := []) (fuel := fuel) T_ok (fnsOk19 fuel) mixed (fn := Try.f19) (by kernel_rfl) (by kernel_rfl) (subsOk_cons (subOk19_0 fuel _) subsOk_nil) (by kernel_rfl) (fun _ => ⟨by kernel_rfl, by kernel_rfl⟩) (run19 fuel)

-- f36b: slices.IndexFunc[[]int,int]
def fns36b (fuel : Nat) : Fns := fnsOf [(35, F35 fuel)]
theorem fnsOk36b (fuel : Nat) : FnsOk P (fns36b fuel) := (fnsOk_cons (ok35 fuel) fnsOk_nil)
def fi36b : Fr := ⟨[.d true (.slice (.int .i64)), .c (.fn 35 .nil)], [], 0⟩
def al36b : List (Tm × List To) := [(.d true (.int .i64), [])]
def fx36b_0 : Fr := ⟨[.d true (.int .i64)], [], 0⟩
def fx36b_1 : Fr := ⟨[], [], 0⟩
def fr36b_0 : Fr := ⟨[.d true (.slice (.int .i64)), .c (.fn 35 .nil), .d true (.int .i64), .d true (.int .i64)], [], 0⟩
noncomputable def c36b_0 : Code := bodyAt Try.f36 [1, 0, 1, 0]
def s36b_0 (fuel : Nat) {R : Type} (F : ((List Int) × Int × Int) → Option R) (k0 : Int → Option R) (k1 : Unit → Option R) : ((List Int) × Int × Int) → Option R := fun (x2, x3, x4) => (bif (decide (x4 < x3)) then (if 0 ≤ x4 then (match (x2)[Int.toNat x4]? with | some y5 => (match p35 fuel y5 with | some z6 => (bif z6 then (k0 x4) else (F (x2, x3, (IntKind.wrap .i64 (x4 + (1 : Int)))))) | none => none) | none => none) else none) else (k1 ()))
def l36b_0 (fuel : Nat) {R : Type} (k0 : Int → Option R) (k1 : Unit → Option R) : Nat → ((List Int) × Int × Int) → Option R
  | 0, _ => none
  | n + 1, x => s36b_0 fuel (l36b_0 fuel k0 k1 n) k0 k1 x
def nm36b_0 : Norm := ⟨[0, 1, 7, 8], padK 0 []⟩
def an36b_0 : AN := (.seq .leaf (.seq (.cond .leaf (.norm ⟨[], padK 0 []⟩ .leaf)) (.seq (.block (.seq .leaf (.seq .leaf (.cond (.seq .leaf (.norm ⟨[4], padK 0 []⟩ (.ret []))) .leaf)))) .leaf)))
def al36b_0 : AN := .loop nm36b_0 an36b_0
noncomputable def d36b_0 : Code := bodyAt Try.f36 [1, 0, 1, 0, 0]
theorem e36b_0 (fuel : Nat) {R : Type} (F : St → Option R) (k : AExit → St → Option R) : ∀ x : ((List Int) × Int × Int), runK R T (fns36b fuel) fuel [] (subsOf []) (partOf d36b_0 an36b_0) (fr36b_0.st [0, 1, 7, 8] x) (backTo R [] nm36b_0 F k) = s36b_0 fuel (fun x => F (fr36b_0.st [0, 1, 7, 8] x)) (fun y => k (.ret []) (fx36b_0.st [4] y)) (fun y => k (.exit 0) (fx36b_1.st [] y)) x := by
  rintro ⟨x2, x3, x4⟩
  kernel_rfl
theorem u36b_0 (fuel : Nat) {R : Type} (k : AExit → St → Option R) (x : ((List Int) × Int × Int)) : runK R T (fns36b fuel) fuel [] (subsOf []) (partOf c36b_0 al36b_0) (fr36b_0.st [0, 1, 7, 8] x) k = l36b_0 fuel (fun y => k (.ret []) (fx36b_0.st [4] y)) (fun y => k (.exit 0) (fx36b_1.st [] y)) fuel x :=
  loop_eq (mk := fr36b_0.st [0, 1, 7, 8]) (s := fun F x => s36b_0 fuel F (fun y => k (.ret []) (fx36b_0.st [4] y)) (fun y => k (.exit 0) (fx36b_1.st [] y)) x) (l := fun n x => l36b_0 fuel (fun y => k (.ret []) (fx36b_0.st [4] y)) (fun y => k (.exit 0) (fx36b_1.st [] y)) n x) (d := d36b_0) (by kernel_rfl) (fun G x => by
    revert x
    rintro ⟨x2, x3, x4⟩
    kernel_rfl) (fun F x => e36b_0 fuel F k x) (fun _ => rfl) (fun _ _ => rfl) x
noncomputable def sub36b_0 (fuel : Nat) (R : Type) : Sub R := Sub.of [0, 1, 7, 8] c36b_0 fr36b_0 fun x k => l36b_0 fuel (fun y => k (.ret []) (fx36b_0.st [4] y)) (fun y => k (.exit 0) (fx36b_1.st [] y)) fuel x
theorem subOk36b_0 (fuel : Nat) (R : Type) : SubOk P [] 19 (sub36b_0 fuel R) :=
  subOk_part (fns := (fns36b fuel)) (fuel := fuel) (subs := (subsOf [])) (an := al36b_0) T_ok (fnsOk36b fuel) mixed subsOk_nil (by kernel_rfl) (by kernel_rfl) fun _ _ _ _ h => Sub.of_run (fun (x : ((List Int) × Int × Int)) k => u36b_0 fuel k x) h
def an36b : AN := (.seq .leaf (.seq (.seq .leaf (.block (.hole ⟨[0, 1, 7, 8], padK 0 []⟩ 0))) (.seq .leaf (.norm ⟨[4], padK 0 []⟩ (.ret [])))))
def p36b (fuel : Nat) : (List Int) → Option Int := fun x1 => (l36b_0 fuel (fun x7 => (some x7)) (fun _ => (some (-1 : Int))) fuel (x1, ((List.length x1 : Nat) : Int), (0 : Int)))
def F36b (fuel : Nat) : Fun := funOfA fi36b al36b (p36b fuel)
theorem run36b (fuel : Nat) : ∀ y : (List Int), runF Int T (fns36b fuel) fuel (subsOf [sub36b_0 fuel Int]) (defOf Try.f36 an36b 0 [] []) (fi36b.vs y) (fi36b.os y) (altsDec al36b) = p36b fuel y := by
  rintro x1
  kernel_rfl
theorem ok36b (fuel : Nat) : FunOk P 36 (funOfA fi36b al36b (p36b fuel)) :=
  funOfA_ok (subs := (subsOf [sub36b_0 fuel Int])) (an := an36b) (room := 0) (ks := []) (g0 := []) (fuel := fuel) T_ok (fnsOk36b fuel) mixed (fn := Try.f36) (by kernel_rfl) (by kernel_rfl) (subsOk_cons (subOk36b_0 fuel _) subsOk_nil) (by kernel_rfl) (fun _ => ⟨by kernel_rfl, by kernel_rfl⟩) (run36b fuel)

-- f34b: slices.ContainsFunc[[]int,int]
def fns34b (fuel : Nat) : Fns := fnsOf [(36, F36b fuel)]
theorem fnsOk34b (fuel : Nat) : FnsOk P (fns34b fuel) := (fnsOk_cons (ok36b fuel) fnsOk_nil)
def fi34b : Fr := ⟨[.d true (.slice (.int .i64)), .c (.fn 35 .nil)], [], 0⟩
def al34b : List (Tm × List To) := [(.d true (.bool), [])]
def an34b : AN := (.seq .leaf (.seq .leaf (.norm ⟨[4], padK 0 []⟩ (.ret []))))
def p34b (fuel : Nat) : (List Int) → Option Bool := fun x1 => (match p36b fuel x1 with | some z2 => (some (decide ((0 : Int) ≤ z2))) | none => none)
def F34b (fuel : Nat) : Fun := funOfA fi34b al34b (p34b fuel)
theorem run34b (fuel : Nat) : ∀ y : (List Int), runF Bool T (fns34b fuel) fuel (subsOf []) (defOf Try.f34 an34b 0 [] []) (fi34b.vs y) (fi34b.os y) (altsDec al34b) = p34b fuel y := by
  rintro x1
  kernel_rfl
theorem ok34b (fuel : Nat) : FunOk P 34 (funOfA fi34b al34b (p34b fuel)) :=
  funOfA_ok (subs := (subsOf [])) (an := an34b) (room := 0) (ks := []) (g0 := []) (fuel := fuel) T_ok (fnsOk34b fuel) mixed (fn := Try.f34) (by kernel_rfl) (by kernel_rfl) subsOk_nil (by kernel_rfl) (fun _ => ⟨by kernel_rfl, by kernel_rfl⟩) (run34b fuel)

-- f22b: tontine/balance.fair
def fns22b (fuel : Nat) : Fns := fnsOf [(34, F34b fuel)]
theorem fnsOk22b (fuel : Nat) : FnsOk P (fns22b fuel) := (fnsOk_cons (ok34b fuel) fnsOk_nil)
def fi22b : Fr := ⟨[.d true (.slice (.int .i64)), .d false (.int .i64), .d false (.int .i64)], [], 0⟩
def al22b : List (Tm × List To) := [(.d true (.bool), [])]
def an22b : AN := (.seq .leaf (.seq .leaf (.norm ⟨[6], padK 0 []⟩ (.ret []))))
def p22b (fuel : Nat) : ((List Int) × Int × Int) → Option Bool := fun (x1, x2, x3) => (bif (decide (x2 ≤ ((List.length x1 : Nat) : Int))) then (bif (decide (((List.length x1 : Nat) : Int) ≤ x3)) then (match p34b fuel x1 with | some z4 => (some (!z4)) | none => none) else (some false)) else (some false))
def F22b (fuel : Nat) : Fun := funOfA fi22b al22b (p22b fuel)
theorem run22b (fuel : Nat) : ∀ y : ((List Int) × Int × Int), runF Bool T (fns22b fuel) fuel (subsOf []) (defOf Try.f22 an22b 0 [] []) (fi22b.vs y) (fi22b.os y) (altsDec al22b) = p22b fuel y := by
  rintro ⟨x1, x2, x3⟩
  kernel_rfl
theorem ok22b (fuel : Nat) : FunOk P 22 (funOfA fi22b al22b (p22b fuel)) :=
  funOfA_ok (subs := (subsOf [])) (an := an22b) (room := 0) (ks := []) (g0 := []) (fuel := fuel) T_ok (fnsOk22b fuel) mixed (fn := Try.f22) (by kernel_rfl) (by kernel_rfl) subsOk_nil (by kernel_rfl) (fun _ => ⟨by kernel_rfl, by kernel_rfl⟩) (run22b fuel)

-- f28b: tontine/balance.may
def fns28b (fuel : Nat) : Fns := fnsOf [(27, F27 fuel)]
theorem fnsOk28b (fuel : Nat) : FnsOk P (fns28b fuel) := (fnsOk_cons (ok27 fuel) fnsOk_nil)
def fi28b : Fr := ⟨[.d true (.slice (.int .i64)), .d false (.pair (.int .i64) (.pair (.int .i64) (.pair (.int .i64) (.int .i64))))], [], 0⟩
def al28b : List (Tm × List To) := [(.d true (.bool), [])]
def an28b : AN := (.seq (.region [(0, { touch := [1], base := 1, ro := false })]) (.seq .leaf (.seq (.seq (.region [(0, { touch := [1] }), (1, { touch := [1] }), (4, { touch := [1] }), (5, { touch := [1] }), (10, { touch := [1] }), (11, { touch := [1] }), (15, { touch := [1] }), (16, { touch := [1] }), (21, { touch := [1] }), (22, { touch := [1] }), (23, { touch := [1] }), (24, { touch := [1] }), (28, { touch := [1] }), (29, { touch := [1] }), (33, { touch := [1] }), (34, { touch := [1] }), (36, { touch := [1] }), (37, { touch := [1] })]) (.cond (.seq .leaf (.norm ⟨[4], padK 2 []⟩ (.ret []))) .leaf)) (.seq (.seq (.region [(0, { touch := [1] }), (1, { touch := [1] }), (2, { touch := [1] }), (3, { touch := [1] })]) (.seq (.region [(0, { touch := [1] }), (1, { touch := [1] })]) (.block (.seq .leaf (.cond (.seq (.region [(2, { touch := [1] }), (3, { touch := [1] }), (5, { touch := [1] }), (6, { touch := [1] })]) (.norm ⟨[4], padK 2 []⟩ (.ret []))) (.seq .leaf (.cond (.seq (.region [(4, { touch := [1] }), (5, { touch := [1] }), (9, { touch := [1] }), (10, { touch := [1] })]) (.norm ⟨[4], padK 2 []⟩ (.ret []))) .leaf))))))) (.seq .leaf (.norm ⟨[4], padK 2 []⟩ (.ret [])))))))
def p28b (fuel : Nat) : ((List Int) × (Int × (Int × (Int × Int)))) → Option Bool := fun (x1, x2) => (bif (decide (x2.2.1 < (0 : Int))) then (some false) else (bif (decide (((List.length x1 : Nat) : Int) ≤ x2.2.1)) then (some false) else (bif (decide (x2.2.2.1 < (0 : Int))) then (some false) else (bif (decide (((List.length x1 : Nat) : Int) ≤ x2.2.2.1)) then (some false) else (bif (decide (x2.2.1 = x2.2.2.1)) then (some false) else (bif (decide (x2.2.2.2 < (1 : Int))) then (some false) else (if 0 ≤ x2.2.1 then (match (x1)[Int.toNat x2.2.1]? with | some y3 => (bif (decide (y3 < x2.2.2.2)) then (some false) else (match p27 fuel (x2.2.1, x2.2.2.1, ((List.length x1 : Nat) : Int)) with | some z4 => (bif (decide (x2.1 = (1 : Int))) then (bif z4 then (if 0 ≤ x2.2.2.1 then (match (x1)[Int.toNat x2.2.2.1]? with | some y5 => (some (decide (x2.2.2.2 ≤ (IntKind.wrap .i64 ((2147483647 : Int) - y5))))) | none => none) else none) else (some false)) else (bif (decide (x2.1 = (2 : Int))) then (bif (!z4) then (if 0 ≤ x2.2.2.1 then (match (x1)[Int.toNat x2.2.2.1]? with | some y6 => (if ((List.length x1 : Nat) : Int) = 0 then none else let v7 := (Int.tmod (IntKind.wrap .i64 (x2.2.2.1 + (1 : Int))) ((List.length x1 : Nat) : Int)); (if 0 ≤ v7 then (match (x1)[Int.toNat v7]? with | some y8 => (some (decide (y6 ≤ (IntKind.wrap .i64 ((2147483647 : Int) - y8))))) | none => none) else none)) | none => none) else none) else (some false)) else (some false))) | none => none)) | none => none) else none)))))))
def F28b (fuel : Nat) : Fun := funOfA fi28b al28b (p28b fuel)
theorem run28b (fuel : Nat) : ∀ y : ((List Int) × (Int × (Int × (Int × Int)))), runF Bool T (fns28b fuel) fuel (subsOf []) (defOf Try.f28 an28b 2 [] []) (fi28b.vs y) (fi28b.os y) (altsDec al28b) = p28b fuel y := by
  rintro ⟨x1, x2⟩
  kernel_rfl
theorem ok28b (fuel : Nat) : FunOk P 28 (funOfA fi28b al28b (p28b fuel)) :=
  funOfA_ok (subs := (subsOf [])) (an := an28b) (room := 2) (ks := []) (g0 := []) (fuel := fuel) T_ok (fnsOk28b fuel) mixed (fn := Try.f28) (by kernel_rfl) (by kernel_rfl) subsOk_nil (by kernel_rfl) (fun _ => ⟨by kernel_rfl, by kernel_rfl⟩) (run28b fuel)

-- f29b: slices.Clone[[]int,int]
def fns29b (fuel : Nat) : Fns := fnsOf []
theorem fnsOk29b (fuel : Nat) : FnsOk P (fns29b fuel) := fnsOk_nil
def fi29b : Fr := ⟨[.d true (.slice (.int .i64))], [], 0⟩
def al29b : List (Tm × List To) := [(.c (.slc 0 0), [.arr 0 (.int .i64)])]
def fx29b_0 : Fr := ⟨[.c (.slc 0 0)], [.arr 0 (.int .i64)], 2⟩
def fr29b_0 : Fr := ⟨[.d true (.slice (.int .i64))], [], 3⟩
noncomputable def c29b_0 : Code := bodyAt Try.f29 [1, 1]
def j29b_0 (fuel : Nat) {R : Type} (k0 : (List Int) → Option R) : (List Int) → Option R := fun x2 => (if (List.length ([] : List Int) + List.length x2) * 8 ≤ 140737488355328 then (k0 (([] : List Int) ++ x2)) else none)
def al29b_0 : AN := (.seq (.region [(0, { touch := [1], base := 1, ro := false }), (2, { touch := [1], ro := false })]) (.norm ⟨[2], padK 2 [some (1, 0)]⟩ (.ret [some (0, 0)])))
theorem u29b_0 (fuel : Nat) {R : Type} (k : AExit → St → Option R) : ∀ x : (List Int), runK R T (fns29b fuel) fuel [] (subsOf []) (partOf c29b_0 al29b_0) (fr29b_0.st [0] x) k = j29b_0 fuel (fun y => k (.ret [some (0, 0)]) (fx29b_0.st [2] y)) x := by
  rintro x2
  kernel_rfl
noncomputable def sub29b_0 (fuel : Nat) (R : Type) : Sub R := Sub.of [0] c29b_0 fr29b_0 fun x k => j29b_0 fuel (fun y => k (.ret [some (0, 0)]) (fx29b_0.st [2] y)) x
theorem subOk29b_0 (fuel : Nat) (R : Type) : SubOk P [] 8 (sub29b_0 fuel R) :=
  subOk_part (fns := (fns29b fuel)) (fuel := fuel) (subs := (subsOf [])) (an := al29b_0) T_ok (fnsOk29b fuel) mixed subsOk_nil (by kernel_rfl) (by kernel_rfl) fun _ _ _ _ h => Sub.of_run (fun (x : (List Int)) k => u29b_0 fuel k x) h
def an29b : AN := (.seq .leaf (.seq (.seq (.wild 1 []) (.cond (.seq .leaf (.co (.empty (.slot 2 []) 2 (.int .i64)) (.norm ⟨[2], padK 2 [some (2, 0)]⟩ (.ret [some (0, 0)])))) .leaf)) (.hole ⟨[0], padK 3 []⟩ 0)))
noncomputable def p29b (fuel : Nat) : (List Int) → Option (List Int) := fun x1 => (bif List.isEmpty x1 then (fork (some ([] : List Int)) (j29b_0 fuel (fun x3 => (some x3)) x1)) else (j29b_0 fuel (fun x4 => (some x4)) x1))
noncomputable def F29b (fuel : Nat) : Fun := funOfA fi29b al29b (p29b fuel)
theorem run29b (fuel : Nat) : ∀ y : (List Int), runF (List Int) T (fns29b fuel) fuel (subsOf [sub29b_0 fuel (List Int)]) (defOf Try.f29 an29b 3 [] []) (fi29b.vs y) (fi29b.os y) (altsDec al29b) = p29b fuel y := by
  rintro x1
  kernel_rfl
theorem ok29b (fuel : Nat) : FunOk P 29 (funOfA fi29b al29b (p29b fuel)) :=
  funOfA_ok (subs := (subsOf [sub29b_0 fuel (List Int)])) (an := an29b) (room := 3) (ks := []) (g0 := []) (fuel := fuel) T_ok (fnsOk29b fuel) mixed (fn := Try.f29) (by kernel_rfl) (by kernel_rfl) (subsOk_cons (subOk29b_0 fuel _) subsOk_nil) (by kernel_rfl) (fun _ => ⟨by kernel_rfl, by kernel_rfl⟩) (run29b fuel)

-- f15b: tontine/balance.Apply
noncomputable def fns15b (fuel : Nat) : Fns := fnsOf [(22, F22b fuel), (28, F28b fuel), (29, F29b fuel), (30, F30 fuel)]
theorem fnsOk15b (fuel : Nat) : FnsOk P (fns15b fuel) := (fnsOk_cons (ok22b fuel) (fnsOk_cons (ok28b fuel) (fnsOk_cons (ok29b fuel) (fnsOk_cons (ok30 fuel) fnsOk_nil))))
def fi15b : Fr := ⟨[.d true (.slice (.int .i64)), .d false (.pair (.int .i64) (.pair (.int .i64) (.pair (.int .i64) (.int .i64))))], [], 0⟩
def al15b : List (Tm × List To) := [(.tup (.cons (.c (.slc 0 0)) (.cons (.d true (.int .i64)) (.c .nil))), [.arr 0 (.int .i64)])]
def fx15b_0 : Fr := ⟨[.c (.slc 0 0), .d true (.int .i64)], [.arr 0 (.int .i64)], 5⟩
def fr15b_0 : Fr := ⟨[.c (.slc 0 0), .d true (.int .i64)], [.arr 0 (.int .i64)], 5⟩
noncomputable def c15b_0 : Code := bodyAt Try.f15 [1, 1, 1, 1, 1, 1, 1, 1, 1, 1]
def j15b_0 (fuel : Nat) {R : Type} (k0 : (Int × (List Int)) → Option R) : (Int × (List Int)) → Option R := fun (x17, x18) => (match p30 fuel (x17, (IntKind.wrap .i64 (x17 + (1 : Int))), x18) with | some z19 => (k0 ((0 : Int), z19)) | none => none)
def al15b_0 : AN := (.seq (.region [(4, { touch := [0], ro := false, loc := [0] })]) (.norm ⟨[4, 5], padK 5 [some (0, 0)]⟩ (.ret [some (0, 0)])))
theorem u15b_0 (fuel : Nat) {R : Type} (k : AExit → St → Option R) : ∀ x : (Int × (List Int)), runK R T (fns15b fuel) fuel [] (subsOf []) (partOf c15b_0 al15b_0) (fr15b_0.st [7, 8] x) k = j15b_0 fuel (fun y => k (.ret [some (0, 0)]) (fx15b_0.st [4, 5] y)) x := by
  rintro ⟨x17, x18⟩
  kernel_rfl
noncomputable def sub15b_0 (fuel : Nat) (R : Type) : Sub R := Sub.of [7, 8] c15b_0 fr15b_0 fun x k => j15b_0 fuel (fun y => k (.ret [some (0, 0)]) (fx15b_0.st [4, 5] y)) x
theorem subOk15b_0 (fuel : Nat) (R : Type) : SubOk P [] 87 (sub15b_0 fuel R) :=
  subOk_part (fns := (fns15b fuel)) (fuel := fuel) (subs := (subsOf [])) (an := al15b_0) T_ok (fnsOk15b fuel) mixed subsOk_nil (by kernel_rfl) (by kernel_rfl) fun _ _ _ _ h => Sub.of_run (fun (x : (Int × (List Int))) k => u15b_0 fuel k x) h
def an15b : AN := (.seq (.region [(0, { touch := [1], base := 1, ro := false })]) (.seq (.block (.seq .leaf (.cond (.seq .leaf (.co (.empty (.slot 4 []) 5 (.int .i64)) (.norm ⟨[4, 5], padK 5 [some (5, 0)]⟩ (.ret [some (0, 0)])))) (.seq (.region [(1, { touch := [1] })]) (.cond (.seq .leaf (.co (.empty (.slot 4 []) 5 (.int .i64)) (.norm ⟨[4, 5], padK 5 [some (5, 0)]⟩ (.ret [some (0, 0)])))) .leaf))))) (.seq (.region [(1, { touch := [2], base := 2, ro := false, fresh := 1 })]) (.seq (.region [(1, { touch := [1] }), (2, { touch := [1] }), (3, { touch := [2] }), (4, { touch := [2] }), (5, { touch := [1] }), (6, { touch := [1] }), (8, { touch := [2] }), (9, { touch := [2], ro := false })]) (.seq (.seq (.region [(0, { touch := [1] }), (1, { touch := [1] })]) (.cond (.seq (.region [(1, { touch := [1] }), (2, { touch := [1] }), (3, { touch := [2] }), (4, { touch := [2] }), (5, { touch := [1] }), (6, { touch := [1] }), (8, { touch := [2] }), (9, { touch := [2], ro := false })]) (.seq .leaf (.norm ⟨[4, 5], padK 5 [some (2, 0)]⟩ (.ret [some (0, 0)])))) .leaf)) (.seq (.region [(1, { touch := [1] }), (2, { touch := [1] }), (5, { touch := [2] }), (7, { touch := [2] }), (8, { touch := [2] }), (10, { touch := [1] }), (11, { touch := [1] }), (12, { touch := [2] }), (13, { touch := [2] }), (15, { touch := [2] }), (16, { touch := [2], ro := false })]) (.seq (.region [(1, { touch := [1] }), (2, { touch := [1] }), (3, { touch := [1] }), (4, { touch := [1] }), (5, { touch := [2] }), (6, { touch := [1] }), (7, { touch := [1] }), (8, { touch := [3], base := 3, ro := false }), (9, { touch := [2, 3, 4], base := 4, ro := false })]) (.seq (.region [(2, { touch := [1] }), (3, { touch := [1] }), (4, { touch := [2] }), (5, { touch := [2, 4], ro := false })]) (.seq (.region [(0, { touch := [1] }), (1, { touch := [1] })]) (.seq (.seq (.region [(1, { touch := [1] }), (2, { touch := [1] })]) (.cond (.fin ⟨[7, 8], padK 5 [some (4, 0)]⟩ .leaf) (.fin ⟨[7, 8], padK 5 [some (4, 0)]⟩ .leaf))) (.hole ⟨[7, 8], padK 5 [some (0, 0)]⟩ 0)))))))))))
noncomputable def p15b (fuel : Nat) : ((List Int) × (Int × (Int × (Int × Int)))) → Option (Int × (List Int)) := fun (x1, x2) => (match p22b fuel (x1, (1 : Int), (12 : Int)) with | some z3 => (bif (!z3) then (some ((171 : Int), ([] : List Int))) else (match p28b fuel (x1, x2) with | some z4 => (bif (!z4) then (some ((172 : Int), ([] : List Int))) else (match p29b fuel x1 with | some z5 => (if 0 ≤ x2.2.1 ∧ x2.2.1 < ((List.length z5 : Nat) : Int) then (match (z5)[(Int.toNat x2.2.1)]? with | some y6 => (if 0 ≤ x2.2.1 ∧ x2.2.1 < ((List.length z5 : Nat) : Int) then (match (z5)[(Int.toNat x2.2.1)]? with | some y7 => (bif (decide (x2.1 = (1 : Int))) then (if 0 ≤ x2.2.2.1 ∧ x2.2.2.1 < ((List.length (List.set z5 (Int.toNat x2.2.1) (IntKind.wrap .i64 (y6 - x2.2.2.2))) : Nat) : Int) then (match ((List.set z5 (Int.toNat x2.2.1) (IntKind.wrap .i64 (y6 - x2.2.2.2))))[(Int.toNat x2.2.2.1)]? with | some y8 => (if 0 ≤ x2.2.2.1 ∧ x2.2.2.1 < ((List.length (List.set z5 (Int.toNat x2.2.1) (IntKind.wrap .i64 (y6 - x2.2.2.2))) : Nat) : Int) then (match ((List.set z5 (Int.toNat x2.2.1) (IntKind.wrap .i64 (y6 - x2.2.2.2))))[(Int.toNat x2.2.2.1)]? with | some y9 => let v10 := (List.set (List.set z5 (Int.toNat x2.2.1) (IntKind.wrap .i64 (y6 - x2.2.2.2))) (Int.toNat x2.2.2.1) (IntKind.wrap .i64 (y8 + x2.2.2.2))); (some ((0 : Int), v10)) | none => none) else none) | none => none) else none) else let v11 := ((List.length (List.set z5 (Int.toNat x2.2.1) (IntKind.wrap .i64 (y6 - x2.2.2.2))) : Nat) : Int); (if v11 = 0 then none else (if 0 ≤ (Int.tmod (IntKind.wrap .i64 (x2.2.2.1 + (1 : Int))) v11) ∧ (Int.tmod (IntKind.wrap .i64 (x2.2.2.1 + (1 : Int))) v11) < ((List.length (List.set z5 (Int.toNat x2.2.1) (IntKind.wrap .i64 (y6 - x2.2.2.2))) : Nat) : Int) then (match ((List.set z5 (Int.toNat x2.2.1) (IntKind.wrap .i64 (y6 - x2.2.2.2))))[(Int.toNat (Int.tmod (IntKind.wrap .i64 (x2.2.2.1 + (1 : Int))) v11))]? with | some y12 => (if 0 ≤ x2.2.2.1 ∧ x2.2.2.1 < ((List.length (List.set z5 (Int.toNat x2.2.1) (IntKind.wrap .i64 (y6 - x2.2.2.2))) : Nat) : Int) then (match ((List.set z5 (Int.toNat x2.2.1) (IntKind.wrap .i64 (y6 - x2.2.2.2))))[(Int.toNat x2.2.2.1)]? with | some y13 => (if 0 ≤ (Int.tmod (IntKind.wrap .i64 (x2.2.2.1 + (1 : Int))) v11) ∧ (Int.tmod (IntKind.wrap .i64 (x2.2.2.1 + (1 : Int))) v11) < ((List.length (List.set z5 (Int.toNat x2.2.1) (IntKind.wrap .i64 (y6 - x2.2.2.2))) : Nat) : Int) then (match ((List.set z5 (Int.toNat x2.2.1) (IntKind.wrap .i64 (y6 - x2.2.2.2))))[(Int.toNat (Int.tmod (IntKind.wrap .i64 (x2.2.2.1 + (1 : Int))) v11))]? with | some y14 => let v15 := (List.set (List.set z5 (Int.toNat x2.2.1) (IntKind.wrap .i64 (y6 - x2.2.2.2))) (Int.toNat (Int.tmod (IntKind.wrap .i64 (x2.2.2.1 + (1 : Int))) v11)) (IntKind.wrap .i64 (y12 + y13))); (if 0 ≤ x2.2.1 ∧ x2.2.1 ≤ (((List.length v15) : Nat) : Int) then (if 0 ≤ x2.2.1 ∧ x2.2.1 ≤ (((Int.toNat x2.2.1) : Nat) : Int) then (if (Int.toNat x2.2.1) = (Int.toNat x2.2.1) then (if (0 < List.length [x2.2.2.2] ∨ ((Int.toNat x2.2.1) - 0) = 0) ∧ (((Int.toNat x2.2.1) - 0) + List.length [x2.2.2.2]) * 8 ≤ 140737488355328 then (if 0 ≤ x2.2.1 ∧ x2.2.1 ≤ (((List.length v15) : Nat) : Int) then (if (List.length (List.take ((Int.toNat x2.2.1) - 0) (List.drop 0 v15) ++ [x2.2.2.2]) + List.length (List.take ((List.length v15) - (Int.toNat x2.2.1)) (List.drop (Int.toNat x2.2.1) v15))) * 8 ≤ 140737488355328 then let v16 := ((List.take ((Int.toNat x2.2.1) - 0) (List.drop 0 v15) ++ [x2.2.2.2]) ++ (List.take ((List.length v15) - (Int.toNat x2.2.1)) (List.drop (Int.toNat x2.2.1) v15))); (bif (decide (x2.2.1 < x2.2.2.1)) then (j15b_0 fuel (fun (x20, x21) => (some (x20, x21))) ((IntKind.wrap .i64 (x2.2.2.1 + (1 : Int))), v16)) else (j15b_0 fuel (fun (x22, x23) => (some (x22, x23))) (x2.2.2.1, v16))) else none) else none) else none) else none) else none) else none) | none => none) else none) | none => none) else none) | none => none) else none))) | none => none) else none) | none => none) else none) | none => none)) | none => none)) | none => none)
noncomputable def F15b (fuel : Nat) : Fun := funOfA fi15b al15b (p15b fuel)
theorem run15b (fuel : Nat) : ∀ y : ((List Int) × (Int × (Int × (Int × Int)))), runF (Int × (List Int)) T (fns15b fuel) fuel (subsOf [sub15b_0 fuel (Int × (List Int))]) (defOf Try.f15 an15b 6 [] []) (fi15b.vs y) (fi15b.os y) (altsDec al15b) = p15b fuel y := by
  rintro ⟨x1, x2⟩
  kernel_rfl
theorem ok15b (fuel : Nat) : FunOk P 15 (funOfA fi15b al15b (p15b fuel)) :=
  funOfA_ok (subs := (subsOf [sub15b_0 fuel (Int × (List Int))])) (an := an15b) (room := 6) (ks := []) (g0 := []) (fuel := fuel) T_ok (fnsOk15b fuel) mixed (fn := Try.f15) (by kernel_rfl) (by kernel_rfl) (subsOk_cons (subOk15b_0 fuel _) subsOk_nil) (by kernel_rfl) (fun _ => ⟨by kernel_rfl, by kernel_rfl⟩) (run15b fuel)

-- f20: tontine/tontinelaw17.sums
def fns20 (fuel : Nat) : Fns := fnsOf []
theorem fnsOk20 (fuel : Nat) : FnsOk P (fns20 fuel) := fnsOk_nil
def fi20 : Fr := ⟨[.d true (.slice (.int .i64))], [], 0⟩
def al20 : List (Tm × List To) := [(.tup (.cons (.d true (.int .i64)) (.cons (.d true (.int .u64)) (.cons (.d true (.int .u64)) (.c .nil)))), [])]
def fx20_0 : Fr := ⟨[.d true (.int .i64), .d true (.int .u64), .d true (.int .u64)], [], 0⟩
def fr20_0 : Fr := ⟨[.d true (.slice (.int .i64)), .d true (.int .i64), .d true (.int .u64), .d true (.int .u64), .d true (.int .i64)], [], 0⟩
noncomputable def c20_0 : Code := bodyAt Try.f20 [1, 1, 1, 1, 0, 1, 0]
def s20_0 (fuel : Nat) {R : Type} (F : ((List Int) × Int × Int × Int × Int) → Option R) (k0 : (Int × Int × Int) → Option R) : ((List Int) × Int × Int × Int × Int) → Option R := fun (x2, x3, x4, x5, x6) => (bif (decide (x6 < ((List.length x2 : Nat) : Int))) then (if 0 ≤ x6 then (match (x2)[Int.toNat x6]? with | some y7 => (if 0 ≤ x6 then (match (x2)[Int.toNat x6]? with | some y8 => (if 0 ≤ x6 then (match (x2)[Int.toNat x6]? with | some y9 => let v10 := (Int.tmod (IntKind.wrap .u64 ((IntKind.wrap .u64 y8) * (IntKind.wrap .u64 y9))) (4294967296 : Int)); let v11 := (IntKind.wrap .u64 (Int.tdiv (IntKind.wrap .u64 ((IntKind.wrap .u64 y8) * (IntKind.wrap .u64 y9))) (4294967296 : Int))); (F (x2, (IntKind.wrap .i64 (x3 + y7)), (IntKind.wrap .u64 (x4 + v10)), (IntKind.wrap .u64 (x5 + v11)), (IntKind.wrap .i64 (x6 + (1 : Int))))) | none => none) else none) | none => none) else none) | none => none) else none) else (k0 (x3, x4, x5)))
def l20_0 (fuel : Nat) {R : Type} (k0 : (Int × Int × Int) → Option R) : Nat → ((List Int) × Int × Int × Int × Int) → Option R
  | 0, _ => none
  | n + 1, x => s20_0 fuel (l20_0 fuel k0 n) k0 x
def nm20_0 : Norm := ⟨[0, 5, 6, 7, 8], padK 0 []⟩
def an20_0 : AN := (.seq (.seq .leaf (.cond .leaf (.norm ⟨[5, 6, 7], padK 0 []⟩ .leaf))) (.seq (.block (.seq .leaf (.seq .leaf (.seq .leaf .leaf)))) .leaf))
def al20_0 : AN := .loop nm20_0 an20_0
noncomputable def d20_0 : Code := bodyAt Try.f20 [1, 1, 1, 1, 0, 1, 0, 0]
theorem e20_0 (fuel : Nat) {R : Type} (F : St → Option R) (k : AExit → St → Option R) : ∀ x : ((List Int) × Int × Int × Int × Int), runK R T (fns20 fuel) fuel [] (subsOf []) (partOf d20_0 an20_0) (fr20_0.st [0, 5, 6, 7, 8] x) (backTo R [] nm20_0 F k) = s20_0 fuel (fun x => F (fr20_0.st [0, 5, 6, 7, 8] x)) (fun y => k (.exit 0) (fx20_0.st [5, 6, 7] y)) x := by
  rintro ⟨x2, x3, x4, x5, x6⟩
  kernel_rfl
theorem u20_0 (fuel : Nat) {R : Type} (k : AExit → St → Option R) (x : ((List Int) × Int × Int × Int × Int)) : runK R T (fns20 fuel) fuel [] (subsOf []) (partOf c20_0 al20_0) (fr20_0.st [0, 5, 6, 7, 8] x) k = l20_0 fuel (fun y => k (.exit 0) (fx20_0.st [5, 6, 7] y)) fuel x :=
  loop_eq (mk := fr20_0.st [0, 5, 6, 7, 8]) (s := fun F x => s20_0 fuel F (fun y => k (.exit 0) (fx20_0.st [5, 6, 7] y)) x) (l := fun n x => l20_0 fuel (fun y => k (.exit 0) (fx20_0.st [5, 6, 7] y)) n x) (d := d20_0) (by kernel_rfl) (fun G x => by
    revert x
    rintro ⟨x2, x3, x4, x5, x6⟩
    kernel_rfl) (fun F x => e20_0 fuel F k x) (fun _ => rfl) (fun _ _ => rfl) x
noncomputable def sub20_0 (fuel : Nat) (R : Type) : Sub R := Sub.of [0, 5, 6, 7, 8] c20_0 fr20_0 fun x k => l20_0 fuel (fun y => k (.exit 0) (fx20_0.st [5, 6, 7] y)) fuel x
theorem subOk20_0 (fuel : Nat) (R : Type) : SubOk P [] 48 (sub20_0 fuel R) :=
  subOk_part (fns := (fns20 fuel)) (fuel := fuel) (subs := (subsOf [])) (an := al20_0) T_ok (fnsOk20 fuel) mixed subsOk_nil (by kernel_rfl) (by kernel_rfl) fun _ _ _ _ h => Sub.of_run (fun (x : ((List Int) × Int × Int × Int × Int)) k => u20_0 fuel k x) h
def an20 : AN := (.seq .leaf (.seq .leaf (.seq .leaf (.seq .leaf (.seq (.seq .leaf (.block (.hole ⟨[0, 5, 6, 7, 8], padK 0 []⟩ 0))) (.seq .leaf (.norm ⟨[2, 3, 4], padK 0 []⟩ (.ret []))))))))
def p20 (fuel : Nat) : (List Int) → Option (Int × Int × Int) := fun x1 => (l20_0 fuel (fun (x12, x13, x14) => let v15 := (IntKind.wrap .u64 (x14 + (IntKind.wrap .u64 (Int.tdiv x13 (4294967296 : Int))))); (some (x12, v15, (Int.tmod x13 (4294967296 : Int))))) fuel (x1, (0 : Int), (0 : Int), (0 : Int), (0 : Int)))
def F20 (fuel : Nat) : Fun := funOfA fi20 al20 (p20 fuel)
theorem run20 (fuel : Nat) : ∀ y : (List Int), runF (Int × Int × Int) T (fns20 fuel) fuel (subsOf [sub20_0 fuel (Int × Int × Int)]) (defOf Try.f20 an20 0 [] []) (fi20.vs y) (fi20.os y) (altsDec al20) = p20 fuel y := by
  rintro x1
  kernel_rfl
theorem ok20 (fuel : Nat) : FunOk P 20 (funOfA fi20 al20 (p20 fuel)) :=
  funOfA_ok (subs := (subsOf [sub20_0 fuel (Int × Int × Int)])) (an := an20) (room := 0) (ks := []) (g0 := []) (fuel := fuel) T_ok (fnsOk20 fuel) mixed (fn := Try.f20) (by kernel_rfl) (by kernel_rfl) (subsOk_cons (subOk20_0 fuel _) subsOk_nil) (by kernel_rfl) (fun _ => ⟨by kernel_rfl, by kernel_rfl⟩) (run20 fuel)

-- f20b: tontine/tontinelaw17.sums
def fns20b (fuel : Nat) : Fns := fnsOf []
theorem fnsOk20b (fuel : Nat) : FnsOk P (fns20b fuel) := fnsOk_nil
def fi20b : Fr := ⟨[.d false (.slice (.int .i64))], [], 0⟩
def al20b : List (Tm × List To) := [(.tup (.cons (.d true (.int .i64)) (.cons (.d true (.int .u64)) (.cons (.d true (.int .u64)) (.c .nil)))), [])]
def fx20b_0 : Fr := ⟨[.d true (.int .i64), .d true (.int .u64), .d true (.int .u64)], [], 0⟩
def fr20b_0 : Fr := ⟨[.d false (.slice (.int .i64)), .d true (.int .i64), .d true (.int .u64), .d true (.int .u64), .d true (.int .i64)], [], 0⟩
noncomputable def c20b_0 : Code := bodyAt Try.f20 [1, 1, 1, 1, 0, 1, 0]
def s20b_0 (fuel : Nat) {R : Type} (F : ((List Int) × Int × Int × Int × Int) → Option R) (k0 : (Int × Int × Int) → Option R) : ((List Int) × Int × Int × Int × Int) → Option R := fun (x2, x3, x4, x5, x6) => (bif (decide (x6 < ((List.length x2 : Nat) : Int))) then (if 0 ≤ x6 then (match (x2)[Int.toNat x6]? with | some y7 => (if 0 ≤ x6 then (match (x2)[Int.toNat x6]? with | some y8 => (if 0 ≤ x6 then (match (x2)[Int.toNat x6]? with | some y9 => let v10 := (Int.tmod (IntKind.wrap .u64 ((IntKind.wrap .u64 y8) * (IntKind.wrap .u64 y9))) (4294967296 : Int)); let v11 := (IntKind.wrap .u64 (Int.tdiv (IntKind.wrap .u64 ((IntKind.wrap .u64 y8) * (IntKind.wrap .u64 y9))) (4294967296 : Int))); (F (x2, (IntKind.wrap .i64 (x3 + y7)), (IntKind.wrap .u64 (x4 + v10)), (IntKind.wrap .u64 (x5 + v11)), (IntKind.wrap .i64 (x6 + (1 : Int))))) | none => none) else none) | none => none) else none) | none => none) else none) else (k0 (x3, x4, x5)))
def l20b_0 (fuel : Nat) {R : Type} (k0 : (Int × Int × Int) → Option R) : Nat → ((List Int) × Int × Int × Int × Int) → Option R
  | 0, _ => none
  | n + 1, x => s20b_0 fuel (l20b_0 fuel k0 n) k0 x
def nm20b_0 : Norm := ⟨[0, 5, 6, 7, 8], padK 0 []⟩
def an20b_0 : AN := (.seq (.seq .leaf (.cond .leaf (.norm ⟨[5, 6, 7], padK 0 []⟩ .leaf))) (.seq (.block (.seq .leaf (.seq .leaf (.seq .leaf .leaf)))) .leaf))
def al20b_0 : AN := .loop nm20b_0 an20b_0
noncomputable def d20b_0 : Code := bodyAt Try.f20 [1, 1, 1, 1, 0, 1, 0, 0]
theorem e20b_0 (fuel : Nat) {R : Type} (F : St → Option R) (k : AExit → St → Option R) : ∀ x : ((List Int) × Int × Int × Int × Int), runK R T (fns20b fuel) fuel [] (subsOf []) (partOf d20b_0 an20b_0) (fr20b_0.st [0, 5, 6, 7, 8] x) (backTo R [] nm20b_0 F k) = s20b_0 fuel (fun x => F (fr20b_0.st [0, 5, 6, 7, 8] x)) (fun y => k (.exit 0) (fx20b_0.st [5, 6, 7] y)) x := by
  rintro ⟨x2, x3, x4, x5, x6⟩
  kernel_rfl
theorem u20b_0 (fuel : Nat) {R : Type} (k : AExit → St → Option R) (x : ((List Int) × Int × Int × Int × Int)) : runK R T (fns20b fuel) fuel [] (subsOf []) (partOf c20b_0 al20b_0) (fr20b_0.st [0, 5, 6, 7, 8] x) k = l20b_0 fuel (fun y => k (.exit 0) (fx20b_0.st [5, 6, 7] y)) fuel x :=
  loop_eq (mk := fr20b_0.st [0, 5, 6, 7, 8]) (s := fun F x => s20b_0 fuel F (fun y => k (.exit 0) (fx20b_0.st [5, 6, 7] y)) x) (l := fun n x => l20b_0 fuel (fun y => k (.exit 0) (fx20b_0.st [5, 6, 7] y)) n x) (d := d20b_0) (by kernel_rfl) (fun G x => by
    revert x
    rintro ⟨x2, x3, x4, x5, x6⟩
    kernel_rfl) (fun F x => e20b_0 fuel F k x) (fun _ => rfl) (fun _ _ => rfl) x
noncomputable def sub20b_0 (fuel : Nat) (R : Type) : Sub R := Sub.of [0, 5, 6, 7, 8] c20b_0 fr20b_0 fun x k => l20b_0 fuel (fun y => k (.exit 0) (fx20b_0.st [5, 6, 7] y)) fuel x
theorem subOk20b_0 (fuel : Nat) (R : Type) : SubOk P [] 48 (sub20b_0 fuel R) :=
  subOk_part (fns := (fns20b fuel)) (fuel := fuel) (subs := (subsOf [])) (an := al20b_0) T_ok (fnsOk20b fuel) mixed subsOk_nil (by kernel_rfl) (by kernel_rfl) fun _ _ _ _ h => Sub.of_run (fun (x : ((List Int) × Int × Int × Int × Int)) k => u20b_0 fuel k x) h
def an20b : AN := (.seq .leaf (.seq .leaf (.seq .leaf (.seq .leaf (.seq (.seq .leaf (.block (.hole ⟨[0, 5, 6, 7, 8], padK 0 []⟩ 0))) (.seq .leaf (.norm ⟨[2, 3, 4], padK 0 []⟩ (.ret []))))))))
def p20b (fuel : Nat) : (List Int) → Option (Int × Int × Int) := fun x1 => (l20b_0 fuel (fun (x12, x13, x14) => let v15 := (IntKind.wrap .u64 (x14 + (IntKind.wrap .u64 (Int.tdiv x13 (4294967296 : Int))))); (some (x12, v15, (Int.tmod x13 (4294967296 : Int))))) fuel (x1, (0 : Int), (0 : Int), (0 : Int), (0 : Int)))
def F20b (fuel : Nat) : Fun := funOfA fi20b al20b (p20b fuel)
theorem run20b (fuel : Nat) : ∀ y : (List Int), runF (Int × Int × Int) T (fns20b fuel) fuel (subsOf [sub20b_0 fuel (Int × Int × Int)]) (defOf Try.f20 an20b 0 [] []) (fi20b.vs y) (fi20b.os y) (altsDec al20b) = p20b fuel y := by
  rintro x1
  kernel_rfl
theorem ok20b (fuel : Nat) : FunOk P 20 (funOfA fi20b al20b (p20b fuel)) :=
  funOfA_ok (subs := (subsOf [sub20b_0 fuel (Int × Int × Int)])) (an := an20b) (room := 0) (ks := []) (g0 := []) (fuel := fuel) T_ok (fnsOk20b fuel) mixed (fn := Try.f20) (by kernel_rfl) (by kernel_rfl) (subsOk_cons (subOk20b_0 fuel _) subsOk_nil) (by kernel_rfl) (fun _ => ⟨by kernel_rfl, by kernel_rfl⟩) (run20b fuel)

-- f21: tontine/tontinelaw17.greatest
def fns21 (fuel : Nat) : Fns := fnsOf []
theorem fnsOk21 (fuel : Nat) : FnsOk P (fns21 fuel) := fnsOk_nil
def fi21 : Fr := ⟨[.d false (.slice (.int .i64))], [], 0⟩
def al21 : List (Tm × List To) := [(.d true (.int .i64), [])]
def fx21_0 : Fr := ⟨[.d true (.int .i64)], [], 0⟩
def fr21_0 : Fr := ⟨[.d false (.slice (.int .i64)), .d true (.int .i64), .d true (.int .i64)], [], 0⟩
noncomputable def c21_0 : Code := bodyAt Try.f21 [1, 1, 0, 1, 0]
def s21_0 (fuel : Nat) {R : Type} (F : ((List Int) × Int × Int) → Option R) (k0 : Int → Option R) : ((List Int) × Int × Int) → Option R := fun (x2, x3, x4) => (bif (decide (x4 < ((List.length x2 : Nat) : Int))) then (if 0 ≤ x4 then (match (x2)[Int.toNat x4]? with | some y5 => (F (x2, (if x3 < y5 then y5 else x3), (IntKind.wrap .i64 (x4 + (1 : Int))))) | none => none) else none) else (k0 x3))
def l21_0 (fuel : Nat) {R : Type} (k0 : Int → Option R) : Nat → ((List Int) × Int × Int) → Option R
  | 0, _ => none
  | n + 1, x => s21_0 fuel (l21_0 fuel k0 n) k0 x
def nm21_0 : Norm := ⟨[0, 3, 4], padK 0 []⟩
def an21_0 : AN := (.seq (.seq .leaf (.cond .leaf (.norm ⟨[3], padK 0 []⟩ .leaf))) (.seq (.block .leaf) .leaf))
def al21_0 : AN := .loop nm21_0 an21_0
noncomputable def d21_0 : Code := bodyAt Try.f21 [1, 1, 0, 1, 0, 0]
theorem e21_0 (fuel : Nat) {R : Type} (F : St → Option R) (k : AExit → St → Option R) : ∀ x : ((List Int) × Int × Int), runK R T (fns21 fuel) fuel [] (subsOf []) (partOf d21_0 an21_0) (fr21_0.st [0, 3, 4] x) (backTo R [] nm21_0 F k) = s21_0 fuel (fun x => F (fr21_0.st [0, 3, 4] x)) (fun y => k (.exit 0) (fx21_0.st [3] y)) x := by
  rintro ⟨x2, x3, x4⟩
  kernel_rfl
theorem u21_0 (fuel : Nat) {R : Type} (k : AExit → St → Option R) (x : ((List Int) × Int × Int)) : runK R T (fns21 fuel) fuel [] (subsOf []) (partOf c21_0 al21_0) (fr21_0.st [0, 3, 4] x) k = l21_0 fuel (fun y => k (.exit 0) (fx21_0.st [3] y)) fuel x :=
  loop_eq (mk := fr21_0.st [0, 3, 4]) (s := fun F x => s21_0 fuel F (fun y => k (.exit 0) (fx21_0.st [3] y)) x) (l := fun n x => l21_0 fuel (fun y => k (.exit 0) (fx21_0.st [3] y)) n x) (d := d21_0) (by kernel_rfl) (fun G x => by
    revert x
    rintro ⟨x2, x3, x4⟩
    kernel_rfl) (fun F x => e21_0 fuel F k x) (fun _ => rfl) (fun _ _ => rfl) x
noncomputable def sub21_0 (fuel : Nat) (R : Type) : Sub R := Sub.of [0, 3, 4] c21_0 fr21_0 fun x k => l21_0 fuel (fun y => k (.exit 0) (fx21_0.st [3] y)) fuel x
theorem subOk21_0 (fuel : Nat) (R : Type) : SubOk P [] 18 (sub21_0 fuel R) :=
  subOk_part (fns := (fns21 fuel)) (fuel := fuel) (subs := (subsOf [])) (an := al21_0) T_ok (fnsOk21 fuel) mixed subsOk_nil (by kernel_rfl) (by kernel_rfl) fun _ _ _ _ h => Sub.of_run (fun (x : ((List Int) × Int × Int)) k => u21_0 fuel k x) h
def an21 : AN := (.seq .leaf (.seq .leaf (.seq (.seq .leaf (.block (.hole ⟨[0, 3, 4], padK 0 []⟩ 0))) (.seq .leaf (.norm ⟨[2], padK 0 []⟩ (.ret []))))))
def p21 (fuel : Nat) : (List Int) → Option Int := fun x1 => (l21_0 fuel (fun x6 => (some x6)) fuel (x1, (0 : Int), (0 : Int)))
def F21 (fuel : Nat) : Fun := funOfA fi21 al21 (p21 fuel)
theorem run21 (fuel : Nat) : ∀ y : (List Int), runF Int T (fns21 fuel) fuel (subsOf [sub21_0 fuel Int]) (defOf Try.f21 an21 0 [] []) (fi21.vs y) (fi21.os y) (altsDec al21) = p21 fuel y := by
  rintro x1
  kernel_rfl
theorem ok21 (fuel : Nat) : FunOk P 21 (funOfA fi21 al21 (p21 fuel)) :=
  funOfA_ok (subs := (subsOf [sub21_0 fuel Int])) (an := an21) (room := 0) (ks := []) (g0 := []) (fuel := fuel) T_ok (fnsOk21 fuel) mixed (fn := Try.f21) (by kernel_rfl) (by kernel_rfl) (subsOk_cons (subOk21_0 fuel _) subsOk_nil) (by kernel_rfl) (fun _ => ⟨by kernel_rfl, by kernel_rfl⟩) (run21 fuel)

-- f21b: tontine/tontinelaw17.greatest
def fns21b (fuel : Nat) : Fns := fnsOf []
theorem fnsOk21b (fuel : Nat) : FnsOk P (fns21b fuel) := fnsOk_nil
def fi21b : Fr := ⟨[.d true (.slice (.int .i64))], [], 0⟩
def al21b : List (Tm × List To) := [(.d true (.int .i64), [])]
def fx21b_0 : Fr := ⟨[.d true (.int .i64)], [], 0⟩
def fr21b_0 : Fr := ⟨[.d true (.slice (.int .i64)), .d true (.int .i64), .d true (.int .i64)], [], 0⟩
noncomputable def c21b_0 : Code := bodyAt Try.f21 [1, 1, 0, 1, 0]
def s21b_0 (fuel : Nat) {R : Type} (F : ((List Int) × Int × Int) → Option R) (k0 : Int → Option R) : ((List Int) × Int × Int) → Option R := fun (x2, x3, x4) => (bif (decide (x4 < ((List.length x2 : Nat) : Int))) then (if 0 ≤ x4 then (match (x2)[Int.toNat x4]? with | some y5 => (F (x2, (if x3 < y5 then y5 else x3), (IntKind.wrap .i64 (x4 + (1 : Int))))) | none => none) else none) else (k0 x3))
def l21b_0 (fuel : Nat) {R : Type} (k0 : Int → Option R) : Nat → ((List Int) × Int × Int) → Option R
  | 0, _ => none
  | n + 1, x => s21b_0 fuel (l21b_0 fuel k0 n) k0 x
def nm21b_0 : Norm := ⟨[0, 3, 4], padK 0 []⟩
def an21b_0 : AN := (.seq (.seq .leaf (.cond .leaf (.norm ⟨[3], padK 0 []⟩ .leaf))) (.seq (.block .leaf) .leaf))
def al21b_0 : AN := .loop nm21b_0 an21b_0
noncomputable def d21b_0 : Code := bodyAt Try.f21 [1, 1, 0, 1, 0, 0]
theorem e21b_0 (fuel : Nat) {R : Type} (F : St → Option R) (k : AExit → St → Option R) : ∀ x : ((List Int) × Int × Int), runK R T (fns21b fuel) fuel [] (subsOf []) (partOf d21b_0 an21b_0) (fr21b_0.st [0, 3, 4] x) (backTo R [] nm21b_0 F k) = s21b_0 fuel (fun x => F (fr21b_0.st [0, 3, 4] x)) (fun y => k (.exit 0) (fx21b_0.st [3] y)) x := by
  rintro ⟨x2, x3, x4⟩
  kernel_rfl
theorem u21b_0 (fuel : Nat) {R : Type} (k : AExit → St → Option R) (x : ((List Int) × Int × Int)) : runK R T (fns21b fuel) fuel [] (subsOf []) (partOf c21b_0 al21b_0) (fr21b_0.st [0, 3, 4] x) k = l21b_0 fuel (fun y => k (.exit 0) (fx21b_0.st [3] y)) fuel x :=
  loop_eq (mk := fr21b_0.st [0, 3, 4]) (s := fun F x => s21b_0 fuel F (fun y => k (.exit 0) (fx21b_0.st [3] y)) x) (l := fun n x => l21b_0 fuel (fun y => k (.exit 0) (fx21b_0.st [3] y)) n x) (d := d21b_0) (by kernel_rfl) (fun G x => by
    revert x
    rintro ⟨x2, x3, x4⟩
    kernel_rfl) (fun F x => e21b_0 fuel F k x) (fun _ => rfl) (fun _ _ => rfl) x
noncomputable def sub21b_0 (fuel : Nat) (R : Type) : Sub R := Sub.of [0, 3, 4] c21b_0 fr21b_0 fun x k => l21b_0 fuel (fun y => k (.exit 0) (fx21b_0.st [3] y)) fuel x
theorem subOk21b_0 (fuel : Nat) (R : Type) : SubOk P [] 18 (sub21b_0 fuel R) :=
  subOk_part (fns := (fns21b fuel)) (fuel := fuel) (subs := (subsOf [])) (an := al21b_0) T_ok (fnsOk21b fuel) mixed subsOk_nil (by kernel_rfl) (by kernel_rfl) fun _ _ _ _ h => Sub.of_run (fun (x : ((List Int) × Int × Int)) k => u21b_0 fuel k x) h
def an21b : AN := (.seq .leaf (.seq .leaf (.seq (.seq .leaf (.block (.hole ⟨[0, 3, 4], padK 0 []⟩ 0))) (.seq .leaf (.norm ⟨[2], padK 0 []⟩ (.ret []))))))
def p21b (fuel : Nat) : (List Int) → Option Int := fun x1 => (l21b_0 fuel (fun x6 => (some x6)) fuel (x1, (0 : Int), (0 : Int)))
def F21b (fuel : Nat) : Fun := funOfA fi21b al21b (p21b fuel)
theorem run21b (fuel : Nat) : ∀ y : (List Int), runF Int T (fns21b fuel) fuel (subsOf [sub21b_0 fuel Int]) (defOf Try.f21 an21b 0 [] []) (fi21b.vs y) (fi21b.os y) (altsDec al21b) = p21b fuel y := by
  rintro x1
  kernel_rfl
theorem ok21b (fuel : Nat) : FunOk P 21 (funOfA fi21b al21b (p21b fuel)) :=
  funOfA_ok (subs := (subsOf [sub21b_0 fuel Int])) (an := an21b) (room := 0) (ks := []) (g0 := []) (fuel := fuel) T_ok (fnsOk21b fuel) mixed (fn := Try.f21) (by kernel_rfl) (by kernel_rfl) (subsOk_cons (subOk21b_0 fuel _) subsOk_nil) (by kernel_rfl) (fun _ => ⟨by kernel_rfl, by kernel_rfl⟩) (run21b fuel)

-- f18c: tontine/tontineref17.Same
def fns18c (fuel : Nat) : Fns := fnsOf []
theorem fnsOk18c (fuel : Nat) : FnsOk P (fns18c fuel) := fnsOk_nil
def fi18c : Fr := ⟨[.d true (.slice (.int .i64)), .d false (.slice (.int .i64))], [], 0⟩
def al18c : List (Tm × List To) := [(.d true (.bool), [])]
def fx18c_0 : Fr := ⟨[.d true (.bool)], [], 0⟩
def fx18c_1 : Fr := ⟨[], [], 0⟩
def fr18c_0 : Fr := ⟨[.d true (.slice (.int .i64)), .d false (.slice (.int .i64)), .d true (.int .i64)], [], 0⟩
noncomputable def c18c_0 : Code := bodyAt Try.f18 [1, 1, 0, 1, 0]
def s18c_0 (fuel : Nat) {R : Type} (F : ((List Int) × (List Int) × Int) → Option R) (k0 : Bool → Option R) (k1 : Unit → Option R) : ((List Int) × (List Int) × Int) → Option R := fun (x4, x5, x6) => (bif (decide (x6 < ((List.length x4 : Nat) : Int))) then (if 0 ≤ x6 then (match (x4)[Int.toNat x6]? with | some y7 => (if 0 ≤ x6 then (match (x5)[Int.toNat x6]? with | some y8 => (bif (!decide (y7 = y8)) then (k0 false) else (F (x4, x5, (IntKind.wrap .i64 (x6 + (1 : Int)))))) | none => none) else none) | none => none) else none) else (k1 ()))
def l18c_0 (fuel : Nat) {R : Type} (k0 : Bool → Option R) (k1 : Unit → Option R) : Nat → ((List Int) × (List Int) × Int) → Option R
  | 0, _ => none
  | n + 1, x => s18c_0 fuel (l18c_0 fuel k0 k1 n) k0 k1 x
def nm18c_0 : Norm := ⟨[0, 1, 5], padK 0 []⟩
def an18c_0 : AN := (.seq (.seq .leaf (.cond .leaf (.norm ⟨[], padK 0 []⟩ .leaf))) (.seq (.block (.seq .leaf (.cond (.seq .leaf (.norm ⟨[4], padK 0 []⟩ (.ret []))) .leaf))) .leaf))
def al18c_0 : AN := .loop nm18c_0 an18c_0
noncomputable def d18c_0 : Code := bodyAt Try.f18 [1, 1, 0, 1, 0, 0]
theorem e18c_0 (fuel : Nat) {R : Type} (F : St → Option R) (k : AExit → St → Option R) : ∀ x : ((List Int) × (List Int) × Int), runK R T (fns18c fuel) fuel [] (subsOf []) (partOf d18c_0 an18c_0) (fr18c_0.st [0, 1, 5] x) (backTo R [] nm18c_0 F k) = s18c_0 fuel (fun x => F (fr18c_0.st [0, 1, 5] x)) (fun y => k (.ret []) (fx18c_0.st [4] y)) (fun y => k (.exit 0) (fx18c_1.st [] y)) x := by
  rintro ⟨x4, x5, x6⟩
  kernel_rfl
theorem u18c_0 (fuel : Nat) {R : Type} (k : AExit → St → Option R) (x : ((List Int) × (List Int) × Int)) : runK R T (fns18c fuel) fuel [] (subsOf []) (partOf c18c_0 al18c_0) (fr18c_0.st [0, 1, 5] x) k = l18c_0 fuel (fun y => k (.ret []) (fx18c_0.st [4] y)) (fun y => k (.exit 0) (fx18c_1.st [] y)) fuel x :=
  loop_eq (mk := fr18c_0.st [0, 1, 5]) (s := fun F x => s18c_0 fuel F (fun y => k (.ret []) (fx18c_0.st [4] y)) (fun y => k (.exit 0) (fx18c_1.st [] y)) x) (l := fun n x => l18c_0 fuel (fun y => k (.ret []) (fx18c_0.st [4] y)) (fun y => k (.exit 0) (fx18c_1.st [] y)) n x) (d := d18c_0) (by kernel_rfl) (fun G x => by
    revert x
    rintro ⟨x4, x5, x6⟩
    kernel_rfl) (fun F x => e18c_0 fuel F k x) (fun _ => rfl) (fun _ _ => rfl) x
noncomputable def sub18c_0 (fuel : Nat) (R : Type) : Sub R := Sub.of [0, 1, 5] c18c_0 fr18c_0 fun x k => l18c_0 fuel (fun y => k (.ret []) (fx18c_0.st [4] y)) (fun y => k (.exit 0) (fx18c_1.st [] y)) fuel x
theorem subOk18c_0 (fuel : Nat) (R : Type) : SubOk P [] 26 (sub18c_0 fuel R) :=
  subOk_part (fns := (fns18c fuel)) (fuel := fuel) (subs := (subsOf [])) (an := al18c_0) T_ok (fnsOk18c fuel) mixed subsOk_nil (by kernel_rfl) (by kernel_rfl) fun _ _ _ _ h => Sub.of_run (fun (x : ((List Int) × (List Int) × Int)) k => u18c_0 fuel k x) h
def an18c : AN := (.seq .leaf (.seq (.seq .leaf (.cond (.seq .leaf (.norm ⟨[4], padK 0 []⟩ (.ret []))) .leaf)) (.seq (.seq .leaf (.block (.hole ⟨[0, 1, 5], padK 0 []⟩ 0))) (.seq .leaf (.norm ⟨[4], padK 0 []⟩ (.ret []))))))
def p18c (fuel : Nat) : ((List Int) × (List Int)) → Option Bool := fun (x1, x2) => let v3 := (!decide (((List.length x1 : Nat) : Int) = ((List.length x2 : Nat) : Int))); (bif v3 then (some false) else (l18c_0 fuel (fun x9 => (some x9)) (fun _ => (some true)) fuel (x1, x2, (0 : Int))))
def F18c (fuel : Nat) : Fun := funOfA fi18c al18c (p18c fuel)
theorem run18c (fuel : Nat) : ∀ y : ((List Int) × (List Int)), runF Bool T (fns18c fuel) fuel (subsOf [sub18c_0 fuel Bool]) (defOf Try.f18 an18c 0 [] []) (fi18c.vs y) (fi18c.os y) (altsDec al18c) = p18c fuel y := by
  rintro ⟨x1, x2⟩
  kernel_rfl
theorem ok18c (fuel : Nat) : FunOk P 18 (funOfA fi18c al18c (p18c fuel)) :=
  funOfA_ok (subs := (subsOf [sub18c_0 fuel Bool])) (an := an18c) (room := 0) (ks := []) (g0 := []) (fuel := fuel) T_ok (fnsOk18c fuel) mixed (fn := Try.f18) (by kernel_rfl) (by kernel_rfl) (subsOk_cons (subOk18c_0 fuel _) subsOk_nil) (by kernel_rfl) (fun _ => ⟨by kernel_rfl, by kernel_rfl⟩) (run18c fuel)

-- f6: tontine/tontinelaw17.BalanceSettles
noncomputable def fns6 (fuel : Nat) : Fns := fnsOf [(7, F7 fuel), (10, F10 fuel), (19, F19 fuel), (13, F13 fuel), (15, F15b fuel), (20, orFun (Fr.has fi20) (F20 fuel) (F20b fuel)), (21, orFun (Fr.has fi21) (F21 fuel) (F21b fuel)), (18, F18c fuel)]
theorem fnsOk6 (fuel : Nat) : FnsOk P (fns6 fuel) := (fnsOk_cons (ok7 fuel) (fnsOk_cons (ok10 fuel) (fnsOk_cons (ok19 fuel) (fnsOk_cons (ok13 fuel) (fnsOk_cons (ok15b fuel) (fnsOk_cons (orFun_ok (ok20 fuel) (ok20b fuel)) (fnsOk_cons (orFun_ok (ok21 fuel) (ok21b fuel)) (fnsOk_cons (ok18c fuel) fnsOk_nil))))))))
def fi6 : Fr := ⟨[.d true (.slice (.int .i64))], [], 0⟩
def al6 : List (Tm × List To) := [(.d true (.bool), [])]
def fx6_0 : Fr := ⟨[.d true (.bool)], [], 7⟩
def fx6_1 : Fr := ⟨[.d true (.slice (.int .i64)), .c (.slc 0 0), .c (.slc 1 0), .d true (.int .i64)], [.arr 0 (.pair (.int .i64) (.pair (.int .i64) (.pair (.int .i64) (.int .i64)))), .arr 0 (.int .i64)], 5⟩
def fr6_0 : Fr := ⟨[.d true (.slice (.int .i64)), .c (.slc 0 0), .c (.slc 1 0), .d true (.int .i64), .d true (.bool)], [.arr 0 (.pair (.int .i64) (.pair (.int .i64) (.pair (.int .i64) (.int .i64)))), .arr 0 (.int .i64)], 5⟩
noncomputable def c6_0 : Code := bodyAt Try.f6 [1, 1, 1, 1, 1, 1, 0, 1]
def j6_0 (fuel : Nat) {R : Type} (k0 : Bool → Option R) (k1 : ((List Int) × Int × (List (Int × (Int × (Int × Int)))) × (List Int)) → Option R) : ((List Int) × Int × Bool × (List (Int × (Int × (Int × Int)))) × (List Int)) → Option R := fun (x6, x7, x8, x9, x10) => (bif x8 then (bif (decide (x7 = (171 : Int))) then (bif (decide (((List.length x9 : Nat) : Int) = (0 : Int))) then (k0 (decide (((List.length x10 : Nat) : Int) = (0 : Int)))) else (k0 false)) else (k0 false)) else (k1 (x6, x7, x9, x10)))
def al6_0 : AN := (.fin ⟨[0, 5, 6, 7], padK 5 [some (0, 0), some (1, 0)]⟩ (.cond (.seq (.region [(4, { touch := [0] }), (9, { touch := [1] })]) (.norm ⟨[2], padK 7 []⟩ (.ret []))) .leaf))
theorem u6_0 (fuel : Nat) {R : Type} (k : AExit → St → Option R) : ∀ x : ((List Int) × Int × Bool × (List (Int × (Int × (Int × Int)))) × (List Int)), runK R T (fns6 fuel) fuel [] (subsOf []) (partOf c6_0 al6_0) (fr6_0.st [0, 5, 6, 7, 50] x) k = j6_0 fuel (fun y => k (.ret []) (fx6_0.st [2] y)) (fun y => k .normal (fx6_1.st [0, 5, 6, 7] y)) x := by
  rintro ⟨x6, x7, x8, x9, x10⟩
  kernel_rfl
noncomputable def sub6_0 (fuel : Nat) (R : Type) : Sub R := Sub.of [0, 5, 6, 7, 50] c6_0 fr6_0 fun x k => j6_0 fuel (fun y => k (.ret []) (fx6_0.st [2] y)) (fun y => k .normal (fx6_1.st [0, 5, 6, 7] y)) x
theorem subOk6_0 (fuel : Nat) (R : Type) : SubOk P [] 241 (sub6_0 fuel R) :=
  subOk_part (fns := (fns6 fuel)) (fuel := fuel) (subs := (subsOf [])) (an := al6_0) T_ok (fnsOk6 fuel) mixed subsOk_nil (by kernel_rfl) (by kernel_rfl) fun _ _ _ _ h => Sub.of_run (fun (x : ((List Int) × Int × Bool × (List (Int × (Int × (Int × Int)))) × (List Int))) k => u6_0 fuel k x) h
def fx6_2 : Fr := ⟨[.d true (.slice (.int .i64)), .c (.slc 0 0), .c (.slc 1 0), .d true (.int .i64), .d true (.int .i64)], [.arr 0 (.pair (.int .i64) (.pair (.int .i64) (.pair (.int .i64) (.int .i64)))), .arr 0 (.int .i64)], 5⟩
def fr6_1 : Fr := ⟨[.d true (.slice (.int .i64)), .c (.slc 0 0), .c (.slc 1 0), .d true (.int .i64), .d true (.int .i64), .d true (.bool)], [.arr 0 (.pair (.int .i64) (.pair (.int .i64) (.pair (.int .i64) (.int .i64)))), .arr 0 (.int .i64)], 5⟩
noncomputable def c6_1 : Code := bodyAt Try.f6 [1, 1, 1, 1, 1, 1, 1, 0, 1, 0, 0, 1, 0, 0, 1]
def j6_1 (fuel : Nat) {R : Type} (k0 : Bool → Option R) (k1 : ((List Int) × Int × Int × (List (Int × (Int × (Int × Int)))) × (List Int)) → Option R) : ((List Int) × Int × Int × Bool × (List (Int × (Int × (Int × Int)))) × (List Int)) → Option R := fun (x32, x33, x34, x35, x36, x37) => (bif x35 then (bif (decide (x33 = (171 : Int))) then (bif (decide (((List.length x36 : Nat) : Int) = (0 : Int))) then (k0 (decide (((List.length x37 : Nat) : Int) = (0 : Int)))) else (k0 false)) else (k0 false)) else (k1 (x32, x33, x34, x36, x37)))
def al6_1 : AN := (.fin ⟨[0, 5, 6, 7, 9], padK 5 [some (0, 0), some (1, 0)]⟩ (.cond (.seq (.region [(4, { touch := [0] }), (9, { touch := [1] })]) (.norm ⟨[2], padK 7 []⟩ (.ret []))) .leaf))
theorem u6_1 (fuel : Nat) {R : Type} (k : AExit → St → Option R) : ∀ x : ((List Int) × Int × Int × Bool × (List (Int × (Int × (Int × Int)))) × (List Int)), runK R T (fns6 fuel) fuel [] (subsOf [sub6_0 fuel R]) (partOf c6_1 al6_1) (fr6_1.st [0, 5, 6, 7, 9, 80] x) k = j6_1 fuel (fun y => k (.ret []) (fx6_0.st [2] y)) (fun y => k .normal (fx6_2.st [0, 5, 6, 7, 9] y)) x := by
  rintro ⟨x32, x33, x34, x35, x36, x37⟩
  kernel_rfl
noncomputable def sub6_1 (fuel : Nat) (R : Type) : Sub R := Sub.of [0, 5, 6, 7, 9, 80] c6_1 fr6_1 fun x k => j6_1 fuel (fun y => k (.ret []) (fx6_0.st [2] y)) (fun y => k .normal (fx6_2.st [0, 5, 6, 7, 9] y)) x
theorem subOk6_1 (fuel : Nat) (R : Type) : SubOk P [] 241 (sub6_1 fuel R) :=
  subOk_part (fns := (fns6 fuel)) (fuel := fuel) (subs := (subsOf [sub6_0 fuel R])) (an := al6_1) T_ok (fnsOk6 fuel) mixed (subsOk_cons (subOk6_0 fuel R) subsOk_nil) (by kernel_rfl) (by kernel_rfl) fun _ _ _ _ h => Sub.of_run (fun (x : ((List Int) × Int × Int × Bool × (List (Int × (Int × (Int × Int)))) × (List Int))) k => u6_1 fuel k x) h
def fr6_2 : Fr := ⟨[.d true (.slice (.int .i64)), .c (.slc 0 0), .c (.slc 1 0), .d true (.int .i64), .d true (.int .i64)], [.arr 0 (.pair (.int .i64) (.pair (.int .i64) (.pair (.int .i64) (.int .i64)))), .arr 0 (.int .i64)], 5⟩
noncomputable def c6_2 : Code := bodyAt Try.f6 [1, 1, 1, 1, 1, 1, 1, 0, 1, 0]
def s6_2 (fuel : Nat) {R : Type} (F : ((List Int) × Int × Int × (List (Int × (Int × (Int × Int)))) × (List Int)) → Option R) (k0 : Bool → Option R) (k1 : ((List Int) × Int × (List (Int × (Int × (Int × Int)))) × (List Int)) → Option R) : ((List Int) × Int × Int × (List (Int × (Int × (Int × Int)))) × (List Int)) → Option R := fun (x25, x26, x27, x28, x29) => (bif (decide (x27 < ((List.length x25 : Nat) : Int))) then (if 0 ≤ x27 then (match (x25)[Int.toNat x27]? with | some y30 => (bif (decide (y30 < (0 : Int))) then (j6_1 fuel (fun x38 => (k0 x38)) (fun (x39, x40, x41, x42, x43) => (F (x39, x40, (IntKind.wrap .i64 (x41 + (1 : Int))), x42, x43))) (x25, x26, x27, true, x28, x29)) else (if 0 ≤ x27 then (match (x25)[Int.toNat x27]? with | some y31 => (j6_1 fuel (fun x44 => (k0 x44)) (fun (x45, x46, x47, x48, x49) => (F (x45, x46, (IntKind.wrap .i64 (x47 + (1 : Int))), x48, x49))) (x25, x26, x27, (decide ((2147483647 : Int) < y31)), x28, x29)) | none => none) else none)) | none => none) else none) else (k1 (x25, x26, x28, x29)))
def l6_2 (fuel : Nat) {R : Type} (k0 : Bool → Option R) (k1 : ((List Int) × Int × (List (Int × (Int × (Int × Int)))) × (List Int)) → Option R) : Nat → ((List Int) × Int × Int × (List (Int × (Int × (Int × Int)))) × (List Int)) → Option R
  | 0, _ => none
  | n + 1, x => s6_2 fuel (l6_2 fuel k0 k1 n) k0 k1 x
def nm6_2 : Norm := ⟨[0, 5, 6, 7, 9], padK 5 [some (0, 0), some (1, 0)]⟩
def an6_2 : AN := (.seq (.seq .leaf (.cond .leaf (.norm ⟨[0, 5, 6, 7], padK 5 [some (0, 0), some (1, 0)]⟩ .leaf))) (.seq (.block (.seq .leaf (.hole ⟨[0, 5, 6, 7, 9, 80], padK 5 [some (0, 0), some (1, 0)]⟩ 1))) .leaf))
def al6_2 : AN := .loop nm6_2 an6_2
noncomputable def d6_2 : Code := bodyAt Try.f6 [1, 1, 1, 1, 1, 1, 1, 0, 1, 0, 0]
theorem e6_2 (fuel : Nat) {R : Type} (F : St → Option R) (k : AExit → St → Option R) : ∀ x : ((List Int) × Int × Int × (List (Int × (Int × (Int × Int)))) × (List Int)), runK R T (fns6 fuel) fuel [] (subsOf [sub6_0 fuel R, sub6_1 fuel R]) (partOf d6_2 an6_2) (fr6_2.st [0, 5, 6, 7, 9] x) (backTo R [] nm6_2 F k) = s6_2 fuel (fun x => F (fr6_2.st [0, 5, 6, 7, 9] x)) (fun y => k (.ret []) (fx6_0.st [2] y)) (fun y => k (.exit 0) (fx6_1.st [0, 5, 6, 7] y)) x := by
  rintro ⟨x25, x26, x27, x28, x29⟩
  kernel_rfl
theorem u6_2 (fuel : Nat) {R : Type} (k : AExit → St → Option R) (x : ((List Int) × Int × Int × (List (Int × (Int × (Int × Int)))) × (List Int))) : runK R T (fns6 fuel) fuel [] (subsOf [sub6_0 fuel R, sub6_1 fuel R]) (partOf c6_2 al6_2) (fr6_2.st [0, 5, 6, 7, 9] x) k = l6_2 fuel (fun y => k (.ret []) (fx6_0.st [2] y)) (fun y => k (.exit 0) (fx6_1.st [0, 5, 6, 7] y)) fuel x :=
  loop_eq (mk := fr6_2.st [0, 5, 6, 7, 9]) (s := fun F x => s6_2 fuel F (fun y => k (.ret []) (fx6_0.st [2] y)) (fun y => k (.exit 0) (fx6_1.st [0, 5, 6, 7] y)) x) (l := fun n x => l6_2 fuel (fun y => k (.ret []) (fx6_0.st [2] y)) (fun y => k (.exit 0) (fx6_1.st [0, 5, 6, 7] y)) n x) (d := d6_2) (by kernel_rfl) (fun G x => by
    revert x
    rintro ⟨x25, x26, x27, x28, x29⟩
    kernel_rfl) (fun F x => e6_2 fuel F k x) (fun _ => rfl) (fun _ _ => rfl) x
noncomputable def sub6_2 (fuel : Nat) (R : Type) : Sub R := Sub.of [0, 5, 6, 7, 9] c6_2 fr6_2 fun x k => l6_2 fuel (fun y => k (.ret []) (fx6_0.st [2] y)) (fun y => k (.exit 0) (fx6_1.st [0, 5, 6, 7] y)) fuel x
theorem subOk6_2 (fuel : Nat) (R : Type) : SubOk P [] 241 (sub6_2 fuel R) :=
  subOk_part (fns := (fns6 fuel)) (fuel := fuel) (subs := (subsOf [sub6_0 fuel R, sub6_1 fuel R])) (an := al6_2) T_ok (fnsOk6 fuel) mixed (subsOk_cons (subOk6_0 fuel R) (subsOk_cons (subOk6_1 fuel R) subsOk_nil)) (by kernel_rfl) (by kernel_rfl) fun _ _ _ _ h => Sub.of_run (fun (x : ((List Int) × Int × Int × (List (Int × (Int × (Int × Int)))) × (List Int))) k => u6_2 fuel k x) h
def fx6_3 : Fr := ⟨[.c (.slc 0 0), .d true (.slice (.int .i64))], [.arr 0 (.int .i64)], 6⟩
def fr6_3 : Fr := ⟨[.d true (.slice (.int .i64)), .c (.slc 0 0), .c (.slc 1 0), .d true (.slice (.int .i64)), .d true (.int .i64)], [.arr 0 (.pair (.int .i64) (.pair (.int .i64) (.pair (.int .i64) (.int .i64)))), .arr 0 (.int .i64)], 5⟩
noncomputable def c6_3 : Code := bodyAt Try.f6 [1, 1, 1, 1, 1, 1, 1, 1, 1, 1, 0, 1, 0]
noncomputable def s6_3 (fuel : Nat) {R : Type} (F : ((List Int) × (List Int) × Int × (List (Int × (Int × (Int × Int)))) × (List Int)) → Option R) (k0 : Bool → Option R) (k1 : ((List Int) × (List Int)) → Option R) : ((List Int) × (List Int) × Int × (List (Int × (Int × (Int × Int)))) × (List Int)) → Option R := fun (x55, x56, x57, x58, x59) => (bif (decide (x57 < ((List.length x58 : Nat) : Int))) then (if 0 ≤ x57 ∧ x57 < ((List.length x58 : Nat) : Int) then (match (x58)[(Int.toNat x57)]? with | some y60 => (match p15b fuel (x56, y60) with | some z61 => (bif (!decide (z61.1 = (0 : Int))) then (k0 false) else let v62 := (!decide (((List.length z61.2 : Nat) : Int) = ((List.length x55 : Nat) : Int))); (bif v62 then (k0 false) else (match p20 fuel x56 with | some z63 => (match p20b fuel z61.2 with | some z64 => (bif (!decide (z63.1 = z64.1)) then (k0 false) else (bif (decide (z63.2.1 < z64.2.1)) then (k0 false) else (bif (decide (z64.2.1 = z63.2.1)) then (bif (decide (z63.2.2 ≤ z64.2.2)) then (k0 false) else (match p21 fuel z61.2 with | some z65 => (match p21b fuel x56 with | some z66 => (bif (decide (z66 < z65)) then (k0 false) else (F (x55, z61.2, (IntKind.wrap .i64 (x57 + (1 : Int))), x58, x59))) | none => none) | none => none)) else (match p21 fuel z61.2 with | some z67 => (match p21b fuel x56 with | some z68 => (bif (decide (z68 < z67)) then (k0 false) else (F (x55, z61.2, (IntKind.wrap .i64 (x57 + (1 : Int))), x58, x59))) | none => none) | none => none)))) | none => none) | none => none))) | none => none) | none => none) else none) else (k1 (x56, x59)))
noncomputable def l6_3 (fuel : Nat) {R : Type} (k0 : Bool → Option R) (k1 : ((List Int) × (List Int)) → Option R) : Nat → ((List Int) × (List Int) × Int × (List (Int × (Int × (Int × Int)))) × (List Int)) → Option R
  | 0, _ => none
  | n + 1, x => s6_3 fuel (l6_3 fuel k0 k1 n) k0 k1 x
def nm6_3 : Norm := ⟨[0, 5, 6, 10, 11], padK 5 [some (0, 0), some (1, 0)]⟩
def an6_3 : AN := (.finco (.freeze (.slot 10 [])) (.seq (.seq (.region [(2, { touch := [0] })]) (.cond .leaf (.norm ⟨[6, 10], padK 6 [some (1, 0)]⟩ .leaf))) (.seq (.block (.seq (.region [(3, { touch := [0] }), (4, { touch := [0] }), (5, { touch := [6], base := 6, ro := false, fresh := 1 })]) (.seq (.seq (.region [(4, { touch := [6] })]) (.cond (.seq .leaf (.norm ⟨[2], padK 7 []⟩ (.ret []))) .leaf)) (.seq .leaf (.seq (.region [(1, { touch := [6], lend := [some (.slice (.int .i64))] })]) (.seq (.seq (.region [(20, { touch := [6], lend := [some (.slice (.int .i64))] })]) (.cond (.seq .leaf (.norm ⟨[2], padK 7 []⟩ (.ret []))) .leaf)) .leaf)))))) .leaf)))
def al6_3 : AN := .loop nm6_3 an6_3
noncomputable def d6_3 : Code := bodyAt Try.f6 [1, 1, 1, 1, 1, 1, 1, 1, 1, 1, 0, 1, 0, 0]
theorem e6_3 (fuel : Nat) {R : Type} (F : St → Option R) (k : AExit → St → Option R) : ∀ x : ((List Int) × (List Int) × Int × (List (Int × (Int × (Int × Int)))) × (List Int)), runK R T (fns6 fuel) fuel [] (subsOf [sub6_0 fuel R, sub6_1 fuel R, sub6_2 fuel R]) (partOf d6_3 an6_3) (fr6_3.st [0, 5, 6, 10, 11] x) (backTo R [] nm6_3 F k) = s6_3 fuel (fun x => F (fr6_3.st [0, 5, 6, 10, 11] x)) (fun y => k (.ret []) (fx6_0.st [2] y)) (fun y => k (.exit 2) (fx6_3.st [6, 10] y)) x := by
  rintro ⟨x55, x56, x57, x58, x59⟩
  kernel_rfl
theorem u6_3 (fuel : Nat) {R : Type} (k : AExit → St → Option R) (x : ((List Int) × (List Int) × Int × (List (Int × (Int × (Int × Int)))) × (List Int))) : runK R T (fns6 fuel) fuel [] (subsOf [sub6_0 fuel R, sub6_1 fuel R, sub6_2 fuel R]) (partOf c6_3 al6_3) (fr6_3.st [0, 5, 6, 10, 11] x) k = l6_3 fuel (fun y => k (.ret []) (fx6_0.st [2] y)) (fun y => k (.exit 2) (fx6_3.st [6, 10] y)) fuel x :=
  loop_eq (mk := fr6_3.st [0, 5, 6, 10, 11]) (s := fun F x => s6_3 fuel F (fun y => k (.ret []) (fx6_0.st [2] y)) (fun y => k (.exit 2) (fx6_3.st [6, 10] y)) x) (l := fun n x => l6_3 fuel (fun y => k (.ret []) (fx6_0.st [2] y)) (fun y => k (.exit 2) (fx6_3.st [6, 10] y)) n x) (d := d6_3) (by kernel_rfl) (fun G x => by
    revert x
    rintro ⟨x55, x56, x57, x58, x59⟩
    kernel_rfl) (fun F x => e6_3 fuel F k x) (fun _ => rfl) (fun _ _ => rfl) x
noncomputable def sub6_3 (fuel : Nat) (R : Type) : Sub R := Sub.of [0, 5, 6, 10, 11] c6_3 fr6_3 fun x k => l6_3 fuel (fun y => k (.ret []) (fx6_0.st [2] y)) (fun y => k (.exit 2) (fx6_3.st [6, 10] y)) fuel x
theorem subOk6_3 (fuel : Nat) (R : Type) : SubOk P [] 241 (sub6_3 fuel R) :=
  subOk_part (fns := (fns6 fuel)) (fuel := fuel) (subs := (subsOf [sub6_0 fuel R, sub6_1 fuel R, sub6_2 fuel R])) (an := al6_3) T_ok (fnsOk6 fuel) mixed (subsOk_cons (subOk6_0 fuel R) (subsOk_cons (subOk6_1 fuel R) (subsOk_cons (subOk6_2 fuel R) subsOk_nil))) (by kernel_rfl) (by kernel_rfl) fun _ _ _ _ h => Sub.of_run (fun (x : ((List Int) × (List Int) × Int × (List (Int × (Int × (Int × Int)))) × (List Int))) k => u6_3 fuel k x) h
def fx6_4 : Fr := ⟨[.c (.slc 0 0), .d true (.int .i64), .d true (.int .i64), .d true (.int .i64)], [.arr 0 (.int .i64)], 6⟩
def fr6_4 : Fr := ⟨[.c (.slc 0 0), .d true (.int .i64), .d true (.int .i64), .d true (.int .i64)], [.arr 0 (.int .i64)], 6⟩
noncomputable def c6_4 : Code := bodyAt Try.f6 [1, 1, 1, 1, 1, 1, 1, 1, 1, 1, 1, 1, 1, 1, 1, 0, 1, 0, 0, 1, 0, 0, 1]
def j6_4 (fuel : Nat) {R : Type} (k0 : (Int × Int × Int × (List Int)) → Option R) : (Int × Int × Int × (List Int)) → Option R := fun (x80, x81, x82, x83) => (if 0 ≤ x82 ∧ x82 < ((List.length x83 : Nat) : Int) then (match (x83)[(Int.toNat x82)]? with | some y84 => (k0 (x80, (if y84 < x81 then y84 else x81), x82, x83)) | none => none) else none)
def al6_4 : AN := (.fin ⟨[6, 21, 22, 23], padK 6 [some (0, 0)]⟩ (.region [(3, { touch := [0] }), (4, { touch := [0] })]))
theorem u6_4 (fuel : Nat) {R : Type} (k : AExit → St → Option R) : ∀ x : (Int × Int × Int × (List Int)), runK R T (fns6 fuel) fuel [] (subsOf [sub6_0 fuel R, sub6_1 fuel R, sub6_2 fuel R, sub6_3 fuel R]) (partOf c6_4 al6_4) (fr6_4.st [6, 21, 22, 23] x) k = j6_4 fuel (fun y => k .normal (fx6_4.st [6, 21, 22, 23] y)) x := by
  rintro ⟨x80, x81, x82, x83⟩
  kernel_rfl
noncomputable def sub6_4 (fuel : Nat) (R : Type) : Sub R := Sub.of [6, 21, 22, 23] c6_4 fr6_4 fun x k => j6_4 fuel (fun y => k .normal (fx6_4.st [6, 21, 22, 23] y)) x
theorem subOk6_4 (fuel : Nat) (R : Type) : SubOk P [] 241 (sub6_4 fuel R) :=
  subOk_part (fns := (fns6 fuel)) (fuel := fuel) (subs := (subsOf [sub6_0 fuel R, sub6_1 fuel R, sub6_2 fuel R, sub6_3 fuel R])) (an := al6_4) T_ok (fnsOk6 fuel) mixed (subsOk_cons (subOk6_0 fuel R) (subsOk_cons (subOk6_1 fuel R) (subsOk_cons (subOk6_2 fuel R) (subsOk_cons (subOk6_3 fuel R) subsOk_nil)))) (by kernel_rfl) (by kernel_rfl) fun _ _ _ _ h => Sub.of_run (fun (x : (Int × Int × Int × (List Int))) k => u6_4 fuel k x) h
def fx6_5 : Fr := ⟨[.c (.slc 0 0), .d true (.int .i64), .d true (.int .i64)], [.arr 0 (.int .i64)], 6⟩
def fr6_5 : Fr := ⟨[.c (.slc 0 0), .d true (.int .i64), .d true (.int .i64), .d true (.int .i64)], [.arr 0 (.int .i64)], 6⟩
noncomputable def c6_5 : Code := bodyAt Try.f6 [1, 1, 1, 1, 1, 1, 1, 1, 1, 1, 1, 1, 1, 1, 1, 0, 1, 0]
def s6_5 (fuel : Nat) {R : Type} (F : (Int × Int × Int × (List Int)) → Option R) (k0 : (Int × Int × (List Int)) → Option R) : (Int × Int × Int × (List Int)) → Option R := fun (x74, x75, x76, x77) => (bif (decide (x76 < ((List.length x77 : Nat) : Int))) then (if 0 ≤ x76 ∧ x76 < ((List.length x77 : Nat) : Int) then (match (x77)[(Int.toNat x76)]? with | some y78 => (if 0 ≤ x74 ∧ x74 < ((List.length x77 : Nat) : Int) then (match (x77)[(Int.toNat x74)]? with | some y79 => (bif (decide (y79 < y78)) then (j6_4 fuel (fun (x85, x86, x87, x88) => (F (x85, x86, (IntKind.wrap .i64 (x87 + (1 : Int))), x88))) (x76, x75, x76, x77)) else (j6_4 fuel (fun (x89, x90, x91, x92) => (F (x89, x90, (IntKind.wrap .i64 (x91 + (1 : Int))), x92))) (x74, x75, x76, x77))) | none => none) else none) | none => none) else none) else (k0 (x74, x75, x77)))
def l6_5 (fuel : Nat) {R : Type} (k0 : (Int × Int × (List Int)) → Option R) : Nat → (Int × Int × Int × (List Int)) → Option R
  | 0, _ => none
  | n + 1, x => s6_5 fuel (l6_5 fuel k0 n) k0 x
def nm6_5 : Norm := ⟨[6, 21, 22, 23], padK 6 [some (0, 0)]⟩
def an6_5 : AN := (.seq (.seq (.region [(2, { touch := [0] })]) (.cond .leaf (.norm ⟨[6, 21, 22], padK 6 [some (0, 0)]⟩ .leaf))) (.seq (.block (.seq (.seq (.region [(2, { touch := [0] }), (3, { touch := [0] }), (6, { touch := [0] }), (7, { touch := [0] })]) (.cond (.fin ⟨[6, 21, 22, 23], padK 6 [some (0, 0)]⟩ .leaf) (.fin ⟨[6, 21, 22, 23], padK 6 [some (0, 0)]⟩ .leaf))) (.hole ⟨[6, 21, 22, 23], padK 6 [some (0, 0)]⟩ 4))) .leaf))
def al6_5 : AN := .loop nm6_5 an6_5
noncomputable def d6_5 : Code := bodyAt Try.f6 [1, 1, 1, 1, 1, 1, 1, 1, 1, 1, 1, 1, 1, 1, 1, 0, 1, 0, 0]
theorem e6_5 (fuel : Nat) {R : Type} (F : St → Option R) (k : AExit → St → Option R) : ∀ x : (Int × Int × Int × (List Int)), runK R T (fns6 fuel) fuel [] (subsOf [sub6_0 fuel R, sub6_1 fuel R, sub6_2 fuel R, sub6_3 fuel R, sub6_4 fuel R]) (partOf d6_5 an6_5) (fr6_5.st [6, 21, 22, 23] x) (backTo R [] nm6_5 F k) = s6_5 fuel (fun x => F (fr6_5.st [6, 21, 22, 23] x)) (fun y => k (.exit 4) (fx6_5.st [6, 21, 22] y)) x := by
  rintro ⟨x74, x75, x76, x77⟩
  kernel_rfl
theorem u6_5 (fuel : Nat) {R : Type} (k : AExit → St → Option R) (x : (Int × Int × Int × (List Int))) : runK R T (fns6 fuel) fuel [] (subsOf [sub6_0 fuel R, sub6_1 fuel R, sub6_2 fuel R, sub6_3 fuel R, sub6_4 fuel R]) (partOf c6_5 al6_5) (fr6_5.st [6, 21, 22, 23] x) k = l6_5 fuel (fun y => k (.exit 4) (fx6_5.st [6, 21, 22] y)) fuel x :=
  loop_eq (mk := fr6_5.st [6, 21, 22, 23]) (s := fun F x => s6_5 fuel F (fun y => k (.exit 4) (fx6_5.st [6, 21, 22] y)) x) (l := fun n x => l6_5 fuel (fun y => k (.exit 4) (fx6_5.st [6, 21, 22] y)) n x) (d := d6_5) (by kernel_rfl) (fun G x => by
    revert x
    rintro ⟨x74, x75, x76, x77⟩
    kernel_rfl) (fun F x => e6_5 fuel F k x) (fun _ => rfl) (fun _ _ => rfl) x
noncomputable def sub6_5 (fuel : Nat) (R : Type) : Sub R := Sub.of [6, 21, 22, 23] c6_5 fr6_5 fun x k => l6_5 fuel (fun y => k (.exit 4) (fx6_5.st [6, 21, 22] y)) fuel x
theorem subOk6_5 (fuel : Nat) (R : Type) : SubOk P [] 241 (sub6_5 fuel R) :=
  subOk_part (fns := (fns6 fuel)) (fuel := fuel) (subs := (subsOf [sub6_0 fuel R, sub6_1 fuel R, sub6_2 fuel R, sub6_3 fuel R, sub6_4 fuel R])) (an := al6_5) T_ok (fnsOk6 fuel) mixed (subsOk_cons (subOk6_0 fuel R) (subsOk_cons (subOk6_1 fuel R) (subsOk_cons (subOk6_2 fuel R) (subsOk_cons (subOk6_3 fuel R) (subsOk_cons (subOk6_4 fuel R) subsOk_nil))))) (by kernel_rfl) (by kernel_rfl) fun _ _ _ _ h => Sub.of_run (fun (x : (Int × Int × Int × (List Int))) k => u6_5 fuel k x) h
def fr6_6 : Fr := ⟨[.d true (.slice (.int .i64)), .c (.slc 0 0), .c (.slc 1 0), .d true (.int .i64)], [.arr 0 (.pair (.int .i64) (.pair (.int .i64) (.pair (.int .i64) (.int .i64)))), .arr 0 (.int .i64)], 5⟩
noncomputable def c6_6 : Code := bodyAt Try.f6 [1, 1, 1, 1, 1, 1, 1]
noncomputable def j6_6 (fuel : Nat) {R : Type} (k0 : Bool → Option R) : ((List Int) × Int × (List (Int × (Int × (Int × Int)))) × (List Int)) → Option R := fun (x21, x22, x23, x24) => (l6_2 fuel (fun x50 => (k0 x50)) (fun (x51, x52, x53, x54) => (bif (!decide (x52 = (0 : Int))) then (k0 false) else (bif (decide ((1500 : Int) < ((List.length x53 : Nat) : Int))) then (k0 false) else (l6_3 fuel (fun x69 => (k0 x69)) (fun (x70, x71) => (match p18c fuel (x70, x71) with | some z72 => (bif (!z72) then (k0 false) else (if 0 ≤ (0 : Int) ∧ (0 : Int) < ((List.length x71 : Nat) : Int) then (match (x71)[(Int.toNat (0 : Int))]? with | some y73 => (l6_5 fuel (fun (x93, x94, x95) => (if 0 ≤ x93 ∧ x93 < ((List.length x95 : Nat) : Int) then (match (x95)[(Int.toNat x93)]? with | some y96 => (bif (decide (y96 < (2 : Int))) then (k0 true) else (if 0 ≤ x93 ∧ x93 < ((List.length x95 : Nat) : Int) then (match (x95)[(Int.toNat x93)]? with | some y97 => (bif (decide (y97 ≤ (IntKind.wrap .i64 ((2 : Int) * x94)))) then (k0 true) else (if 0 ≤ x93 ∧ x93 < ((List.length x95 : Nat) : Int) then (match (x95)[(Int.toNat x93)]? with | some y98 => (if ((List.length x95 : Nat) : Int) = 0 then none else let v99 := (Int.tmod (IntKind.wrap .i64 (x93 + (1 : Int))) ((List.length x95 : Nat) : Int)); (if 0 ≤ v99 ∧ v99 < ((List.length x95 : Nat) : Int) then (match (x95)[(Int.toNat v99)]? with | some y100 => (bif (decide (y98 ≤ (IntKind.wrap .i64 ((2 : Int) * y100)))) then (if 0 ≤ x93 ∧ x93 < ((List.length x95 : Nat) : Int) then (match (x95)[(Int.toNat x93)]? with | some y101 => let v102 := (IntKind.wrap .i64 ((IntKind.wrap .i64 (x93 + ((List.length x95 : Nat) : Int))) - (1 : Int))); (if ((List.length x95 : Nat) : Int) = 0 then none else (if 0 ≤ (Int.tmod v102 ((List.length x95 : Nat) : Int)) ∧ (Int.tmod v102 ((List.length x95 : Nat) : Int)) < ((List.length x95 : Nat) : Int) then (match (x95)[(Int.toNat (Int.tmod v102 ((List.length x95 : Nat) : Int)))]? with | some y103 => (k0 (decide (y101 ≤ (IntKind.wrap .i64 ((2 : Int) * y103))))) | none => none) else none)) | none => none) else none) else (k0 false)) | none => none) else none)) | none => none) else none)) | none => none) else none)) | none => none) else none)) fuel ((0 : Int), y73, (0 : Int), x71)) | none => none) else none)) | none => none)) fuel (x51, x51, (0 : Int), x53, x54))))) fuel (x21, x22, (0 : Int), x23, x24))
def al6_6 : AN := (.seq (.seq .leaf (.block (.hole ⟨[0, 5, 6, 7, 9], padK 5 [some (0, 0), some (1, 0)]⟩ 2))) (.seq (.seq (.region [(4, { touch := [0] })]) (.cond (.seq .leaf (.norm ⟨[2], padK 7 []⟩ (.ret []))) .leaf)) (.seq .leaf (.seq (.seq .leaf (.block (.hole ⟨[0, 5, 6, 10, 11], padK 5 [some (0, 0), some (1, 0)]⟩ 3))) (.seq (.region [(2, { touch := [0], lend := [none, some (.slice (.int .i64))] })]) (.seq (.seq .leaf (.cond (.seq .leaf (.norm ⟨[2], padK 7 []⟩ (.ret []))) .leaf)) (.seq .leaf (.seq (.region [(1, { touch := [0] }), (2, { touch := [0] })]) (.seq (.seq .leaf (.block (.hole ⟨[6, 21, 22, 23], padK 6 [some (0, 0)]⟩ 5))) (.seq (.region [(1, { touch := [0] })]) (.seq (.region [(2, { touch := [0] }), (3, { touch := [0] }), (8, { touch := [0] }), (9, { touch := [0] }), (17, { touch := [0] }), (18, { touch := [0] }), (24, { touch := [0] }), (25, { touch := [0] }), (31, { touch := [0] }), (32, { touch := [0] }), (40, { touch := [0] }), (41, { touch := [0] })]) (.norm ⟨[2], padK 7 []⟩ (.ret [])))))))))))))
theorem u6_6 (fuel : Nat) {R : Type} (k : AExit → St → Option R) : ∀ x : ((List Int) × Int × (List (Int × (Int × (Int × Int)))) × (List Int)), runK R T (fns6 fuel) fuel [] (subsOf [sub6_0 fuel R, sub6_1 fuel R, sub6_2 fuel R, sub6_3 fuel R, sub6_4 fuel R, sub6_5 fuel R]) (partOf c6_6 al6_6) (fr6_6.st [0, 5, 6, 7] x) k = j6_6 fuel (fun y => k (.ret []) (fx6_0.st [2] y)) x := by
  rintro ⟨x21, x22, x23, x24⟩
  kernel_rfl
noncomputable def sub6_6 (fuel : Nat) (R : Type) : Sub R := Sub.of [0, 5, 6, 7] c6_6 fr6_6 fun x k => j6_6 fuel (fun y => k (.ret []) (fx6_0.st [2] y)) x
theorem subOk6_6 (fuel : Nat) (R : Type) : SubOk P [] 241 (sub6_6 fuel R) :=
  subOk_part (fns := (fns6 fuel)) (fuel := fuel) (subs := (subsOf [sub6_0 fuel R, sub6_1 fuel R, sub6_2 fuel R, sub6_3 fuel R, sub6_4 fuel R, sub6_5 fuel R])) (an := al6_6) T_ok (fnsOk6 fuel) mixed (subsOk_cons (subOk6_0 fuel R) (subsOk_cons (subOk6_1 fuel R) (subsOk_cons (subOk6_2 fuel R) (subsOk_cons (subOk6_3 fuel R) (subsOk_cons (subOk6_4 fuel R) (subsOk_cons (subOk6_5 fuel R) subsOk_nil)))))) (by kernel_rfl) (by kernel_rfl) fun _ _ _ _ h => Sub.of_run (fun (x : ((List Int) × Int × (List (Int × (Int × (Int × Int)))) × (List Int))) k => u6_6 fuel k x) h
def an6 : AN := (.seq .leaf (.seq .leaf (.seq (.region [(1, { touch := [3], base := 3, ro := false, fresh := 1 })]) (.seq (.region [(1, { touch := [3, 4, 5], base := 4, ro := false, fresh := 2, lend := [some (.slice (.int .i64))] })]) (.seq (.region [(2, { touch := [3], ro := false, loc := [3] })]) (.seq (.seq .leaf (.cond (.seq .leaf (.norm ⟨[2], padK 7 []⟩ (.ret []))) .leaf)) (.seq (.seq .leaf (.hole ⟨[0, 5, 6, 7, 50], padK 5 [some (4, 0), some (5, 0)]⟩ 0)) (.hole ⟨[0, 5, 6, 7], padK 5 [some (0, 0), some (1, 0)]⟩ 6))))))))
noncomputable def p6 (fuel : Nat) : (List Int) → Option Bool := fun x1 => (match p7 fuel () with | some z2 => (match p10 fuel x1 with | some z3 => (match p19 fuel (List.take z3.2.1 (List.drop z3.1 z3.2.2)) with | some z4 => (match p13 fuel (z3.1, z3.2.1, x1, z3.2.2) with | some z5 => (bif (!z2) then (some false) else (bif (!z5.1) then (some false) else (bif (decide (((List.length x1 : Nat) : Int) < (1 : Int))) then (j6_0 fuel (fun x11 => (some x11)) (fun (x12, x13, x14, x15) => (j6_6 fuel (fun x104 => (some x104)) (x12, x13, x14, x15))) (x1, z4.1, true, z4.2.1, z4.2.2)) else (j6_0 fuel (fun x16 => (some x16)) (fun (x17, x18, x19, x20) => (j6_6 fuel (fun x105 => (some x105)) (x17, x18, x19, x20))) (x1, z4.1, (decide ((12 : Int) < ((List.length x1 : Nat) : Int))), z4.2.1, z4.2.2))))) | none => none) | none => none) | none => none) | none => none)
noncomputable def F6 (fuel : Nat) : Fun := funOfA fi6 al6 (p6 fuel)
theorem run6 (fuel : Nat) : ∀ y : (List Int), runF Bool T (fns6 fuel) fuel (subsOf [sub6_0 fuel Bool, sub6_1 fuel Bool, sub6_2 fuel Bool, sub6_3 fuel Bool, sub6_4 fuel Bool, sub6_5 fuel Bool, sub6_6 fuel Bool]) (defOf Try.f6 an6 7 [] []) (fi6.vs y) (fi6.os y) (altsDec al6) = p6 fuel y := by
  rintro x1
  kernel_rfl
theorem ok6 (fuel : Nat) : FunOk P 6 (funOfA fi6 al6 (p6 fuel)) :=
  funOfA_ok (subs := (subsOf [sub6_0 fuel Bool, sub6_1 fuel Bool, sub6_2 fuel Bool, sub6_3 fuel Bool, sub6_4 fuel Bool, sub6_5 fuel Bool, sub6_6 fuel Bool])) (an := an6) (room := 7) (ks := []) (g0 := []) (fuel := fuel) T_ok (fnsOk6 fuel) mixed (fn := Try.f6) (by kernel_rfl) (by kernel_rfl) (subsOk_cons (subOk6_0 fuel _) (subsOk_cons (subOk6_1 fuel _) (subsOk_cons (subOk6_2 fuel _) (subsOk_cons (subOk6_3 fuel _) (subsOk_cons (subOk6_4 fuel _) (subsOk_cons (subOk6_5 fuel _) (subsOk_cons (subOk6_6 fuel _) subsOk_nil))))))) (by kernel_rfl) (fun _ => ⟨by kernel_rfl, by kernel_rfl⟩) (run6 fuel)
end Go.Am.Ytbbbdckbcicmbaa
