/- Printed by gen2.py: functions as plain Lean functions, each with its equality with the machine run. -/
import Derived.Test.YtioacppahkhbhaaProg
import Derived.Test.YtioacppahkhbhaaAmZC
namespace Go.Am.Ytioacppahkhbhaa
open Go.Proofs
noncomputable abbrev P : Program := Try.prog
noncomputable def td3 : TD := { und := .int .i64, size := 1, bytes := 8, zero := (.dat true (.int .i64) ((0 : Int) : Int)), cmp := true }
theorem tdOk3 : TdOk P 3 td3 := tdOk_of (i := infoAt P 3) (cs := cellsOfTD td3) (by kernel_rfl) (by kernel_rfl) (by kernel_rfl) (by kernel_rfl) (show P.underlying 3 = some (.int .i64) by kernel_rfl) (fun _ => ⟨by kernel_rfl, by kernel_rfl⟩)
noncomputable def td4 : TD := { und := .bool, size := 1, bytes := 1, zero := (.dat true (.bool) (false : Bool)), cmp := true }
theorem tdOk4 : TdOk P 4 td4 := tdOk_of (i := infoAt P 4) (cs := cellsOfTD td4) (by kernel_rfl) (by kernel_rfl) (by kernel_rfl) (by kernel_rfl) (show P.underlying 4 = some .bool by kernel_rfl) (fun _ => ⟨by kernel_rfl, by kernel_rfl⟩)
noncomputable def td22 : TD := { und := .slice 3, size := 1, bytes := 24, zero := .nils, cmp := false }
theorem tdOk22 : TdOk P 22 td22 := tdOk_of (i := infoAt P 22) (cs := cellsOfTD td22) (by kernel_rfl) (by kernel_rfl) (by kernel_rfl) (by kernel_rfl) (show P.underlying 22 = some (.slice 3) by kernel_rfl) (fun h => by cases h)
noncomputable def td24 : TD := { und := .struct [(0, 3), (1, 22), (2, 22)], size := 3, bytes := 56, zero := (.pair (.dat true (.int .i64) ((0 : Int) : Int)) (.pair .nils .nils)), cmp := false }
theorem tdOk24 : TdOk P 24 td24 := tdOk_of (i := infoAt P 24) (cs := cellsOfTD td24) (by kernel_rfl) (by kernel_rfl) (by kernel_rfl) (by kernel_rfl) (undStruct (fieldsAt P 24) (by kernel_rfl) (by kernel_rfl) (by kernel_rfl)) (fun h => by cases h)
noncomputable def td26 : TD := { und := .int .u32, size := 1, bytes := 4, zero := (.dat true (.int .u32) ((0 : Int) : Int)), cmp := true }
theorem tdOk26 : TdOk P 26 td26 := tdOk_of (i := infoAt P 26) (cs := cellsOfTD td26) (by kernel_rfl) (by kernel_rfl) (by kernel_rfl) (by kernel_rfl) (show P.underlying 26 = some (.int .u32) by kernel_rfl) (fun _ => ⟨by kernel_rfl, by kernel_rfl⟩)
noncomputable def td27 : TD := { und := .arr 64 3, size := 64, bytes := 512, zero := (.dat true (.arr 64 (.int .i64)) ((List.replicate 64 (0 : Int)) : (List Int))), cmp := true }
theorem tdOk27 : TdOk P 27 td27 := tdOk_of (i := infoAt P 27) (cs := cellsOfTD td27) (by kernel_rfl) (by kernel_rfl) (by kernel_rfl) (by kernel_rfl) (show P.underlying 27 = some (.array 64 3) by kernel_rfl) (fun _ => ⟨by kernel_rfl, by kernel_rfl⟩)
noncomputable def td28 : TD := { und := .arr 64 26, size := 64, bytes := 256, zero := (.dat true (.arr 64 (.int .u32)) ((List.replicate 64 (0 : Int)) : (List Int))), cmp := true }
theorem tdOk28 : TdOk P 28 td28 := tdOk_of (i := infoAt P 28) (cs := cellsOfTD td28) (by kernel_rfl) (by kernel_rfl) (by kernel_rfl) (by kernel_rfl) (show P.underlying 28 = some (.array 64 26) by kernel_rfl) (fun _ => ⟨by kernel_rfl, by kernel_rfl⟩)
noncomputable def td29 : TD := { und := .arr 12 4, size := 12, bytes := 12, zero := (.dat true (.arr 12 (.bool)) ((List.replicate 12 false) : (List Bool))), cmp := true }
theorem tdOk29 : TdOk P 29 td29 := tdOk_of (i := infoAt P 29) (cs := cellsOfTD td29) (by kernel_rfl) (by kernel_rfl) (by kernel_rfl) (by kernel_rfl) (show P.underlying 29 = some (.array 12 4) by kernel_rfl) (fun _ => ⟨by kernel_rfl, by kernel_rfl⟩)
noncomputable def td30 : TD := { und := .arr 12 26, size := 12, bytes := 48, zero := (.dat true (.arr 12 (.int .u32)) ((List.replicate 12 (0 : Int)) : (List Int))), cmp := true }
theorem tdOk30 : TdOk P 30 td30 := tdOk_of (i := infoAt P 30) (cs := cellsOfTD td30) (by kernel_rfl) (by kernel_rfl) (by kernel_rfl) (by kernel_rfl) (show P.underlying 30 = some (.array 12 26) by kernel_rfl) (fun _ => ⟨by kernel_rfl, by kernel_rfl⟩)
noncomputable def td32 : TD := { und := .struct [(0, 26), (1, 27), (65, 28), (129, 29), (141, 30)], size := 153, bytes := 840, zero := (.dat true (.pair (.int .u32) (.pair (.arr 64 (.int .i64)) (.pair (.arr 64 (.int .u32)) (.pair (.arr 12 (.bool)) (.arr 12 (.int .u32)))))) (((0 : Int), ((List.replicate 64 (0 : Int)), ((List.replicate 64 (0 : Int)), ((List.replicate 12 false), (List.replicate 12 (0 : Int)))))) : (Int × ((List Int) × ((List Int) × ((List Bool) × (List Int))))))), cmp := true }
theorem tdOk32 : TdOk P 32 td32 := tdOk_of (i := infoAt P 32) (cs := cellsOfTD td32) (by kernel_rfl) (by kernel_rfl) (by kernel_rfl) (by kernel_rfl) (undStruct (fieldsAt P 32) (by kernel_rfl) (by kernel_rfl) (by kernel_rfl)) (fun _ => ⟨by kernel_rfl, by kernel_rfl⟩)
noncomputable def td33 : TD := { und := .int .i64, size := 1, bytes := 8, zero := (.dat true (.int .i64) ((0 : Int) : Int)), cmp := true }
theorem tdOk33 : TdOk P 33 td33 := tdOk_of (i := infoAt P 33) (cs := cellsOfTD td33) (by kernel_rfl) (by kernel_rfl) (by kernel_rfl) (by kernel_rfl) (show P.underlying 33 = some (.int .i64) by kernel_rfl) (fun _ => ⟨by kernel_rfl, by kernel_rfl⟩)
noncomputable def td37 : TD := { und := .int .i64, size := 1, bytes := 8, zero := (.dat true (.int .i64) ((0 : Int) : Int)), cmp := true }
theorem tdOk37 : TdOk P 37 td37 := tdOk_of (i := infoAt P 37) (cs := cellsOfTD td37) (by kernel_rfl) (by kernel_rfl) (by kernel_rfl) (by kernel_rfl) (show P.underlying 37 = some (.int .i64) by kernel_rfl) (fun _ => ⟨by kernel_rfl, by kernel_rfl⟩)
noncomputable def td39 : TD := { und := .struct [(0, 37), (1, 3), (2, 3), (3, 3)], size := 4, bytes := 32, zero := (.dat true (.pair (.int .i64) (.pair (.int .i64) (.pair (.int .i64) (.int .i64)))) (((0 : Int), ((0 : Int), ((0 : Int), (0 : Int)))) : (Int × (Int × (Int × Int))))), cmp := true }
theorem tdOk39 : TdOk P 39 td39 := tdOk_of (i := infoAt P 39) (cs := cellsOfTD td39) (by kernel_rfl) (by kernel_rfl) (by kernel_rfl) (by kernel_rfl) (undStruct (fieldsAt P 39) (by kernel_rfl) (by kernel_rfl) (by kernel_rfl)) (fun _ => ⟨by kernel_rfl, by kernel_rfl⟩)
noncomputable def td41 : TD := { und := .struct [(0, 3), (1, 3)], size := 2, bytes := 16, zero := (.dat true (.pair (.int .i64) (.int .i64)) (((0 : Int), (0 : Int)) : (Int × Int))), cmp := true }
theorem tdOk41 : TdOk P 41 td41 := tdOk_of (i := infoAt P 41) (cs := cellsOfTD td41) (by kernel_rfl) (by kernel_rfl) (by kernel_rfl) (by kernel_rfl) (undStruct (fieldsAt P 41) (by kernel_rfl) (by kernel_rfl) (by kernel_rfl)) (fun _ => ⟨by kernel_rfl, by kernel_rfl⟩)
noncomputable def td45 : TD := { und := .int .i64, size := 1, bytes := 8, zero := (.dat true (.int .i64) ((0 : Int) : Int)), cmp := true }
theorem tdOk45 : TdOk P 45 td45 := tdOk_of (i := infoAt P 45) (cs := cellsOfTD td45) (by kernel_rfl) (by kernel_rfl) (by kernel_rfl) (by kernel_rfl) (show P.underlying 45 = some (.int .i64) by kernel_rfl) (fun _ => ⟨by kernel_rfl, by kernel_rfl⟩)
noncomputable def td47 : TD := { und := .struct [(0, 45), (1, 3), (2, 3), (3, 41), (5, 26), (6, 26)], size := 7, bytes := 48, zero := (.dat true (.pair (.int .i64) (.pair (.int .i64) (.pair (.int .i64) (.pair (.pair (.int .i64) (.int .i64)) (.pair (.int .u32) (.int .u32)))))) (((0 : Int), ((0 : Int), ((0 : Int), (((0 : Int), (0 : Int)), ((0 : Int), (0 : Int)))))) : (Int × (Int × (Int × ((Int × Int) × (Int × Int))))))), cmp := true }
theorem tdOk47 : TdOk P 47 td47 := tdOk_of (i := infoAt P 47) (cs := cellsOfTD td47) (by kernel_rfl) (by kernel_rfl) (by kernel_rfl) (by kernel_rfl) (undStruct (fieldsAt P 47) (by kernel_rfl) (by kernel_rfl) (by kernel_rfl)) (fun _ => ⟨by kernel_rfl, by kernel_rfl⟩)
noncomputable def td67 : TD := { und := .slice 41, size := 1, bytes := 24, zero := .nils, cmp := false }
theorem tdOk67 : TdOk P 67 td67 := tdOk_of (i := infoAt P 67) (cs := cellsOfTD td67) (by kernel_rfl) (by kernel_rfl) (by kernel_rfl) (by kernel_rfl) (show P.underlying 67 = some (.slice 41) by kernel_rfl) (fun h => by cases h)
noncomputable def td70 : TD := { und := .struct [(0, 47), (7, 4)], size := 8, bytes := 56, zero := (.dat true (.pair (.pair (.int .i64) (.pair (.int .i64) (.pair (.int .i64) (.pair (.pair (.int .i64) (.int .i64)) (.pair (.int .u32) (.int .u32)))))) (.bool)) ((((0 : Int), ((0 : Int), ((0 : Int), (((0 : Int), (0 : Int)), ((0 : Int), (0 : Int)))))), false) : ((Int × (Int × (Int × ((Int × Int) × (Int × Int))))) × Bool))), cmp := true }
theorem tdOk70 : TdOk P 70 td70 := tdOk_of (i := infoAt P 70) (cs := cellsOfTD td70) (by kernel_rfl) (by kernel_rfl) (by kernel_rfl) (by kernel_rfl) (undStruct (fieldsAt P 70) (by kernel_rfl) (by kernel_rfl) (by kernel_rfl)) (fun _ => ⟨by kernel_rfl, by kernel_rfl⟩)
noncomputable def td72 : TD := { und := .ptr 32, size := 1, bytes := 8, zero := .nilp, cmp := false }
theorem tdOk72 : TdOk P 72 td72 := tdOk_of (i := infoAt P 72) (cs := cellsOfTD td72) (by kernel_rfl) (by kernel_rfl) (by kernel_rfl) (by kernel_rfl) (show P.underlying 72 = some (.pointer 32) by kernel_rfl) (fun h => by cases h)
noncomputable def td81 : TD := { und := .other, size := 1, bytes := 8, zero := .nilf, cmp := false }
theorem tdOk81 : TdOk P 81 td81 := tdOk_of (i := infoAt P 81) (cs := cellsOfTD td81) (by kernel_rfl) (by kernel_rfl) (by kernel_rfl) (by kernel_rfl) (⟨descAt P 81, by kernel_rfl, by kernel_rfl⟩) (fun h => by cases h)
noncomputable def td96 : TD := { und := .arr 64 4, size := 64, bytes := 64, zero := (.dat true (.arr 64 (.bool)) ((List.replicate 64 false) : (List Bool))), cmp := true }
theorem tdOk96 : TdOk P 96 td96 := tdOk_of (i := infoAt P 96) (cs := cellsOfTD td96) (by kernel_rfl) (by kernel_rfl) (by kernel_rfl) (by kernel_rfl) (show P.underlying 96 = some (.array 64 4) by kernel_rfl) (fun _ => ⟨by kernel_rfl, by kernel_rfl⟩)
noncomputable def T : Tbl := tblOf [(3, td3), (4, td4), (22, td22), (24, td24), (26, td26), (27, td27), (28, td28), (29, td29), (30, td30), (32, td32), (33, td33), (37, td37), (39, td39), (41, td41), (45, td45), (47, td47), (67, td67), (70, td70), (72, td72), (81, td81), (96, td96)]
theorem T_ok : TblOk P T := (tblOk_cons tdOk3 (tblOk_cons tdOk4 (tblOk_cons tdOk22 (tblOk_cons tdOk24 (tblOk_cons tdOk26 (tblOk_cons tdOk27 (tblOk_cons tdOk28 (tblOk_cons tdOk29 (tblOk_cons tdOk30 (tblOk_cons tdOk32 (tblOk_cons tdOk33 (tblOk_cons tdOk37 (tblOk_cons tdOk39 (tblOk_cons tdOk41 (tblOk_cons tdOk45 (tblOk_cons tdOk47 (tblOk_cons tdOk67 (tblOk_cons tdOk70 (tblOk_cons tdOk72 (tblOk_cons tdOk81 (tblOk_cons tdOk96 tblOk_nil)))))))))))))))))))))
theorem mixed : P.follows .mixedOrders = true := by kernel_rfl

-- f5: tontine/tontinetop.share
def fns5 (fuel : Nat) : Fns := fnsOf []
theorem fnsOk5 (fuel : Nat) : FnsOk P (fns5 fuel) := fnsOk_nil
def fi5 : Fr := ⟨[.d false (.int .i64), .d false (.int .i64)], [], 0⟩
def al5 : List (Tm × List To) := [(.d true (.int .i64), [])]
def fx5_0 : Fr := ⟨[.d true (.int .i64)], [], 0⟩
def fr5_0 : Fr := ⟨[.d true (.int .i64), .d true (.int .i64)], [], 0⟩
noncomputable def c5_0 : Code := bodyAt Try.f5 [1, 1]
def j5_0 (fuel : Nat) {R : Type} (k0 : Int → Option R) : (Int × Int) → Option R := fun (x3, x4) => (if x4 = 0 then none else (k0 (Int.tmod x3 x4)))
def al5_0 : AN := (.seq .leaf (.norm ⟨[4], padK 0 []⟩ (.ret [])))
theorem u5_0 (fuel : Nat) {R : Type} (k : AExit → St → Option R) : ∀ x : (Int × Int), runK R T (fns5 fuel) fuel [] (subsOf []) (partOf c5_0 al5_0) (fr5_0.st [0, 1] x) k = j5_0 fuel (fun y => k (.ret []) (fx5_0.st [4] y)) x := by
  rintro ⟨x3, x4⟩
  kernel_rfl
noncomputable def sub5_0 (fuel : Nat) (R : Type) : Sub R := Sub.of [0, 1] c5_0 fr5_0 fun x k => j5_0 fuel (fun y => k (.ret []) (fx5_0.st [4] y)) x
theorem subOk5_0 (fuel : Nat) (R : Type) : SubOk P [] 13 (sub5_0 fuel R) :=
  subOk_part (fns := (fns5 fuel)) (fuel := fuel) (subs := (subsOf [])) (an := al5_0) T_ok (fnsOk5 fuel) mixed subsOk_nil (by kernel_rfl) (by kernel_rfl) fun _ _ _ _ h => Sub.of_run (fun (x : (Int × Int)) k => u5_0 fuel k x) h
def an5 : AN := (.seq .leaf (.seq (.seq .leaf (.cond (.fin ⟨[0, 1], padK 0 []⟩ .leaf) (.fin ⟨[0, 1], padK 0 []⟩ .leaf))) (.hole ⟨[0, 1], padK 0 []⟩ 0)))
def p5 (fuel : Nat) : (Int × Int) → Option Int := fun (x1, x2) => (bif (decide (x1 < (0 : Int))) then (j5_0 fuel (fun x5 => (some x5)) ((IntKind.wrap .i64 (0 - (IntKind.wrap .i64 (x1 + (1 : Int))))), x2)) else (j5_0 fuel (fun x6 => (some x6)) (x1, x2)))
def F5 (fuel : Nat) : Fun := funOfA fi5 al5 (p5 fuel)
theorem run5 (fuel : Nat) : ∀ y : (Int × Int), runF Int T (fns5 fuel) fuel (subsOf [sub5_0 fuel Int]) (defOf Try.f5 an5 0 [] []) (fi5.vs y) (fi5.os y) (altsDec al5) = p5 fuel y := by
  rintro ⟨x1, x2⟩
  kernel_rfl
theorem ok5 (fuel : Nat) : FunOk P 5 (funOfA fi5 al5 (p5 fuel)) :=
  funOfA_ok (subs := (subsOf [sub5_0 fuel Int])) (an := an5) (room := 0) (ks := []) (g0 := []) (fuel := fuel) T_ok (fnsOk5 fuel) mixed (fn := Try.f5) (by kernel_rfl) (by kernel_rfl) (subsOk_cons (subOk5_0 fuel _) subsOk_nil) (by kernel_rfl) (fun _ => ⟨by kernel_rfl, by kernel_rfl⟩) (run5 fuel)

-- f6: tontine/lease.New
def fns6 (fuel : Nat) : Fns := fnsOf []
theorem fnsOk6 (fuel : Nat) : FnsOk P (fns6 fuel) := fnsOk_nil
def fi6 : Fr := ⟨[.d false (.int .i64)], [], 0⟩
def al6 : List (Tm × List To) := [(.tup (.cons (.d true (.pair (.int .u32) (.pair (.arr 64 (.int .i64)) (.pair (.arr 64 (.int .u32)) (.pair (.arr 12 (.bool)) (.arr 12 (.int .u32))))))) (.cons (.d true (.int .i64)) (.c .nil))), [])]
def fx6_0 : Fr := ⟨[.d true (.int .i64), .c (.ptr 0 0 []), .c (.ptr 1 0 [])], [.box (.d true (.pair (.int .u32) (.pair (.arr 64 (.int .i64)) (.pair (.arr 64 (.int .u32)) (.pair (.arr 12 (.bool)) (.arr 12 (.int .u32))))))), .box (.d true (.pair (.int .u32) (.pair (.arr 64 (.int .i64)) (.pair (.arr 64 (.int .u32)) (.pair (.arr 12 (.bool)) (.arr 12 (.int .u32)))))))], 2⟩
def fr6_0 : Fr := ⟨[.d true (.int .i64), .c (.ptr 0 0 []), .c (.ptr 1 0 []), .d true (.int .i64)], [.box (.d true (.pair (.int .u32) (.pair (.arr 64 (.int .i64)) (.pair (.arr 64 (.int .u32)) (.pair (.arr 12 (.bool)) (.arr 12 (.int .u32))))))), .box (.d true (.pair (.int .u32) (.pair (.arr 64 (.int .i64)) (.pair (.arr 64 (.int .u32)) (.pair (.arr 12 (.bool)) (.arr 12 (.int .u32)))))))], 2⟩
noncomputable def c6_0 : Code := bodyAt Try.f6 [1, 1, 1, 0, 1, 0]
def s6_0 (fuel : Nat) {R : Type} (F : (Int × Int × (Int × ((List Int) × ((List Int) × ((List Bool) × (List Int))))) × (Int × ((List Int) × ((List Int) × ((List Bool) × (List Int)))))) → Option R) (k0 : (Int × (Int × ((List Int) × ((List Int) × ((List Bool) × (List Int))))) × (Int × ((List Int) × ((List Int) × ((List Bool) × (List Int)))))) → Option R) : (Int × Int × (Int × ((List Int) × ((List Int) × ((List Bool) × (List Int))))) × (Int × ((List Int) × ((List Int) × ((List Bool) × (List Int)))))) → Option R := fun (x2, x3, x4, x5) => (bif (decide (x3 < (64 : Int))) then let v6 := (IntKind.wrap .i64 (Int.tdiv (IntKind.wrap .i64 (x3 * x2)) (64 : Int))); (if 0 ≤ x3 ∧ x3 < ((64 : Nat) : Int) then (match (x5.2.1)[(Int.toNat x3)]? with | some y7 => (if 0 ≤ x3 ∧ x3 < ((64 : Nat) : Int) then (match (x5.2.2.1)[(Int.toNat x3)]? with | some y8 => (F (x2, (IntKind.wrap .i64 (x3 + (1 : Int))), x4, (x5.1, ((List.set x5.2.1 (Int.toNat x3) v6), ((List.set x5.2.2.1 (Int.toNat x3) (1 : Int)), x5.2.2.2))))) | none => none) else none) | none => none) else none) else (k0 (x2, x4, x5)))
def l6_0 (fuel : Nat) {R : Type} (k0 : (Int × (Int × ((List Int) × ((List Int) × ((List Bool) × (List Int))))) × (Int × ((List Int) × ((List Int) × ((List Bool) × (List Int)))))) → Option R) : Nat → (Int × Int × (Int × ((List Int) × ((List Int) × ((List Bool) × (List Int))))) × (Int × ((List Int) × ((List Int) × ((List Bool) × (List Int)))))) → Option R
  | 0, _ => none
  | n + 1, x => s6_0 fuel (l6_0 fuel k0 n) k0 x
def nm6_0 : Norm := ⟨[0, 2, 4, 15], padK 2 [some (0, 0), some (1, 0)]⟩
def an6_0 : AN := (.seq .leaf (.seq (.cond .leaf (.norm ⟨[0, 2, 4], padK 2 [some (0, 0), some (1, 0)]⟩ .leaf)) (.seq (.block (.seq .leaf (.region [(6, { touch := [1] }), (7, { touch := [1] }), (8, { touch := [1], ro := false }), (9, { touch := [1] }), (10, { touch := [1] }), (11, { touch := [1], ro := false })]))) .leaf)))
def al6_0 : AN := .loop nm6_0 an6_0
noncomputable def d6_0 : Code := bodyAt Try.f6 [1, 1, 1, 0, 1, 0, 0]
theorem e6_0 (fuel : Nat) {R : Type} (F : St → Option R) (k : AExit → St → Option R) : ∀ x : (Int × Int × (Int × ((List Int) × ((List Int) × ((List Bool) × (List Int))))) × (Int × ((List Int) × ((List Int) × ((List Bool) × (List Int)))))), runK R T (fns6 fuel) fuel [] (subsOf []) (partOf d6_0 an6_0) (fr6_0.st [0, 2, 4, 15] x) (backTo R [] nm6_0 F k) = s6_0 fuel (fun x => F (fr6_0.st [0, 2, 4, 15] x)) (fun y => k (.exit 0) (fx6_0.st [0, 2, 4] y)) x := by
  rintro ⟨x2, x3, x4, x5⟩
  kernel_rfl
theorem u6_0 (fuel : Nat) {R : Type} (k : AExit → St → Option R) (x : (Int × Int × (Int × ((List Int) × ((List Int) × ((List Bool) × (List Int))))) × (Int × ((List Int) × ((List Int) × ((List Bool) × (List Int))))))) : runK R T (fns6 fuel) fuel [] (subsOf []) (partOf c6_0 al6_0) (fr6_0.st [0, 2, 4, 15] x) k = l6_0 fuel (fun y => k (.exit 0) (fx6_0.st [0, 2, 4] y)) fuel x :=
  loop_eq (mk := fr6_0.st [0, 2, 4, 15]) (s := fun F x => s6_0 fuel F (fun y => k (.exit 0) (fx6_0.st [0, 2, 4] y)) x) (l := fun n x => l6_0 fuel (fun y => k (.exit 0) (fx6_0.st [0, 2, 4] y)) n x) (d := d6_0) (by kernel_rfl) (fun G x => by
    revert x
    rintro ⟨x2, x3, x4, x5⟩
    kernel_rfl) (fun F x => e6_0 fuel F k x) (fun _ => rfl) (fun _ _ => rfl) x
noncomputable def sub6_0 (fuel : Nat) (R : Type) : Sub R := Sub.of [0, 2, 4, 15] c6_0 fr6_0 fun x k => l6_0 fuel (fun y => k (.exit 0) (fx6_0.st [0, 2, 4] y)) fuel x
theorem subOk6_0 (fuel : Nat) (R : Type) : SubOk P [] 38 (sub6_0 fuel R) :=
  subOk_part (fns := (fns6 fuel)) (fuel := fuel) (subs := (subsOf [])) (an := al6_0) T_ok (fnsOk6 fuel) mixed subsOk_nil (by kernel_rfl) (by kernel_rfl) fun _ _ _ _ h => Sub.of_run (fun (x : (Int × Int × (Int × ((List Int) × ((List Int) × ((List Bool) × (List Int))))) × (Int × ((List Int) × ((List Int) × ((List Bool) × (List Int))))))) k => u6_0 fuel k x) h
def fx6_1 : Fr := ⟨[.c (.ptr 0 0 []), .c (.ptr 1 0 [])], [.box (.d true (.pair (.int .u32) (.pair (.arr 64 (.int .i64)) (.pair (.arr 64 (.int .u32)) (.pair (.arr 12 (.bool)) (.arr 12 (.int .u32))))))), .box (.d true (.pair (.int .u32) (.pair (.arr 64 (.int .i64)) (.pair (.arr 64 (.int .u32)) (.pair (.arr 12 (.bool)) (.arr 12 (.int .u32)))))))], 2⟩
def fr6_1 : Fr := ⟨[.c (.ptr 0 0 []), .c (.ptr 1 0 []), .d true (.int .i64), .d true (.int .i64)], [.box (.d true (.pair (.int .u32) (.pair (.arr 64 (.int .i64)) (.pair (.arr 64 (.int .u32)) (.pair (.arr 12 (.bool)) (.arr 12 (.int .u32))))))), .box (.d true (.pair (.int .u32) (.pair (.arr 64 (.int .i64)) (.pair (.arr 64 (.int .u32)) (.pair (.arr 12 (.bool)) (.arr 12 (.int .u32)))))))], 2⟩
noncomputable def c6_1 : Code := bodyAt Try.f6 [1, 1, 1, 1, 0, 1, 0]
def s6_1 (fuel : Nat) {R : Type} (F : (Int × Int × (Int × ((List Int) × ((List Int) × ((List Bool) × (List Int))))) × (Int × ((List Int) × ((List Int) × ((List Bool) × (List Int)))))) → Option R) (k0 : ((Int × ((List Int) × ((List Int) × ((List Bool) × (List Int))))) × (Int × ((List Int) × ((List Int) × ((List Bool) × (List Int)))))) → Option R) : (Int × Int × (Int × ((List Int) × ((List Int) × ((List Bool) × (List Int))))) × (Int × ((List Int) × ((List Int) × ((List Bool) × (List Int)))))) → Option R := fun (x12, x13, x14, x15) => (bif (decide (x13 < x12)) then (if 0 ≤ x13 ∧ x13 < ((12 : Nat) : Int) then (match (x15.2.2.2.1)[(Int.toNat x13)]? with | some y16 => (F (x12, (IntKind.wrap .i64 (x13 + (1 : Int))), x14, (x15.1, (x15.2.1, (x15.2.2.1, ((List.set x15.2.2.2.1 (Int.toNat x13) true), x15.2.2.2.2)))))) | none => none) else none) else (k0 (x14, x15)))
def l6_1 (fuel : Nat) {R : Type} (k0 : ((Int × ((List Int) × ((List Int) × ((List Bool) × (List Int))))) × (Int × ((List Int) × ((List Int) × ((List Bool) × (List Int)))))) → Option R) : Nat → (Int × Int × (Int × ((List Int) × ((List Int) × ((List Bool) × (List Int))))) × (Int × ((List Int) × ((List Int) × ((List Bool) × (List Int)))))) → Option R
  | 0, _ => none
  | n + 1, x => s6_1 fuel (l6_1 fuel k0 n) k0 x
def nm6_1 : Norm := ⟨[2, 4, 29, 30], padK 2 [some (0, 0), some (1, 0)]⟩
def an6_1 : AN := (.seq .leaf (.seq (.cond .leaf (.norm ⟨[2, 4], padK 2 [some (0, 0), some (1, 0)]⟩ .leaf)) (.seq (.block (.seq .leaf (.region [(1, { touch := [1] }), (2, { touch := [1] }), (3, { touch := [1], ro := false })]))) .leaf)))
def al6_1 : AN := .loop nm6_1 an6_1
noncomputable def d6_1 : Code := bodyAt Try.f6 [1, 1, 1, 1, 0, 1, 0, 0]
theorem e6_1 (fuel : Nat) {R : Type} (F : St → Option R) (k : AExit → St → Option R) : ∀ x : (Int × Int × (Int × ((List Int) × ((List Int) × ((List Bool) × (List Int))))) × (Int × ((List Int) × ((List Int) × ((List Bool) × (List Int)))))), runK R T (fns6 fuel) fuel [] (subsOf [sub6_0 fuel R]) (partOf d6_1 an6_1) (fr6_1.st [2, 4, 29, 30] x) (backTo R [] nm6_1 F k) = s6_1 fuel (fun x => F (fr6_1.st [2, 4, 29, 30] x)) (fun y => k (.exit 2) (fx6_1.st [2, 4] y)) x := by
  rintro ⟨x12, x13, x14, x15⟩
  kernel_rfl
theorem u6_1 (fuel : Nat) {R : Type} (k : AExit → St → Option R) (x : (Int × Int × (Int × ((List Int) × ((List Int) × ((List Bool) × (List Int))))) × (Int × ((List Int) × ((List Int) × ((List Bool) × (List Int))))))) : runK R T (fns6 fuel) fuel [] (subsOf [sub6_0 fuel R]) (partOf c6_1 al6_1) (fr6_1.st [2, 4, 29, 30] x) k = l6_1 fuel (fun y => k (.exit 2) (fx6_1.st [2, 4] y)) fuel x :=
  loop_eq (mk := fr6_1.st [2, 4, 29, 30]) (s := fun F x => s6_1 fuel F (fun y => k (.exit 2) (fx6_1.st [2, 4] y)) x) (l := fun n x => l6_1 fuel (fun y => k (.exit 2) (fx6_1.st [2, 4] y)) n x) (d := d6_1) (by kernel_rfl) (fun G x => by
    revert x
    rintro ⟨x12, x13, x14, x15⟩
    kernel_rfl) (fun F x => e6_1 fuel F k x) (fun _ => rfl) (fun _ _ => rfl) x
noncomputable def sub6_1 (fuel : Nat) (R : Type) : Sub R := Sub.of [2, 4, 29, 30] c6_1 fr6_1 fun x k => l6_1 fuel (fun y => k (.exit 2) (fx6_1.st [2, 4] y)) fuel x
theorem subOk6_1 (fuel : Nat) (R : Type) : SubOk P [] 38 (sub6_1 fuel R) :=
  subOk_part (fns := (fns6 fuel)) (fuel := fuel) (subs := (subsOf [sub6_0 fuel R])) (an := al6_1) T_ok (fnsOk6 fuel) mixed (subsOk_cons (subOk6_0 fuel R) subsOk_nil) (by kernel_rfl) (by kernel_rfl) fun _ _ _ _ h => Sub.of_run (fun (x : (Int × Int × (Int × ((List Int) × ((List Int) × ((List Bool) × (List Int))))) × (Int × ((List Int) × ((List Int) × ((List Bool) × (List Int))))))) k => u6_1 fuel k x) h
def an6 : AN := (.seq (.region [(0, { touch := [2], base := 2, ro := false })]) (.seq (.seq .leaf (.cond (.seq (.region [(1, { touch := [2], ro := false })]) (.norm ⟨[2, 3], padK 3 [some (2, 0)]⟩ (.ret []))) .leaf)) (.seq (.region [(1, { touch := [3], base := 3, ro := false }), (2, { touch := [3], ro := false })]) (.seq (.seq .leaf (.block (.hole ⟨[0, 2, 4, 15], padK 2 [some (2, 0), some (3, 0)]⟩ 0))) (.seq (.seq .leaf (.block (.hole ⟨[2, 4, 29, 30], padK 2 [some (0, 0), some (1, 0)]⟩ 1))) (.seq (.region [(0, { touch := [1] }), (1, { touch := [0], ro := false })]) (.norm ⟨[2, 3], padK 3 [some (0, 0)]⟩ (.ret []))))))))
def p6 (fuel : Nat) : Int → Option ((Int × ((List Int) × ((List Int) × ((List Bool) × (List Int))))) × Int) := fun x1 => (bif (decide (x1 < (4 : Int))) then (some (((0 : Int), ((List.replicate 64 (0 : Int)), ((List.replicate 64 (0 : Int)), ((List.replicate 12 false), (List.replicate 12 (0 : Int)))))), (1 : Int))) else (bif (decide ((12 : Int) < x1)) then (some (((0 : Int), ((List.replicate 64 (0 : Int)), ((List.replicate 64 (0 : Int)), ((List.replicate 12 false), (List.replicate 12 (0 : Int)))))), (1 : Int))) else (l6_0 fuel (fun (x9, x10, x11) => (l6_1 fuel (fun (x17, x18) => (some (x18, (0 : Int)))) fuel (x9, (0 : Int), x10, x11))) fuel (x1, (0 : Int), ((0 : Int), ((List.replicate 64 (0 : Int)), ((List.replicate 64 (0 : Int)), ((List.replicate 12 false), (List.replicate 12 (0 : Int)))))), ((1 : Int), ((List.replicate 64 (0 : Int)), ((List.replicate 64 (0 : Int)), ((List.replicate 12 false), (List.replicate 12 (0 : Int))))))))))
def F6 (fuel : Nat) : Fun := funOfA fi6 al6 (p6 fuel)
theorem run6 (fuel : Nat) : ∀ y : Int, runF ((Int × ((List Int) × ((List Int) × ((List Bool) × (List Int))))) × Int) T (fns6 fuel) fuel (subsOf [sub6_0 fuel ((Int × ((List Int) × ((List Int) × ((List Bool) × (List Int))))) × Int), sub6_1 fuel ((Int × ((List Int) × ((List Int) × ((List Bool) × (List Int))))) × Int)]) (defOf Try.f6 an6 4 [] []) (fi6.vs y) (fi6.os y) (altsDec al6) = p6 fuel y := by
  rintro x1
  kernel_rfl
theorem ok6 (fuel : Nat) : FunOk P 6 (funOfA fi6 al6 (p6 fuel)) :=
  funOfA_ok (subs := (subsOf [sub6_0 fuel ((Int × ((List Int) × ((List Int) × ((List Bool) × (List Int))))) × Int), sub6_1 fuel ((Int × ((List Int) × ((List Int) × ((List Bool) × (List Int))))) × Int)])) (an := an6) (room := 4) (ks := []) (g0 := []) (fuel := fuel) T_ok (fnsOk6 fuel) mixed (fn := Try.f6) (by kernel_rfl) (by kernel_rfl) (subsOk_cons (subOk6_0 fuel _) (subsOk_cons (subOk6_1 fuel _) subsOk_nil)) (by kernel_rfl) (fun _ => ⟨by kernel_rfl, by kernel_rfl⟩) (run6 fuel)

-- f7: tontine/tontinetop.loads
def fns7 (fuel : Nat) : Fns := fnsOf []
theorem fnsOk7 (fuel : Nat) : FnsOk P (fns7 fuel) := fnsOk_nil
def fi7 : Fr := ⟨[.d false (.pair (.int .u32) (.pair (.arr 64 (.int .i64)) (.pair (.arr 64 (.int .u32)) (.pair (.arr 12 (.bool)) (.arr 12 (.int .u32)))))), .d false (.int .i64)], [], 0⟩
def al7 : List (Tm × List To) := [(.c (.slc 0 0), [.arr 0 (.int .i64)])]
def fx7_0 : Fr := ⟨[.d true (.int .i64), .c (.ptr 0 0 []), .c (.slc 1 0), .d true (.int .i64)], [.box (.d true (.pair (.int .u32) (.pair (.arr 64 (.int .i64)) (.pair (.arr 64 (.int .u32)) (.pair (.arr 12 (.bool)) (.arr 12 (.int .u32))))))), .arr 0 (.int .i64)], 2⟩
def fr7_0 : Fr := ⟨[.d true (.int .i64), .c (.ptr 0 0 []), .c (.slc 1 0), .d true (.int .i64), .d true (.bool)], [.box (.d true (.pair (.int .u32) (.pair (.arr 64 (.int .i64)) (.pair (.arr 64 (.int .u32)) (.pair (.arr 12 (.bool)) (.arr 12 (.int .u32))))))), .arr 0 (.int .i64)], 2⟩
noncomputable def c7_0 : Code := bodyAt Try.f7 [1, 1, 0, 1, 0, 0, 1, 0, 0, 1]
def j7_0 (fuel : Nat) {R : Type} (k0 : (Int × Int × (Int × ((List Int) × ((List Int) × ((List Bool) × (List Int))))) × (List Int)) → Option R) : (Int × Int × Bool × (Int × ((List Int) × ((List Int) × ((List Bool) × (List Int))))) × (List Int)) → Option R := fun (x9, x10, x11, x12, x13) => (bif x11 then (if 0 ≤ x10 ∧ x10 < ((64 : Nat) : Int) then (match (x12.2.1)[(Int.toNat x10)]? with | some y14 => (if 0 ≤ y14 ∧ y14 < ((List.length x13 : Nat) : Int) then (match (x13)[(Int.toNat y14)]? with | some y15 => (if 0 ≤ y14 ∧ y14 < ((List.length x13 : Nat) : Int) then (match (x13)[(Int.toNat y14)]? with | some y16 => (k0 (x9, x10, x12, (List.set x13 (Int.toNat y14) (IntKind.wrap .i64 (y15 + (1 : Int)))))) | none => none) else none) | none => none) else none) | none => none) else none) else (k0 (x9, x10, x12, x13)))
def al7_0 : AN := (.fin ⟨[1, 2, 5, 6], padK 2 [some (0, 0), some (1, 0)]⟩ (.cond (.fin ⟨[1, 2, 5, 6], padK 2 [some (0, 0), some (1, 0)]⟩ (.region [(2, { touch := [0] }), (3, { touch := [0] }), (4, { touch := [0] }), (5, { touch := [1] }), (6, { touch := [1] }), (8, { touch := [1] }), (9, { touch := [1], ro := false })])) (.fin ⟨[1, 2, 5, 6], padK 2 [some (0, 0), some (1, 0)]⟩ .leaf)))
theorem u7_0 (fuel : Nat) {R : Type} (k : AExit → St → Option R) : ∀ x : (Int × Int × Bool × (Int × ((List Int) × ((List Int) × ((List Bool) × (List Int))))) × (List Int)), runK R T (fns7 fuel) fuel [] (subsOf []) (partOf c7_0 al7_0) (fr7_0.st [1, 2, 5, 6, 25] x) k = j7_0 fuel (fun y => k .normal (fx7_0.st [1, 2, 5, 6] y)) x := by
  rintro ⟨x9, x10, x11, x12, x13⟩
  kernel_rfl
noncomputable def sub7_0 (fuel : Nat) (R : Type) : Sub R := Sub.of [1, 2, 5, 6, 25] c7_0 fr7_0 fun x k => j7_0 fuel (fun y => k .normal (fx7_0.st [1, 2, 5, 6] y)) x
theorem subOk7_0 (fuel : Nat) (R : Type) : SubOk P [] 36 (sub7_0 fuel R) :=
  subOk_part (fns := (fns7 fuel)) (fuel := fuel) (subs := (subsOf [])) (an := al7_0) T_ok (fnsOk7 fuel) mixed subsOk_nil (by kernel_rfl) (by kernel_rfl) fun _ _ _ _ h => Sub.of_run (fun (x : (Int × Int × Bool × (Int × ((List Int) × ((List Int) × ((List Bool) × (List Int))))) × (List Int))) k => u7_0 fuel k x) h
def fx7_1 : Fr := ⟨[.c (.slc 0 0)], [.arr 0 (.int .i64)], 3⟩
def fr7_1 : Fr := ⟨[.d true (.int .i64), .c (.ptr 0 0 []), .c (.slc 1 0), .d true (.int .i64)], [.box (.d true (.pair (.int .u32) (.pair (.arr 64 (.int .i64)) (.pair (.arr 64 (.int .u32)) (.pair (.arr 12 (.bool)) (.arr 12 (.int .u32))))))), .arr 0 (.int .i64)], 2⟩
noncomputable def c7_1 : Code := bodyAt Try.f7 [1, 1, 0, 1, 0]
def s7_1 (fuel : Nat) {R : Type} (F : (Int × Int × (Int × ((List Int) × ((List Int) × ((List Bool) × (List Int))))) × (List Int)) → Option R) (k0 : (List Int) → Option R) : (Int × Int × (Int × ((List Int) × ((List Int) × ((List Bool) × (List Int))))) × (List Int)) → Option R := fun (x3, x4, x5, x6) => (bif (decide (x4 < (64 : Int))) then (if 0 ≤ x4 ∧ x4 < ((64 : Nat) : Int) then (match (x5.2.1)[(Int.toNat x4)]? with | some y7 => (bif (decide ((0 : Int) ≤ y7)) then (if 0 ≤ x4 ∧ x4 < ((64 : Nat) : Int) then (match (x5.2.1)[(Int.toNat x4)]? with | some y8 => (j7_0 fuel (fun (x17, x18, x19, x20) => (F (x17, (IntKind.wrap .i64 (x18 + (1 : Int))), x19, x20))) (x3, x4, (decide (y8 < x3)), x5, x6)) | none => none) else none) else (j7_0 fuel (fun (x21, x22, x23, x24) => (F (x21, (IntKind.wrap .i64 (x22 + (1 : Int))), x23, x24))) (x3, x4, false, x5, x6))) | none => none) else none) else (k0 x6))
def l7_1 (fuel : Nat) {R : Type} (k0 : (List Int) → Option R) : Nat → (Int × Int × (Int × ((List Int) × ((List Int) × ((List Bool) × (List Int))))) × (List Int)) → Option R
  | 0, _ => none
  | n + 1, x => s7_1 fuel (l7_1 fuel k0 n) k0 x
def nm7_1 : Norm := ⟨[1, 2, 5, 6], padK 2 [some (0, 0), some (1, 0)]⟩
def an7_1 : AN := (.seq (.seq .leaf (.cond .leaf (.norm ⟨[5], padK 3 [some (1, 0)]⟩ .leaf))) (.seq (.block (.seq (.region [(1, { touch := [0] }), (2, { touch := [0] }), (3, { touch := [0] }), (7, { touch := [0] }), (8, { touch := [0] }), (9, { touch := [0] })]) (.hole ⟨[1, 2, 5, 6, 25], padK 2 [some (0, 0), some (1, 0)]⟩ 0))) .leaf))
def al7_1 : AN := .loop nm7_1 an7_1
noncomputable def d7_1 : Code := bodyAt Try.f7 [1, 1, 0, 1, 0, 0]
theorem e7_1 (fuel : Nat) {R : Type} (F : St → Option R) (k : AExit → St → Option R) : ∀ x : (Int × Int × (Int × ((List Int) × ((List Int) × ((List Bool) × (List Int))))) × (List Int)), runK R T (fns7 fuel) fuel [] (subsOf [sub7_0 fuel R]) (partOf d7_1 an7_1) (fr7_1.st [1, 2, 5, 6] x) (backTo R [] nm7_1 F k) = s7_1 fuel (fun x => F (fr7_1.st [1, 2, 5, 6] x)) (fun y => k (.exit 0) (fx7_1.st [5] y)) x := by
  rintro ⟨x3, x4, x5, x6⟩
  kernel_rfl
theorem u7_1 (fuel : Nat) {R : Type} (k : AExit → St → Option R) (x : (Int × Int × (Int × ((List Int) × ((List Int) × ((List Bool) × (List Int))))) × (List Int))) : runK R T (fns7 fuel) fuel [] (subsOf [sub7_0 fuel R]) (partOf c7_1 al7_1) (fr7_1.st [1, 2, 5, 6] x) k = l7_1 fuel (fun y => k (.exit 0) (fx7_1.st [5] y)) fuel x :=
  loop_eq (mk := fr7_1.st [1, 2, 5, 6]) (s := fun F x => s7_1 fuel F (fun y => k (.exit 0) (fx7_1.st [5] y)) x) (l := fun n x => l7_1 fuel (fun y => k (.exit 0) (fx7_1.st [5] y)) n x) (d := d7_1) (by kernel_rfl) (fun G x => by
    revert x
    rintro ⟨x3, x4, x5, x6⟩
    kernel_rfl) (fun F x => e7_1 fuel F k x) (fun _ => rfl) (fun _ _ => rfl) x
noncomputable def sub7_1 (fuel : Nat) (R : Type) : Sub R := Sub.of [1, 2, 5, 6] c7_1 fr7_1 fun x k => l7_1 fuel (fun y => k (.exit 0) (fx7_1.st [5] y)) fuel x
theorem subOk7_1 (fuel : Nat) (R : Type) : SubOk P [] 36 (sub7_1 fuel R) :=
  subOk_part (fns := (fns7 fuel)) (fuel := fuel) (subs := (subsOf [sub7_0 fuel R])) (an := al7_1) T_ok (fnsOk7 fuel) mixed (subsOk_cons (subOk7_0 fuel R) subsOk_nil) (by kernel_rfl) (by kernel_rfl) fun _ _ _ _ h => Sub.of_run (fun (x : (Int × Int × (Int × ((List Int) × ((List Int) × ((List Bool) × (List Int))))) × (List Int))) k => u7_1 fuel k x) h
def an7 : AN := (.seq (.region [(0, { touch := [2], base := 2, ro := false })]) (.seq (.region [(1, { touch := [3], base := 3, ro := false })]) (.seq (.seq .leaf (.block (.hole ⟨[1, 2, 5, 6], padK 2 [some (2, 0), some (3, 0)]⟩ 1))) (.seq .leaf (.norm ⟨[4], padK 3 [some (0, 0)]⟩ (.ret [some (0, 0)]))))))
def p7 (fuel : Nat) : ((Int × ((List Int) × ((List Int) × ((List Bool) × (List Int))))) × Int) → Option (List Int) := fun (x1, x2) => (if 0 ≤ x2 ∧ x2 ≤ x2 ∧ x2 * ((8 : Nat) : Int) ≤ 140737488355328 then (l7_1 fuel (fun x25 => (some x25)) fuel (x2, (0 : Int), x1, (List.replicate (Int.toNat x2) (0 : Int)))) else none)
def F7 (fuel : Nat) : Fun := funOfA fi7 al7 (p7 fuel)
theorem run7 (fuel : Nat) : ∀ y : ((Int × ((List Int) × ((List Int) × ((List Bool) × (List Int))))) × Int), runF (List Int) T (fns7 fuel) fuel (subsOf [sub7_0 fuel (List Int), sub7_1 fuel (List Int)]) (defOf Try.f7 an7 4 [] []) (fi7.vs y) (fi7.os y) (altsDec al7) = p7 fuel y := by
  rintro ⟨x1, x2⟩
  kernel_rfl
theorem ok7 (fuel : Nat) : FunOk P 7 (funOfA fi7 al7 (p7 fuel)) :=
  funOfA_ok (subs := (subsOf [sub7_0 fuel (List Int), sub7_1 fuel (List Int)])) (an := an7) (room := 4) (ks := []) (g0 := []) (fuel := fuel) T_ok (fnsOk7 fuel) mixed (fn := Try.f7) (by kernel_rfl) (by kernel_rfl) (subsOk_cons (subOk7_0 fuel _) (subsOk_cons (subOk7_1 fuel _) subsOk_nil)) (by kernel_rfl) (fun _ => ⟨by kernel_rfl, by kernel_rfl⟩) (run7 fuel)

-- f35: tontine/arcs.Of
def fns35 (fuel : Nat) : Fns := fnsOf []
theorem fnsOk35 (fuel : Nat) : FnsOk P (fns35 fuel) := fnsOk_nil
def fi35 : Fr := ⟨[.d false (.arr 64 (.bool))], [], 0⟩
def al35 : List (Tm × List To) := [(.c (.slc 0 0), [.arr 0 (.pair (.int .i64) (.int .i64))])]
def fx35_0 : Fr := ⟨[.c (.ptr 0 0 []), .c (.slc 1 0), .d true (.arr 64 (.bool)), .d true (.int .i64)], [.box (.d true (.arr 64 (.bool))), .arr 0 (.pair (.int .i64) (.int .i64))], 3⟩
def fr35_0 : Fr := ⟨[.c (.ptr 0 0 []), .c (.slc 1 0), .d true (.int .i64), .d true (.arr 64 (.bool)), .d true (.int .i64), .d true (.bool)], [.box (.d true (.arr 64 (.bool))), .arr 0 (.pair (.int .i64) (.int .i64))], 3⟩
noncomputable def c35_0 : Code := bodyAt Try.f35 [1, 1, 1, 0, 1, 0, 0, 1, 1, 0, 0, 1, 0, 1, 1, 1]
def j35_0 (fuel : Nat) {R : Type} (k0 : ((List Bool) × Int × (List Bool) × (List (Int × Int))) → Option R) : (Int × (List Bool) × Int × Bool × (List Bool) × (List (Int × Int))) → Option R := fun (x8, x9, x10, x11, x12, x13) => (bif x11 then (if 0 ≤ (IntKind.wrap .i64 (((List.length x13 : Nat) : Int) - (1 : Int))) ∧ (IntKind.wrap .i64 (((List.length x13 : Nat) : Int) - (1 : Int))) < ((List.length x13 : Nat) : Int) then (match (x13)[(Int.toNat (IntKind.wrap .i64 (((List.length x13 : Nat) : Int) - (1 : Int))))]? with | some y14 => (if 0 ≤ (IntKind.wrap .i64 (((List.length x13 : Nat) : Int) - (1 : Int))) ∧ (IntKind.wrap .i64 (((List.length x13 : Nat) : Int) - (1 : Int))) < ((List.length x13 : Nat) : Int) then (match (x13)[(Int.toNat (IntKind.wrap .i64 (((List.length x13 : Nat) : Int) - (1 : Int))))]? with | some y15 => let v16 := (List.set x13 (Int.toNat (IntKind.wrap .i64 (((List.length x13 : Nat) : Int) - (1 : Int)))) (y15.1, (IntKind.wrap .i64 (y14.2 + (1 : Int))))); (k0 (x9, x10, x12, v16)) | none => none) else none) | none => none) else none) else (if (List.length x13 + List.length [(x8, (1 : Int))]) * 16 ≤ 140737488355328 then (k0 (x9, x10, x12, (x13 ++ [(x8, (1 : Int))]))) else none))
def al35_0 : AN := (.fin ⟨[1, 3, 11, 12], padK 3 [some (0, 0), some (1, 0)]⟩ (.cond (.fin ⟨[1, 3, 11, 12], padK 3 [some (0, 0), some (1, 0)]⟩ (.region [(2, { touch := [1] }), (4, { touch := [1] }), (5, { touch := [1] }), (6, { touch := [1] }), (8, { touch := [1] }), (9, { touch := [1] }), (10, { touch := [1], ro := false })])) (.fin ⟨[1, 3, 11, 12], padK 3 [some (0, 0), some (1, 0)]⟩ (.region [(3, { touch := [3], base := 3, ro := false }), (4, { touch := [1, 3], ro := false })]))))
theorem u35_0 (fuel : Nat) {R : Type} (k : AExit → St → Option R) : ∀ x : (Int × (List Bool) × Int × Bool × (List Bool) × (List (Int × Int))), runK R T (fns35 fuel) fuel [] (subsOf []) (partOf c35_0 al35_0) (fr35_0.st [1, 3, 4, 11, 12, 24] x) k = j35_0 fuel (fun y => k .normal (fx35_0.st [1, 3, 11, 12] y)) x := by
  rintro ⟨x8, x9, x10, x11, x12, x13⟩
  kernel_rfl
noncomputable def sub35_0 (fuel : Nat) (R : Type) : Sub R := Sub.of [1, 3, 4, 11, 12, 24] c35_0 fr35_0 fun x k => j35_0 fuel (fun y => k .normal (fx35_0.st [1, 3, 11, 12] y)) x
theorem subOk35_0 (fuel : Nat) (R : Type) : SubOk P [] 75 (sub35_0 fuel R) :=
  subOk_part (fns := (fns35 fuel)) (fuel := fuel) (subs := (subsOf [])) (an := al35_0) T_ok (fnsOk35 fuel) mixed subsOk_nil (by kernel_rfl) (by kernel_rfl) fun _ _ _ _ h => Sub.of_run (fun (x : (Int × (List Bool) × Int × Bool × (List Bool) × (List (Int × Int)))) k => u35_0 fuel k x) h
def fx35_1 : Fr := ⟨[.c (.ptr 0 0 []), .c (.slc 1 0)], [.box (.d true (.arr 64 (.bool))), .arr 0 (.pair (.int .i64) (.int .i64))], 3⟩
def fr35_1 : Fr := ⟨[.c (.ptr 0 0 []), .c (.slc 1 0), .d true (.arr 64 (.bool)), .d true (.int .i64)], [.box (.d true (.arr 64 (.bool))), .arr 0 (.pair (.int .i64) (.int .i64))], 3⟩
noncomputable def c35_1 : Code := bodyAt Try.f35 [1, 1, 1, 0, 1, 0]
def s35_1 (fuel : Nat) {R : Type} (F : ((List Bool) × Int × (List Bool) × (List (Int × Int))) → Option R) (k0 : ((List Bool) × (List (Int × Int))) → Option R) : ((List Bool) × Int × (List Bool) × (List (Int × Int))) → Option R := fun (x2, x3, x4, x5) => (bif (decide (x3 < (64 : Int))) then (if 0 ≤ x3 ∧ x3 < ((64 : Nat) : Int) then (match (x2)[Int.toNat x3]? with | some y6 => (bif (!y6) then (F (x2, (IntKind.wrap .i64 (x3 + (1 : Int))), x4, x5)) else (bif (decide ((0 : Int) < x3)) then (if 0 ≤ (IntKind.wrap .i64 (x3 - (1 : Int))) ∧ (IntKind.wrap .i64 (x3 - (1 : Int))) < ((64 : Nat) : Int) then (match (x4)[(Int.toNat (IntKind.wrap .i64 (x3 - (1 : Int))))]? with | some y7 => (j35_0 fuel (fun (x17, x18, x19, x20) => (F (x17, (IntKind.wrap .i64 (x18 + (1 : Int))), x19, x20))) (x3, x2, x3, y7, x4, x5)) | none => none) else none) else (j35_0 fuel (fun (x21, x22, x23, x24) => (F (x21, (IntKind.wrap .i64 (x22 + (1 : Int))), x23, x24))) (x3, x2, x3, false, x4, x5)))) | none => none) else none) else (k0 (x4, x5)))
def l35_1 (fuel : Nat) {R : Type} (k0 : ((List Bool) × (List (Int × Int))) → Option R) : Nat → ((List Bool) × Int × (List Bool) × (List (Int × Int))) → Option R
  | 0, _ => none
  | n + 1, x => s35_1 fuel (l35_1 fuel k0 n) k0 x
def nm35_1 : Norm := ⟨[1, 3, 11, 12], padK 3 [some (0, 0), some (1, 0)]⟩
def an35_1 : AN := (.seq .leaf (.seq (.cond .leaf (.norm ⟨[1, 3], padK 3 [some (0, 0), some (1, 0)]⟩ .leaf)) (.seq (.block (.seq .leaf (.block (.seq .leaf (.cond (.fin ⟨[1, 3, 11, 12], padK 3 [some (0, 0), some (1, 0)]⟩ .leaf) (.fin ⟨[1, 3, 11, 12], padK 3 [some (0, 0), some (1, 0)]⟩ (.seq (.region [(5, { touch := [0] }), (6, { touch := [0] })]) (.hole ⟨[1, 3, 4, 11, 12, 24], padK 3 [some (0, 0), some (1, 0)]⟩ 0)))))))) .leaf)))
def al35_1 : AN := .loop nm35_1 an35_1
noncomputable def d35_1 : Code := bodyAt Try.f35 [1, 1, 1, 0, 1, 0, 0]
theorem e35_1 (fuel : Nat) {R : Type} (F : St → Option R) (k : AExit → St → Option R) : ∀ x : ((List Bool) × Int × (List Bool) × (List (Int × Int))), runK R T (fns35 fuel) fuel [] (subsOf [sub35_0 fuel R]) (partOf d35_1 an35_1) (fr35_1.st [1, 3, 11, 12] x) (backTo R [] nm35_1 F k) = s35_1 fuel (fun x => F (fr35_1.st [1, 3, 11, 12] x)) (fun y => k (.exit 0) (fx35_1.st [1, 3] y)) x := by
  rintro ⟨x2, x3, x4, x5⟩
  kernel_rfl
theorem u35_1 (fuel : Nat) {R : Type} (k : AExit → St → Option R) (x : ((List Bool) × Int × (List Bool) × (List (Int × Int)))) : runK R T (fns35 fuel) fuel [] (subsOf [sub35_0 fuel R]) (partOf c35_1 al35_1) (fr35_1.st [1, 3, 11, 12] x) k = l35_1 fuel (fun y => k (.exit 0) (fx35_1.st [1, 3] y)) fuel x :=
  loop_eq (mk := fr35_1.st [1, 3, 11, 12]) (s := fun F x => s35_1 fuel F (fun y => k (.exit 0) (fx35_1.st [1, 3] y)) x) (l := fun n x => l35_1 fuel (fun y => k (.exit 0) (fx35_1.st [1, 3] y)) n x) (d := d35_1) (by kernel_rfl) (fun G x => by
    revert x
    rintro ⟨x2, x3, x4, x5⟩
    kernel_rfl) (fun F x => e35_1 fuel F k x) (fun _ => rfl) (fun _ _ => rfl) x
noncomputable def sub35_1 (fuel : Nat) (R : Type) : Sub R := Sub.of [1, 3, 11, 12] c35_1 fr35_1 fun x k => l35_1 fuel (fun y => k (.exit 0) (fx35_1.st [1, 3] y)) fuel x
theorem subOk35_1 (fuel : Nat) (R : Type) : SubOk P [] 75 (sub35_1 fuel R) :=
  subOk_part (fns := (fns35 fuel)) (fuel := fuel) (subs := (subsOf [sub35_0 fuel R])) (an := al35_1) T_ok (fnsOk35 fuel) mixed (subsOk_cons (subOk35_0 fuel R) subsOk_nil) (by kernel_rfl) (by kernel_rfl) fun _ _ _ _ h => Sub.of_run (fun (x : ((List Bool) × Int × (List Bool) × (List (Int × Int)))) k => u35_1 fuel k x) h
def fx35_2 : Fr := ⟨[.c (.slc 0 0)], [.arr 0 (.pair (.int .i64) (.int .i64))], 4⟩
def fr35_2 : Fr := ⟨[.c (.slc 0 0), .ptr 0 0 [] [], .d true (.bool)], [.arr 0 (.pair (.int .i64) (.int .i64))], 4⟩
noncomputable def c35_2 : Code := bodyAt Try.f35 [1, 1, 1, 1, 1, 0, 1, 1]
def j35_2 (fuel : Nat) {R : Type} (k0 : (List (Int × Int)) → Option R) : (Nat × Bool × (List (Int × Int))) → Option R := fun (x29, x30, x31) => (bif x30 then (match (x31)[x29]? with | some y32 => (if 0 ≤ (0 : Int) ∧ (0 : Int) < ((List.length x31 : Nat) : Int) then (match (x31)[(Int.toNat (0 : Int))]? with | some y33 => (match (x31)[x29]? with | some y34 => (if 0 ≤ (1 : Int) ∧ (1 : Int) ≤ (((List.length (List.set x31 x29 (y34.1, (IntKind.wrap .i64 (y32.2 + y33.2))))) : Nat) : Int) then let v35 := (List.drop 1 (List.take (List.length (List.set x31 x29 (y34.1, (IntKind.wrap .i64 (y32.2 + y33.2))))) (List.set x31 x29 (y34.1, (IntKind.wrap .i64 (y32.2 + y33.2)))))); (k0 v35) else none) | none => none) | none => none) else none) | none => none) else (k0 x31))
def al35_2 : AN := (.fin ⟨[3], padK 4 [some (0, 0)]⟩ (.cond (.seq (.region [(1, { touch := [0] }), (2, { touch := [0] }), (3, { touch := [0] }), (5, { touch := [0] }), (6, { touch := [0] }), (7, { touch := [0] }), (9, { touch := [0] }), (10, { touch := [0] }), (11, { touch := [0], ro := false })]) (.region [(1, { touch := [0], ro := false, mode := 1 })])) .leaf))
theorem u35_2 (fuel : Nat) {R : Type} (k : AExit → St → Option R) : ∀ x : (Nat × Bool × (List (Int × Int))), runK R T (fns35 fuel) fuel [] (subsOf [sub35_0 fuel R, sub35_1 fuel R]) (partOf c35_2 al35_2) (fr35_2.st [3, 6, 60] x) k = j35_2 fuel (fun y => k .normal (fx35_2.st [3] y)) x := by
  rintro ⟨x29, x30, x31⟩
  kernel_rfl
noncomputable def sub35_2 (fuel : Nat) (R : Type) : Sub R := Sub.of [3, 6, 60] c35_2 fr35_2 fun x k => j35_2 fuel (fun y => k .normal (fx35_2.st [3] y)) x
theorem subOk35_2 (fuel : Nat) (R : Type) : SubOk P [] 75 (sub35_2 fuel R) :=
  subOk_part (fns := (fns35 fuel)) (fuel := fuel) (subs := (subsOf [sub35_0 fuel R, sub35_1 fuel R])) (an := al35_2) T_ok (fnsOk35 fuel) mixed (subsOk_cons (subOk35_0 fuel R) (subsOk_cons (subOk35_1 fuel R) subsOk_nil)) (by kernel_rfl) (by kernel_rfl) fun _ _ _ _ h => Sub.of_run (fun (x : (Nat × Bool × (List (Int × Int)))) k => u35_2 fuel k x) h
def an35 : AN := (.seq (.region [(0, { touch := [2], base := 2, ro := false })]) (.seq (.seq (.region [(0, { touch := [2] })]) (.cond (.seq .leaf (.co (.empty (.slot 2 []) 4 (.pair (.int .i64) (.int .i64))) (.norm ⟨[2], padK 4 [some (4, 0)]⟩ (.ret [some (0, 0)])))) .leaf)) (.seq .leaf (.seq (.seq (.region [(0, { touch := [2] })]) (.block (.co (.empty (.slot 3 []) 4 (.pair (.int .i64) (.int .i64))) (.hole ⟨[1, 3, 11, 12], padK 3 [some (2, 0), some (4, 0)]⟩ 1)))) (.seq (.region [(2, { touch := [1] }), (4, { touch := [1] })]) (.seq (.seq (.region [(1, { touch := [1] })]) (.seq (.region [(3, { touch := [0] }), (4, { touch := [0] }), (7, { touch := [0] }), (8, { touch := [0] })]) (.hole ⟨[3, 6, 60], padK 4 [some (1, 0)]⟩ 2))) (.seq .leaf (.norm ⟨[2], padK 4 [some (0, 0)]⟩ (.ret [some (0, 0)])))))))))
def p35 (fuel : Nat) : (List Bool) → Option (List (Int × Int)) := fun x1 => (bif (Ty.eqB (.arr 64 (.bool)) x1 (List.replicate 64 false)) then (some ([] : List (Int × Int))) else (l35_1 fuel (fun (x25, x26) => (if 0 ≤ (IntKind.wrap .i64 (((List.length x26 : Nat) : Int) - (1 : Int))) ∧ (IntKind.wrap .i64 (((List.length x26 : Nat) : Int) - (1 : Int))) < ((List.length x26 : Nat) : Int) then (bif (decide ((1 : Int) < ((List.length x26 : Nat) : Int))) then (match (x25)[0]? with | some y27 => (bif y27 then (match (x25)[63]? with | some y28 => (j35_2 fuel (fun x36 => (some x36)) ((Int.toNat (IntKind.wrap .i64 (((List.length x26 : Nat) : Int) - (1 : Int)))), y28, x26)) | none => none) else (j35_2 fuel (fun x37 => (some x37)) ((Int.toNat (IntKind.wrap .i64 (((List.length x26 : Nat) : Int) - (1 : Int)))), false, x26))) | none => none) else (j35_2 fuel (fun x38 => (some x38)) ((Int.toNat (IntKind.wrap .i64 (((List.length x26 : Nat) : Int) - (1 : Int)))), false, x26))) else none)) fuel (x1, (0 : Int), x1, ([] : List (Int × Int)))))
def F35 (fuel : Nat) : Fun := funOfA fi35 al35 (p35 fuel)
theorem run35 (fuel : Nat) : ∀ y : (List Bool), runF (List (Int × Int)) T (fns35 fuel) fuel (subsOf [sub35_0 fuel (List (Int × Int)), sub35_1 fuel (List (Int × Int)), sub35_2 fuel (List (Int × Int))]) (defOf Try.f35 an35 5 [] []) (fi35.vs y) (fi35.os y) (altsDec al35) = p35 fuel y := by
  rintro x1
  kernel_rfl
theorem ok35 (fuel : Nat) : FunOk P 35 (funOfA fi35 al35 (p35 fuel)) :=
  funOfA_ok (subs := (subsOf [sub35_0 fuel (List (Int × Int)), sub35_1 fuel (List (Int × Int)), sub35_2 fuel (List (Int × Int))])) (an := an35) (room := 5) (ks := []) (g0 := []) (fuel := fuel) T_ok (fnsOk35 fuel) mixed (fn := Try.f35) (by kernel_rfl) (by kernel_rfl) (subsOk_cons (subOk35_0 fuel _) (subsOk_cons (subOk35_1 fuel _) (subsOk_cons (subOk35_2 fuel _) subsOk_nil))) (by kernel_rfl) (fun _ => ⟨by kernel_rfl, by kernel_rfl⟩) (run35 fuel)

-- f19: tontine/lease.Owned
def fns19 (fuel : Nat) : Fns := fnsOf [(35, F35 fuel)]
theorem fnsOk19 (fuel : Nat) : FnsOk P (fns19 fuel) := (fnsOk_cons (ok35 fuel) fnsOk_nil)
def fi19 : Fr := ⟨[.d false (.pair (.int .u32) (.pair (.arr 64 (.int .i64)) (.pair (.arr 64 (.int .u32)) (.pair (.arr 12 (.bool)) (.arr 12 (.int .u32)))))), .d false (.int .i64)], [], 0⟩
def al19 : List (Tm × List To) := [(.c (.slc 0 0), [.arr 0 (.pair (.int .i64) (.int .i64))])]
def fx19_0 : Fr := ⟨[.c (.ptr 0 0 [])], [.box (.d true (.arr 64 (.bool)))], 3⟩
def fr19_0 : Fr := ⟨[.d true (.int .i64), .c (.ptr 0 0 []), .d true (.arr 64 (.int .i64)), .d true (.int .i64)], [.box (.d true (.arr 64 (.bool)))], 3⟩
noncomputable def c19_0 : Code := bodyAt Try.f19 [1, 1, 0, 1, 0]
def s19_0 (fuel : Nat) {R : Type} (F : (Int × (List Int) × Int × (List Bool)) → Option R) (k0 : (List Bool) → Option R) : (Int × (List Int) × Int × (List Bool)) → Option R := fun (x3, x4, x5, x6) => (bif (decide (x5 < (64 : Int))) then (if 0 ≤ x5 ∧ x5 < ((64 : Nat) : Int) then (match (x4)[Int.toNat x5]? with | some y7 => (if 0 ≤ x5 ∧ x5 < ((64 : Nat) : Int) then (match (x6)[(Int.toNat x5)]? with | some y8 => (F (x3, x4, (IntKind.wrap .i64 (x5 + (1 : Int))), (List.set x6 (Int.toNat x5) (decide (y7 = x3))))) | none => none) else none) | none => none) else none) else (k0 x6))
def l19_0 (fuel : Nat) {R : Type} (k0 : (List Bool) → Option R) : Nat → (Int × (List Int) × Int × (List Bool)) → Option R
  | 0, _ => none
  | n + 1, x => s19_0 fuel (l19_0 fuel k0 n) k0 x
def nm19_0 : Norm := ⟨[1, 5, 9, 10], padK 3 [some (0, 0)]⟩
def an19_0 : AN := (.seq .leaf (.seq (.cond .leaf (.norm ⟨[5], padK 3 [some (0, 0)]⟩ .leaf)) (.seq (.block (.seq .leaf (.region [(4, { touch := [0] }), (5, { touch := [0], ro := false })]))) .leaf)))
def al19_0 : AN := .loop nm19_0 an19_0
noncomputable def d19_0 : Code := bodyAt Try.f19 [1, 1, 0, 1, 0, 0]
theorem e19_0 (fuel : Nat) {R : Type} (F : St → Option R) (k : AExit → St → Option R) : ∀ x : (Int × (List Int) × Int × (List Bool)), runK R T (fns19 fuel) fuel [] (subsOf []) (partOf d19_0 an19_0) (fr19_0.st [1, 5, 9, 10] x) (backTo R [] nm19_0 F k) = s19_0 fuel (fun x => F (fr19_0.st [1, 5, 9, 10] x)) (fun y => k (.exit 0) (fx19_0.st [5] y)) x := by
  rintro ⟨x3, x4, x5, x6⟩
  kernel_rfl
theorem u19_0 (fuel : Nat) {R : Type} (k : AExit → St → Option R) (x : (Int × (List Int) × Int × (List Bool))) : runK R T (fns19 fuel) fuel [] (subsOf []) (partOf c19_0 al19_0) (fr19_0.st [1, 5, 9, 10] x) k = l19_0 fuel (fun y => k (.exit 0) (fx19_0.st [5] y)) fuel x :=
  loop_eq (mk := fr19_0.st [1, 5, 9, 10]) (s := fun F x => s19_0 fuel F (fun y => k (.exit 0) (fx19_0.st [5] y)) x) (l := fun n x => l19_0 fuel (fun y => k (.exit 0) (fx19_0.st [5] y)) n x) (d := d19_0) (by kernel_rfl) (fun G x => by
    revert x
    rintro ⟨x3, x4, x5, x6⟩
    kernel_rfl) (fun F x => e19_0 fuel F k x) (fun _ => rfl) (fun _ _ => rfl) x
noncomputable def sub19_0 (fuel : Nat) (R : Type) : Sub R := Sub.of [1, 5, 9, 10] c19_0 fr19_0 fun x k => l19_0 fuel (fun y => k (.exit 0) (fx19_0.st [5] y)) fuel x
theorem subOk19_0 (fuel : Nat) (R : Type) : SubOk P [] 22 (sub19_0 fuel R) :=
  subOk_part (fns := (fns19 fuel)) (fuel := fuel) (subs := (subsOf [])) (an := al19_0) T_ok (fnsOk19 fuel) mixed subsOk_nil (by kernel_rfl) (by kernel_rfl) fun _ _ _ _ h => Sub.of_run (fun (x : (Int × (List Int) × Int × (List Bool))) k => u19_0 fuel k x) h
def an19 : AN := (.seq (.region [(0, { touch := [1], base := 1, ro := false })]) (.seq (.region [(0, { touch := [2], base := 2, ro := false })]) (.seq (.seq (.region [(0, { touch := [1] }), (1, { touch := [1] })]) (.block (.hole ⟨[1, 5, 9, 10], padK 3 [some (2, 0)]⟩ 0))) (.seq (.region [(0, { touch := [0] }), (1, { touch := [3], base := 3, ro := false, fresh := 1 })]) (.norm ⟨[4], padK 3 [some (3, 0)]⟩ (.ret [some (0, 0)]))))))
def p19 (fuel : Nat) : ((Int × ((List Int) × ((List Int) × ((List Bool) × (List Int))))) × Int) → Option (List (Int × Int)) := fun (x1, x2) => (l19_0 fuel (fun x9 => (match p35 fuel x9 with | some z10 => (some z10) | none => none)) fuel (x2, x1.2.1, (0 : Int), (List.replicate 64 false)))
def F19 (fuel : Nat) : Fun := funOfA fi19 al19 (p19 fuel)
theorem run19 (fuel : Nat) : ∀ y : ((Int × ((List Int) × ((List Int) × ((List Bool) × (List Int))))) × Int), runF (List (Int × Int)) T (fns19 fuel) fuel (subsOf [sub19_0 fuel (List (Int × Int))]) (defOf Try.f19 an19 4 [] []) (fi19.vs y) (fi19.os y) (altsDec al19) = p19 fuel y := by
  rintro ⟨x1, x2⟩
  kernel_rfl
theorem ok19 (fuel : Nat) : FunOk P 19 (funOfA fi19 al19 (p19 fuel)) :=
  funOfA_ok (subs := (subsOf [sub19_0 fuel (List (Int × Int))])) (an := an19) (room := 4) (ks := []) (g0 := []) (fuel := fuel) T_ok (fnsOk19 fuel) mixed (fn := Try.f19) (by kernel_rfl) (by kernel_rfl) (subsOk_cons (subOk19_0 fuel _) subsOk_nil) (by kernel_rfl) (fun _ => ⟨by kernel_rfl, by kernel_rfl⟩) (run19 fuel)

-- f8: tontine/tontinetop.border
def fns8 (fuel : Nat) : Fns := fnsOf [(19, F19 fuel)]
theorem fnsOk8 (fuel : Nat) : FnsOk P (fns8 fuel) := (fnsOk_cons (ok19 fuel) fnsOk_nil)
def fi8 : Fr := ⟨[.d false (.pair (.int .u32) (.pair (.arr 64 (.int .i64)) (.pair (.arr 64 (.int .u32)) (.pair (.arr 12 (.bool)) (.arr 12 (.int .u32)))))), .d false (.pair (.int .i64) (.pair (.int .i64) (.pair (.int .i64) (.int .i64)))), .d false (.int .i64)], [], 0⟩
def al8 : List (Tm × List To) := [(.tup (.cons (.d true (.pair (.int .i64) (.int .i64))) (.cons (.d true (.bool)) (.c .nil))), [])]
def an8 : AN := (.seq (.region [(0, { touch := [3], base := 3, ro := false }), (1, { touch := [4], base := 4, ro := false }), (2, { touch := [5], base := 5, ro := false })]) (.seq (.region [(0, { touch := [3] }), (1, { touch := [4] }), (2, { touch := [4] }), (3, { touch := [6], base := 6, ro := false, fresh := 1 })]) (.seq (.seq (.region [(1, { touch := [6] }), (5, { touch := [6] }), (6, { touch := [6] }), (7, { touch := [6] }), (8, { touch := [4] }), (9, { touch := [4] })]) (.cond (.seq (.region [(1, { touch := [5], ro := false })]) (.norm ⟨[6, 7], padK 7 [some (5, 0)]⟩ (.ret []))) .leaf)) (.seq (.region [(1, { touch := [6] }), (2, { touch := [6] }), (3, { touch := [7], base := 7, ro := false }), (4, { touch := [7], ro := false })]) (.seq (.seq (.region [(0, { touch := [4] }), (1, { touch := [4] }), (5, { touch := [4] }), (6, { touch := [4] })]) (.cond (.seq (.region [(0, { touch := [7] }), (1, { touch := [7] }), (2, { touch := [7] }), (3, { touch := [7] }), (5, { touch := [4] }), (6, { touch := [4] }), (9, { touch := [4] }), (10, { touch := [4] }), (12, { touch := [5], ro := false })]) (.norm ⟨[6, 7], padK 7 [some (5, 0)]⟩ (.ret []))) .leaf)) (.seq (.region [(0, { touch := [7] }), (1, { touch := [7] }), (2, { touch := [4] }), (3, { touch := [4] }), (5, { touch := [5], ro := false })]) (.norm ⟨[6, 7], padK 7 [some (5, 0)]⟩ (.ret []))))))))
def p8 (fuel : Nat) : ((Int × ((List Int) × ((List Int) × ((List Bool) × (List Int))))) × (Int × (Int × (Int × Int))) × Int) → Option ((Int × Int) × Bool) := fun (x1, x2, x3) => (match p19 fuel (x1, x2.2.1) with | some z4 => (bif (!decide (((List.length z4 : Nat) : Int) = (1 : Int))) then (some (((0 : Int), (0 : Int)), false)) else (if 0 ≤ (0 : Int) ∧ (0 : Int) < ((List.length z4 : Nat) : Int) then (match (z4)[(Int.toNat (0 : Int))]? with | some y5 => (bif (decide (y5.2 < x2.2.2.2)) then (some (((0 : Int), (0 : Int)), false)) else (if 0 ≤ (0 : Int) ∧ (0 : Int) < ((List.length z4 : Nat) : Int) then (match (z4)[(Int.toNat (0 : Int))]? with | some y6 => (if x3 = 0 then none else let v7 := (decide ((Int.tmod (IntKind.wrap .i64 (x2.2.1 + (1 : Int))) x3) = x2.2.2.1)); (bif v7 then let v8 := (Int.tmod (IntKind.wrap .i64 ((IntKind.wrap .i64 (y6.1 + y6.2)) - x2.2.2.2)) (64 : Int)); (some ((v8, x2.2.2.2), true)) else (some ((y6.1, x2.2.2.2), true)))) | none => none) else none)) | none => none) else none)) | none => none)
def F8 (fuel : Nat) : Fun := funOfA fi8 al8 (p8 fuel)
theorem run8 (fuel : Nat) : ∀ y : ((Int × ((List Int) × ((List Int) × ((List Bool) × (List Int))))) × (Int × (Int × (Int × Int))) × Int), runF ((Int × Int) × Bool) T (fns8 fuel) fuel (subsOf []) (defOf Try.f8 an8 8 [] []) (fi8.vs y) (fi8.os y) (altsDec al8) = p8 fuel y := by
  rintro ⟨x1, x2, x3⟩
  kernel_rfl
theorem ok8 (fuel : Nat) : FunOk P 8 (funOfA fi8 al8 (p8 fuel)) :=
  funOfA_ok (subs := (subsOf [])) (an := an8) (room := 8) (ks := []) (g0 := []) (fuel := fuel) T_ok (fnsOk8 fuel) mixed (fn := Try.f8) (by kernel_rfl) (by kernel_rfl) subsOk_nil (by kernel_rfl) (fun _ => ⟨by kernel_rfl, by kernel_rfl⟩) (run8 fuel)

-- f36: tontine/arcs.Right
def fns36 (fuel : Nat) : Fns := fnsOf []
theorem fnsOk36 (fuel : Nat) : FnsOk P (fns36 fuel) := fnsOk_nil
def fi36 : Fr := ⟨[.d false (.pair (.int .i64) (.int .i64))], [], 0⟩
def al36 : List (Tm × List To) := [(.d true (.bool), [])]
def an36 : AN := (.seq (.region [(0, { touch := [0], ro := false })]) (.seq (.region [(0, { touch := [0] }), (1, { touch := [0] }), (4, { touch := [0] }), (5, { touch := [0] }), (9, { touch := [0] }), (10, { touch := [0] }), (14, { touch := [0] }), (15, { touch := [0] })]) (.norm ⟨[2], padK 1 []⟩ (.ret []))))
def p36 (fuel : Nat) : (Int × Int) → Option Bool := fun x1 => (bif (decide ((0 : Int) ≤ x1.1)) then (bif (decide (x1.1 < (64 : Int))) then (bif (decide ((0 : Int) ≤ x1.2)) then (some (decide (x1.2 ≤ (64 : Int)))) else (some false)) else (some false)) else (some false))
def F36 (fuel : Nat) : Fun := funOfA fi36 al36 (p36 fuel)
theorem run36 (fuel : Nat) : ∀ y : (Int × Int), runF Bool T (fns36 fuel) fuel (subsOf []) (defOf Try.f36 an36 1 [] []) (fi36.vs y) (fi36.os y) (altsDec al36) = p36 fuel y := by
  rintro x1
  kernel_rfl
theorem ok36 (fuel : Nat) : FunOk P 36 (funOfA fi36 al36 (p36 fuel)) :=
  funOfA_ok (subs := (subsOf [])) (an := an36) (room := 1) (ks := []) (g0 := []) (fuel := fuel) T_ok (fnsOk36 fuel) mixed (fn := Try.f36) (by kernel_rfl) (by kernel_rfl) subsOk_nil (by kernel_rfl) (fun _ => ⟨by kernel_rfl, by kernel_rfl⟩) (run36 fuel)

-- f37: tontine/arcs.Places
def fns37 (fuel : Nat) : Fns := fnsOf [(36, F36 fuel)]
theorem fnsOk37 (fuel : Nat) : FnsOk P (fns37 fuel) := (fnsOk_cons (ok36 fuel) fnsOk_nil)
def fi37 : Fr := ⟨[.d false (.pair (.int .i64) (.int .i64))], [], 0⟩
def al37 : List (Tm × List To) := [(.c (.slc 0 0), [.arr 0 (.int .i64)])]
def fx37_0 : Fr := ⟨[.c (.slc 0 0)], [.arr 0 (.int .i64)], 4⟩
def fr37_0 : Fr := ⟨[.c (.ptr 0 0 []), .c (.slc 1 0), .d true (.int .i64), .d true (.int .i64)], [.box (.d true (.pair (.int .i64) (.int .i64))), .arr 0 (.int .i64)], 3⟩
noncomputable def c37_0 : Code := bodyAt Try.f37 [1, 1, 1, 0, 1, 0]
def s37_0 (fuel : Nat) {R : Type} (F : (Int × Int × (Int × Int) × (List Int)) → Option R) (k0 : (List Int) → Option R) : (Int × Int × (Int × Int) × (List Int)) → Option R := fun (x3, x4, x5, x6) => (bif (decide (x4 < x3)) then (if (List.length x6 + List.length [(Int.tmod (IntKind.wrap .i64 (x5.1 + x4)) (64 : Int))]) * 8 ≤ 140737488355328 then (F (x3, (IntKind.wrap .i64 (x4 + (1 : Int))), x5, (x6 ++ [(Int.tmod (IntKind.wrap .i64 (x5.1 + x4)) (64 : Int))]))) else none) else (k0 x6))
def l37_0 (fuel : Nat) {R : Type} (k0 : (List Int) → Option R) : Nat → (Int × Int × (Int × Int) × (List Int)) → Option R
  | 0, _ => none
  | n + 1, x => s37_0 fuel (l37_0 fuel k0 n) k0 x
def nm37_0 : Norm := ⟨[1, 3, 9, 10], padK 3 [some (0, 0), some (1, 0)]⟩
def an37_0 : AN := (.seq .leaf (.seq (.cond .leaf (.norm ⟨[3], padK 4 [some (1, 0)]⟩ .leaf)) (.seq (.block (.seq .leaf (.region [(1, { touch := [0] }), (2, { touch := [0] }), (6, { touch := [3], base := 3, ro := false }), (7, { touch := [1, 3], ro := false })]))) .leaf)))
def al37_0 : AN := .loop nm37_0 an37_0
noncomputable def d37_0 : Code := bodyAt Try.f37 [1, 1, 1, 0, 1, 0, 0]
theorem e37_0 (fuel : Nat) {R : Type} (F : St → Option R) (k : AExit → St → Option R) : ∀ x : (Int × Int × (Int × Int) × (List Int)), runK R T (fns37 fuel) fuel [] (subsOf []) (partOf d37_0 an37_0) (fr37_0.st [1, 3, 9, 10] x) (backTo R [] nm37_0 F k) = s37_0 fuel (fun x => F (fr37_0.st [1, 3, 9, 10] x)) (fun y => k (.exit 0) (fx37_0.st [3] y)) x := by
  rintro ⟨x3, x4, x5, x6⟩
  kernel_rfl
theorem u37_0 (fuel : Nat) {R : Type} (k : AExit → St → Option R) (x : (Int × Int × (Int × Int) × (List Int))) : runK R T (fns37 fuel) fuel [] (subsOf []) (partOf c37_0 al37_0) (fr37_0.st [1, 3, 9, 10] x) k = l37_0 fuel (fun y => k (.exit 0) (fx37_0.st [3] y)) fuel x :=
  loop_eq (mk := fr37_0.st [1, 3, 9, 10]) (s := fun F x => s37_0 fuel F (fun y => k (.exit 0) (fx37_0.st [3] y)) x) (l := fun n x => l37_0 fuel (fun y => k (.exit 0) (fx37_0.st [3] y)) n x) (d := d37_0) (by kernel_rfl) (fun G x => by
    revert x
    rintro ⟨x3, x4, x5, x6⟩
    kernel_rfl) (fun F x => e37_0 fuel F k x) (fun _ => rfl) (fun _ _ => rfl) x
noncomputable def sub37_0 (fuel : Nat) (R : Type) : Sub R := Sub.of [1, 3, 9, 10] c37_0 fr37_0 fun x k => l37_0 fuel (fun y => k (.exit 0) (fx37_0.st [3] y)) fuel x
theorem subOk37_0 (fuel : Nat) (R : Type) : SubOk P [] 23 (sub37_0 fuel R) :=
  subOk_part (fns := (fns37 fuel)) (fuel := fuel) (subs := (subsOf [])) (an := al37_0) T_ok (fnsOk37 fuel) mixed subsOk_nil (by kernel_rfl) (by kernel_rfl) fun _ _ _ _ h => Sub.of_run (fun (x : (Int × Int × (Int × Int) × (List Int))) k => u37_0 fuel k x) h
def an37 : AN := (.seq (.region [(0, { touch := [2], base := 2, ro := false })]) (.seq (.seq (.region [(0, { touch := [2] })]) (.cond (.seq .leaf (.co (.empty (.slot 2 []) 4 (.int .i64)) (.norm ⟨[2], padK 4 [some (4, 0)]⟩ (.ret [some (0, 0)])))) .leaf)) (.seq .leaf (.seq (.seq (.region [(0, { touch := [2] }), (1, { touch := [2] })]) (.block (.co (.empty (.slot 3 []) 4 (.int .i64)) (.hole ⟨[1, 3, 9, 10], padK 3 [some (2, 0), some (4, 0)]⟩ 0)))) (.seq .leaf (.norm ⟨[2], padK 4 [some (0, 0)]⟩ (.ret [some (0, 0)])))))))
def p37 (fuel : Nat) : (Int × Int) → Option (List Int) := fun x1 => (match p36 fuel x1 with | some z2 => (bif (!z2) then (some ([] : List Int)) else (l37_0 fuel (fun x7 => (some x7)) fuel (x1.2, (0 : Int), x1, ([] : List Int)))) | none => none)
def F37 (fuel : Nat) : Fun := funOfA fi37 al37 (p37 fuel)
theorem run37 (fuel : Nat) : ∀ y : (Int × Int), runF (List Int) T (fns37 fuel) fuel (subsOf [sub37_0 fuel (List Int)]) (defOf Try.f37 an37 5 [] []) (fi37.vs y) (fi37.os y) (altsDec al37) = p37 fuel y := by
  rintro x1
  kernel_rfl
theorem ok37 (fuel : Nat) : FunOk P 37 (funOfA fi37 al37 (p37 fuel)) :=
  funOfA_ok (subs := (subsOf [sub37_0 fuel (List Int)])) (an := an37) (room := 5) (ks := []) (g0 := []) (fuel := fuel) T_ok (fnsOk37 fuel) mixed (fn := Try.f37) (by kernel_rfl) (by kernel_rfl) (subsOk_cons (subOk37_0 fuel _) subsOk_nil) (by kernel_rfl) (fun _ => ⟨by kernel_rfl, by kernel_rfl⟩) (run37 fuel)

-- f20: (tontine/lease.shift).may
def fns20 (fuel : Nat) : Fns := fnsOf [(36, F36 fuel), (37, F37 fuel)]
theorem fnsOk20 (fuel : Nat) : FnsOk P (fns20 fuel) := (fnsOk_cons (ok36 fuel) (fnsOk_cons (ok37 fuel) fnsOk_nil))
def fi20 : Fr := ⟨[.d false (.pair (.pair (.int .i64) (.pair (.int .i64) (.pair (.int .i64) (.pair (.pair (.int .i64) (.int .i64)) (.pair (.int .u32) (.int .u32)))))) (.bool)), .c (.ptr 0 0 [])], [.box (.d true (.pair (.int .u32) (.pair (.arr 64 (.int .i64)) (.pair (.arr 64 (.int .u32)) (.pair (.arr 12 (.bool)) (.arr 12 (.int .u32)))))))], 0⟩
def al20 : List (Tm × List To) := [(.d true (.int .i64), [.box (.d true (.pair (.int .u32) (.pair (.arr 64 (.int .i64)) (.pair (.arr 64 (.int .u32)) (.pair (.arr 12 (.bool)) (.arr 12 (.int .u32)))))))])]
def fx20_0 : Fr := ⟨[.d true (.int .i64)], [.box (.d true (.pair (.int .u32) (.pair (.arr 64 (.int .i64)) (.pair (.arr 64 (.int .u32)) (.pair (.arr 12 (.bool)) (.arr 12 (.int .u32)))))))], 4⟩
def fx20_1 : Fr := ⟨[.c (.ptr 0 0 []), .c (.ptr 1 0 [])], [.box (.d true (.pair (.int .u32) (.pair (.arr 64 (.int .i64)) (.pair (.arr 64 (.int .u32)) (.pair (.arr 12 (.bool)) (.arr 12 (.int .u32))))))), .box (.d true (.pair (.pair (.int .i64) (.pair (.int .i64) (.pair (.int .i64) (.pair (.pair (.int .i64) (.int .i64)) (.pair (.int .u32) (.int .u32)))))) (.bool)))], 3⟩
def fr20_0 : Fr := ⟨[.c (.ptr 0 0 []), .c (.ptr 1 0 []), .d true (.bool)], [.box (.d true (.pair (.int .u32) (.pair (.arr 64 (.int .i64)) (.pair (.arr 64 (.int .u32)) (.pair (.arr 12 (.bool)) (.arr 12 (.int .u32))))))), .box (.d true (.pair (.pair (.int .i64) (.pair (.int .i64) (.pair (.int .i64) (.pair (.pair (.int .i64) (.int .i64)) (.pair (.int .u32) (.int .u32)))))) (.bool)))], 3⟩
noncomputable def c20_0 : Code := bodyAt Try.f20 [1, 0, 0, 1, 1, 1]
def j20_0 (fuel : Nat) {R : Type} (k0 : (Int × (Int × ((List Int) × ((List Int) × ((List Bool) × (List Int)))))) → Option R) (k1 : ((Int × ((List Int) × ((List Int) × ((List Bool) × (List Int))))) × ((Int × (Int × (Int × ((Int × Int) × (Int × Int))))) × Bool)) → Option R) : (Bool × (Int × ((List Int) × ((List Int) × ((List Bool) × (List Int))))) × ((Int × (Int × (Int × ((Int × Int) × (Int × Int))))) × Bool)) → Option R := fun (x5, x6, x7) => (bif x5 then (k0 ((1 : Int), x6)) else (bif (decide (x7.1.2.2.1 = x7.1.2.1)) then (k0 ((141 : Int), x6)) else (k1 (x6, x7))))
def al20_0 : AN := (.fin ⟨[1, 2], padK 3 [some (0, 0), some (1, 0)]⟩ (.cond (.seq .leaf (.norm ⟨[4], padK 4 [some (0, 0)]⟩ (.ret [some (0, 0)]))) (.seq (.region [(0, { touch := [1] }), (1, { touch := [1] }), (2, { touch := [1] }), (3, { touch := [1] }), (4, { touch := [1] }), (5, { touch := [1] })]) (.cond (.seq .leaf (.norm ⟨[4], padK 4 [some (0, 0)]⟩ (.ret [some (0, 0)]))) .leaf))))
theorem u20_0 (fuel : Nat) {R : Type} (k : AExit → St → Option R) : ∀ x : (Bool × (Int × ((List Int) × ((List Int) × ((List Bool) × (List Int))))) × ((Int × (Int × (Int × ((Int × Int) × (Int × Int))))) × Bool)), runK R T (fns20 fuel) fuel [false] (subsOf []) (partOf c20_0 al20_0) (fr20_0.st [1, 2, 17] x) k = j20_0 fuel (fun y => k (.ret [some (0, 0)]) (fx20_0.st [4] y)) (fun y => k .normal (fx20_1.st [1, 2] y)) x := by
  rintro ⟨x5, x6, x7⟩
  kernel_rfl
noncomputable def sub20_0 (fuel : Nat) (R : Type) : Sub R := Sub.of [1, 2, 17] c20_0 fr20_0 fun x k => j20_0 fuel (fun y => k (.ret [some (0, 0)]) (fx20_0.st [4] y)) (fun y => k .normal (fx20_1.st [1, 2] y)) x
theorem subOk20_0 (fuel : Nat) (R : Type) : SubOk P [false] 74 (sub20_0 fuel R) :=
  subOk_part (fns := (fns20 fuel)) (fuel := fuel) (subs := (subsOf [])) (an := al20_0) T_ok (fnsOk20 fuel) mixed subsOk_nil (by kernel_rfl) (by kernel_rfl) fun _ _ _ _ h => Sub.of_run (fun (x : (Bool × (Int × ((List Int) × ((List Int) × ((List Bool) × (List Int))))) × ((Int × (Int × (Int × ((Int × Int) × (Int × Int))))) × Bool))) k => u20_0 fuel k x) h
def fr20_1 : Fr := ⟨[.c (.ptr 0 0 []), .c (.ptr 1 0 []), .c (.slc 2 0), .d true (.int .i64), .d true (.int .i64)], [.box (.d true (.pair (.int .u32) (.pair (.arr 64 (.int .i64)) (.pair (.arr 64 (.int .u32)) (.pair (.arr 12 (.bool)) (.arr 12 (.int .u32))))))), .box (.d true (.pair (.pair (.int .i64) (.pair (.int .i64) (.pair (.int .i64) (.pair (.pair (.int .i64) (.int .i64)) (.pair (.int .u32) (.int .u32)))))) (.bool))), .arr 0 (.int .i64)], 2⟩
noncomputable def c20_1 : Code := bodyAt Try.f20 [1, 1, 0, 1, 0]
def s20_1 (fuel : Nat) {R : Type} (F : (Int × Int × (Int × ((List Int) × ((List Int) × ((List Bool) × (List Int))))) × ((Int × (Int × (Int × ((Int × Int) × (Int × Int))))) × Bool) × (List Int)) → Option R) (k0 : (Int × (Int × ((List Int) × ((List Int) × ((List Bool) × (List Int)))))) → Option R) (k1 : ((Int × ((List Int) × ((List Int) × ((List Bool) × (List Int))))) × ((Int × (Int × (Int × ((Int × Int) × (Int × Int))))) × Bool)) → Option R) : (Int × Int × (Int × ((List Int) × ((List Int) × ((List Bool) × (List Int))))) × ((Int × (Int × (Int × ((Int × Int) × (Int × Int))))) × Bool) × (List Int)) → Option R := fun (x19, x20, x21, x22, x23) => (bif (decide (x20 < x19)) then (if 0 ≤ x20 ∧ x20 < ((List.length x23 : Nat) : Int) then (match (x23)[(Int.toNat x20)]? with | some y24 => (if 0 ≤ y24 ∧ y24 < ((64 : Nat) : Int) then (match (x21.2.1)[(Int.toNat y24)]? with | some y25 => (bif (!decide (y25 = x22.1.2.2.1)) then (k0 ((141 : Int), x21)) else (F (x19, (IntKind.wrap .i64 (x20 + (1 : Int))), x21, x22, x23))) | none => none) else none) | none => none) else none) else (k1 (x21, x22)))
def l20_1 (fuel : Nat) {R : Type} (k0 : (Int × (Int × ((List Int) × ((List Int) × ((List Bool) × (List Int)))))) → Option R) (k1 : ((Int × ((List Int) × ((List Int) × ((List Bool) × (List Int))))) × ((Int × (Int × (Int × ((Int × Int) × (Int × Int))))) × Bool)) → Option R) : Nat → (Int × Int × (Int × ((List Int) × ((List Int) × ((List Bool) × (List Int))))) × ((Int × (Int × (Int × ((Int × Int) × (Int × Int))))) × Bool) × (List Int)) → Option R
  | 0, _ => none
  | n + 1, x => s20_1 fuel (l20_1 fuel k0 k1 n) k0 k1 x
def nm20_1 : Norm := ⟨[1, 2, 41, 42, 43], padK 2 [some (0, 0), some (1, 0), some (2, 0)]⟩
def an20_1 : AN := (.seq .leaf (.seq (.cond .leaf (.norm ⟨[1, 2], padK 3 [some (0, 0), some (1, 0)]⟩ .leaf)) (.seq (.block (.seq (.region [(0, { touch := [2] }), (1, { touch := [2] })]) (.seq (.region [(2, { touch := [0] }), (3, { touch := [0] }), (4, { touch := [0] }), (5, { touch := [0] }), (6, { touch := [1] }), (7, { touch := [1] }), (8, { touch := [1] })]) (.cond (.seq .leaf (.norm ⟨[4], padK 4 [some (0, 0)]⟩ (.ret [some (0, 0)]))) .leaf)))) .leaf)))
def al20_1 : AN := .loop nm20_1 an20_1
noncomputable def d20_1 : Code := bodyAt Try.f20 [1, 1, 0, 1, 0, 0]
theorem e20_1 (fuel : Nat) {R : Type} (F : St → Option R) (k : AExit → St → Option R) : ∀ x : (Int × Int × (Int × ((List Int) × ((List Int) × ((List Bool) × (List Int))))) × ((Int × (Int × (Int × ((Int × Int) × (Int × Int))))) × Bool) × (List Int)), runK R T (fns20 fuel) fuel [false] (subsOf [sub20_0 fuel R]) (partOf d20_1 an20_1) (fr20_1.st [1, 2, 41, 42, 43] x) (backTo R [false] nm20_1 F k) = s20_1 fuel (fun x => F (fr20_1.st [1, 2, 41, 42, 43] x)) (fun y => k (.ret [some (0, 0)]) (fx20_0.st [4] y)) (fun y => k (.exit 1) (fx20_1.st [1, 2] y)) x := by
  rintro ⟨x19, x20, x21, x22, x23⟩
  kernel_rfl
theorem u20_1 (fuel : Nat) {R : Type} (k : AExit → St → Option R) (x : (Int × Int × (Int × ((List Int) × ((List Int) × ((List Bool) × (List Int))))) × ((Int × (Int × (Int × ((Int × Int) × (Int × Int))))) × Bool) × (List Int))) : runK R T (fns20 fuel) fuel [false] (subsOf [sub20_0 fuel R]) (partOf c20_1 al20_1) (fr20_1.st [1, 2, 41, 42, 43] x) k = l20_1 fuel (fun y => k (.ret [some (0, 0)]) (fx20_0.st [4] y)) (fun y => k (.exit 1) (fx20_1.st [1, 2] y)) fuel x :=
  loop_eq (mk := fr20_1.st [1, 2, 41, 42, 43]) (s := fun F x => s20_1 fuel F (fun y => k (.ret [some (0, 0)]) (fx20_0.st [4] y)) (fun y => k (.exit 1) (fx20_1.st [1, 2] y)) x) (l := fun n x => l20_1 fuel (fun y => k (.ret [some (0, 0)]) (fx20_0.st [4] y)) (fun y => k (.exit 1) (fx20_1.st [1, 2] y)) n x) (d := d20_1) (by kernel_rfl) (fun G x => by
    revert x
    rintro ⟨x19, x20, x21, x22, x23⟩
    kernel_rfl) (fun F x => e20_1 fuel F k x) (fun _ => rfl) (fun _ _ => rfl) x
noncomputable def sub20_1 (fuel : Nat) (R : Type) : Sub R := Sub.of [1, 2, 41, 42, 43] c20_1 fr20_1 fun x k => l20_1 fuel (fun y => k (.ret [some (0, 0)]) (fx20_0.st [4] y)) (fun y => k (.exit 1) (fx20_1.st [1, 2] y)) fuel x
theorem subOk20_1 (fuel : Nat) (R : Type) : SubOk P [false] 74 (sub20_1 fuel R) :=
  subOk_part (fns := (fns20 fuel)) (fuel := fuel) (subs := (subsOf [sub20_0 fuel R])) (an := al20_1) T_ok (fnsOk20 fuel) mixed (subsOk_cons (subOk20_0 fuel R) subsOk_nil) (by kernel_rfl) (by kernel_rfl) fun _ _ _ _ h => Sub.of_run (fun (x : (Int × Int × (Int × ((List Int) × ((List Int) × ((List Bool) × (List Int))))) × ((Int × (Int × (Int × ((Int × Int) × (Int × Int))))) × Bool) × (List Int))) k => u20_1 fuel k x) h
def fr20_2 : Fr := ⟨[.c (.ptr 0 0 []), .c (.ptr 1 0 [])], [.box (.d true (.pair (.int .u32) (.pair (.arr 64 (.int .i64)) (.pair (.arr 64 (.int .u32)) (.pair (.arr 12 (.bool)) (.arr 12 (.int .u32))))))), .box (.d true (.pair (.pair (.int .i64) (.pair (.int .i64) (.pair (.int .i64) (.pair (.pair (.int .i64) (.int .i64)) (.pair (.int .u32) (.int .u32)))))) (.bool)))], 3⟩
noncomputable def c20_2 : Code := bodyAt Try.f20 [1, 1]
def j20_2 (fuel : Nat) {R : Type} (k0 : (Int × (Int × ((List Int) × ((List Int) × ((List Bool) × (List Int)))))) → Option R) : ((Int × ((List Int) × ((List Int) × ((List Bool) × (List Int))))) × ((Int × (Int × (Int × ((Int × Int) × (Int × Int))))) × Bool)) → Option R := fun (x16, x17) => (match p37 fuel x17.1.2.2.2.1 with | some z18 => (l20_1 fuel (fun (x26, x27) => (k0 (x26, x27))) (fun (x28, x29) => (bif x29.2 then (if 0 ≤ x29.1.2.2.1 ∧ x29.1.2.2.1 < ((12 : Nat) : Int) then (match (x28.2.2.2.2)[(Int.toNat x29.1.2.2.1)]? with | some y30 => (bif (!decide (y30 = x29.1.2.2.2.2.2)) then (k0 ((142 : Int), x28)) else (k0 ((0 : Int), x28))) | none => none) else none) else (k0 ((0 : Int), x28)))) fuel (((List.length z18 : Nat) : Int), (0 : Int), x16, x17, z18)) | none => none)
def al20_2 : AN := (.seq (.seq (.region [(0, { touch := [1] }), (1, { touch := [1] }), (2, { touch := [1] }), (3, { touch := [4], base := 4, ro := false, fresh := 1 }), (4, { touch := [4] })]) (.block (.hole ⟨[1, 2, 41, 42, 43], padK 2 [some (0, 0), some (1, 0), some (4, 0)]⟩ 1))) (.seq (.seq (.region [(0, { touch := [1] }), (1, { touch := [1] }), (4, { touch := [1] }), (5, { touch := [1] }), (6, { touch := [1] }), (7, { touch := [0] }), (8, { touch := [0] }), (9, { touch := [0] }), (10, { touch := [0] }), (11, { touch := [1] }), (12, { touch := [1] }), (13, { touch := [1] })]) (.cond (.seq .leaf (.norm ⟨[4], padK 4 [some (0, 0)]⟩ (.ret [some (0, 0)]))) .leaf)) (.seq .leaf (.norm ⟨[4], padK 4 [some (0, 0)]⟩ (.ret [some (0, 0)])))))
theorem u20_2 (fuel : Nat) {R : Type} (k : AExit → St → Option R) : ∀ x : ((Int × ((List Int) × ((List Int) × ((List Bool) × (List Int))))) × ((Int × (Int × (Int × ((Int × Int) × (Int × Int))))) × Bool)), runK R T (fns20 fuel) fuel [false] (subsOf [sub20_0 fuel R, sub20_1 fuel R]) (partOf c20_2 al20_2) (fr20_2.st [1, 2] x) k = j20_2 fuel (fun y => k (.ret [some (0, 0)]) (fx20_0.st [4] y)) x := by
  rintro ⟨x16, x17⟩
  kernel_rfl
noncomputable def sub20_2 (fuel : Nat) (R : Type) : Sub R := Sub.of [1, 2] c20_2 fr20_2 fun x k => j20_2 fuel (fun y => k (.ret [some (0, 0)]) (fx20_0.st [4] y)) x
theorem subOk20_2 (fuel : Nat) (R : Type) : SubOk P [false] 74 (sub20_2 fuel R) :=
  subOk_part (fns := (fns20 fuel)) (fuel := fuel) (subs := (subsOf [sub20_0 fuel R, sub20_1 fuel R])) (an := al20_2) T_ok (fnsOk20 fuel) mixed (subsOk_cons (subOk20_0 fuel R) (subsOk_cons (subOk20_1 fuel R) subsOk_nil)) (by kernel_rfl) (by kernel_rfl) fun _ _ _ _ h => Sub.of_run (fun (x : ((Int × ((List Int) × ((List Int) × ((List Bool) × (List Int))))) × ((Int × (Int × (Int × ((Int × Int) × (Int × Int))))) × Bool))) k => u20_2 fuel k x) h
def an20 : AN := (.seq (.region [(0, { touch := [3], base := 3, ro := false })]) (.seq (.block (.seq (.region [(1, { touch := [3] }), (2, { touch := [3] }), (3, { touch := [3] }), (4, { touch := [0] }), (5, { touch := [0] }), (6, { touch := [0] }), (7, { touch := [0] })]) (.cond (.seq .leaf (.norm ⟨[4], padK 4 [some (0, 0)]⟩ (.ret [some (0, 0)]))) (.seq (.region [(0, { touch := [3] }), (1, { touch := [3] }), (2, { touch := [3] }), (6, { touch := [3] }), (7, { touch := [3] }), (8, { touch := [3] }), (9, { touch := [3] })]) (.hole ⟨[1, 2, 17], padK 3 [some (0, 0), some (3, 0)]⟩ 0))))) (.hole ⟨[1, 2], padK 3 [some (0, 0), some (1, 0)]⟩ 2)))
def p20 (fuel : Nat) : (((Int × (Int × (Int × ((Int × Int) × (Int × Int))))) × Bool) × (Int × ((List Int) × ((List Int) × ((List Bool) × (List Int)))))) → Option (Int × (Int × ((List Int) × ((List Int) × ((List Bool) × (List Int)))))) := fun (x1, x2) => (if 0 ≤ x1.1.2.1 ∧ x1.1.2.1 < ((12 : Nat) : Int) then (match (x2.2.2.2.1)[(Int.toNat x1.1.2.1)]? with | some y3 => (bif (!y3) then (some ((143 : Int), x2)) else (match p36 fuel x1.1.2.2.2.1 with | some z4 => (bif (!z4) then (j20_0 fuel (fun (x8, x9) => (some (x8, x9))) (fun (x10, x11) => (j20_2 fuel (fun (x31, x32) => (some (x31, x32))) (x10, x11))) (true, x2, x1)) else (j20_0 fuel (fun (x12, x13) => (some (x12, x13))) (fun (x14, x15) => (j20_2 fuel (fun (x33, x34) => (some (x33, x34))) (x14, x15))) ((decide (x1.1.2.2.2.1.2 = (0 : Int))), x2, x1))) | none => none)) | none => none) else none)
def F20 (fuel : Nat) : Fun := funOfA fi20 al20 (p20 fuel)
theorem run20 (fuel : Nat) : ∀ y : (((Int × (Int × (Int × ((Int × Int) × (Int × Int))))) × Bool) × (Int × ((List Int) × ((List Int) × ((List Bool) × (List Int)))))), runF (Int × (Int × ((List Int) × ((List Int) × ((List Bool) × (List Int)))))) T (fns20 fuel) fuel (subsOf [sub20_0 fuel (Int × (Int × ((List Int) × ((List Int) × ((List Bool) × (List Int)))))), sub20_1 fuel (Int × (Int × ((List Int) × ((List Int) × ((List Bool) × (List Int)))))), sub20_2 fuel (Int × (Int × ((List Int) × ((List Int) × ((List Bool) × (List Int))))))]) (defOf Try.f20 an20 4 [] [false]) (fi20.vs y) (fi20.os y) (altsDec al20) = p20 fuel y := by
  rintro ⟨x1, x2⟩
  kernel_rfl
theorem ok20 (fuel : Nat) : FunOk P 20 (funOfA fi20 al20 (p20 fuel)) :=
  funOfA_ok (subs := (subsOf [sub20_0 fuel (Int × (Int × ((List Int) × ((List Int) × ((List Bool) × (List Int)))))), sub20_1 fuel (Int × (Int × ((List Int) × ((List Int) × ((List Bool) × (List Int)))))), sub20_2 fuel (Int × (Int × ((List Int) × ((List Int) × ((List Bool) × (List Int))))))])) (an := an20) (room := 4) (ks := []) (g0 := [false]) (fuel := fuel) T_ok (fnsOk20 fuel) mixed (fn := Try.f20) (by kernel_rfl) (by kernel_rfl) (subsOk_cons (subOk20_0 fuel _) (subsOk_cons (subOk20_1 fuel _) (subsOk_cons (subOk20_2 fuel _) subsOk_nil))) (by kernel_rfl) (fun _ => ⟨by kernel_rfl, by kernel_rfl⟩) (run20 fuel)

-- f21: (tontine/lease.shift).do
def fns21 (fuel : Nat) : Fns := fnsOf [(37, F37 fuel)]
theorem fnsOk21 (fuel : Nat) : FnsOk P (fns21 fuel) := (fnsOk_cons (ok37 fuel) fnsOk_nil)
def fi21 : Fr := ⟨[.d false (.pair (.pair (.int .i64) (.pair (.int .i64) (.pair (.int .i64) (.pair (.pair (.int .i64) (.int .i64)) (.pair (.int .u32) (.int .u32)))))) (.bool)), .c (.ptr 0 0 [])], [.box (.d true (.pair (.int .u32) (.pair (.arr 64 (.int .i64)) (.pair (.arr 64 (.int .u32)) (.pair (.arr 12 (.bool)) (.arr 12 (.int .u32)))))))], 0⟩
def al21 : List (Tm × List To) := [(.tup (.c .nil), [.box (.d true (.pair (.int .u32) (.pair (.arr 64 (.int .i64)) (.pair (.arr 64 (.int .u32)) (.pair (.arr 12 (.bool)) (.arr 12 (.int .u32)))))))])]
def fx21_0 : Fr := ⟨[], [.box (.d true (.pair (.int .u32) (.pair (.arr 64 (.int .i64)) (.pair (.arr 64 (.int .u32)) (.pair (.arr 12 (.bool)) (.arr 12 (.int .u32)))))))], 4⟩
def fr21_0 : Fr := ⟨[.c (.ptr 0 0 []), .c (.ptr 1 0 []), .c (.slc 2 0), .d true (.int .i64), .d true (.int .i64)], [.box (.d true (.pair (.int .u32) (.pair (.arr 64 (.int .i64)) (.pair (.arr 64 (.int .u32)) (.pair (.arr 12 (.bool)) (.arr 12 (.int .u32))))))), .box (.d true (.pair (.pair (.int .i64) (.pair (.int .i64) (.pair (.int .i64) (.pair (.pair (.int .i64) (.int .i64)) (.pair (.int .u32) (.int .u32)))))) (.bool))), .arr 0 (.int .i64)], 2⟩
noncomputable def c21_0 : Code := bodyAt Try.f21 [1, 1, 0]
def s21_0 (fuel : Nat) {R : Type} (F : (Int × Int × (Int × ((List Int) × ((List Int) × ((List Bool) × (List Int))))) × ((Int × (Int × (Int × ((Int × Int) × (Int × Int))))) × Bool) × (List Int)) → Option R) (k0 : (Int × ((List Int) × ((List Int) × ((List Bool) × (List Int))))) → Option R) : (Int × Int × (Int × ((List Int) × ((List Int) × ((List Bool) × (List Int))))) × ((Int × (Int × (Int × ((Int × Int) × (Int × Int))))) × Bool) × (List Int)) → Option R := fun (x4, x5, x6, x7, x8) => (bif (decide (x5 < x4)) then (if 0 ≤ x5 ∧ x5 < ((List.length x8 : Nat) : Int) then (match (x8)[(Int.toNat x5)]? with | some y9 => (if 0 ≤ y9 ∧ y9 < ((64 : Nat) : Int) then (match (x6.2.1)[(Int.toNat y9)]? with | some y10 => (bif x7.2 then (if 0 ≤ y9 ∧ y9 < ((64 : Nat) : Int) then (match (x6.2.2.1)[(Int.toNat y9)]? with | some y11 => (F (x4, (IntKind.wrap .i64 (x5 + (1 : Int))), (x6.1, ((List.set x6.2.1 (Int.toNat y9) x7.1.2.1), ((List.set x6.2.2.1 (Int.toNat y9) x6.1), x6.2.2.2))), x7, x8)) | none => none) else none) else (F (x4, (IntKind.wrap .i64 (x5 + (1 : Int))), (x6.1, ((List.set x6.2.1 (Int.toNat y9) x7.1.2.1), x6.2.2)), x7, x8))) | none => none) else none) | none => none) else none) else (k0 x6))
def l21_0 (fuel : Nat) {R : Type} (k0 : (Int × ((List Int) × ((List Int) × ((List Bool) × (List Int))))) → Option R) : Nat → (Int × Int × (Int × ((List Int) × ((List Int) × ((List Bool) × (List Int))))) × ((Int × (Int × (Int × ((Int × Int) × (Int × Int))))) × Bool) × (List Int)) → Option R
  | 0, _ => none
  | n + 1, x => s21_0 fuel (l21_0 fuel k0 n) k0 x
def nm21_0 : Norm := ⟨[1, 2, 9, 10, 11], padK 2 [some (0, 0), some (1, 0), some (2, 0)]⟩
def an21_0 : AN := (.seq .leaf (.seq (.cond .leaf (.norm ⟨[], padK 4 [some (0, 0)]⟩ .leaf)) (.seq (.block (.seq (.region [(0, { touch := [2] }), (1, { touch := [2] })]) (.seq (.region [(2, { touch := [1] }), (3, { touch := [1] }), (4, { touch := [1] }), (5, { touch := [0] }), (6, { touch := [0] }), (7, { touch := [0] }), (8, { touch := [0], ro := false })]) (.seq (.region [(0, { touch := [1] }), (1, { touch := [1] })]) (.cond (.fin ⟨[1, 2, 9, 10, 11], padK 2 [some (0, 0), some (1, 0), some (2, 0)]⟩ (.region [(3, { touch := [0] }), (4, { touch := [0] }), (5, { touch := [0] }), (6, { touch := [0] }), (7, { touch := [0] }), (8, { touch := [0] }), (9, { touch := [0], ro := false })])) (.fin ⟨[1, 2, 9, 10, 11], padK 2 [some (0, 0), some (1, 0), some (2, 0)]⟩ .leaf)))))) .leaf)))
def al21_0 : AN := .loop nm21_0 an21_0
noncomputable def d21_0 : Code := bodyAt Try.f21 [1, 1, 0, 0]
theorem e21_0 (fuel : Nat) {R : Type} (F : St → Option R) (k : AExit → St → Option R) : ∀ x : (Int × Int × (Int × ((List Int) × ((List Int) × ((List Bool) × (List Int))))) × ((Int × (Int × (Int × ((Int × Int) × (Int × Int))))) × Bool) × (List Int)), runK R T (fns21 fuel) fuel [false] (subsOf []) (partOf d21_0 an21_0) (fr21_0.st [1, 2, 9, 10, 11] x) (backTo R [false] nm21_0 F k) = s21_0 fuel (fun x => F (fr21_0.st [1, 2, 9, 10, 11] x)) (fun y => k (.exit 0) (fx21_0.st [] y)) x := by
  rintro ⟨x4, x5, x6, x7, x8⟩
  kernel_rfl
theorem u21_0 (fuel : Nat) {R : Type} (k : AExit → St → Option R) (x : (Int × Int × (Int × ((List Int) × ((List Int) × ((List Bool) × (List Int))))) × ((Int × (Int × (Int × ((Int × Int) × (Int × Int))))) × Bool) × (List Int))) : runK R T (fns21 fuel) fuel [false] (subsOf []) (partOf c21_0 al21_0) (fr21_0.st [1, 2, 9, 10, 11] x) k = l21_0 fuel (fun y => k (.exit 0) (fx21_0.st [] y)) fuel x :=
  loop_eq (mk := fr21_0.st [1, 2, 9, 10, 11]) (s := fun F x => s21_0 fuel F (fun y => k (.exit 0) (fx21_0.st [] y)) x) (l := fun n x => l21_0 fuel (fun y => k (.exit 0) (fx21_0.st [] y)) n x) (d := d21_0) (by kernel_rfl) (fun G x => by
    revert x
    rintro ⟨x4, x5, x6, x7, x8⟩
    kernel_rfl) (fun F x => e21_0 fuel F k x) (fun _ => rfl) (fun _ _ => rfl) x
noncomputable def sub21_0 (fuel : Nat) (R : Type) : Sub R := Sub.of [1, 2, 9, 10, 11] c21_0 fr21_0 fun x k => l21_0 fuel (fun y => k (.exit 0) (fx21_0.st [] y)) fuel x
theorem subOk21_0 (fuel : Nat) (R : Type) : SubOk P [false] 35 (sub21_0 fuel R) :=
  subOk_part (fns := (fns21 fuel)) (fuel := fuel) (subs := (subsOf [])) (an := al21_0) T_ok (fnsOk21 fuel) mixed subsOk_nil (by kernel_rfl) (by kernel_rfl) fun _ _ _ _ h => Sub.of_run (fun (x : (Int × Int × (Int × ((List Int) × ((List Int) × ((List Bool) × (List Int))))) × ((Int × (Int × (Int × ((Int × Int) × (Int × Int))))) × Bool) × (List Int))) k => u21_0 fuel k x) h
def an21 : AN := (.seq (.region [(0, { touch := [3], base := 3, ro := false })]) (.seq (.region [(0, { touch := [3] }), (1, { touch := [3] }), (2, { touch := [3] }), (3, { touch := [4], base := 4, ro := false, fresh := 1 }), (4, { touch := [4] })]) (.block (.hole ⟨[1, 2, 9, 10, 11], padK 2 [some (0, 0), some (3, 0), some (4, 0)]⟩ 0))))
def p21 (fuel : Nat) : (((Int × (Int × (Int × ((Int × Int) × (Int × Int))))) × Bool) × (Int × ((List Int) × ((List Int) × ((List Bool) × (List Int)))))) → Option (Int × ((List Int) × ((List Int) × ((List Bool) × (List Int))))) := fun (x1, x2) => (match p37 fuel x1.1.2.2.2.1 with | some z3 => (l21_0 fuel (fun x12 => (some x12)) fuel (((List.length z3 : Nat) : Int), (0 : Int), x2, x1, z3)) | none => none)
def F21 (fuel : Nat) : Fun := funOfA fi21 al21 (p21 fuel)
theorem run21 (fuel : Nat) : ∀ y : (((Int × (Int × (Int × ((Int × Int) × (Int × Int))))) × Bool) × (Int × ((List Int) × ((List Int) × ((List Bool) × (List Int)))))), runF (Int × ((List Int) × ((List Int) × ((List Bool) × (List Int))))) T (fns21 fuel) fuel (subsOf [sub21_0 fuel (Int × ((List Int) × ((List Int) × ((List Bool) × (List Int)))))]) (defOf Try.f21 an21 4 [some (0, 0)] [false]) (fi21.vs y) (fi21.os y) (altsDec al21) = p21 fuel y := by
  rintro ⟨x1, x2⟩
  kernel_rfl
theorem ok21 (fuel : Nat) : FunOk P 21 (funOfA fi21 al21 (p21 fuel)) :=
  funOfA_ok (subs := (subsOf [sub21_0 fuel (Int × ((List Int) × ((List Int) × ((List Bool) × (List Int)))))])) (an := an21) (room := 4) (ks := [some (0, 0)]) (g0 := [false]) (fuel := fuel) T_ok (fnsOk21 fuel) mixed (fn := Try.f21) (by kernel_rfl) (by kernel_rfl) (subsOk_cons (subOk21_0 fuel _) subsOk_nil) (by kernel_rfl) (fun _ => ⟨by kernel_rfl, by kernel_rfl⟩) (run21 fuel)

-- f9: tontine/lease.Apply
def fns9 (fuel : Nat) : Fns := fnsOf [(19, F19 fuel), (20, F20 fuel), (21, F21 fuel)]
theorem fnsOk9 (fuel : Nat) : FnsOk P (fns9 fuel) := (fnsOk_cons (ok19 fuel) (fnsOk_cons (ok20 fuel) (fnsOk_cons (ok21 fuel) fnsOk_nil)))
def fi9 : Fr := ⟨[.d false (.pair (.int .u32) (.pair (.arr 64 (.int .i64)) (.pair (.arr 64 (.int .u32)) (.pair (.arr 12 (.bool)) (.arr 12 (.int .u32)))))), .d false (.pair (.int .i64) (.pair (.int .i64) (.pair (.int .i64) (.pair (.pair (.int .i64) (.int .i64)) (.pair (.int .u32) (.int .u32))))))], [], 0⟩
def al9 : List (Tm × List To) := [(.tup (.cons (.d true (.pair (.int .u32) (.pair (.arr 64 (.int .i64)) (.pair (.arr 64 (.int .u32)) (.pair (.arr 12 (.bool)) (.arr 12 (.int .u32))))))) (.cons (.d true (.int .i64)) (.c .nil))), [])]
def fx9_0 : Fr := ⟨[.c (.ptr 0 0 []), .d true (.int .i64)], [.box (.d true (.pair (.int .u32) (.pair (.arr 64 (.int .i64)) (.pair (.arr 64 (.int .u32)) (.pair (.arr 12 (.bool)) (.arr 12 (.int .u32)))))))], 9⟩
def fx9_1 : Fr := ⟨[.c (.ptr 0 0 []), .c (.ptr 1 0 [])], [.box (.d true (.pair (.int .u32) (.pair (.arr 64 (.int .i64)) (.pair (.arr 64 (.int .u32)) (.pair (.arr 12 (.bool)) (.arr 12 (.int .u32))))))), .box (.d true (.pair (.int .u32) (.pair (.arr 64 (.int .i64)) (.pair (.arr 64 (.int .u32)) (.pair (.arr 12 (.bool)) (.arr 12 (.int .u32)))))))], 8⟩
def fr9_0 : Fr := ⟨[.c (.ptr 0 0 []), .c (.ptr 1 0 []), .c (.ptr 2 0 []), .c (.ptr 3 0 []), .d true (.bool)], [.box (.d true (.pair (.int .u32) (.pair (.arr 64 (.int .i64)) (.pair (.arr 64 (.int .u32)) (.pair (.arr 12 (.bool)) (.arr 12 (.int .u32))))))), .box (.d true (.pair (.int .i64) (.pair (.int .i64) (.pair (.int .i64) (.pair (.pair (.int .i64) (.int .i64)) (.pair (.int .u32) (.int .u32))))))), .box (.d true (.pair (.int .u32) (.pair (.arr 64 (.int .i64)) (.pair (.arr 64 (.int .u32)) (.pair (.arr 12 (.bool)) (.arr 12 (.int .u32))))))), .box (.d true (.pair (.int .u32) (.pair (.arr 64 (.int .i64)) (.pair (.arr 64 (.int .u32)) (.pair (.arr 12 (.bool)) (.arr 12 (.int .u32)))))))], 6⟩
noncomputable def c9_0 : Code := bodyAt Try.f9 [1, 1, 1, 1, 1, 0, 1, 0, 1, 1, 1, 1, 1, 1, 1]
def j9_0 (fuel : Nat) {R : Type} (k0 : (Int × (Int × ((List Int) × ((List Int) × ((List Bool) × (List Int)))))) → Option R) (k1 : ((Int × ((List Int) × ((List Int) × ((List Bool) × (List Int))))) × (Int × ((List Int) × ((List Int) × ((List Bool) × (List Int)))))) → Option R) : (Bool × (Int × ((List Int) × ((List Int) × ((List Bool) × (List Int))))) × (Int × (Int × (Int × ((Int × Int) × (Int × Int))))) × (Int × ((List Int) × ((List Int) × ((List Bool) × (List Int))))) × (Int × ((List Int) × ((List Int) × ((List Bool) × (List Int)))))) → Option R := fun (x10, x11, x12, x13, x14) => (bif x10 then (match p20 fuel ((x12, (decide (x12.1 = (3 : Int)))), x11) with | some z15 => (bif (!decide (z15.1 = (0 : Int))) then (k0 (z15.1, z15.2)) else (match p21 fuel ((x12, (decide (x12.1 = (3 : Int)))), x14) with | some z16 => (k1 (x13, z16)) | none => none)) | none => none) else (k0 ((1 : Int), x11)))
def al9_0 : AN := (.fin ⟨[4, 6], padK 8 [some (2, 0), some (3, 0)]⟩ (.cond (.seq (.region [(0, { touch := [1] }), (1, { touch := [1] }), (2, { touch := [1] }), (5, { touch := [9], base := 9, ro := false }), (6, { touch := [9], ro := false })]) (.seq (.seq (.region [(0, { touch := [9] }), (1, { touch := [0], ro := false, loc := [0] })]) (.seq .leaf (.cond (.seq (.region [(0, { touch := [0] }), (2, { touch := [2], ro := false })]) (.norm ⟨[4, 5], padK 9 [some (2, 0)]⟩ (.ret []))) .leaf))) (.region [(0, { touch := [9] }), (1, { touch := [3], ro := false, loc := [3] })]))) (.seq (.region [(0, { touch := [0] }), (1, { touch := [2], ro := false })]) (.norm ⟨[4, 5], padK 9 [some (2, 0)]⟩ (.ret [])))))
theorem u9_0 (fuel : Nat) {R : Type} (k : AExit → St → Option R) : ∀ x : (Bool × (Int × ((List Int) × ((List Int) × ((List Bool) × (List Int))))) × (Int × (Int × (Int × ((Int × Int) × (Int × Int))))) × (Int × ((List Int) × ((List Int) × ((List Bool) × (List Int))))) × (Int × ((List Int) × ((List Int) × ((List Bool) × (List Int)))))), runK R T (fns9 fuel) fuel [] (subsOf []) (partOf c9_0 al9_0) (fr9_0.st [2, 3, 4, 6, 95] x) k = j9_0 fuel (fun y => k (.ret []) (fx9_0.st [4, 5] y)) (fun y => k .normal (fx9_1.st [4, 6] y)) x := by
  rintro ⟨x10, x11, x12, x13, x14⟩
  kernel_rfl
noncomputable def sub9_0 (fuel : Nat) (R : Type) : Sub R := Sub.of [2, 3, 4, 6, 95] c9_0 fr9_0 fun x k => j9_0 fuel (fun y => k (.ret []) (fx9_0.st [4, 5] y)) (fun y => k .normal (fx9_1.st [4, 6] y)) x
theorem subOk9_0 (fuel : Nat) (R : Type) : SubOk P [] 112 (sub9_0 fuel R) :=
  subOk_part (fns := (fns9 fuel)) (fuel := fuel) (subs := (subsOf [])) (an := al9_0) T_ok (fnsOk9 fuel) mixed subsOk_nil (by kernel_rfl) (by kernel_rfl) fun _ _ _ _ h => Sub.of_run (fun (x : (Bool × (Int × ((List Int) × ((List Int) × ((List Bool) × (List Int))))) × (Int × (Int × (Int × ((Int × Int) × (Int × Int))))) × (Int × ((List Int) × ((List Int) × ((List Bool) × (List Int))))) × (Int × ((List Int) × ((List Int) × ((List Bool) × (List Int))))))) k => u9_0 fuel k x) h
def an9 : AN := (.seq (.region [(0, { touch := [4], base := 4, ro := false }), (1, { touch := [5], base := 5, ro := false }), (2, { touch := [6], base := 6, ro := false })]) (.seq (.seq (.region [(0, { touch := [5] }), (1, { touch := [5] }), (4, { touch := [5] }), (5, { touch := [5] }), (9, { touch := [4] }), (10, { touch := [4] })]) (.cond (.seq (.region [(0, { touch := [4] }), (1, { touch := [6], ro := false })]) (.norm ⟨[4, 5], padK 9 [some (6, 0)]⟩ (.ret []))) .leaf)) (.seq (.region [(0, { touch := [4] }), (1, { touch := [7], base := 7, ro := false }), (2, { touch := [7], ro := false })]) (.seq (.region [(0, { touch := [7] }), (1, { touch := [7] }), (3, { touch := [7] }), (4, { touch := [7], ro := false })]) (.seq (.region [(0, { touch := [5] }), (1, { touch := [5] }), (2, { touch := [4] }), (3, { touch := [4] }), (4, { touch := [4] })]) (.seq (.seq (.region [(0, { touch := [5] }), (1, { touch := [5] })]) (.block (.seq .leaf (.cond (.fin ⟨[4, 6], padK 8 [some (6, 0), some (7, 0)]⟩ (.seq (.block (.seq .leaf (.cond (.seq (.region [(0, { touch := [4] }), (1, { touch := [6], ro := false })]) (.norm ⟨[4, 5], padK 9 [some (6, 0)]⟩ (.ret []))) (.seq (.region [(0, { touch := [5] }), (1, { touch := [5] }), (4, { touch := [5] }), (5, { touch := [5] }), (7, { touch := [5] }), (8, { touch := [5] }), (9, { touch := [4] }), (10, { touch := [4] }), (11, { touch := [4] })]) (.cond (.seq (.region [(0, { touch := [4] }), (1, { touch := [6], ro := false })]) (.norm ⟨[4, 5], padK 9 [some (6, 0)]⟩ (.ret []))) .leaf))))) (.region [(0, { touch := [5] }), (1, { touch := [5] }), (2, { touch := [5] }), (3, { touch := [5] }), (4, { touch := [7] }), (5, { touch := [7] }), (6, { touch := [7], ro := false })]))) (.fin ⟨[4, 6], padK 8 [some (0, 0), some (1, 0)]⟩ (.seq .leaf (.cond (.fin ⟨[4, 6], padK 8 [some (6, 0), some (7, 0)]⟩ (.seq (.seq .leaf (.cond (.seq (.region [(0, { touch := [4] }), (1, { touch := [6], ro := false })]) (.norm ⟨[4, 5], padK 9 [some (6, 0)]⟩ (.ret []))) .leaf)) (.region [(0, { touch := [5] }), (1, { touch := [5] }), (2, { touch := [5] }), (3, { touch := [5] }), (4, { touch := [7] }), (5, { touch := [7] }), (6, { touch := [7], ro := false }), (7, { touch := [7] }), (8, { touch := [7] }), (9, { touch := [7], ro := false })]))) (.fin ⟨[4, 6], padK 8 [some (0, 0), some (1, 0)]⟩ (.seq .leaf (.cond (.fin ⟨[4, 6], padK 8 [some (6, 0), some (7, 0)]⟩ (.seq (.block (.seq .leaf (.cond (.seq (.region [(0, { touch := [4] }), (1, { touch := [6], ro := false })]) (.norm ⟨[4, 5], padK 9 [some (6, 0)]⟩ (.ret []))) (.seq (.region [(0, { touch := [4] }), (1, { touch := [5] }), (2, { touch := [5] }), (3, { touch := [8], base := 8, ro := false, fresh := 1 }), (4, { touch := [8] })]) (.cond (.seq (.region [(0, { touch := [4] }), (1, { touch := [6], ro := false })]) (.norm ⟨[4, 5], padK 9 [some (6, 0)]⟩ (.ret []))) .leaf))))) (.region [(0, { touch := [5] }), (1, { touch := [5] }), (2, { touch := [7] }), (3, { touch := [7] }), (4, { touch := [7], ro := false })]))) (.fin ⟨[4, 6], padK 8 [some (0, 0), some (1, 0)]⟩ (.seq (.seq .leaf (.cond (.fin ⟨[2, 3, 4, 6, 95], padK 6 [some (4, 0), some (5, 0), some (6, 0), some (7, 0)]⟩ .leaf) (.fin ⟨[2, 3, 4, 6, 95], padK 6 [some (4, 0), some (5, 0), some (6, 0), some (7, 0)]⟩ .leaf))) (.hole ⟨[2, 3, 4, 6, 95], padK 6 [some (0, 0), some (1, 0), some (2, 0), some (3, 0)]⟩ 0))))))))))))) (.seq (.region [(0, { touch := [1] }), (1, { touch := [0], ro := false })]) (.norm ⟨[4, 5], padK 9 [some (0, 0)]⟩ (.ret [])))))))))
def p9 (fuel : Nat) : ((Int × ((List Int) × ((List Int) × ((List Bool) × (List Int))))) × (Int × (Int × (Int × ((Int × Int) × (Int × Int)))))) → Option ((Int × ((List Int) × ((List Int) × ((List Bool) × (List Int))))) × Int) := fun (x1, x2) => (bif (decide (x2.2.1 < (0 : Int))) then (some (x1, (1 : Int))) else (bif (decide ((12 : Int) ≤ x2.2.1)) then (some (x1, (1 : Int))) else (bif (decide ((2147483647 : Int) ≤ x1.1)) then (some (x1, (1 : Int))) else (if 0 ≤ x2.2.1 ∧ x2.2.1 < ((12 : Nat) : Int) then (match (x1.2.2.2.1)[(Int.toNat x2.2.1)]? with | some y3 => (bif (decide (x2.1 = (1 : Int))) then (bif (!y3) then (some (x1, (143 : Int))) else (bif (decide (x2.2.2.2.2.1 = (0 : Int))) then (some (x1, (144 : Int))) else (if 0 ≤ x2.2.1 ∧ x2.2.1 < ((12 : Nat) : Int) then (match (x1.2.2.2.2)[(Int.toNat x2.2.1)]? with | some y4 => (bif (!decide ((IntKind.wrap .u32 (x2.2.2.2.2.1 - (1 : Int))) = y4)) then (some (x1, (144 : Int))) else (if 0 ≤ x2.2.1 ∧ x2.2.1 < ((12 : Nat) : Int) then (match (x1.2.2.2.2)[(Int.toNat x2.2.1)]? with | some y5 => (some (((IntKind.wrap .u32 (x1.1 + (1 : Int))), (x1.2.1, (x1.2.2.1, (x1.2.2.2.1, (List.set x1.2.2.2.2 (Int.toNat x2.2.1) x2.2.2.2.2.1))))), (0 : Int))) | none => none) else none)) | none => none) else none))) else (bif (decide (x2.1 = (4 : Int))) then (bif y3 then (some (x1, (143 : Int))) else (if 0 ≤ x2.2.1 ∧ x2.2.1 < ((12 : Nat) : Int) then (match (x1.2.2.2.1)[(Int.toNat x2.2.1)]? with | some y6 => (if 0 ≤ x2.2.1 ∧ x2.2.1 < ((12 : Nat) : Int) then (match (x1.2.2.2.2)[(Int.toNat x2.2.1)]? with | some y7 => (some (((IntKind.wrap .u32 (x1.1 + (1 : Int))), (x1.2.1, (x1.2.2.1, ((List.set x1.2.2.2.1 (Int.toNat x2.2.1) true), (List.set x1.2.2.2.2 (Int.toNat x2.2.1) (0 : Int)))))), (0 : Int))) | none => none) else none) | none => none) else none)) else (bif (decide (x2.1 = (5 : Int))) then (bif (!y3) then (some (x1, (143 : Int))) else (match p19 fuel (x1, x2.2.1) with | some z8 => (bif (decide ((0 : Int) < ((List.length z8 : Nat) : Int))) then (some (x1, (141 : Int))) else (if 0 ≤ x2.2.1 ∧ x2.2.1 < ((12 : Nat) : Int) then (match (x1.2.2.2.1)[(Int.toNat x2.2.1)]? with | some y9 => (some (((IntKind.wrap .u32 (x1.1 + (1 : Int))), (x1.2.1, (x1.2.2.1, ((List.set x1.2.2.2.1 (Int.toNat x2.2.1) false), x1.2.2.2.2)))), (0 : Int))) | none => none) else none)) | none => none)) else (bif (decide (x2.1 = (2 : Int))) then (j9_0 fuel (fun (x17, x18) => (some (x18, x17))) (fun (x19, x20) => (some (x20, (0 : Int)))) (true, x1, x2, ((0 : Int), ((List.replicate 64 (0 : Int)), ((List.replicate 64 (0 : Int)), ((List.replicate 12 false), (List.replicate 12 (0 : Int)))))), ((IntKind.wrap .u32 (x1.1 + (1 : Int))), x1.2))) else (j9_0 fuel (fun (x21, x22) => (some (x22, x21))) (fun (x23, x24) => (some (x24, (0 : Int)))) ((decide (x2.1 = (3 : Int))), x1, x2, ((0 : Int), ((List.replicate 64 (0 : Int)), ((List.replicate 64 (0 : Int)), ((List.replicate 12 false), (List.replicate 12 (0 : Int)))))), ((IntKind.wrap .u32 (x1.1 + (1 : Int))), x1.2))))))) | none => none) else none))))
def F9 (fuel : Nat) : Fun := funOfA fi9 al9 (p9 fuel)
theorem run9 (fuel : Nat) : ∀ y : ((Int × ((List Int) × ((List Int) × ((List Bool) × (List Int))))) × (Int × (Int × (Int × ((Int × Int) × (Int × Int)))))), runF ((Int × ((List Int) × ((List Int) × ((List Bool) × (List Int))))) × Int) T (fns9 fuel) fuel (subsOf [sub9_0 fuel ((Int × ((List Int) × ((List Int) × ((List Bool) × (List Int))))) × Int)]) (defOf Try.f9 an9 10 [] []) (fi9.vs y) (fi9.os y) (altsDec al9) = p9 fuel y := by
  rintro ⟨x1, x2⟩
  kernel_rfl
theorem ok9 (fuel : Nat) : FunOk P 9 (funOfA fi9 al9 (p9 fuel)) :=
  funOfA_ok (subs := (subsOf [sub9_0 fuel ((Int × ((List Int) × ((List Int) × ((List Bool) × (List Int))))) × Int)])) (an := an9) (room := 10) (ks := []) (g0 := []) (fuel := fuel) T_ok (fnsOk9 fuel) mixed (fn := Try.f9) (by kernel_rfl) (by kernel_rfl) (subsOk_cons (subOk9_0 fuel _) subsOk_nil) (by kernel_rfl) (fun _ => ⟨by kernel_rfl, by kernel_rfl⟩) (run9 fuel)

-- f39: tontine/balance.fair$1
def fns39 (fuel : Nat) : Fns := fnsOf []
theorem fnsOk39 (fuel : Nat) : FnsOk P (fns39 fuel) := fnsOk_nil
def fi39 : Fr := ⟨[.d false (.int .i64)], [], 0⟩
def al39 : List (Tm × List To) := [(.d true (.bool), [])]
def an39 : AN := (.seq .leaf (.seq .leaf (.norm ⟨[2], padK 0 []⟩ (.ret []))))
def p39 (fuel : Nat) : Int → Option Bool := fun x1 => (bif (decide (x1 < (0 : Int))) then (some true) else (some (decide ((2147483647 : Int) < x1))))
def F39 (fuel : Nat) : Fun := funOfA fi39 al39 (p39 fuel)
theorem run39 (fuel : Nat) : ∀ y : Int, runF Bool T (fns39 fuel) fuel (subsOf []) (defOf Try.f39 an39 0 [] []) (fi39.vs y) (fi39.os y) (altsDec al39) = p39 fuel y := by
  rintro x1
  kernel_rfl
theorem ok39 (fuel : Nat) : FunOk P 39 (funOfA fi39 al39 (p39 fuel)) :=
  funOfA_ok (subs := (subsOf [])) (an := an39) (room := 0) (ks := []) (g0 := []) (fuel := fuel) T_ok (fnsOk39 fuel) mixed (fn := Try.f39) (by kernel_rfl) (by kernel_rfl) subsOk_nil (by kernel_rfl) (fun _ => ⟨by kernel_rfl, by kernel_rfl⟩) (run39 fuel)

-- f43: slices.IndexFunc[[]int,int]
def fns43 (fuel : Nat) : Fns := fnsOf [(39, F39 fuel)]
theorem fnsOk43 (fuel : Nat) : FnsOk P (fns43 fuel) := (fnsOk_cons (ok39 fuel) fnsOk_nil)
def fi43 : Fr := ⟨[.d false (.slice (.int .i64)), .c (.fn 39 .nil)], [], 0⟩
def al43 : List (Tm × List To) := [(.d true (.int .i64), [])]
def fx43_0 : Fr := ⟨[.d true (.int .i64)], [], 0⟩
def fx43_1 : Fr := ⟨[], [], 0⟩
def fr43_0 : Fr := ⟨[.d false (.slice (.int .i64)), .c (.fn 39 .nil), .d true (.int .i64), .d true (.int .i64)], [], 0⟩
noncomputable def c43_0 : Code := bodyAt Try.f43 [1, 0, 1, 0]
def s43_0 (fuel : Nat) {R : Type} (F : ((List Int) × Int × Int) → Option R) (k0 : Int → Option R) (k1 : Unit → Option R) : ((List Int) × Int × Int) → Option R := fun (x2, x3, x4) => (bif (decide (x4 < x3)) then (if 0 ≤ x4 then (match (x2)[Int.toNat x4]? with | some y5 => (match p39 fuel y5 with | some z6 => (bif z6 then (k0 x4) else (F (x2, x3, (IntKind.wrap .i64 (x4 + (1 : Int)))))) | none => none) | none => none) else none) else (k1 ()))
def l43_0 (fuel : Nat) {R : Type} (k0 : Int → Option R) (k1 : Unit → Option R) : Nat → ((List Int) × Int × Int) → Option R
  | 0, _ => none
  | n + 1, x => s43_0 fuel (l43_0 fuel k0 k1 n) k0 k1 x
def nm43_0 : Norm := ⟨[0, 1, 7, 8], padK 0 []⟩
def an43_0 : AN := (.seq .leaf (.seq (.cond .leaf (.norm ⟨[], padK 0 []⟩ .leaf)) (.seq (.block (.seq .leaf (.seq .leaf (.cond (.seq .leaf (.norm ⟨[4], padK 0 []⟩ (.ret []))) .leaf)))) .leaf)))
def al43_0 : AN := .loop nm43_0 an43_0
noncomputable def d43_0 : Code := bodyAt Try.f43 [1, 0, 1, 0, 0]
theorem e43_0 (fuel : Nat) {R : Type} (F : St → Option R) (k : AExit → St → Option R) : ∀ x : ((List Int) × Int × Int), runK R T (fns43 fuel) fuel [] (subsOf []) (partOf d43_0 an43_0) (fr43_0.st [0, 1, 7, 8] x) (backTo R [] nm43_0 F k) = s43_0 fuel (fun x => F (fr43_0.st [0, 1, 7, 8] x)) (fun y => k (.ret []) (fx43_0.st [4] y)) (fun y => k (.exit 0) (fx43_1.st [] y)) x := by
  rintro ⟨x2, x3, x4⟩
  kernel_rfl
theorem u43_0 (fuel : Nat) {R : Type} (k : AExit → St → Option R) (x : ((List Int) × Int × Int)) : runK R T (fns43 fuel) fuel [] (subsOf []) (partOf c43_0 al43_0) (fr43_0.st [0, 1, 7, 8] x) k = l43_0 fuel (fun y => k (.ret []) (fx43_0.st [4] y)) (fun y => k (.exit 0) (fx43_1.st [] y)) fuel x :=
  loop_eq (mk := fr43_0.st [0, 1, 7, 8]) (s := fun F x => s43_0 fuel F (fun y => k (.ret []) (fx43_0.st [4] y)) (fun y => k (.exit 0) (fx43_1.st [] y)) x) (l := fun n x => l43_0 fuel (fun y => k (.ret []) (fx43_0.st [4] y)) (fun y => k (.exit 0) (fx43_1.st [] y)) n x) (d := d43_0) (by kernel_rfl) (fun G x => by
    revert x
    rintro ⟨x2, x3, x4⟩
    kernel_rfl) (fun F x => e43_0 fuel F k x) (fun _ => rfl) (fun _ _ => rfl) x
noncomputable def sub43_0 (fuel : Nat) (R : Type) : Sub R := Sub.of [0, 1, 7, 8] c43_0 fr43_0 fun x k => l43_0 fuel (fun y => k (.ret []) (fx43_0.st [4] y)) (fun y => k (.exit 0) (fx43_1.st [] y)) fuel x
theorem subOk43_0 (fuel : Nat) (R : Type) : SubOk P [] 19 (sub43_0 fuel R) :=
  subOk_part (fns := (fns43 fuel)) (fuel := fuel) (subs := (subsOf [])) (an := al43_0) T_ok (fnsOk43 fuel) mixed subsOk_nil (by kernel_rfl) (by kernel_rfl) fun _ _ _ _ h => Sub.of_run (fun (x : ((List Int) × Int × Int)) k => u43_0 fuel k x) h
def an43 : AN := (.seq .leaf (.seq (.seq .leaf (.block (.hole ⟨[0, 1, 7, 8], padK 0 []⟩ 0))) (.seq .leaf (.norm ⟨[4], padK 0 []⟩ (.ret [])))))
def p43 (fuel : Nat) : (List Int) → Option Int := fun x1 => (l43_0 fuel (fun x7 => (some x7)) (fun _ => (some (-1 : Int))) fuel (x1, ((List.length x1 : Nat) : Int), (0 : Int)))
def F43 (fuel : Nat) : Fun := funOfA fi43 al43 (p43 fuel)
theorem run43 (fuel : Nat) : ∀ y : (List Int), runF Int T (fns43 fuel) fuel (subsOf [sub43_0 fuel Int]) (defOf Try.f43 an43 0 [] []) (fi43.vs y) (fi43.os y) (altsDec al43) = p43 fuel y := by
  rintro x1
  kernel_rfl
theorem ok43 (fuel : Nat) : FunOk P 43 (funOfA fi43 al43 (p43 fuel)) :=
  funOfA_ok (subs := (subsOf [sub43_0 fuel Int])) (an := an43) (room := 0) (ks := []) (g0 := []) (fuel := fuel) T_ok (fnsOk43 fuel) mixed (fn := Try.f43) (by kernel_rfl) (by kernel_rfl) (subsOk_cons (subOk43_0 fuel _) subsOk_nil) (by kernel_rfl) (fun _ => ⟨by kernel_rfl, by kernel_rfl⟩) (run43 fuel)

-- f38: slices.ContainsFunc[[]int,int]
def fns38 (fuel : Nat) : Fns := fnsOf [(43, F43 fuel)]
theorem fnsOk38 (fuel : Nat) : FnsOk P (fns38 fuel) := (fnsOk_cons (ok43 fuel) fnsOk_nil)
def fi38 : Fr := ⟨[.d false (.slice (.int .i64)), .c (.fn 39 .nil)], [], 0⟩
def al38 : List (Tm × List To) := [(.d true (.bool), [])]
def an38 : AN := (.seq .leaf (.seq .leaf (.norm ⟨[4], padK 0 []⟩ (.ret []))))
def p38 (fuel : Nat) : (List Int) → Option Bool := fun x1 => (match p43 fuel x1 with | some z2 => (some (decide ((0 : Int) ≤ z2))) | none => none)
def F38 (fuel : Nat) : Fun := funOfA fi38 al38 (p38 fuel)
theorem run38 (fuel : Nat) : ∀ y : (List Int), runF Bool T (fns38 fuel) fuel (subsOf []) (defOf Try.f38 an38 0 [] []) (fi38.vs y) (fi38.os y) (altsDec al38) = p38 fuel y := by
  rintro x1
  kernel_rfl
theorem ok38 (fuel : Nat) : FunOk P 38 (funOfA fi38 al38 (p38 fuel)) :=
  funOfA_ok (subs := (subsOf [])) (an := an38) (room := 0) (ks := []) (g0 := []) (fuel := fuel) T_ok (fnsOk38 fuel) mixed (fn := Try.f38) (by kernel_rfl) (by kernel_rfl) subsOk_nil (by kernel_rfl) (fun _ => ⟨by kernel_rfl, by kernel_rfl⟩) (run38 fuel)

-- f22: tontine/balance.fair
def fns22 (fuel : Nat) : Fns := fnsOf [(38, F38 fuel)]
theorem fnsOk22 (fuel : Nat) : FnsOk P (fns22 fuel) := (fnsOk_cons (ok38 fuel) fnsOk_nil)
def fi22 : Fr := ⟨[.d false (.slice (.int .i64)), .d false (.int .i64), .d false (.int .i64)], [], 0⟩
def al22 : List (Tm × List To) := [(.d true (.bool), [])]
def an22 : AN := (.seq .leaf (.seq .leaf (.norm ⟨[6], padK 0 []⟩ (.ret []))))
def p22 (fuel : Nat) : ((List Int) × Int × Int) → Option Bool := fun (x1, x2, x3) => (bif (decide (x2 ≤ ((List.length x1 : Nat) : Int))) then (bif (decide (((List.length x1 : Nat) : Int) ≤ x3)) then (match p38 fuel x1 with | some z4 => (some (!z4)) | none => none) else (some false)) else (some false))
def F22 (fuel : Nat) : Fun := funOfA fi22 al22 (p22 fuel)
theorem run22 (fuel : Nat) : ∀ y : ((List Int) × Int × Int), runF Bool T (fns22 fuel) fuel (subsOf []) (defOf Try.f22 an22 0 [] []) (fi22.vs y) (fi22.os y) (altsDec al22) = p22 fuel y := by
  rintro ⟨x1, x2, x3⟩
  kernel_rfl
theorem ok22 (fuel : Nat) : FunOk P 22 (funOfA fi22 al22 (p22 fuel)) :=
  funOfA_ok (subs := (subsOf [])) (an := an22) (room := 0) (ks := []) (g0 := []) (fuel := fuel) T_ok (fnsOk22 fuel) mixed (fn := Try.f22) (by kernel_rfl) (by kernel_rfl) subsOk_nil (by kernel_rfl) (fun _ => ⟨by kernel_rfl, by kernel_rfl⟩) (run22 fuel)

-- f24: slices.Max[[]int,int]
def fns24 (fuel : Nat) : Fns := fnsOf []
theorem fnsOk24 (fuel : Nat) : FnsOk P (fns24 fuel) := fnsOk_nil
def fi24 : Fr := ⟨[.d false (.slice (.int .i64))], [], 0⟩
def al24 : List (Tm × List To) := [(.d true (.int .i64), [])]
def fx24_0 : Fr := ⟨[.d true (.int .i64)], [], 0⟩
def fr24_0 : Fr := ⟨[.d false (.slice (.int .i64)), .d true (.int .i64), .d true (.int .i64)], [], 0⟩
noncomputable def c24_0 : Code := bodyAt Try.f24 [1, 1, 1, 0, 1, 0]
def s24_0 (fuel : Nat) {R : Type} (F : ((List Int) × Int × Int) → Option R) (k0 : Int → Option R) : ((List Int) × Int × Int) → Option R := fun (x3, x4, x5) => (bif (decide (x5 < ((List.length x3 : Nat) : Int))) then (if 0 ≤ x5 then (match (x3)[Int.toNat x5]? with | some y6 => (F (x3, (if x4 < y6 then y6 else x4), (IntKind.wrap .i64 (x5 + (1 : Int))))) | none => none) else none) else (k0 x4))
def l24_0 (fuel : Nat) {R : Type} (k0 : Int → Option R) : Nat → ((List Int) × Int × Int) → Option R
  | 0, _ => none
  | n + 1, x => s24_0 fuel (l24_0 fuel k0 n) k0 x
def nm24_0 : Norm := ⟨[0, 3, 4], padK 0 []⟩
def an24_0 : AN := (.seq (.seq .leaf (.cond .leaf (.norm ⟨[3], padK 0 []⟩ .leaf))) (.seq (.block .leaf) .leaf))
def al24_0 : AN := .loop nm24_0 an24_0
noncomputable def d24_0 : Code := bodyAt Try.f24 [1, 1, 1, 0, 1, 0, 0]
theorem e24_0 (fuel : Nat) {R : Type} (F : St → Option R) (k : AExit → St → Option R) : ∀ x : ((List Int) × Int × Int), runK R T (fns24 fuel) fuel [] (subsOf []) (partOf d24_0 an24_0) (fr24_0.st [0, 3, 4] x) (backTo R [] nm24_0 F k) = s24_0 fuel (fun x => F (fr24_0.st [0, 3, 4] x)) (fun y => k (.exit 0) (fx24_0.st [3] y)) x := by
  rintro ⟨x3, x4, x5⟩
  kernel_rfl
theorem u24_0 (fuel : Nat) {R : Type} (k : AExit → St → Option R) (x : ((List Int) × Int × Int)) : runK R T (fns24 fuel) fuel [] (subsOf []) (partOf c24_0 al24_0) (fr24_0.st [0, 3, 4] x) k = l24_0 fuel (fun y => k (.exit 0) (fx24_0.st [3] y)) fuel x :=
  loop_eq (mk := fr24_0.st [0, 3, 4]) (s := fun F x => s24_0 fuel F (fun y => k (.exit 0) (fx24_0.st [3] y)) x) (l := fun n x => l24_0 fuel (fun y => k (.exit 0) (fx24_0.st [3] y)) n x) (d := d24_0) (by kernel_rfl) (fun G x => by
    revert x
    rintro ⟨x3, x4, x5⟩
    kernel_rfl) (fun F x => e24_0 fuel F k x) (fun _ => rfl) (fun _ _ => rfl) x
noncomputable def sub24_0 (fuel : Nat) (R : Type) : Sub R := Sub.of [0, 3, 4] c24_0 fr24_0 fun x k => l24_0 fuel (fun y => k (.exit 0) (fx24_0.st [3] y)) fuel x
theorem subOk24_0 (fuel : Nat) (R : Type) : SubOk P [] 25 (sub24_0 fuel R) :=
  subOk_part (fns := (fns24 fuel)) (fuel := fuel) (subs := (subsOf [])) (an := al24_0) T_ok (fnsOk24 fuel) mixed subsOk_nil (by kernel_rfl) (by kernel_rfl) fun _ _ _ _ h => Sub.of_run (fun (x : ((List Int) × Int × Int)) k => u24_0 fuel k x) h
def an24 : AN := (.seq .leaf (.seq (.seq .leaf (.cond .leaf .leaf)) (.seq .leaf (.seq (.seq .leaf (.block (.hole ⟨[0, 3, 4], padK 0 []⟩ 0))) (.seq .leaf (.norm ⟨[2], padK 0 []⟩ (.ret [])))))))
def p24 (fuel : Nat) : (List Int) → Option Int := fun x1 => (bif (decide (((List.length x1 : Nat) : Int) < (1 : Int))) then none else (if 0 ≤ (0 : Int) then (match (x1)[Int.toNat (0 : Int)]? with | some y2 => (l24_0 fuel (fun x7 => (some x7)) fuel (x1, y2, (1 : Int))) | none => none) else none))
def F24 (fuel : Nat) : Fun := funOfA fi24 al24 (p24 fuel)
theorem run24 (fuel : Nat) : ∀ y : (List Int), runF Int T (fns24 fuel) fuel (subsOf [sub24_0 fuel Int]) (defOf Try.f24 an24 0 [] []) (fi24.vs y) (fi24.os y) (altsDec al24) = p24 fuel y := by
  rintro x1
  kernel_rfl
theorem ok24 (fuel : Nat) : FunOk P 24 (funOfA fi24 al24 (p24 fuel)) :=
  funOfA_ok (subs := (subsOf [sub24_0 fuel Int])) (an := an24) (room := 0) (ks := []) (g0 := []) (fuel := fuel) T_ok (fnsOk24 fuel) mixed (fn := Try.f24) (by kernel_rfl) (by kernel_rfl) (subsOk_cons (subOk24_0 fuel _) subsOk_nil) (by kernel_rfl) (fun _ => ⟨by kernel_rfl, by kernel_rfl⟩) (run24 fuel)

-- f23: slices.Index[[]int,int]
def fns23 (fuel : Nat) : Fns := fnsOf []
theorem fnsOk23 (fuel : Nat) : FnsOk P (fns23 fuel) := fnsOk_nil
def fi23 : Fr := ⟨[.d false (.slice (.int .i64)), .d false (.int .i64)], [], 0⟩
def al23 : List (Tm × List To) := [(.d true (.int .i64), [])]
def fx23_0 : Fr := ⟨[.d true (.int .i64)], [], 0⟩
def fx23_1 : Fr := ⟨[], [], 0⟩
def fr23_0 : Fr := ⟨[.d false (.slice (.int .i64)), .d true (.int .i64), .d true (.int .i64), .d true (.int .i64)], [], 0⟩
noncomputable def c23_0 : Code := bodyAt Try.f23 [1, 0, 1, 0]
def s23_0 (fuel : Nat) {R : Type} (F : ((List Int) × Int × Int × Int) → Option R) (k0 : Int → Option R) (k1 : Unit → Option R) : ((List Int) × Int × Int × Int) → Option R := fun (x3, x4, x5, x6) => (bif (decide (x6 < x5)) then (if 0 ≤ x6 then (match (x3)[Int.toNat x6]? with | some y7 => (bif (decide (x4 = y7)) then (k0 x6) else (F (x3, x4, x5, (IntKind.wrap .i64 (x6 + (1 : Int)))))) | none => none) else none) else (k1 ()))
def l23_0 (fuel : Nat) {R : Type} (k0 : Int → Option R) (k1 : Unit → Option R) : Nat → ((List Int) × Int × Int × Int) → Option R
  | 0, _ => none
  | n + 1, x => s23_0 fuel (l23_0 fuel k0 k1 n) k0 k1 x
def nm23_0 : Norm := ⟨[0, 1, 7, 8], padK 0 []⟩
def an23_0 : AN := (.seq .leaf (.seq (.cond .leaf (.norm ⟨[], padK 0 []⟩ .leaf)) (.seq (.block (.seq .leaf (.seq .leaf (.cond (.seq .leaf (.norm ⟨[4], padK 0 []⟩ (.ret []))) .leaf)))) .leaf)))
def al23_0 : AN := .loop nm23_0 an23_0
noncomputable def d23_0 : Code := bodyAt Try.f23 [1, 0, 1, 0, 0]
theorem e23_0 (fuel : Nat) {R : Type} (F : St → Option R) (k : AExit → St → Option R) : ∀ x : ((List Int) × Int × Int × Int), runK R T (fns23 fuel) fuel [] (subsOf []) (partOf d23_0 an23_0) (fr23_0.st [0, 1, 7, 8] x) (backTo R [] nm23_0 F k) = s23_0 fuel (fun x => F (fr23_0.st [0, 1, 7, 8] x)) (fun y => k (.ret []) (fx23_0.st [4] y)) (fun y => k (.exit 0) (fx23_1.st [] y)) x := by
  rintro ⟨x3, x4, x5, x6⟩
  kernel_rfl
theorem u23_0 (fuel : Nat) {R : Type} (k : AExit → St → Option R) (x : ((List Int) × Int × Int × Int)) : runK R T (fns23 fuel) fuel [] (subsOf []) (partOf c23_0 al23_0) (fr23_0.st [0, 1, 7, 8] x) k = l23_0 fuel (fun y => k (.ret []) (fx23_0.st [4] y)) (fun y => k (.exit 0) (fx23_1.st [] y)) fuel x :=
  loop_eq (mk := fr23_0.st [0, 1, 7, 8]) (s := fun F x => s23_0 fuel F (fun y => k (.ret []) (fx23_0.st [4] y)) (fun y => k (.exit 0) (fx23_1.st [] y)) x) (l := fun n x => l23_0 fuel (fun y => k (.ret []) (fx23_0.st [4] y)) (fun y => k (.exit 0) (fx23_1.st [] y)) n x) (d := d23_0) (by kernel_rfl) (fun G x => by
    revert x
    rintro ⟨x3, x4, x5, x6⟩
    kernel_rfl) (fun F x => e23_0 fuel F k x) (fun _ => rfl) (fun _ _ => rfl) x
noncomputable def sub23_0 (fuel : Nat) (R : Type) : Sub R := Sub.of [0, 1, 7, 8] c23_0 fr23_0 fun x k => l23_0 fuel (fun y => k (.ret []) (fx23_0.st [4] y)) (fun y => k (.exit 0) (fx23_1.st [] y)) fuel x
theorem subOk23_0 (fuel : Nat) (R : Type) : SubOk P [] 19 (sub23_0 fuel R) :=
  subOk_part (fns := (fns23 fuel)) (fuel := fuel) (subs := (subsOf [])) (an := al23_0) T_ok (fnsOk23 fuel) mixed subsOk_nil (by kernel_rfl) (by kernel_rfl) fun _ _ _ _ h => Sub.of_run (fun (x : ((List Int) × Int × Int × Int)) k => u23_0 fuel k x) h
def an23 : AN := (.seq .leaf (.seq (.seq .leaf (.block (.hole ⟨[0, 1, 7, 8], padK 0 []⟩ 0))) (.seq .leaf (.norm ⟨[4], padK 0 []⟩ (.ret [])))))
def p23 (fuel : Nat) : ((List Int) × Int) → Option Int := fun (x1, x2) => (l23_0 fuel (fun x8 => (some x8)) (fun _ => (some (-1 : Int))) fuel (x1, x2, ((List.length x1 : Nat) : Int), (0 : Int)))
def F23 (fuel : Nat) : Fun := funOfA fi23 al23 (p23 fuel)
theorem run23 (fuel : Nat) : ∀ y : ((List Int) × Int), runF Int T (fns23 fuel) fuel (subsOf [sub23_0 fuel Int]) (defOf Try.f23 an23 0 [] []) (fi23.vs y) (fi23.os y) (altsDec al23) = p23 fuel y := by
  rintro ⟨x1, x2⟩
  kernel_rfl
theorem ok23 (fuel : Nat) : FunOk P 23 (funOfA fi23 al23 (p23 fuel)) :=
  funOfA_ok (subs := (subsOf [sub23_0 fuel Int])) (an := an23) (room := 0) (ks := []) (g0 := []) (fuel := fuel) T_ok (fnsOk23 fuel) mixed (fn := Try.f23) (by kernel_rfl) (by kernel_rfl) (subsOk_cons (subOk23_0 fuel _) subsOk_nil) (by kernel_rfl) (fun _ => ⟨by kernel_rfl, by kernel_rfl⟩) (run23 fuel)

-- f25: slices.Min[[]int,int]
def fns25 (fuel : Nat) : Fns := fnsOf []
theorem fnsOk25 (fuel : Nat) : FnsOk P (fns25 fuel) := fnsOk_nil
def fi25 : Fr := ⟨[.d false (.slice (.int .i64))], [], 0⟩
def al25 : List (Tm × List To) := [(.d true (.int .i64), [])]
def fx25_0 : Fr := ⟨[.d true (.int .i64)], [], 0⟩
def fr25_0 : Fr := ⟨[.d false (.slice (.int .i64)), .d true (.int .i64), .d true (.int .i64)], [], 0⟩
noncomputable def c25_0 : Code := bodyAt Try.f25 [1, 1, 1, 0, 1, 0]
def s25_0 (fuel : Nat) {R : Type} (F : ((List Int) × Int × Int) → Option R) (k0 : Int → Option R) : ((List Int) × Int × Int) → Option R := fun (x3, x4, x5) => (bif (decide (x5 < ((List.length x3 : Nat) : Int))) then (if 0 ≤ x5 then (match (x3)[Int.toNat x5]? with | some y6 => (F (x3, (if y6 < x4 then y6 else x4), (IntKind.wrap .i64 (x5 + (1 : Int))))) | none => none) else none) else (k0 x4))
def l25_0 (fuel : Nat) {R : Type} (k0 : Int → Option R) : Nat → ((List Int) × Int × Int) → Option R
  | 0, _ => none
  | n + 1, x => s25_0 fuel (l25_0 fuel k0 n) k0 x
def nm25_0 : Norm := ⟨[0, 3, 4], padK 0 []⟩
def an25_0 : AN := (.seq (.seq .leaf (.cond .leaf (.norm ⟨[3], padK 0 []⟩ .leaf))) (.seq (.block .leaf) .leaf))
def al25_0 : AN := .loop nm25_0 an25_0
noncomputable def d25_0 : Code := bodyAt Try.f25 [1, 1, 1, 0, 1, 0, 0]
theorem e25_0 (fuel : Nat) {R : Type} (F : St → Option R) (k : AExit → St → Option R) : ∀ x : ((List Int) × Int × Int), runK R T (fns25 fuel) fuel [] (subsOf []) (partOf d25_0 an25_0) (fr25_0.st [0, 3, 4] x) (backTo R [] nm25_0 F k) = s25_0 fuel (fun x => F (fr25_0.st [0, 3, 4] x)) (fun y => k (.exit 0) (fx25_0.st [3] y)) x := by
  rintro ⟨x3, x4, x5⟩
  kernel_rfl
theorem u25_0 (fuel : Nat) {R : Type} (k : AExit → St → Option R) (x : ((List Int) × Int × Int)) : runK R T (fns25 fuel) fuel [] (subsOf []) (partOf c25_0 al25_0) (fr25_0.st [0, 3, 4] x) k = l25_0 fuel (fun y => k (.exit 0) (fx25_0.st [3] y)) fuel x :=
  loop_eq (mk := fr25_0.st [0, 3, 4]) (s := fun F x => s25_0 fuel F (fun y => k (.exit 0) (fx25_0.st [3] y)) x) (l := fun n x => l25_0 fuel (fun y => k (.exit 0) (fx25_0.st [3] y)) n x) (d := d25_0) (by kernel_rfl) (fun G x => by
    revert x
    rintro ⟨x3, x4, x5⟩
    kernel_rfl) (fun F x => e25_0 fuel F k x) (fun _ => rfl) (fun _ _ => rfl) x
noncomputable def sub25_0 (fuel : Nat) (R : Type) : Sub R := Sub.of [0, 3, 4] c25_0 fr25_0 fun x k => l25_0 fuel (fun y => k (.exit 0) (fx25_0.st [3] y)) fuel x
theorem subOk25_0 (fuel : Nat) (R : Type) : SubOk P [] 25 (sub25_0 fuel R) :=
  subOk_part (fns := (fns25 fuel)) (fuel := fuel) (subs := (subsOf [])) (an := al25_0) T_ok (fnsOk25 fuel) mixed subsOk_nil (by kernel_rfl) (by kernel_rfl) fun _ _ _ _ h => Sub.of_run (fun (x : ((List Int) × Int × Int)) k => u25_0 fuel k x) h
def an25 : AN := (.seq .leaf (.seq (.seq .leaf (.cond .leaf .leaf)) (.seq .leaf (.seq (.seq .leaf (.block (.hole ⟨[0, 3, 4], padK 0 []⟩ 0))) (.seq .leaf (.norm ⟨[2], padK 0 []⟩ (.ret [])))))))
def p25 (fuel : Nat) : (List Int) → Option Int := fun x1 => (bif (decide (((List.length x1 : Nat) : Int) < (1 : Int))) then none else (if 0 ≤ (0 : Int) then (match (x1)[Int.toNat (0 : Int)]? with | some y2 => (l25_0 fuel (fun x7 => (some x7)) fuel (x1, y2, (1 : Int))) | none => none) else none))
def F25 (fuel : Nat) : Fun := funOfA fi25 al25 (p25 fuel)
theorem run25 (fuel : Nat) : ∀ y : (List Int), runF Int T (fns25 fuel) fuel (subsOf [sub25_0 fuel Int]) (defOf Try.f25 an25 0 [] []) (fi25.vs y) (fi25.os y) (altsDec al25) = p25 fuel y := by
  rintro x1
  kernel_rfl
theorem ok25 (fuel : Nat) : FunOk P 25 (funOfA fi25 al25 (p25 fuel)) :=
  funOfA_ok (subs := (subsOf [sub25_0 fuel Int])) (an := an25) (room := 0) (ks := []) (g0 := []) (fuel := fuel) T_ok (fnsOk25 fuel) mixed (fn := Try.f25) (by kernel_rfl) (by kernel_rfl) (subsOk_cons (subOk25_0 fuel _) subsOk_nil) (by kernel_rfl) (fun _ => ⟨by kernel_rfl, by kernel_rfl⟩) (run25 fuel)

-- f26: tontine/balance.beside
def fns26 (fuel : Nat) : Fns := fnsOf []
theorem fnsOk26 (fuel : Nat) : FnsOk P (fns26 fuel) := fnsOk_nil
def fi26 : Fr := ⟨[.d false (.int .i64), .d false (.int .i64), .d false (.int .i64)], [], 0⟩
def al26 : List (Tm × List To) := [(.d true (.bool), [])]
def an26 : AN := (.seq .leaf (.seq .leaf (.norm ⟨[6], padK 0 []⟩ (.ret []))))
def p26 (fuel : Nat) : (Int × Int × Int) → Option Bool := fun (x1, x2, x3) => (bif (!decide (x1 = x2)) then (if x3 = 0 then none else (bif (decide ((Int.tmod (IntKind.wrap .i64 (x1 + (1 : Int))) x3) = x2)) then (some true) else (if x3 = 0 then none else (some (decide ((Int.tmod (IntKind.wrap .i64 (x2 + (1 : Int))) x3) = x1)))))) else (some false))
def F26 (fuel : Nat) : Fun := funOfA fi26 al26 (p26 fuel)
theorem run26 (fuel : Nat) : ∀ y : (Int × Int × Int), runF Bool T (fns26 fuel) fuel (subsOf []) (defOf Try.f26 an26 0 [] []) (fi26.vs y) (fi26.os y) (altsDec al26) = p26 fuel y := by
  rintro ⟨x1, x2, x3⟩
  kernel_rfl
theorem ok26 (fuel : Nat) : FunOk P 26 (funOfA fi26 al26 (p26 fuel)) :=
  funOfA_ok (subs := (subsOf [])) (an := an26) (room := 0) (ks := []) (g0 := []) (fuel := fuel) T_ok (fnsOk26 fuel) mixed (fn := Try.f26) (by kernel_rfl) (by kernel_rfl) subsOk_nil (by kernel_rfl) (fun _ => ⟨by kernel_rfl, by kernel_rfl⟩) (run26 fuel)

-- f10: tontine/balance.Plan
def fns10 (fuel : Nat) : Fns := fnsOf [(22, F22 fuel), (24, F24 fuel), (23, F23 fuel), (25, F25 fuel), (26, F26 fuel)]
theorem fnsOk10 (fuel : Nat) : FnsOk P (fns10 fuel) := (fnsOk_cons (ok22 fuel) (fnsOk_cons (ok24 fuel) (fnsOk_cons (ok23 fuel) (fnsOk_cons (ok25 fuel) (fnsOk_cons (ok26 fuel) fnsOk_nil)))))
def fi10 : Fr := ⟨[.d false (.slice (.int .i64))], [], 0⟩
def al10 : List (Tm × List To) := [(.tup (.cons (.d true (.pair (.int .i64) (.pair (.int .i64) (.pair (.int .i64) (.int .i64))))) (.cons (.d true (.bool)) (.cons (.d true (.int .i64)) (.c .nil)))), [])]
def fx10_0 : Fr := ⟨[.c (.ptr 0 0 []), .d true (.bool), .d true (.int .i64)], [.box (.d true (.pair (.int .i64) (.pair (.int .i64) (.pair (.int .i64) (.int .i64)))))], 1⟩
def fx10_1 : Fr := ⟨[.d false (.slice (.int .i64)), .c (.ptr 0 0 []), .d true (.int .i64), .d true (.int .i64), .d true (.int .i64)], [.box (.d true (.pair (.int .i64) (.pair (.int .i64) (.pair (.int .i64) (.int .i64)))))], 1⟩
def fr10_0 : Fr := ⟨[.d false (.slice (.int .i64)), .c (.ptr 0 0 []), .d true (.int .i64), .d true (.int .i64), .d true (.int .i64), .d true (.bool)], [.box (.d true (.pair (.int .i64) (.pair (.int .i64) (.pair (.int .i64) (.int .i64)))))], 1⟩
noncomputable def c10_0 : Code := bodyAt Try.f10 [1, 1, 1, 1, 0, 1]
def j10_0 (fuel : Nat) {R : Type} (k0 : (Bool × Int × (Int × (Int × (Int × Int)))) → Option R) (k1 : ((List Int) × Int × Int × Int × (Int × (Int × (Int × Int)))) → Option R) : ((List Int) × Int × Int × Int × Bool × (Int × (Int × (Int × Int)))) → Option R := fun (x10, x11, x12, x13, x14, x15) => (bif x14 then (k0 (false, (0 : Int), ((0 : Int), ((0 : Int), ((0 : Int), (0 : Int)))))) else (k1 (x10, x11, x12, x13, x15)))
def al10_0 : AN := (.fin ⟨[0, 2, 5, 6, 7], padK 1 [some (0, 0)]⟩ (.cond (.seq (.region [(1, { touch := [0], ro := false })]) (.norm ⟨[2, 3, 4], padK 1 [some (0, 0)]⟩ (.ret []))) .leaf))
theorem u10_0 (fuel : Nat) {R : Type} (k : AExit → St → Option R) : ∀ x : ((List Int) × Int × Int × Int × Bool × (Int × (Int × (Int × Int)))), runK R T (fns10 fuel) fuel [] (subsOf []) (partOf c10_0 al10_0) (fr10_0.st [0, 2, 5, 6, 7, 44] x) k = j10_0 fuel (fun y => k (.ret []) (fx10_0.st [2, 3, 4] y)) (fun y => k .normal (fx10_1.st [0, 2, 5, 6, 7] y)) x := by
  rintro ⟨x10, x11, x12, x13, x14, x15⟩
  kernel_rfl
noncomputable def sub10_0 (fuel : Nat) (R : Type) : Sub R := Sub.of [0, 2, 5, 6, 7, 44] c10_0 fr10_0 fun x k => j10_0 fuel (fun y => k (.ret []) (fx10_0.st [2, 3, 4] y)) (fun y => k .normal (fx10_1.st [0, 2, 5, 6, 7] y)) x
theorem subOk10_0 (fuel : Nat) (R : Type) : SubOk P [] 124 (sub10_0 fuel R) :=
  subOk_part (fns := (fns10 fuel)) (fuel := fuel) (subs := (subsOf [])) (an := al10_0) T_ok (fnsOk10 fuel) mixed subsOk_nil (by kernel_rfl) (by kernel_rfl) fun _ _ _ _ h => Sub.of_run (fun (x : ((List Int) × Int × Int × Int × Bool × (Int × (Int × (Int × Int))))) k => u10_0 fuel k x) h
def fx10_2 : Fr := ⟨[.c (.ptr 0 0 [])], [.box (.d true (.pair (.int .i64) (.pair (.int .i64) (.pair (.int .i64) (.int .i64)))))], 1⟩
def fr10_1 : Fr := ⟨[.d false (.slice (.int .i64)), .c (.ptr 0 0 []), .d true (.int .i64), .d true (.int .i64), .d true (.bool)], [.box (.d true (.pair (.int .i64) (.pair (.int .i64) (.pair (.int .i64) (.int .i64)))))], 1⟩
noncomputable def c10_1 : Code := bodyAt Try.f10 [1, 1, 1, 1, 1, 1, 1, 1, 0, 1]
def j10_1 (fuel : Nat) {R : Type} (k0 : (Bool × Int × (Int × (Int × (Int × Int)))) → Option R) (k1 : (Int × (Int × (Int × Int))) → Option R) : ((List Int) × Int × Int × Bool × (Int × (Int × (Int × Int)))) → Option R := fun (x64, x65, x66, x67, x68) => (bif x67 then (if 0 ≤ x65 then (match (x64)[Int.toNat x65]? with | some y69 => (k0 (true, (0 : Int), ((2 : Int), (x65, (x66, (IntKind.wrap .i64 (Int.tdiv y69 (2 : Int)))))))) | none => none) else none) else (k1 x68))
def al10_1 : AN := (.fin ⟨[2], padK 1 [some (0, 0)]⟩ (.cond (.seq (.region [(8, { touch := [0], ro := false })]) (.norm ⟨[2, 3, 4], padK 1 [some (0, 0)]⟩ (.ret []))) .leaf))
theorem u10_1 (fuel : Nat) {R : Type} (k : AExit → St → Option R) : ∀ x : ((List Int) × Int × Int × Bool × (Int × (Int × (Int × Int)))), runK R T (fns10 fuel) fuel [] (subsOf [sub10_0 fuel R]) (partOf c10_1 al10_1) (fr10_1.st [0, 2, 6, 7, 114] x) k = j10_1 fuel (fun y => k (.ret []) (fx10_0.st [2, 3, 4] y)) (fun y => k .normal (fx10_2.st [2] y)) x := by
  rintro ⟨x64, x65, x66, x67, x68⟩
  kernel_rfl
noncomputable def sub10_1 (fuel : Nat) (R : Type) : Sub R := Sub.of [0, 2, 6, 7, 114] c10_1 fr10_1 fun x k => j10_1 fuel (fun y => k (.ret []) (fx10_0.st [2, 3, 4] y)) (fun y => k .normal (fx10_2.st [2] y)) x
theorem subOk10_1 (fuel : Nat) (R : Type) : SubOk P [] 124 (sub10_1 fuel R) :=
  subOk_part (fns := (fns10 fuel)) (fuel := fuel) (subs := (subsOf [sub10_0 fuel R])) (an := al10_1) T_ok (fnsOk10 fuel) mixed (subsOk_cons (subOk10_0 fuel R) subsOk_nil) (by kernel_rfl) (by kernel_rfl) fun _ _ _ _ h => Sub.of_run (fun (x : ((List Int) × Int × Int × Bool × (Int × (Int × (Int × Int))))) k => u10_1 fuel k x) h
def fr10_2 : Fr := ⟨[.c (.ptr 0 0 [])], [.box (.d true (.pair (.int .i64) (.pair (.int .i64) (.pair (.int .i64) (.int .i64)))))], 1⟩
noncomputable def c10_2 : Code := bodyAt Try.f10 [1, 1, 1, 1, 1, 1, 1, 1, 1]
def j10_2 (fuel : Nat) {R : Type} (k0 : (Bool × Int × (Int × (Int × (Int × Int)))) → Option R) : (Int × (Int × (Int × Int))) → Option R := fun _ => (k0 (false, (0 : Int), ((0 : Int), ((0 : Int), ((0 : Int), (0 : Int))))))
def al10_2 : AN := (.seq (.region [(1, { touch := [0], ro := false })]) (.norm ⟨[2, 3, 4], padK 1 [some (0, 0)]⟩ (.ret [])))
theorem u10_2 (fuel : Nat) {R : Type} (k : AExit → St → Option R) : ∀ x : (Int × (Int × (Int × Int))), runK R T (fns10 fuel) fuel [] (subsOf [sub10_0 fuel R, sub10_1 fuel R]) (partOf c10_2 al10_2) (fr10_2.st [2] x) k = j10_2 fuel (fun y => k (.ret []) (fx10_0.st [2, 3, 4] y)) x := by
  rintro x78
  kernel_rfl
noncomputable def sub10_2 (fuel : Nat) (R : Type) : Sub R := Sub.of [2] c10_2 fr10_2 fun x k => j10_2 fuel (fun y => k (.ret []) (fx10_0.st [2, 3, 4] y)) x
theorem subOk10_2 (fuel : Nat) (R : Type) : SubOk P [] 124 (sub10_2 fuel R) :=
  subOk_part (fns := (fns10 fuel)) (fuel := fuel) (subs := (subsOf [sub10_0 fuel R, sub10_1 fuel R])) (an := al10_2) T_ok (fnsOk10 fuel) mixed (subsOk_cons (subOk10_0 fuel R) (subsOk_cons (subOk10_1 fuel R) subsOk_nil)) (by kernel_rfl) (by kernel_rfl) fun _ _ _ _ h => Sub.of_run (fun (x : (Int × (Int × (Int × Int)))) k => u10_2 fuel k x) h
def fr10_3 : Fr := ⟨[.d false (.slice (.int .i64)), .c (.ptr 0 0 []), .d true (.int .i64), .d true (.int .i64), .d true (.int .i64), .d true (.int .i64)], [.box (.d true (.pair (.int .i64) (.pair (.int .i64) (.pair (.int .i64) (.int .i64)))))], 1⟩
noncomputable def c10_3 : Code := bodyAt Try.f10 [1, 1, 1, 1, 1, 1, 1]
def j10_3 (fuel : Nat) {R : Type} (k0 : (Bool × Int × (Int × (Int × (Int × Int)))) → Option R) : ((List Int) × Int × Int × Int × Int × (Int × (Int × (Int × Int)))) → Option R := fun (x48, x49, x50, x51, x52, x53) => (if 0 ≤ x50 then (match (x48)[Int.toNat x50]? with | some y54 => (if 0 ≤ x52 then (match (x48)[Int.toNat x52]? with | some y55 => (bif (decide ((IntKind.wrap .i64 ((2 : Int) * y55)) < y54)) then (if 0 ≤ x50 then (match (x48)[Int.toNat x50]? with | some y56 => (if 0 ≤ x52 then (match (x48)[Int.toNat x52]? with | some y57 => let v58 := (IntKind.wrap .i64 (Int.tdiv (IntKind.wrap .i64 (y56 - y57)) (2 : Int))); (k0 (true, (0 : Int), ((1 : Int), (x50, (x52, v58))))) | none => none) else none) | none => none) else none) else (match p26 fuel (x50, x51, x49) with | some z59 => (bif (!z59) then (if x49 = 0 then none else (if 0 ≤ (Int.tmod (IntKind.wrap .i64 (x51 + (1 : Int))) x49) then (match (x48)[Int.toNat (Int.tmod (IntKind.wrap .i64 (x51 + (1 : Int))) x49)]? with | some y60 => (if 0 ≤ x51 then (match (x48)[Int.toNat x51]? with | some y61 => (if 0 ≤ x50 then (match (x48)[Int.toNat x50]? with | some y62 => let v63 := (decide ((IntKind.wrap .i64 ((4 : Int) * (IntKind.wrap .i64 (y60 + y61)))) ≤ (IntKind.wrap .i64 ((3 : Int) * y62)))); (j10_1 fuel (fun (x70, x71, x72) => (k0 (x70, x71, x72))) (fun x73 => (j10_2 fuel (fun (x79, x80, x81) => (k0 (x79, x80, x81))) x73)) (x48, x50, x51, v63, x53)) | none => none) else none) | none => none) else none) | none => none) else none)) else (j10_1 fuel (fun (x74, x75, x76) => (k0 (x74, x75, x76))) (fun x77 => (j10_2 fuel (fun (x82, x83, x84) => (k0 (x82, x83, x84))) x77)) (x48, x50, x51, false, x53))) | none => none)) | none => none) else none) | none => none) else none)
def al10_3 : AN := (.seq (.seq .leaf (.cond (.seq (.region [(13, { touch := [0], ro := false })]) (.norm ⟨[2, 3, 4], padK 1 [some (0, 0)]⟩ (.ret []))) .leaf)) (.seq (.seq .leaf (.hole ⟨[0, 2, 6, 7, 114], padK 1 [some (0, 0)]⟩ 1)) (.hole ⟨[2], padK 1 [some (0, 0)]⟩ 2)))
theorem u10_3 (fuel : Nat) {R : Type} (k : AExit → St → Option R) : ∀ x : ((List Int) × Int × Int × Int × Int × (Int × (Int × (Int × Int)))), runK R T (fns10 fuel) fuel [] (subsOf [sub10_0 fuel R, sub10_1 fuel R, sub10_2 fuel R]) (partOf c10_3 al10_3) (fr10_3.st [0, 2, 5, 6, 7, 8] x) k = j10_3 fuel (fun y => k (.ret []) (fx10_0.st [2, 3, 4] y)) x := by
  rintro ⟨x48, x49, x50, x51, x52, x53⟩
  kernel_rfl
noncomputable def sub10_3 (fuel : Nat) (R : Type) : Sub R := Sub.of [0, 2, 5, 6, 7, 8] c10_3 fr10_3 fun x k => j10_3 fuel (fun y => k (.ret []) (fx10_0.st [2, 3, 4] y)) x
theorem subOk10_3 (fuel : Nat) (R : Type) : SubOk P [] 124 (sub10_3 fuel R) :=
  subOk_part (fns := (fns10 fuel)) (fuel := fuel) (subs := (subsOf [sub10_0 fuel R, sub10_1 fuel R, sub10_2 fuel R])) (an := al10_3) T_ok (fnsOk10 fuel) mixed (subsOk_cons (subOk10_0 fuel R) (subsOk_cons (subOk10_1 fuel R) (subsOk_cons (subOk10_2 fuel R) subsOk_nil))) (by kernel_rfl) (by kernel_rfl) fun _ _ _ _ h => Sub.of_run (fun (x : ((List Int) × Int × Int × Int × Int × (Int × (Int × (Int × Int))))) k => u10_3 fuel k x) h
def fr10_4 : Fr := ⟨[.d false (.slice (.int .i64)), .c (.ptr 0 0 []), .d true (.int .i64), .d true (.int .i64), .d true (.int .i64)], [.box (.d true (.pair (.int .i64) (.pair (.int .i64) (.pair (.int .i64) (.int .i64)))))], 1⟩
noncomputable def c10_4 : Code := bodyAt Try.f10 [1, 1, 1, 1, 1]
def j10_4 (fuel : Nat) {R : Type} (k0 : (Bool × Int × (Int × (Int × (Int × Int)))) → Option R) : ((List Int) × Int × Int × Int × (Int × (Int × (Int × Int)))) → Option R := fun (x40, x41, x42, x43, x44) => (if x41 = 0 then none else let v45 := (Int.tmod (IntKind.wrap .i64 ((IntKind.wrap .i64 (x42 + x41)) - (1 : Int))) x41); (if x41 = 0 then none else (if 0 ≤ (Int.tmod (IntKind.wrap .i64 (x42 + (1 : Int))) x41) then (match (x40)[Int.toNat (Int.tmod (IntKind.wrap .i64 (x42 + (1 : Int))) x41)]? with | some y46 => (if 0 ≤ v45 then (match (x40)[Int.toNat v45]? with | some y47 => (bif (decide (y46 < y47)) then (j10_3 fuel (fun (x85, x86, x87) => (k0 (x85, x86, x87))) (x40, x41, x42, x43, (Int.tmod (IntKind.wrap .i64 (x42 + (1 : Int))) x41), x44)) else (j10_3 fuel (fun (x88, x89, x90) => (k0 (x88, x89, x90))) (x40, x41, x42, x43, v45, x44))) | none => none) else none) | none => none) else none)))
def al10_4 : AN := (.seq .leaf (.seq (.seq .leaf (.seq .leaf (.cond (.fin ⟨[0, 2, 5, 6, 7, 8], padK 1 [some (0, 0)]⟩ .leaf) (.fin ⟨[0, 2, 5, 6, 7, 8], padK 1 [some (0, 0)]⟩ .leaf)))) (.hole ⟨[0, 2, 5, 6, 7, 8], padK 1 [some (0, 0)]⟩ 3)))
theorem u10_4 (fuel : Nat) {R : Type} (k : AExit → St → Option R) : ∀ x : ((List Int) × Int × Int × Int × (Int × (Int × (Int × Int)))), runK R T (fns10 fuel) fuel [] (subsOf [sub10_0 fuel R, sub10_1 fuel R, sub10_2 fuel R, sub10_3 fuel R]) (partOf c10_4 al10_4) (fr10_4.st [0, 2, 5, 6, 7] x) k = j10_4 fuel (fun y => k (.ret []) (fx10_0.st [2, 3, 4] y)) x := by
  rintro ⟨x40, x41, x42, x43, x44⟩
  kernel_rfl
noncomputable def sub10_4 (fuel : Nat) (R : Type) : Sub R := Sub.of [0, 2, 5, 6, 7] c10_4 fr10_4 fun x k => j10_4 fuel (fun y => k (.ret []) (fx10_0.st [2, 3, 4] y)) x
theorem subOk10_4 (fuel : Nat) (R : Type) : SubOk P [] 124 (sub10_4 fuel R) :=
  subOk_part (fns := (fns10 fuel)) (fuel := fuel) (subs := (subsOf [sub10_0 fuel R, sub10_1 fuel R, sub10_2 fuel R, sub10_3 fuel R])) (an := al10_4) T_ok (fnsOk10 fuel) mixed (subsOk_cons (subOk10_0 fuel R) (subsOk_cons (subOk10_1 fuel R) (subsOk_cons (subOk10_2 fuel R) (subsOk_cons (subOk10_3 fuel R) subsOk_nil)))) (by kernel_rfl) (by kernel_rfl) fun _ _ _ _ h => Sub.of_run (fun (x : ((List Int) × Int × Int × Int × (Int × (Int × (Int × Int))))) k => u10_4 fuel k x) h
def an10 : AN := (.seq (.region [(0, { touch := [1], base := 1, ro := false })]) (.seq .leaf (.seq (.seq .leaf (.cond (.seq (.region [(1, { touch := [1], ro := false })]) (.norm ⟨[2, 3, 4], padK 1 [some (1, 0)]⟩ (.ret []))) .leaf)) (.seq .leaf (.seq (.seq .leaf (.hole ⟨[0, 2, 5, 6, 7, 44], padK 1 [some (1, 0)]⟩ 0)) (.hole ⟨[0, 2, 5, 6, 7], padK 1 [some (0, 0)]⟩ 4))))))
def p10 (fuel : Nat) : (List Int) → Option ((Int × (Int × (Int × Int))) × Bool × Int) := fun x1 => (match p22 fuel (x1, (1 : Int), (12 : Int)) with | some z2 => (bif (!z2) then (some (((0 : Int), ((0 : Int), ((0 : Int), (0 : Int)))), false, (171 : Int))) else (match p24 fuel x1 with | some z3 => (match p23 fuel (x1, z3) with | some z4 => (match p25 fuel x1 with | some z5 => (match p23 fuel (x1, z5) with | some z6 => (bif (decide (((List.length x1 : Nat) : Int) = (1 : Int))) then (j10_0 fuel (fun (x16, x17, x18) => (some (x18, x16, x17))) (fun (x19, x20, x21, x22, x23) => (j10_4 fuel (fun (x91, x92, x93) => (some (x93, x91, x92))) (x19, x20, x21, x22, x23))) (x1, ((List.length x1 : Nat) : Int), z4, z6, true, ((0 : Int), ((0 : Int), ((0 : Int), (0 : Int)))))) else (if 0 ≤ z4 then (match (x1)[Int.toNat z4]? with | some y7 => (bif (decide (y7 < (2 : Int))) then (j10_0 fuel (fun (x24, x25, x26) => (some (x26, x24, x25))) (fun (x27, x28, x29, x30, x31) => (j10_4 fuel (fun (x94, x95, x96) => (some (x96, x94, x95))) (x27, x28, x29, x30, x31))) (x1, ((List.length x1 : Nat) : Int), z4, z6, true, ((0 : Int), ((0 : Int), ((0 : Int), (0 : Int)))))) else (if 0 ≤ z4 then (match (x1)[Int.toNat z4]? with | some y8 => (if 0 ≤ z6 then (match (x1)[Int.toNat z6]? with | some y9 => (j10_0 fuel (fun (x32, x33, x34) => (some (x34, x32, x33))) (fun (x35, x36, x37, x38, x39) => (j10_4 fuel (fun (x97, x98, x99) => (some (x99, x97, x98))) (x35, x36, x37, x38, x39))) (x1, ((List.length x1 : Nat) : Int), z4, z6, (decide (y8 ≤ (IntKind.wrap .i64 ((2 : Int) * y9)))), ((0 : Int), ((0 : Int), ((0 : Int), (0 : Int)))))) | none => none) else none) | none => none) else none)) | none => none) else none)) | none => none) | none => none) | none => none) | none => none)) | none => none)
def F10 (fuel : Nat) : Fun := funOfA fi10 al10 (p10 fuel)
theorem run10 (fuel : Nat) : ∀ y : (List Int), runF ((Int × (Int × (Int × Int))) × Bool × Int) T (fns10 fuel) fuel (subsOf [sub10_0 fuel ((Int × (Int × (Int × Int))) × Bool × Int), sub10_1 fuel ((Int × (Int × (Int × Int))) × Bool × Int), sub10_2 fuel ((Int × (Int × (Int × Int))) × Bool × Int), sub10_3 fuel ((Int × (Int × (Int × Int))) × Bool × Int), sub10_4 fuel ((Int × (Int × (Int × Int))) × Bool × Int)]) (defOf Try.f10 an10 2 [] []) (fi10.vs y) (fi10.os y) (altsDec al10) = p10 fuel y := by
  rintro x1
  kernel_rfl
theorem ok10 (fuel : Nat) : FunOk P 10 (funOfA fi10 al10 (p10 fuel)) :=
  funOfA_ok (subs := (subsOf [sub10_0 fuel ((Int × (Int × (Int × Int))) × Bool × Int), sub10_1 fuel ((Int × (Int × (Int × Int))) × Bool × Int), sub10_2 fuel ((Int × (Int × (Int × Int))) × Bool × Int), sub10_3 fuel ((Int × (Int × (Int × Int))) × Bool × Int), sub10_4 fuel ((Int × (Int × (Int × Int))) × Bool × Int)])) (an := an10) (room := 2) (ks := []) (g0 := []) (fuel := fuel) T_ok (fnsOk10 fuel) mixed (fn := Try.f10) (by kernel_rfl) (by kernel_rfl) (subsOk_cons (subOk10_0 fuel _) (subsOk_cons (subOk10_1 fuel _) (subsOk_cons (subOk10_2 fuel _) (subsOk_cons (subOk10_3 fuel _) (subsOk_cons (subOk10_4 fuel _) subsOk_nil))))) (by kernel_rfl) (fun _ => ⟨by kernel_rfl, by kernel_rfl⟩) (run10 fuel)

-- f27: tontine/balance.may
def fns27 (fuel : Nat) : Fns := fnsOf [(26, F26 fuel)]
theorem fnsOk27 (fuel : Nat) : FnsOk P (fns27 fuel) := (fnsOk_cons (ok26 fuel) fnsOk_nil)
def fi27 : Fr := ⟨[.d false (.slice (.int .i64)), .d false (.pair (.int .i64) (.pair (.int .i64) (.pair (.int .i64) (.int .i64))))], [], 0⟩
def al27 : List (Tm × List To) := [(.d true (.bool), [])]
def an27 : AN := (.seq (.region [(0, { touch := [1], base := 1, ro := false })]) (.seq .leaf (.seq (.seq (.region [(0, { touch := [1] }), (1, { touch := [1] }), (4, { touch := [1] }), (5, { touch := [1] }), (10, { touch := [1] }), (11, { touch := [1] }), (15, { touch := [1] }), (16, { touch := [1] }), (21, { touch := [1] }), (22, { touch := [1] }), (23, { touch := [1] }), (24, { touch := [1] }), (28, { touch := [1] }), (29, { touch := [1] }), (33, { touch := [1] }), (34, { touch := [1] }), (36, { touch := [1] }), (37, { touch := [1] })]) (.cond (.seq .leaf (.norm ⟨[4], padK 2 []⟩ (.ret []))) .leaf)) (.seq (.seq (.region [(0, { touch := [1] }), (1, { touch := [1] }), (2, { touch := [1] }), (3, { touch := [1] })]) (.seq (.region [(0, { touch := [1] }), (1, { touch := [1] })]) (.block (.seq .leaf (.cond (.seq (.region [(2, { touch := [1] }), (3, { touch := [1] }), (5, { touch := [1] }), (6, { touch := [1] })]) (.norm ⟨[4], padK 2 []⟩ (.ret []))) (.seq .leaf (.cond (.seq (.region [(4, { touch := [1] }), (5, { touch := [1] }), (9, { touch := [1] }), (10, { touch := [1] })]) (.norm ⟨[4], padK 2 []⟩ (.ret []))) .leaf))))))) (.seq .leaf (.norm ⟨[4], padK 2 []⟩ (.ret [])))))))
def p27 (fuel : Nat) : ((List Int) × (Int × (Int × (Int × Int)))) → Option Bool := fun (x1, x2) => (bif (decide (x2.2.1 < (0 : Int))) then (some false) else (bif (decide (((List.length x1 : Nat) : Int) ≤ x2.2.1)) then (some false) else (bif (decide (x2.2.2.1 < (0 : Int))) then (some false) else (bif (decide (((List.length x1 : Nat) : Int) ≤ x2.2.2.1)) then (some false) else (bif (decide (x2.2.1 = x2.2.2.1)) then (some false) else (bif (decide (x2.2.2.2 < (1 : Int))) then (some false) else (if 0 ≤ x2.2.1 then (match (x1)[Int.toNat x2.2.1]? with | some y3 => (bif (decide (y3 < x2.2.2.2)) then (some false) else (match p26 fuel (x2.2.1, x2.2.2.1, ((List.length x1 : Nat) : Int)) with | some z4 => (bif (decide (x2.1 = (1 : Int))) then (bif z4 then (if 0 ≤ x2.2.2.1 then (match (x1)[Int.toNat x2.2.2.1]? with | some y5 => (some (decide (x2.2.2.2 ≤ (IntKind.wrap .i64 ((2147483647 : Int) - y5))))) | none => none) else none) else (some false)) else (bif (decide (x2.1 = (2 : Int))) then (bif (!z4) then (if 0 ≤ x2.2.2.1 then (match (x1)[Int.toNat x2.2.2.1]? with | some y6 => (if ((List.length x1 : Nat) : Int) = 0 then none else let v7 := (Int.tmod (IntKind.wrap .i64 (x2.2.2.1 + (1 : Int))) ((List.length x1 : Nat) : Int)); (if 0 ≤ v7 then (match (x1)[Int.toNat v7]? with | some y8 => (some (decide (y6 ≤ (IntKind.wrap .i64 ((2147483647 : Int) - y8))))) | none => none) else none)) | none => none) else none) else (some false)) else (some false))) | none => none)) | none => none) else none)))))))
def F27 (fuel : Nat) : Fun := funOfA fi27 al27 (p27 fuel)
theorem run27 (fuel : Nat) : ∀ y : ((List Int) × (Int × (Int × (Int × Int)))), runF Bool T (fns27 fuel) fuel (subsOf []) (defOf Try.f27 an27 2 [] []) (fi27.vs y) (fi27.os y) (altsDec al27) = p27 fuel y := by
  rintro ⟨x1, x2⟩
  kernel_rfl
theorem ok27 (fuel : Nat) : FunOk P 27 (funOfA fi27 al27 (p27 fuel)) :=
  funOfA_ok (subs := (subsOf [])) (an := an27) (room := 2) (ks := []) (g0 := []) (fuel := fuel) T_ok (fnsOk27 fuel) mixed (fn := Try.f27) (by kernel_rfl) (by kernel_rfl) subsOk_nil (by kernel_rfl) (fun _ => ⟨by kernel_rfl, by kernel_rfl⟩) (run27 fuel)

-- f28: slices.Clone[[]int,int]
def fns28 (fuel : Nat) : Fns := fnsOf []
theorem fnsOk28 (fuel : Nat) : FnsOk P (fns28 fuel) := fnsOk_nil
def fi28 : Fr := ⟨[.d false (.slice (.int .i64))], [], 0⟩
def al28 : List (Tm × List To) := [(.c (.slc 0 0), [.arr 0 (.int .i64)])]
def fx28_0 : Fr := ⟨[.c (.slc 0 0)], [.arr 0 (.int .i64)], 2⟩
def fr28_0 : Fr := ⟨[.d false (.slice (.int .i64))], [], 3⟩
noncomputable def c28_0 : Code := bodyAt Try.f28 [1, 1]
def j28_0 (fuel : Nat) {R : Type} (k0 : (List Int) → Option R) : (List Int) → Option R := fun x2 => (if (List.length ([] : List Int) + List.length x2) * 8 ≤ 140737488355328 then (k0 (([] : List Int) ++ x2)) else none)
def al28_0 : AN := (.seq (.region [(0, { touch := [1], base := 1, ro := false }), (2, { touch := [1], ro := false })]) (.norm ⟨[2], padK 2 [some (1, 0)]⟩ (.ret [some (0, 0)])))
theorem u28_0 (fuel : Nat) {R : Type} (k : AExit → St → Option R) : ∀ x : (List Int), runK R T (fns28 fuel) fuel [] (subsOf []) (partOf c28_0 al28_0) (fr28_0.st [0] x) k = j28_0 fuel (fun y => k (.ret [some (0, 0)]) (fx28_0.st [2] y)) x := by
  rintro x2
  kernel_rfl
noncomputable def sub28_0 (fuel : Nat) (R : Type) : Sub R := Sub.of [0] c28_0 fr28_0 fun x k => j28_0 fuel (fun y => k (.ret [some (0, 0)]) (fx28_0.st [2] y)) x
theorem subOk28_0 (fuel : Nat) (R : Type) : SubOk P [] 8 (sub28_0 fuel R) :=
  subOk_part (fns := (fns28 fuel)) (fuel := fuel) (subs := (subsOf [])) (an := al28_0) T_ok (fnsOk28 fuel) mixed subsOk_nil (by kernel_rfl) (by kernel_rfl) fun _ _ _ _ h => Sub.of_run (fun (x : (List Int)) k => u28_0 fuel k x) h
def an28 : AN := (.seq .leaf (.seq (.seq (.wild 1 []) (.cond (.seq .leaf (.co (.empty (.slot 2 []) 2 (.int .i64)) (.norm ⟨[2], padK 2 [some (2, 0)]⟩ (.ret [some (0, 0)])))) .leaf)) (.hole ⟨[0], padK 3 []⟩ 0)))
noncomputable def p28 (fuel : Nat) : (List Int) → Option (List Int) := fun x1 => (bif List.isEmpty x1 then (fork (some ([] : List Int)) (j28_0 fuel (fun x3 => (some x3)) x1)) else (j28_0 fuel (fun x4 => (some x4)) x1))
noncomputable def F28 (fuel : Nat) : Fun := funOfA fi28 al28 (p28 fuel)
theorem run28 (fuel : Nat) : ∀ y : (List Int), runF (List Int) T (fns28 fuel) fuel (subsOf [sub28_0 fuel (List Int)]) (defOf Try.f28 an28 3 [] []) (fi28.vs y) (fi28.os y) (altsDec al28) = p28 fuel y := by
  rintro x1
  kernel_rfl
theorem ok28 (fuel : Nat) : FunOk P 28 (funOfA fi28 al28 (p28 fuel)) :=
  funOfA_ok (subs := (subsOf [sub28_0 fuel (List Int)])) (an := an28) (room := 3) (ks := []) (g0 := []) (fuel := fuel) T_ok (fnsOk28 fuel) mixed (fn := Try.f28) (by kernel_rfl) (by kernel_rfl) (subsOk_cons (subOk28_0 fuel _) subsOk_nil) (by kernel_rfl) (fun _ => ⟨by kernel_rfl, by kernel_rfl⟩) (run28 fuel)

-- f29: slices.Delete[[]int,int]
def fns29 (fuel : Nat) : Fns := fnsOf []
theorem fnsOk29 (fuel : Nat) : FnsOk P (fns29 fuel) := fnsOk_nil
def fi29 : Fr := ⟨[.c (.slc 0 0), .d false (.int .i64), .d false (.int .i64)], [.arr 0 (.int .i64)], 0⟩
def al29 : List (Tm × List To) := [(.c (.slc 0 1), [.arr 1 (.int .i64)])]
def an29 : AN := (.seq .leaf (.seq (.region [(4, { touch := [0] }), (5, { touch := [0], mode := 2 })]) (.seq (.seq .leaf (.cond (.seq .leaf (.norm ⟨[6], padK 0 [some (0, 1)]⟩ (.ret [some (0, 1)]))) .leaf)) (.seq (.region [(1, { touch := [0] })]) (.seq (.region [(2, { touch := [0] }), (5, { touch := [0] }), (6, { touch := [0], ro := false })]) (.seq (.region [(2, { touch := [0] }), (4, { touch := [0] }), (5, { touch := [0], ro := false })]) (.seq .leaf (.co (.cut (.slot 6 [])) (.norm ⟨[6], padK 0 [some (0, 1)]⟩ (.ret [some (0, 1)]))))))))))
def p29 (fuel : Nat) : (Int × Int × (List Int)) → Option (List Int) := fun (x1, x2, x3) => (if 0 ≤ ((List.length x3 : Nat) : Int) ∧ ((List.length x3 : Nat) : Int) ≤ (((List.length x3) : Nat) : Int) then (if 0 ≤ x2 ∧ x2 ≤ (((Int.toNat ((List.length x3 : Nat) : Int)) : Nat) : Int) then (if 0 ≤ x1 ∧ x1 ≤ (((Int.toNat x2) : Nat) : Int) then (if (Int.toNat ((List.length x3 : Nat) : Int)) = (List.length x3) then (bif (decide (x1 = x2)) then (some x3) else (if 0 ≤ x1 ∧ x1 ≤ (((List.length x3) : Nat) : Int) then (if 0 ≤ x2 ∧ x2 ≤ (((List.length x3) : Nat) : Int) then (if 0 + ((Int.toNat x1) - 0) + List.length (List.take ((List.length x3) - (Int.toNat x2)) (List.drop (Int.toNat x2) x3)) ≤ List.length x3 then let v4 := (List.take (0 + ((Int.toNat x1) - 0)) x3 ++ (List.take ((List.length x3) - (Int.toNat x2)) (List.drop (Int.toNat x2) x3)) ++ List.drop (0 + ((Int.toNat x1) - 0) + List.length (List.take ((List.length x3) - (Int.toNat x2)) (List.drop (Int.toNat x2) x3))) x3); let v5 := (((((Int.toNat x1) - 0) + List.length (List.take ((List.length x3) - (Int.toNat x2)) (List.drop (Int.toNat x2) x3))) : Nat) : Int); (if 0 ≤ ((List.length x3 : Nat) : Int) ∧ ((List.length x3 : Nat) : Int) ≤ (((List.length v4 - 0) : Nat) : Int) then (if 0 ≤ v5 ∧ v5 ≤ (((Int.toNat ((List.length x3 : Nat) : Int)) : Nat) : Int) then let v6 := (List.take (0 + (Int.toNat v5)) v4 ++ List.replicate ((Int.toNat ((List.length x3 : Nat) : Int)) - (Int.toNat v5)) (0 : Int) ++ List.drop ((0 + (Int.toNat v5)) + ((Int.toNat ((List.length x3 : Nat) : Int)) - (Int.toNat v5))) v4); (bif (Nat.blt 0 (List.length v6)) then (some (List.take (((Int.toNat x1) - 0) + List.length (List.take ((List.length x3) - (Int.toNat x2)) (List.drop (Int.toNat x2) x3))) (List.drop 0 v6))) else none) else none) else none) else none) else none) else none)) else none) else none) else none) else none)
def F29 (fuel : Nat) : Fun := funOfA fi29 al29 (p29 fuel)
theorem run29 (fuel : Nat) : ∀ y : (Int × Int × (List Int)), runF (List Int) T (fns29 fuel) fuel (subsOf []) (defOf Try.f29 an29 0 [] [true]) (fi29.vs y) (fi29.os y) (altsDec al29) = p29 fuel y := by
  rintro ⟨x1, x2, x3⟩
  kernel_rfl
theorem ok29 (fuel : Nat) : FunOk P 29 (funOfA fi29 al29 (p29 fuel)) :=
  funOfA_ok (subs := (subsOf [])) (an := an29) (room := 0) (ks := []) (g0 := [true]) (fuel := fuel) T_ok (fnsOk29 fuel) mixed (fn := Try.f29) (by kernel_rfl) (by kernel_rfl) subsOk_nil (by kernel_rfl) (fun _ => ⟨by kernel_rfl, by kernel_rfl⟩) (run29 fuel)

-- f11: tontine/balance.Apply
noncomputable def fns11 (fuel : Nat) : Fns := fnsOf [(22, F22 fuel), (27, F27 fuel), (28, F28 fuel), (29, F29 fuel)]
theorem fnsOk11 (fuel : Nat) : FnsOk P (fns11 fuel) := (fnsOk_cons (ok22 fuel) (fnsOk_cons (ok27 fuel) (fnsOk_cons (ok28 fuel) (fnsOk_cons (ok29 fuel) fnsOk_nil))))
def fi11 : Fr := ⟨[.d false (.slice (.int .i64)), .d false (.pair (.int .i64) (.pair (.int .i64) (.pair (.int .i64) (.int .i64))))], [], 0⟩
def al11 : List (Tm × List To) := [(.tup (.cons (.c (.slc 0 0)) (.cons (.d true (.int .i64)) (.c .nil))), [.arr 0 (.int .i64)])]
def fx11_0 : Fr := ⟨[.c (.slc 0 0), .d true (.int .i64)], [.arr 0 (.int .i64)], 5⟩
def fr11_0 : Fr := ⟨[.c (.slc 0 0), .d true (.int .i64)], [.arr 0 (.int .i64)], 5⟩
noncomputable def c11_0 : Code := bodyAt Try.f11 [1, 1, 1, 1, 1, 1, 1, 1, 1, 1]
def j11_0 (fuel : Nat) {R : Type} (k0 : (Int × (List Int)) → Option R) : (Int × (List Int)) → Option R := fun (x17, x18) => (match p29 fuel (x17, (IntKind.wrap .i64 (x17 + (1 : Int))), x18) with | some z19 => (k0 ((0 : Int), z19)) | none => none)
def al11_0 : AN := (.seq (.region [(4, { touch := [0], ro := false, loc := [0] })]) (.norm ⟨[4, 5], padK 5 [some (0, 0)]⟩ (.ret [some (0, 0)])))
theorem u11_0 (fuel : Nat) {R : Type} (k : AExit → St → Option R) : ∀ x : (Int × (List Int)), runK R T (fns11 fuel) fuel [] (subsOf []) (partOf c11_0 al11_0) (fr11_0.st [7, 8] x) k = j11_0 fuel (fun y => k (.ret [some (0, 0)]) (fx11_0.st [4, 5] y)) x := by
  rintro ⟨x17, x18⟩
  kernel_rfl
noncomputable def sub11_0 (fuel : Nat) (R : Type) : Sub R := Sub.of [7, 8] c11_0 fr11_0 fun x k => j11_0 fuel (fun y => k (.ret [some (0, 0)]) (fx11_0.st [4, 5] y)) x
theorem subOk11_0 (fuel : Nat) (R : Type) : SubOk P [] 87 (sub11_0 fuel R) :=
  subOk_part (fns := (fns11 fuel)) (fuel := fuel) (subs := (subsOf [])) (an := al11_0) T_ok (fnsOk11 fuel) mixed subsOk_nil (by kernel_rfl) (by kernel_rfl) fun _ _ _ _ h => Sub.of_run (fun (x : (Int × (List Int))) k => u11_0 fuel k x) h
def an11 : AN := (.seq (.region [(0, { touch := [1], base := 1, ro := false })]) (.seq (.block (.seq .leaf (.cond (.seq .leaf (.co (.empty (.slot 4 []) 5 (.int .i64)) (.norm ⟨[4, 5], padK 5 [some (5, 0)]⟩ (.ret [some (0, 0)])))) (.seq (.region [(1, { touch := [1] })]) (.cond (.seq .leaf (.co (.empty (.slot 4 []) 5 (.int .i64)) (.norm ⟨[4, 5], padK 5 [some (5, 0)]⟩ (.ret [some (0, 0)])))) .leaf))))) (.seq (.region [(1, { touch := [2], base := 2, ro := false, fresh := 1 })]) (.seq (.region [(1, { touch := [1] }), (2, { touch := [1] }), (3, { touch := [2] }), (4, { touch := [2] }), (5, { touch := [1] }), (6, { touch := [1] }), (8, { touch := [2] }), (9, { touch := [2], ro := false })]) (.seq (.seq (.region [(0, { touch := [1] }), (1, { touch := [1] })]) (.cond (.seq (.region [(1, { touch := [1] }), (2, { touch := [1] }), (3, { touch := [2] }), (4, { touch := [2] }), (5, { touch := [1] }), (6, { touch := [1] }), (8, { touch := [2] }), (9, { touch := [2], ro := false })]) (.seq .leaf (.norm ⟨[4, 5], padK 5 [some (2, 0)]⟩ (.ret [some (0, 0)])))) .leaf)) (.seq (.region [(1, { touch := [1] }), (2, { touch := [1] }), (5, { touch := [2] }), (7, { touch := [2] }), (8, { touch := [2] }), (10, { touch := [1] }), (11, { touch := [1] }), (12, { touch := [2] }), (13, { touch := [2] }), (15, { touch := [2] }), (16, { touch := [2], ro := false })]) (.seq (.region [(1, { touch := [1] }), (2, { touch := [1] }), (3, { touch := [1] }), (4, { touch := [1] }), (5, { touch := [2] }), (6, { touch := [1] }), (7, { touch := [1] }), (8, { touch := [3], base := 3, ro := false }), (9, { touch := [2, 3, 4], base := 4, ro := false })]) (.seq (.region [(2, { touch := [1] }), (3, { touch := [1] }), (4, { touch := [2] }), (5, { touch := [2, 4], ro := false })]) (.seq (.region [(0, { touch := [1] }), (1, { touch := [1] })]) (.seq (.seq (.region [(1, { touch := [1] }), (2, { touch := [1] })]) (.cond (.fin ⟨[7, 8], padK 5 [some (4, 0)]⟩ .leaf) (.fin ⟨[7, 8], padK 5 [some (4, 0)]⟩ .leaf))) (.hole ⟨[7, 8], padK 5 [some (0, 0)]⟩ 0)))))))))))
noncomputable def p11 (fuel : Nat) : ((List Int) × (Int × (Int × (Int × Int)))) → Option (Int × (List Int)) := fun (x1, x2) => (match p22 fuel (x1, (1 : Int), (12 : Int)) with | some z3 => (bif (!z3) then (some ((171 : Int), ([] : List Int))) else (match p27 fuel (x1, x2) with | some z4 => (bif (!z4) then (some ((172 : Int), ([] : List Int))) else (match p28 fuel x1 with | some z5 => (if 0 ≤ x2.2.1 ∧ x2.2.1 < ((List.length z5 : Nat) : Int) then (match (z5)[(Int.toNat x2.2.1)]? with | some y6 => (if 0 ≤ x2.2.1 ∧ x2.2.1 < ((List.length z5 : Nat) : Int) then (match (z5)[(Int.toNat x2.2.1)]? with | some y7 => (bif (decide (x2.1 = (1 : Int))) then (if 0 ≤ x2.2.2.1 ∧ x2.2.2.1 < ((List.length (List.set z5 (Int.toNat x2.2.1) (IntKind.wrap .i64 (y6 - x2.2.2.2))) : Nat) : Int) then (match ((List.set z5 (Int.toNat x2.2.1) (IntKind.wrap .i64 (y6 - x2.2.2.2))))[(Int.toNat x2.2.2.1)]? with | some y8 => (if 0 ≤ x2.2.2.1 ∧ x2.2.2.1 < ((List.length (List.set z5 (Int.toNat x2.2.1) (IntKind.wrap .i64 (y6 - x2.2.2.2))) : Nat) : Int) then (match ((List.set z5 (Int.toNat x2.2.1) (IntKind.wrap .i64 (y6 - x2.2.2.2))))[(Int.toNat x2.2.2.1)]? with | some y9 => let v10 := (List.set (List.set z5 (Int.toNat x2.2.1) (IntKind.wrap .i64 (y6 - x2.2.2.2))) (Int.toNat x2.2.2.1) (IntKind.wrap .i64 (y8 + x2.2.2.2))); (some ((0 : Int), v10)) | none => none) else none) | none => none) else none) else let v11 := ((List.length (List.set z5 (Int.toNat x2.2.1) (IntKind.wrap .i64 (y6 - x2.2.2.2))) : Nat) : Int); (if v11 = 0 then none else (if 0 ≤ (Int.tmod (IntKind.wrap .i64 (x2.2.2.1 + (1 : Int))) v11) ∧ (Int.tmod (IntKind.wrap .i64 (x2.2.2.1 + (1 : Int))) v11) < ((List.length (List.set z5 (Int.toNat x2.2.1) (IntKind.wrap .i64 (y6 - x2.2.2.2))) : Nat) : Int) then (match ((List.set z5 (Int.toNat x2.2.1) (IntKind.wrap .i64 (y6 - x2.2.2.2))))[(Int.toNat (Int.tmod (IntKind.wrap .i64 (x2.2.2.1 + (1 : Int))) v11))]? with | some y12 => (if 0 ≤ x2.2.2.1 ∧ x2.2.2.1 < ((List.length (List.set z5 (Int.toNat x2.2.1) (IntKind.wrap .i64 (y6 - x2.2.2.2))) : Nat) : Int) then (match ((List.set z5 (Int.toNat x2.2.1) (IntKind.wrap .i64 (y6 - x2.2.2.2))))[(Int.toNat x2.2.2.1)]? with | some y13 => (if 0 ≤ (Int.tmod (IntKind.wrap .i64 (x2.2.2.1 + (1 : Int))) v11) ∧ (Int.tmod (IntKind.wrap .i64 (x2.2.2.1 + (1 : Int))) v11) < ((List.length (List.set z5 (Int.toNat x2.2.1) (IntKind.wrap .i64 (y6 - x2.2.2.2))) : Nat) : Int) then (match ((List.set z5 (Int.toNat x2.2.1) (IntKind.wrap .i64 (y6 - x2.2.2.2))))[(Int.toNat (Int.tmod (IntKind.wrap .i64 (x2.2.2.1 + (1 : Int))) v11))]? with | some y14 => let v15 := (List.set (List.set z5 (Int.toNat x2.2.1) (IntKind.wrap .i64 (y6 - x2.2.2.2))) (Int.toNat (Int.tmod (IntKind.wrap .i64 (x2.2.2.1 + (1 : Int))) v11)) (IntKind.wrap .i64 (y12 + y13))); (if 0 ≤ x2.2.1 ∧ x2.2.1 ≤ (((List.length v15) : Nat) : Int) then (if 0 ≤ x2.2.1 ∧ x2.2.1 ≤ (((Int.toNat x2.2.1) : Nat) : Int) then (if (Int.toNat x2.2.1) = (Int.toNat x2.2.1) then (if (0 < List.length [x2.2.2.2] ∨ ((Int.toNat x2.2.1) - 0) = 0) ∧ (((Int.toNat x2.2.1) - 0) + List.length [x2.2.2.2]) * 8 ≤ 140737488355328 then (if 0 ≤ x2.2.1 ∧ x2.2.1 ≤ (((List.length v15) : Nat) : Int) then (if (List.length (List.take ((Int.toNat x2.2.1) - 0) (List.drop 0 v15) ++ [x2.2.2.2]) + List.length (List.take ((List.length v15) - (Int.toNat x2.2.1)) (List.drop (Int.toNat x2.2.1) v15))) * 8 ≤ 140737488355328 then let v16 := ((List.take ((Int.toNat x2.2.1) - 0) (List.drop 0 v15) ++ [x2.2.2.2]) ++ (List.take ((List.length v15) - (Int.toNat x2.2.1)) (List.drop (Int.toNat x2.2.1) v15))); (bif (decide (x2.2.1 < x2.2.2.1)) then (j11_0 fuel (fun (x20, x21) => (some (x20, x21))) ((IntKind.wrap .i64 (x2.2.2.1 + (1 : Int))), v16)) else (j11_0 fuel (fun (x22, x23) => (some (x22, x23))) (x2.2.2.1, v16))) else none) else none) else none) else none) else none) else none) | none => none) else none) | none => none) else none) | none => none) else none))) | none => none) else none) | none => none) else none) | none => none)) | none => none)) | none => none)
noncomputable def F11 (fuel : Nat) : Fun := funOfA fi11 al11 (p11 fuel)
theorem run11 (fuel : Nat) : ∀ y : ((List Int) × (Int × (Int × (Int × Int)))), runF (Int × (List Int)) T (fns11 fuel) fuel (subsOf [sub11_0 fuel (Int × (List Int))]) (defOf Try.f11 an11 6 [] []) (fi11.vs y) (fi11.os y) (altsDec al11) = p11 fuel y := by
  rintro ⟨x1, x2⟩
  kernel_rfl
theorem ok11 (fuel : Nat) : FunOk P 11 (funOfA fi11 al11 (p11 fuel)) :=
  funOfA_ok (subs := (subsOf [sub11_0 fuel (Int × (List Int))])) (an := an11) (room := 6) (ks := []) (g0 := []) (fuel := fuel) T_ok (fnsOk11 fuel) mixed (fn := Try.f11) (by kernel_rfl) (by kernel_rfl) (subsOk_cons (subOk11_0 fuel _) subsOk_nil) (by kernel_rfl) (fun _ => ⟨by kernel_rfl, by kernel_rfl⟩) (run11 fuel)

-- f3: tontine/tontinetop.TopSlides
noncomputable def fns3 (fuel : Nat) : Fns := fnsOf [(5, F5 fuel), (6, F6 fuel), (7, F7 fuel), (8, F8 fuel), (9, F9 fuel), (10, F10 fuel), (11, F11 fuel)]
theorem fnsOk3 (fuel : Nat) : FnsOk P (fns3 fuel) := (fnsOk_cons (ok5 fuel) (fnsOk_cons (ok6 fuel) (fnsOk_cons (ok7 fuel) (fnsOk_cons (ok8 fuel) (fnsOk_cons (ok9 fuel) (fnsOk_cons (ok10 fuel) (fnsOk_cons (ok11 fuel) fnsOk_nil)))))))
def fi3 : Fr := ⟨[.d true (.pair (.int .i64) (.pair (.slice (.int .i64)) (.slice (.int .i64))))], [], 0⟩
def al3 : List (Tm × List To) := [(.d true (.bool), [])]
def fx3_0 : Fr := ⟨[.d true (.bool)], [], 18⟩
def fx3_1 : Fr := ⟨[.d true (.int .i64), .c (.ptr 0 0 [])], [.box (.d true (.pair (.int .u32) (.pair (.arr 64 (.int .i64)) (.pair (.arr 64 (.int .u32)) (.pair (.arr 12 (.bool)) (.arr 12 (.int .u32)))))))], 17⟩
def fr3_0 : Fr := ⟨[.c (.ptr 0 0 []), .d true (.int .i64), .c (.ptr 1 0 []), .d true (.int .i64)], [.box (.d true (.pair (.int .i64) (.pair (.slice (.int .i64)) (.slice (.int .i64))))), .box (.d true (.pair (.int .u32) (.pair (.arr 64 (.int .i64)) (.pair (.arr 64 (.int .u32)) (.pair (.arr 12 (.bool)) (.arr 12 (.int .u32)))))))], 16⟩
noncomputable def c3_0 : Code := bodyAt Try.f3 [1, 1, 1, 1, 0, 1, 0]
def s3_0 (fuel : Nat) {R : Type} (F : (Int × Int × (Int × ((List Int) × (List Int))) × (Int × ((List Int) × ((List Int) × ((List Bool) × (List Int)))))) → Option R) (k0 : Bool → Option R) (k1 : (Int × (Int × ((List Int) × ((List Int) × ((List Bool) × (List Int)))))) → Option R) : (Int × Int × (Int × ((List Int) × (List Int))) × (Int × ((List Int) × ((List Int) × ((List Bool) × (List Int)))))) → Option R := fun (x4, x5, x6, x7) => (bif (decide (x5 < ((List.length x6.2.1 : Nat) : Int))) then (bif (decide (x5 < ((List.length x6.2.2 : Nat) : Int))) then (bif (decide (x5 < (40 : Int))) then (if 0 ≤ x5 then (match (x6.2.1)[Int.toNat x5]? with | some y8 => (match p5 fuel (y8, x4) with | some z9 => (match p7 fuel (x7, x4) with | some z10 => (if 0 ≤ z9 ∧ z9 < ((List.length z10 : Nat) : Int) then (match (z10)[(Int.toNat z9)]? with | some y11 => (bif (decide (y11 < (2 : Int))) then (F (x4, (IntKind.wrap .i64 (x5 + (1 : Int))), x6, x7)) else (if x4 = 0 then none else (if 0 ≤ x5 then (match (x6.2.2)[Int.toNat x5]? with | some y12 => (match p5 fuel (y12, (IntKind.wrap .i64 (y11 - (1 : Int)))) with | some z13 => (match p8 fuel (x7, ((1 : Int), (z9, ((Int.tmod (IntKind.wrap .i64 (z9 + (1 : Int))) x4), (IntKind.wrap .i64 ((1 : Int) + z13))))), x4) with | some z14 => (match p9 fuel (x7, ((2 : Int), ((Int.tmod (IntKind.wrap .i64 (z9 + (1 : Int))) x4), (z9, (z14.1, ((0 : Int), (0 : Int))))))) with | some z15 => (bif (!z14.2) then (k0 false) else (bif (!decide (z15.2 = (0 : Int))) then (k0 false) else (F (x4, (IntKind.wrap .i64 (x5 + (1 : Int))), x6, z15.1)))) | none => none) | none => none) | none => none) | none => none) else none))) | none => none) else none) | none => none) | none => none) | none => none) else none) else (k1 (x4, x7))) else (k1 (x4, x7))) else (k1 (x4, x7)))
def l3_0 (fuel : Nat) {R : Type} (k0 : Bool → Option R) (k1 : (Int × (Int × ((List Int) × ((List Int) × ((List Bool) × (List Int)))))) → Option R) : Nat → (Int × Int × (Int × ((List Int) × (List Int))) × (Int × ((List Int) × ((List Int) × ((List Bool) × (List Int)))))) → Option R
  | 0, _ => none
  | n + 1, x => s3_0 fuel (l3_0 fuel k0 k1 n) k0 k1 x
def nm3_0 : Norm := ⟨[1, 3, 4, 6], padK 16 [some (0, 0), some (1, 0)]⟩
def an3_0 : AN := (.seq (.seq (.region [(1, { touch := [0] }), (2, { touch := [0] }), (7, { touch := [0] }), (8, { touch := [0] })]) (.cond .leaf (.norm ⟨[3, 4], padK 17 [some (1, 0)]⟩ .leaf))) (.seq (.block (.seq (.region [(0, { touch := [0] }), (1, { touch := [0] })]) (.seq (.region [(0, { touch := [1] }), (2, { touch := [7], base := 7, ro := false, fresh := 1 }), (4, { touch := [7] }), (5, { touch := [7] })]) (.seq (.seq .leaf (.cond (.norm ⟨[1, 3, 4, 6], padK 16 [some (0, 0), some (1, 0)]⟩ .leaf) .leaf)) (.seq (.region [(5, { touch := [0] }), (6, { touch := [0] }), (15, { touch := [8], base := 8, ro := false }), (16, { touch := [8], ro := false })]) (.seq (.region [(0, { touch := [1] }), (1, { touch := [8] }), (7, { touch := [9], base := 9, ro := false }), (8, { touch := [9], ro := false })]) (.seq (.region [(0, { touch := [1] }), (1, { touch := [8] }), (2, { touch := [8] }), (4, { touch := [9] }), (10, { touch := [10], base := 10, ro := false }), (11, { touch := [10], ro := false })]) (.seq (.seq .leaf (.cond (.seq .leaf (.norm ⟨[2], padK 18 []⟩ (.ret []))) .leaf)) (.region [(0, { touch := [10] }), (1, { touch := [1], ro := false })]))))))))) .leaf))
def al3_0 : AN := .loop nm3_0 an3_0
noncomputable def d3_0 : Code := bodyAt Try.f3 [1, 1, 1, 1, 0, 1, 0, 0]
theorem e3_0 (fuel : Nat) {R : Type} (F : St → Option R) (k : AExit → St → Option R) : ∀ x : (Int × Int × (Int × ((List Int) × (List Int))) × (Int × ((List Int) × ((List Int) × ((List Bool) × (List Int)))))), runK R T (fns3 fuel) fuel [] (subsOf []) (partOf d3_0 an3_0) (fr3_0.st [1, 3, 4, 6] x) (backTo R [] nm3_0 F k) = s3_0 fuel (fun x => F (fr3_0.st [1, 3, 4, 6] x)) (fun y => k (.ret []) (fx3_0.st [2] y)) (fun y => k (.exit 0) (fx3_1.st [3, 4] y)) x := by
  rintro ⟨x4, x5, x6, x7⟩
  kernel_rfl
theorem u3_0 (fuel : Nat) {R : Type} (k : AExit → St → Option R) (x : (Int × Int × (Int × ((List Int) × (List Int))) × (Int × ((List Int) × ((List Int) × ((List Bool) × (List Int))))))) : runK R T (fns3 fuel) fuel [] (subsOf []) (partOf c3_0 al3_0) (fr3_0.st [1, 3, 4, 6] x) k = l3_0 fuel (fun y => k (.ret []) (fx3_0.st [2] y)) (fun y => k (.exit 0) (fx3_1.st [3, 4] y)) fuel x :=
  loop_eq (mk := fr3_0.st [1, 3, 4, 6]) (s := fun F x => s3_0 fuel F (fun y => k (.ret []) (fx3_0.st [2] y)) (fun y => k (.exit 0) (fx3_1.st [3, 4] y)) x) (l := fun n x => l3_0 fuel (fun y => k (.ret []) (fx3_0.st [2] y)) (fun y => k (.exit 0) (fx3_1.st [3, 4] y)) n x) (d := d3_0) (by kernel_rfl) (fun G x => by
    revert x
    rintro ⟨x4, x5, x6, x7⟩
    kernel_rfl) (fun F x => e3_0 fuel F k x) (fun _ => rfl) (fun _ _ => rfl) x
noncomputable def sub3_0 (fuel : Nat) (R : Type) : Sub R := Sub.of [1, 3, 4, 6] c3_0 fr3_0 fun x k => l3_0 fuel (fun y => k (.ret []) (fx3_0.st [2] y)) (fun y => k (.exit 0) (fx3_1.st [3, 4] y)) fuel x
theorem subOk3_0 (fuel : Nat) (R : Type) : SubOk P [] 215 (sub3_0 fuel R) :=
  subOk_part (fns := (fns3 fuel)) (fuel := fuel) (subs := (subsOf [])) (an := al3_0) T_ok (fnsOk3 fuel) mixed subsOk_nil (by kernel_rfl) (by kernel_rfl) fun _ _ _ _ h => Sub.of_run (fun (x : (Int × Int × (Int × ((List Int) × (List Int))) × (Int × ((List Int) × ((List Int) × ((List Bool) × (List Int))))))) k => u3_0 fuel k x) h
def fx3_2 : Fr := ⟨[.c (.ptr 0 0 []), .c (.ptr 1 0 []), .d true (.int .i64)], [.box (.d true (.pair (.int .u32) (.pair (.arr 64 (.int .i64)) (.pair (.arr 64 (.int .u32)) (.pair (.arr 12 (.bool)) (.arr 12 (.int .u32))))))), .box (.d true (.arr 64 (.int .u32)))], 16⟩
def fr3_1 : Fr := ⟨[.d true (.int .i64), .c (.ptr 0 0 []), .c (.ptr 1 0 []), .c (.slc 2 0), .d true (.int .i64), .d true (.int .i64)], [.box (.d true (.pair (.int .u32) (.pair (.arr 64 (.int .i64)) (.pair (.arr 64 (.int .u32)) (.pair (.arr 12 (.bool)) (.arr 12 (.int .u32))))))), .box (.d true (.arr 64 (.int .u32))), .arr 0 (.int .i64)], 15⟩
noncomputable def c3_1 : Code := bodyAt Try.f3 [1, 1, 1, 1, 1, 1, 0, 1, 0, 0, 1, 0, 0, 1, 1, 1, 0, 1, 0, 1, 0, 1, 0]
def s3_1 (fuel : Nat) {R : Type} (F : (Int × Int × Int × (Int × ((List Int) × ((List Int) × ((List Bool) × (List Int))))) × (List Int) × (List Int)) → Option R) (k0 : (Int × (Int × ((List Int) × ((List Int) × ((List Bool) × (List Int))))) × (List Int)) → Option R) : (Int × Int × Int × (Int × ((List Int) × ((List Int) × ((List Bool) × (List Int))))) × (List Int) × (List Int)) → Option R := fun (x32, x33, x34, x35, x36, x37) => (bif (decide (x34 < x32)) then (if 0 ≤ x34 ∧ x34 < ((List.length x37 : Nat) : Int) then (match (x37)[(Int.toNat x34)]? with | some y38 => (F (x32, (IntKind.wrap .i64 (x33 + y38)), (IntKind.wrap .i64 (x34 + (1 : Int))), x35, x36, x37)) | none => none) else none) else (k0 (x33, x35, x36)))
def l3_1 (fuel : Nat) {R : Type} (k0 : (Int × (Int × ((List Int) × ((List Int) × ((List Bool) × (List Int))))) × (List Int)) → Option R) : Nat → (Int × Int × Int × (Int × ((List Int) × ((List Int) × ((List Bool) × (List Int))))) × (List Int) × (List Int)) → Option R
  | 0, _ => none
  | n + 1, x => s3_1 fuel (l3_1 fuel k0 n) k0 x
def nm3_1 : Norm := ⟨[3, 4, 14, 16, 20, 21], padK 15 [some (0, 0), some (1, 0), some (2, 0)]⟩
def an3_1 : AN := (.seq (.seq .leaf (.cond .leaf (.norm ⟨[4, 14, 20], padK 16 [some (0, 0), some (1, 0)]⟩ .leaf))) (.seq (.block (.region [(3, { touch := [2] }), (4, { touch := [2] })])) .leaf))
def al3_1 : AN := .loop nm3_1 an3_1
noncomputable def d3_1 : Code := bodyAt Try.f3 [1, 1, 1, 1, 1, 1, 0, 1, 0, 0, 1, 0, 0, 1, 1, 1, 0, 1, 0, 1, 0, 1, 0, 0]
theorem e3_1 (fuel : Nat) {R : Type} (F : St → Option R) (k : AExit → St → Option R) : ∀ x : (Int × Int × Int × (Int × ((List Int) × ((List Int) × ((List Bool) × (List Int))))) × (List Int) × (List Int)), runK R T (fns3 fuel) fuel [] (subsOf [sub3_0 fuel R]) (partOf d3_1 an3_1) (fr3_1.st [3, 4, 14, 16, 20, 21] x) (backTo R [] nm3_1 F k) = s3_1 fuel (fun x => F (fr3_1.st [3, 4, 14, 16, 20, 21] x)) (fun y => k (.exit 4) (fx3_2.st [4, 14, 20] y)) x := by
  rintro ⟨x32, x33, x34, x35, x36, x37⟩
  kernel_rfl
theorem u3_1 (fuel : Nat) {R : Type} (k : AExit → St → Option R) (x : (Int × Int × Int × (Int × ((List Int) × ((List Int) × ((List Bool) × (List Int))))) × (List Int) × (List Int))) : runK R T (fns3 fuel) fuel [] (subsOf [sub3_0 fuel R]) (partOf c3_1 al3_1) (fr3_1.st [3, 4, 14, 16, 20, 21] x) k = l3_1 fuel (fun y => k (.exit 4) (fx3_2.st [4, 14, 20] y)) fuel x :=
  loop_eq (mk := fr3_1.st [3, 4, 14, 16, 20, 21]) (s := fun F x => s3_1 fuel F (fun y => k (.exit 4) (fx3_2.st [4, 14, 20] y)) x) (l := fun n x => l3_1 fuel (fun y => k (.exit 4) (fx3_2.st [4, 14, 20] y)) n x) (d := d3_1) (by kernel_rfl) (fun G x => by
    revert x
    rintro ⟨x32, x33, x34, x35, x36, x37⟩
    kernel_rfl) (fun F x => e3_1 fuel F k x) (fun _ => rfl) (fun _ _ => rfl) x
noncomputable def sub3_1 (fuel : Nat) (R : Type) : Sub R := Sub.of [3, 4, 14, 16, 20, 21] c3_1 fr3_1 fun x k => l3_1 fuel (fun y => k (.exit 4) (fx3_2.st [4, 14, 20] y)) fuel x
theorem subOk3_1 (fuel : Nat) (R : Type) : SubOk P [] 215 (sub3_1 fuel R) :=
  subOk_part (fns := (fns3 fuel)) (fuel := fuel) (subs := (subsOf [sub3_0 fuel R])) (an := al3_1) T_ok (fnsOk3 fuel) mixed (subsOk_cons (subOk3_0 fuel R) subsOk_nil) (by kernel_rfl) (by kernel_rfl) fun _ _ _ _ h => Sub.of_run (fun (x : (Int × Int × Int × (Int × ((List Int) × ((List Int) × ((List Bool) × (List Int))))) × (List Int) × (List Int))) k => u3_1 fuel k x) h
def fx3_3 : Fr := ⟨[.d true (.int .i64), .c (.ptr 0 0 []), .c (.ptr 1 0 []), .d true (.int .i64), .c (.slc 2 0), .c (.ptr 3 0 [])], [.box (.d true (.pair (.int .u32) (.pair (.arr 64 (.int .i64)) (.pair (.arr 64 (.int .u32)) (.pair (.arr 12 (.bool)) (.arr 12 (.int .u32))))))), .box (.d true (.arr 64 (.int .u32))), .arr 0 (.int .i64), .box (.d true (.pair (.int .i64) (.pair (.int .i64) (.pair (.int .i64) (.int .i64)))))], 14⟩
def fr3_2 : Fr := ⟨[.d true (.int .i64), .c (.ptr 0 0 []), .c (.ptr 1 0 []), .d true (.int .i64), .c (.slc 2 0), .c (.ptr 3 0 []), .d true (.bool)], [.box (.d true (.pair (.int .u32) (.pair (.arr 64 (.int .i64)) (.pair (.arr 64 (.int .u32)) (.pair (.arr 12 (.bool)) (.arr 12 (.int .u32))))))), .box (.d true (.arr 64 (.int .u32))), .arr 0 (.int .i64), .box (.d true (.pair (.int .i64) (.pair (.int .i64) (.pair (.int .i64) (.int .i64)))))], 14⟩
noncomputable def c3_2 : Code := bodyAt Try.f3 [1, 1, 1, 1, 1, 1, 0, 1, 0, 0, 1, 0, 0, 1, 1, 1, 0, 1]
def j3_2 (fuel : Nat) {R : Type} (k0 : Bool → Option R) (k1 : (Int × Int × (Int × ((List Int) × ((List Int) × ((List Bool) × (List Int))))) × (List Int) × (List Int) × (Int × (Int × (Int × Int)))) → Option R) : (Int × Int × Bool × (Int × ((List Int) × ((List Int) × ((List Bool) × (List Int))))) × (List Int) × (List Int) × (Int × (Int × (Int × Int)))) → Option R := fun (x25, x26, x27, x28, x29, x30, x31) => (bif x27 then (l3_1 fuel (fun (x39, x40, x41) => (bif (decide (x39 = (64 : Int))) then (k0 (Ty.eqB (.arr 64 (.int .u32)) x40.2.2.1 x41)) else (k0 false))) fuel (x25, (0 : Int), (0 : Int), x28, x29, x30)) else (k1 (x25, x26, x28, x29, x30, x31)))
def al3_2 : AN := (.fin ⟨[3, 4, 14, 15, 16, 17], padK 14 [some (0, 0), some (1, 0), some (2, 0), some (3, 0)]⟩ (.cond (.seq .leaf (.seq (.seq .leaf (.block (.hole ⟨[3, 4, 14, 16, 20, 21], padK 15 [some (0, 0), some (1, 0), some (2, 0)]⟩ 1))) (.seq (.region [(3, { touch := [0] }), (4, { touch := [0] }), (5, { touch := [1] })]) (.norm ⟨[2], padK 18 []⟩ (.ret []))))) .leaf))
theorem u3_2 (fuel : Nat) {R : Type} (k : AExit → St → Option R) : ∀ x : (Int × Int × Bool × (Int × ((List Int) × ((List Int) × ((List Bool) × (List Int))))) × (List Int) × (List Int) × (Int × (Int × (Int × Int)))), runK R T (fns3 fuel) fuel [] (subsOf [sub3_0 fuel R, sub3_1 fuel R]) (partOf c3_2 al3_2) (fr3_2.st [3, 4, 14, 15, 16, 17, 136] x) k = j3_2 fuel (fun y => k (.ret []) (fx3_0.st [2] y)) (fun y => k .normal (fx3_3.st [3, 4, 14, 15, 16, 17] y)) x := by
  rintro ⟨x25, x26, x27, x28, x29, x30, x31⟩
  kernel_rfl
noncomputable def sub3_2 (fuel : Nat) (R : Type) : Sub R := Sub.of [3, 4, 14, 15, 16, 17, 136] c3_2 fr3_2 fun x k => j3_2 fuel (fun y => k (.ret []) (fx3_0.st [2] y)) (fun y => k .normal (fx3_3.st [3, 4, 14, 15, 16, 17] y)) x
theorem subOk3_2 (fuel : Nat) (R : Type) : SubOk P [] 215 (sub3_2 fuel R) :=
  subOk_part (fns := (fns3 fuel)) (fuel := fuel) (subs := (subsOf [sub3_0 fuel R, sub3_1 fuel R])) (an := al3_2) T_ok (fnsOk3 fuel) mixed (subsOk_cons (subOk3_0 fuel R) (subsOk_cons (subOk3_1 fuel R) subsOk_nil)) (by kernel_rfl) (by kernel_rfl) fun _ _ _ _ h => Sub.of_run (fun (x : (Int × Int × Bool × (Int × ((List Int) × ((List Int) × ((List Bool) × (List Int))))) × (List Int) × (List Int) × (Int × (Int × (Int × Int))))) k => u3_2 fuel k x) h
def fx3_4 : Fr := ⟨[.d true (.int .i64), .c (.ptr 0 0 []), .c (.ptr 1 0 []), .d true (.int .i64), .c (.ptr 2 0 [])], [.box (.d true (.pair (.int .u32) (.pair (.arr 64 (.int .i64)) (.pair (.arr 64 (.int .u32)) (.pair (.arr 12 (.bool)) (.arr 12 (.int .u32))))))), .box (.d true (.arr 64 (.int .u32))), .box (.d true (.pair (.int .u32) (.pair (.arr 64 (.int .i64)) (.pair (.arr 64 (.int .u32)) (.pair (.arr 12 (.bool)) (.arr 12 (.int .u32)))))))], 15⟩
def fr3_3 : Fr := ⟨[.d true (.int .i64), .c (.ptr 0 0 []), .c (.ptr 1 0 []), .d true (.int .i64), .c (.slc 2 0), .c (.ptr 3 0 []), .c (.slc 4 0), .d true (.int .i64)], [.box (.d true (.pair (.int .u32) (.pair (.arr 64 (.int .i64)) (.pair (.arr 64 (.int .u32)) (.pair (.arr 12 (.bool)) (.arr 12 (.int .u32))))))), .box (.d true (.arr 64 (.int .u32))), .arr 0 (.int .i64), .box (.d true (.pair (.int .u32) (.pair (.arr 64 (.int .i64)) (.pair (.arr 64 (.int .u32)) (.pair (.arr 12 (.bool)) (.arr 12 (.int .u32))))))), .arr 0 (.int .i64)], 13⟩
noncomputable def c3_3 : Code := bodyAt Try.f3 [1, 1, 1, 1, 1, 1, 0, 1, 0, 0, 1, 0, 0, 1, 1, 1, 1, 1, 1, 1, 1, 1, 0, 1, 0]
def s3_3 (fuel : Nat) {R : Type} (F : (Int × Int × Int × (Int × ((List Int) × ((List Int) × ((List Bool) × (List Int))))) × (List Int) × (List Int) × (Int × ((List Int) × ((List Int) × ((List Bool) × (List Int))))) × (List Int)) → Option R) (k0 : Bool → Option R) (k1 : (Int × Int × (Int × ((List Int) × ((List Int) × ((List Bool) × (List Int))))) × (List Int) × (Int × ((List Int) × ((List Int) × ((List Bool) × (List Int)))))) → Option R) : (Int × Int × Int × (Int × ((List Int) × ((List Int) × ((List Bool) × (List Int))))) × (List Int) × (List Int) × (Int × ((List Int) × ((List Int) × ((List Bool) × (List Int))))) × (List Int)) → Option R := fun (x66, x67, x68, x69, x70, x71, x72, x73) => (bif (decide (x68 < x66)) then (if 0 ≤ x68 ∧ x68 < ((List.length x73 : Nat) : Int) then (match (x73)[(Int.toNat x68)]? with | some y74 => (if 0 ≤ x68 ∧ x68 < ((List.length x71 : Nat) : Int) then (match (x71)[(Int.toNat x68)]? with | some y75 => (bif (!decide (y74 = y75)) then (k0 false) else (if 0 ≤ x68 ∧ x68 < ((12 : Nat) : Int) then (match (x72.2.2.2.1)[(Int.toNat x68)]? with | some y76 => (bif (!y76) then (k0 false) else (F (x66, x67, (IntKind.wrap .i64 (x68 + (1 : Int))), x69, x70, x71, x72, x73))) | none => none) else none)) | none => none) else none) | none => none) else none) else (k1 (x66, x67, x69, x70, x72)))
def l3_3 (fuel : Nat) {R : Type} (k0 : Bool → Option R) (k1 : (Int × Int × (Int × ((List Int) × ((List Int) × ((List Bool) × (List Int))))) × (List Int) × (Int × ((List Int) × ((List Int) × ((List Bool) × (List Int)))))) → Option R) : Nat → (Int × Int × Int × (Int × ((List Int) × ((List Int) × ((List Bool) × (List Int))))) × (List Int) × (List Int) × (Int × ((List Int) × ((List Int) × ((List Bool) × (List Int))))) × (List Int)) → Option R
  | 0, _ => none
  | n + 1, x => s3_3 fuel (l3_3 fuel k0 k1 n) k0 k1 x
def nm3_3 : Norm := ⟨[3, 4, 14, 15, 22, 26, 28, 29], padK 13 [some (0, 0), some (1, 0), some (2, 0), some (3, 0), some (4, 0)]⟩
def an3_3 : AN := (.seq (.seq .leaf (.cond .leaf (.norm ⟨[3, 4, 14, 15, 26], padK 15 [some (0, 0), some (1, 0), some (3, 0)]⟩ .leaf))) (.seq (.block (.seq (.region [(2, { touch := [4] }), (3, { touch := [4] }), (6, { touch := [2] }), (7, { touch := [2] }), (11, { touch := [3] }), (12, { touch := [3] }), (13, { touch := [3] })]) (.cond (.seq .leaf (.norm ⟨[2], padK 18 []⟩ (.ret []))) .leaf))) .leaf))
def al3_3 : AN := .loop nm3_3 an3_3
noncomputable def d3_3 : Code := bodyAt Try.f3 [1, 1, 1, 1, 1, 1, 0, 1, 0, 0, 1, 0, 0, 1, 1, 1, 1, 1, 1, 1, 1, 1, 0, 1, 0, 0]
theorem e3_3 (fuel : Nat) {R : Type} (F : St → Option R) (k : AExit → St → Option R) : ∀ x : (Int × Int × Int × (Int × ((List Int) × ((List Int) × ((List Bool) × (List Int))))) × (List Int) × (List Int) × (Int × ((List Int) × ((List Int) × ((List Bool) × (List Int))))) × (List Int)), runK R T (fns3 fuel) fuel [] (subsOf [sub3_0 fuel R, sub3_1 fuel R, sub3_2 fuel R]) (partOf d3_3 an3_3) (fr3_3.st [3, 4, 14, 15, 22, 26, 28, 29] x) (backTo R [] nm3_3 F k) = s3_3 fuel (fun x => F (fr3_3.st [3, 4, 14, 15, 22, 26, 28, 29] x)) (fun y => k (.ret []) (fx3_0.st [2] y)) (fun y => k (.exit 6) (fx3_4.st [3, 4, 14, 15, 26] y)) x := by
  rintro ⟨x66, x67, x68, x69, x70, x71, x72, x73⟩
  kernel_rfl
theorem u3_3 (fuel : Nat) {R : Type} (k : AExit → St → Option R) (x : (Int × Int × Int × (Int × ((List Int) × ((List Int) × ((List Bool) × (List Int))))) × (List Int) × (List Int) × (Int × ((List Int) × ((List Int) × ((List Bool) × (List Int))))) × (List Int))) : runK R T (fns3 fuel) fuel [] (subsOf [sub3_0 fuel R, sub3_1 fuel R, sub3_2 fuel R]) (partOf c3_3 al3_3) (fr3_3.st [3, 4, 14, 15, 22, 26, 28, 29] x) k = l3_3 fuel (fun y => k (.ret []) (fx3_0.st [2] y)) (fun y => k (.exit 6) (fx3_4.st [3, 4, 14, 15, 26] y)) fuel x :=
  loop_eq (mk := fr3_3.st [3, 4, 14, 15, 22, 26, 28, 29]) (s := fun F x => s3_3 fuel F (fun y => k (.ret []) (fx3_0.st [2] y)) (fun y => k (.exit 6) (fx3_4.st [3, 4, 14, 15, 26] y)) x) (l := fun n x => l3_3 fuel (fun y => k (.ret []) (fx3_0.st [2] y)) (fun y => k (.exit 6) (fx3_4.st [3, 4, 14, 15, 26] y)) n x) (d := d3_3) (by kernel_rfl) (fun G x => by
    revert x
    rintro ⟨x66, x67, x68, x69, x70, x71, x72, x73⟩
    kernel_rfl) (fun F x => e3_3 fuel F k x) (fun _ => rfl) (fun _ _ => rfl) x
noncomputable def sub3_3 (fuel : Nat) (R : Type) : Sub R := Sub.of [3, 4, 14, 15, 22, 26, 28, 29] c3_3 fr3_3 fun x k => l3_3 fuel (fun y => k (.ret []) (fx3_0.st [2] y)) (fun y => k (.exit 6) (fx3_4.st [3, 4, 14, 15, 26] y)) fuel x
theorem subOk3_3 (fuel : Nat) (R : Type) : SubOk P [] 215 (sub3_3 fuel R) :=
  subOk_part (fns := (fns3 fuel)) (fuel := fuel) (subs := (subsOf [sub3_0 fuel R, sub3_1 fuel R, sub3_2 fuel R])) (an := al3_3) T_ok (fnsOk3 fuel) mixed (subsOk_cons (subOk3_0 fuel R) (subsOk_cons (subOk3_1 fuel R) (subsOk_cons (subOk3_2 fuel R) subsOk_nil))) (by kernel_rfl) (by kernel_rfl) fun _ _ _ _ h => Sub.of_run (fun (x : (Int × Int × Int × (Int × ((List Int) × ((List Int) × ((List Bool) × (List Int))))) × (List Int) × (List Int) × (Int × ((List Int) × ((List Int) × ((List Bool) × (List Int))))) × (List Int))) k => u3_3 fuel k x) h
def fx3_5 : Fr := ⟨[.d true (.int .i64), .c (.ptr 0 0 []), .c (.ptr 1 0 []), .d true (.int .i64)], [.box (.d true (.pair (.int .u32) (.pair (.arr 64 (.int .i64)) (.pair (.arr 64 (.int .u32)) (.pair (.arr 12 (.bool)) (.arr 12 (.int .u32))))))), .box (.d true (.arr 64 (.int .u32)))], 16⟩
def fr3_4 : Fr := ⟨[.d true (.int .i64), .c (.ptr 0 0 []), .c (.ptr 1 0 []), .d true (.int .i64), .c (.slc 2 0), .c (.ptr 3 0 [])], [.box (.d true (.pair (.int .u32) (.pair (.arr 64 (.int .i64)) (.pair (.arr 64 (.int .u32)) (.pair (.arr 12 (.bool)) (.arr 12 (.int .u32))))))), .box (.d true (.arr 64 (.int .u32))), .arr 0 (.int .i64), .box (.d true (.pair (.int .i64) (.pair (.int .i64) (.pair (.int .i64) (.int .i64)))))], 14⟩
noncomputable def c3_4 : Code := bodyAt Try.f3 [1, 1, 1, 1, 1, 1, 0, 1, 0, 0, 1, 0, 0, 1, 1, 1, 1]
noncomputable def j3_4 (fuel : Nat) {R : Type} (k0 : Bool → Option R) (k1 : (Int × Int × (Int × ((List Int) × ((List Int) × ((List Bool) × (List Int))))) × (List Int)) → Option R) : (Int × Int × (Int × ((List Int) × ((List Int) × ((List Bool) × (List Int))))) × (List Int) × (List Int) × (Int × (Int × (Int × Int)))) → Option R := fun (x56, x57, x58, x59, x60, x61) => (match p11 fuel (x60, x61) with | some z62 => (match p8 fuel (x58, x61, x56) with | some z63 => (match p9 fuel (x58, ((2 : Int), (x61.2.2.1, (x61.2.1, (z63.1, ((0 : Int), (0 : Int))))))) with | some z64 => (bif (!z63.2) then (k0 false) else (bif (!decide (z62.1 = (0 : Int))) then (k0 false) else (bif (!decide (z64.2 = (0 : Int))) then (k0 false) else (match p7 fuel (z64.1, x56) with | some z65 => (l3_3 fuel (fun x77 => (k0 x77)) (fun (x78, x79, x80, x81, x82) => (k1 (x78, x79, x82, x81))) fuel (x56, x57, (0 : Int), x58, x59, z62.2, z64.1, z65)) | none => none)))) | none => none) | none => none) | none => none)
def al3_4 : AN := (.fin ⟨[3, 4, 14, 15], padK 16 [some (0, 0), some (1, 0)]⟩ (.seq (.region [(1, { touch := [3] }), (2, { touch := [2, 14], base := 14, ro := false, fresh := 1, lend := [some (.slice (.int .i64)), none] })]) (.seq (.region [(0, { touch := [0] }), (1, { touch := [3] }), (7, { touch := [15], base := 15, ro := false }), (8, { touch := [15], ro := false })]) (.seq (.region [(0, { touch := [0] }), (1, { touch := [3] }), (2, { touch := [3] }), (3, { touch := [3] }), (4, { touch := [3] }), (5, { touch := [15] }), (11, { touch := [16], base := 16, ro := false }), (12, { touch := [16], ro := false })]) (.seq (.seq .leaf (.cond (.seq .leaf (.norm ⟨[2], padK 18 []⟩ (.ret []))) .leaf)) (.seq (.region [(0, { touch := [16] }), (2, { touch := [17], base := 17, ro := false, fresh := 1 })]) (.seq (.seq .leaf (.block (.hole ⟨[3, 4, 14, 15, 22, 26, 28, 29], padK 13 [some (0, 0), some (1, 0), some (14, 0), some (16, 0), some (17, 0)]⟩ 3))) (.region [(0, { touch := [2] }), (1, { touch := [0], ro := false })]))))))))
theorem u3_4 (fuel : Nat) {R : Type} (k : AExit → St → Option R) : ∀ x : (Int × Int × (Int × ((List Int) × ((List Int) × ((List Bool) × (List Int))))) × (List Int) × (List Int) × (Int × (Int × (Int × Int)))), runK R T (fns3 fuel) fuel [] (subsOf [sub3_0 fuel R, sub3_1 fuel R, sub3_2 fuel R, sub3_3 fuel R]) (partOf c3_4 al3_4) (fr3_4.st [3, 4, 14, 15, 16, 17] x) k = j3_4 fuel (fun y => k (.ret []) (fx3_0.st [2] y)) (fun y => k .normal (fx3_5.st [3, 4, 14, 15] y)) x := by
  rintro ⟨x56, x57, x58, x59, x60, x61⟩
  kernel_rfl
noncomputable def sub3_4 (fuel : Nat) (R : Type) : Sub R := Sub.of [3, 4, 14, 15, 16, 17] c3_4 fr3_4 fun x k => j3_4 fuel (fun y => k (.ret []) (fx3_0.st [2] y)) (fun y => k .normal (fx3_5.st [3, 4, 14, 15] y)) x
theorem subOk3_4 (fuel : Nat) (R : Type) : SubOk P [] 215 (sub3_4 fuel R) :=
  subOk_part (fns := (fns3 fuel)) (fuel := fuel) (subs := (subsOf [sub3_0 fuel R, sub3_1 fuel R, sub3_2 fuel R, sub3_3 fuel R])) (an := al3_4) T_ok (fnsOk3 fuel) mixed (subsOk_cons (subOk3_0 fuel R) (subsOk_cons (subOk3_1 fuel R) (subsOk_cons (subOk3_2 fuel R) (subsOk_cons (subOk3_3 fuel R) subsOk_nil)))) (by kernel_rfl) (by kernel_rfl) fun _ _ _ _ h => Sub.of_run (fun (x : (Int × Int × (Int × ((List Int) × ((List Int) × ((List Bool) × (List Int))))) × (List Int) × (List Int) × (Int × (Int × (Int × Int))))) k => u3_4 fuel k x) h
def fx3_6 : Fr := ⟨[], [], 18⟩
def fr3_5 : Fr := ⟨[.d true (.int .i64), .c (.ptr 0 0 []), .c (.ptr 1 0 []), .d true (.int .i64)], [.box (.d true (.pair (.int .u32) (.pair (.arr 64 (.int .i64)) (.pair (.arr 64 (.int .u32)) (.pair (.arr 12 (.bool)) (.arr 12 (.int .u32))))))), .box (.d true (.arr 64 (.int .u32)))], 16⟩
noncomputable def c3_5 : Code := bodyAt Try.f3 [1, 1, 1, 1, 1, 1, 0, 1, 0]
noncomputable def s3_5 (fuel : Nat) {R : Type} (F : (Int × Int × (Int × ((List Int) × ((List Int) × ((List Bool) × (List Int))))) × (List Int)) → Option R) (k0 : Bool → Option R) (k1 : Unit → Option R) : (Int × Int × (Int × ((List Int) × ((List Int) × ((List Bool) × (List Int))))) × (List Int)) → Option R := fun (x19, x20, x21, x22) => (bif (decide (x20 < (1600 : Int))) then (match p7 fuel (x21, x19) with | some z23 => (match p10 fuel z23 with | some z24 => (bif (!decide (z24.2.2 = (0 : Int))) then (k0 false) else (bif (!z24.2.1) then (j3_2 fuel (fun x42 => (k0 x42)) (fun (x43, x44, x45, x46, x47, x48) => (j3_4 fuel (fun x83 => (k0 x83)) (fun (x84, x85, x86, x87) => (F (x84, (IntKind.wrap .i64 (x85 + (1 : Int))), x86, x87))) (x43, x44, x45, x46, x47, x48))) (x19, x20, true, x21, x22, z23, z24.1)) else (j3_2 fuel (fun x49 => (k0 x49)) (fun (x50, x51, x52, x53, x54, x55) => (j3_4 fuel (fun x88 => (k0 x88)) (fun (x89, x90, x91, x92) => (F (x89, (IntKind.wrap .i64 (x90 + (1 : Int))), x91, x92))) (x50, x51, x52, x53, x54, x55))) (x19, x20, (!decide (z24.1.1 = (1 : Int))), x21, x22, z23, z24.1)))) | none => none) | none => none) else (k1 ()))
noncomputable def l3_5 (fuel : Nat) {R : Type} (k0 : Bool → Option R) (k1 : Unit → Option R) : Nat → (Int × Int × (Int × ((List Int) × ((List Int) × ((List Bool) × (List Int))))) × (List Int)) → Option R
  | 0, _ => none
  | n + 1, x => s3_5 fuel (l3_5 fuel k0 k1 n) k0 k1 x
def nm3_5 : Norm := ⟨[3, 4, 14, 15], padK 16 [some (0, 0), some (1, 0)]⟩
def an3_5 : AN := (.seq (.seq .leaf (.cond .leaf (.norm ⟨[], padK 18 []⟩ .leaf))) (.seq (.block (.seq (.region [(0, { touch := [0] }), (2, { touch := [12], base := 12, ro := false, fresh := 1 })]) (.seq (.region [(1, { touch := [12], lend := [some (.slice (.int .i64))] }), (6, { touch := [13], base := 13, ro := false }), (7, { touch := [13], ro := false })]) (.seq (.seq .leaf (.cond (.seq .leaf (.norm ⟨[2], padK 18 []⟩ (.ret []))) .leaf)) (.seq (.seq (.region [(3, { touch := [13] }), (4, { touch := [13] })]) (.hole ⟨[3, 4, 14, 15, 16, 17, 136], padK 14 [some (0, 0), some (1, 0), some (12, 0), some (13, 0)]⟩ 2)) (.hole ⟨[3, 4, 14, 15, 16, 17], padK 14 [some (0, 0), some (1, 0), some (2, 0), some (3, 0)]⟩ 4)))))) .leaf))
def al3_5 : AN := .loop nm3_5 an3_5
noncomputable def d3_5 : Code := bodyAt Try.f3 [1, 1, 1, 1, 1, 1, 0, 1, 0, 0]
theorem e3_5 (fuel : Nat) {R : Type} (F : St → Option R) (k : AExit → St → Option R) : ∀ x : (Int × Int × (Int × ((List Int) × ((List Int) × ((List Bool) × (List Int))))) × (List Int)), runK R T (fns3 fuel) fuel [] (subsOf [sub3_0 fuel R, sub3_1 fuel R, sub3_2 fuel R, sub3_3 fuel R, sub3_4 fuel R]) (partOf d3_5 an3_5) (fr3_5.st [3, 4, 14, 15] x) (backTo R [] nm3_5 F k) = s3_5 fuel (fun x => F (fr3_5.st [3, 4, 14, 15] x)) (fun y => k (.ret []) (fx3_0.st [2] y)) (fun y => k (.exit 2) (fx3_6.st [] y)) x := by
  rintro ⟨x19, x20, x21, x22⟩
  kernel_rfl
theorem u3_5 (fuel : Nat) {R : Type} (k : AExit → St → Option R) (x : (Int × Int × (Int × ((List Int) × ((List Int) × ((List Bool) × (List Int))))) × (List Int))) : runK R T (fns3 fuel) fuel [] (subsOf [sub3_0 fuel R, sub3_1 fuel R, sub3_2 fuel R, sub3_3 fuel R, sub3_4 fuel R]) (partOf c3_5 al3_5) (fr3_5.st [3, 4, 14, 15] x) k = l3_5 fuel (fun y => k (.ret []) (fx3_0.st [2] y)) (fun y => k (.exit 2) (fx3_6.st [] y)) fuel x :=
  loop_eq (mk := fr3_5.st [3, 4, 14, 15]) (s := fun F x => s3_5 fuel F (fun y => k (.ret []) (fx3_0.st [2] y)) (fun y => k (.exit 2) (fx3_6.st [] y)) x) (l := fun n x => l3_5 fuel (fun y => k (.ret []) (fx3_0.st [2] y)) (fun y => k (.exit 2) (fx3_6.st [] y)) n x) (d := d3_5) (by kernel_rfl) (fun G x => by
    revert x
    rintro ⟨x19, x20, x21, x22⟩
    kernel_rfl) (fun F x => e3_5 fuel F k x) (fun _ => rfl) (fun _ _ => rfl) x
noncomputable def sub3_5 (fuel : Nat) (R : Type) : Sub R := Sub.of [3, 4, 14, 15] c3_5 fr3_5 fun x k => l3_5 fuel (fun y => k (.ret []) (fx3_0.st [2] y)) (fun y => k (.exit 2) (fx3_6.st [] y)) fuel x
theorem subOk3_5 (fuel : Nat) (R : Type) : SubOk P [] 215 (sub3_5 fuel R) :=
  subOk_part (fns := (fns3 fuel)) (fuel := fuel) (subs := (subsOf [sub3_0 fuel R, sub3_1 fuel R, sub3_2 fuel R, sub3_3 fuel R, sub3_4 fuel R])) (an := al3_5) T_ok (fnsOk3 fuel) mixed (subsOk_cons (subOk3_0 fuel R) (subsOk_cons (subOk3_1 fuel R) (subsOk_cons (subOk3_2 fuel R) (subsOk_cons (subOk3_3 fuel R) (subsOk_cons (subOk3_4 fuel R) subsOk_nil))))) (by kernel_rfl) (by kernel_rfl) fun _ _ _ _ h => Sub.of_run (fun (x : (Int × Int × (Int × ((List Int) × ((List Int) × ((List Bool) × (List Int))))) × (List Int))) k => u3_5 fuel k x) h
def an3 : AN := (.seq (.region [(0, { touch := [5], base := 5, ro := false })]) (.seq (.region [(0, { touch := [5] }), (1, { touch := [5] })]) (.seq (.region [(5, { touch := [6], base := 6, ro := false }), (6, { touch := [6], ro := false })]) (.seq (.seq .leaf (.cond (.seq .leaf (.norm ⟨[2], padK 18 []⟩ (.ret []))) .leaf)) (.seq (.seq .leaf (.block (.hole ⟨[1, 3, 4, 6], padK 16 [some (5, 0), some (6, 0)]⟩ 0))) (.seq (.region [(0, { touch := [0] }), (1, { touch := [0] }), (2, { touch := [11], base := 11, ro := false }), (3, { touch := [11], ro := false })]) (.seq (.seq .leaf (.block (.hole ⟨[3, 4, 14, 15], padK 16 [some (0, 0), some (11, 0)]⟩ 5))) (.seq .leaf (.norm ⟨[2], padK 18 []⟩ (.ret []))))))))))
noncomputable def p3 (fuel : Nat) : (Int × ((List Int) × (List Int))) → Option Bool := fun x1 => (match p5 fuel (x1.1, (9 : Int)) with | some z2 => (match p6 fuel (IntKind.wrap .i64 ((4 : Int) + z2)) with | some z3 => (bif (!decide (z3.2 = (0 : Int))) then (some false) else (l3_0 fuel (fun x16 => (some x16)) (fun (x17, x18) => (l3_5 fuel (fun x93 => (some x93)) (fun _ => (some false)) fuel (x17, (0 : Int), x18, x18.2.2.1))) fuel ((IntKind.wrap .i64 ((4 : Int) + z2)), (0 : Int), x1, z3.1))) | none => none) | none => none)
noncomputable def F3 (fuel : Nat) : Fun := funOfA fi3 al3 (p3 fuel)
theorem run3 (fuel : Nat) : ∀ y : (Int × ((List Int) × (List Int))), runF Bool T (fns3 fuel) fuel (subsOf [sub3_0 fuel Bool, sub3_1 fuel Bool, sub3_2 fuel Bool, sub3_3 fuel Bool, sub3_4 fuel Bool, sub3_5 fuel Bool]) (defOf Try.f3 an3 18 [] []) (fi3.vs y) (fi3.os y) (altsDec al3) = p3 fuel y := by
  rintro x1
  kernel_rfl
theorem ok3 (fuel : Nat) : FunOk P 3 (funOfA fi3 al3 (p3 fuel)) :=
  funOfA_ok (subs := (subsOf [sub3_0 fuel Bool, sub3_1 fuel Bool, sub3_2 fuel Bool, sub3_3 fuel Bool, sub3_4 fuel Bool, sub3_5 fuel Bool])) (an := an3) (room := 18) (ks := []) (g0 := []) (fuel := fuel) T_ok (fnsOk3 fuel) mixed (fn := Try.f3) (by kernel_rfl) (by kernel_rfl) (subsOk_cons (subOk3_0 fuel _) (subsOk_cons (subOk3_1 fuel _) (subsOk_cons (subOk3_2 fuel _) (subsOk_cons (subOk3_3 fuel _) (subsOk_cons (subOk3_4 fuel _) (subsOk_cons (subOk3_5 fuel _) subsOk_nil)))))) (by kernel_rfl) (fun _ => ⟨by kernel_rfl, by kernel_rfl⟩) (run3 fuel)
end Go.Am.Ytioacppahkhbhaa
