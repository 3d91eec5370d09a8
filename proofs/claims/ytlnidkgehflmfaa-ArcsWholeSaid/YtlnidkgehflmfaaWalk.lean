/- Printed by gen2.py: functions as plain Lean functions, each with its equality with the machine run. -/
import Derived.Test.YtlnidkgehflmfaaProg
import Derived.Test.YtlnidkgehflmfaaAmZC
namespace Go.Am.Ytlnidkgehflmfaa
open Go.Proofs
noncomputable abbrev P : Program := Try.prog
noncomputable def td3 : TD := { und := .int .i64, size := 1, bytes := 8, zero := (.dat true (.int .i64) ((0 : Int) : Int)), cmp := true }
theorem tdOk3 : TdOk P 3 td3 := tdOk_of (i := infoAt P 3) (cs := cellsOfTD td3) (by kernel_rfl) (by kernel_rfl) (by kernel_rfl) (by kernel_rfl) (show P.underlying 3 = some (.int .i64) by kernel_rfl) (fun _ => ⟨by kernel_rfl, by kernel_rfl⟩)
noncomputable def td4 : TD := { und := .bool, size := 1, bytes := 1, zero := (.dat true (.bool) (false : Bool)), cmp := true }
theorem tdOk4 : TdOk P 4 td4 := tdOk_of (i := infoAt P 4) (cs := cellsOfTD td4) (by kernel_rfl) (by kernel_rfl) (by kernel_rfl) (by kernel_rfl) (show P.underlying 4 = some .bool by kernel_rfl) (fun _ => ⟨by kernel_rfl, by kernel_rfl⟩)
noncomputable def td23 : TD := { und := .struct [(0, 3), (1, 3)], size := 2, bytes := 16, zero := (.dat true (.pair (.int .i64) (.int .i64)) (((0 : Int), (0 : Int)) : (Int × Int))), cmp := true }
theorem tdOk23 : TdOk P 23 td23 := tdOk_of (i := infoAt P 23) (cs := cellsOfTD td23) (by kernel_rfl) (by kernel_rfl) (by kernel_rfl) (by kernel_rfl) (undStruct (fieldsAt P 23) (by kernel_rfl) (by kernel_rfl) (by kernel_rfl)) (fun _ => ⟨by kernel_rfl, by kernel_rfl⟩)
noncomputable def td24 : TD := { und := .int .i64, size := 1, bytes := 8, zero := (.dat true (.int .i64) ((0 : Int) : Int)), cmp := true }
theorem tdOk24 : TdOk P 24 td24 := tdOk_of (i := infoAt P 24) (cs := cellsOfTD td24) (by kernel_rfl) (by kernel_rfl) (by kernel_rfl) (by kernel_rfl) (show P.underlying 24 = some (.int .i64) by kernel_rfl) (fun _ => ⟨by kernel_rfl, by kernel_rfl⟩)
noncomputable def td31 : TD := { und := .slice 3, size := 1, bytes := 24, zero := .nils, cmp := false }
theorem tdOk31 : TdOk P 31 td31 := tdOk_of (i := infoAt P 31) (cs := cellsOfTD td31) (by kernel_rfl) (by kernel_rfl) (by kernel_rfl) (by kernel_rfl) (show P.underlying 31 = some (.slice 3) by kernel_rfl) (fun h => by cases h)
noncomputable def td37 : TD := { und := .arr 64 4, size := 64, bytes := 64, zero := (.dat true (.arr 64 (.bool)) ((List.replicate 64 false) : (List Bool))), cmp := true }
theorem tdOk37 : TdOk P 37 td37 := tdOk_of (i := infoAt P 37) (cs := cellsOfTD td37) (by kernel_rfl) (by kernel_rfl) (by kernel_rfl) (by kernel_rfl) (show P.underlying 37 = some (.array 64 4) by kernel_rfl) (fun _ => ⟨by kernel_rfl, by kernel_rfl⟩)
noncomputable def td39 : TD := { und := .slice 23, size := 1, bytes := 24, zero := .nils, cmp := false }
theorem tdOk39 : TdOk P 39 td39 := tdOk_of (i := infoAt P 39) (cs := cellsOfTD td39) (by kernel_rfl) (by kernel_rfl) (by kernel_rfl) (by kernel_rfl) (show P.underlying 39 = some (.slice 23) by kernel_rfl) (fun h => by cases h)
noncomputable def td43 : TD := { und := .int .u64, size := 1, bytes := 8, zero := (.dat true (.int .u64) ((0 : Int) : Int)), cmp := true }
theorem tdOk43 : TdOk P 43 td43 := tdOk_of (i := infoAt P 43) (cs := cellsOfTD td43) (by kernel_rfl) (by kernel_rfl) (by kernel_rfl) (by kernel_rfl) (show P.underlying 43 = some (.int .u64) by kernel_rfl) (fun _ => ⟨by kernel_rfl, by kernel_rfl⟩)
noncomputable def td45 : TD := { und := .struct [(0, 43), (1, 43)], size := 2, bytes := 16, zero := (.dat true (.pair (.int .u64) (.int .u64)) (((0 : Int), (0 : Int)) : (Int × Int))), cmp := true }
theorem tdOk45 : TdOk P 45 td45 := tdOk_of (i := infoAt P 45) (cs := cellsOfTD td45) (by kernel_rfl) (by kernel_rfl) (by kernel_rfl) (by kernel_rfl) (undStruct (fieldsAt P 45) (by kernel_rfl) (by kernel_rfl) (by kernel_rfl)) (fun _ => ⟨by kernel_rfl, by kernel_rfl⟩)
noncomputable def T : Tbl := tblOf [(3, td3), (4, td4), (23, td23), (24, td24), (31, td31), (37, td37), (39, td39), (43, td43), (45, td45)]
theorem T_ok : TblOk P T := (tblOk_cons tdOk3 (tblOk_cons tdOk4 (tblOk_cons tdOk23 (tblOk_cons tdOk24 (tblOk_cons tdOk31 (tblOk_cons tdOk37 (tblOk_cons tdOk39 (tblOk_cons tdOk43 (tblOk_cons tdOk45 tblOk_nil)))))))))
theorem mixed : P.follows .mixedOrders = true := by kernel_rfl

-- f18: tontine/arcs.Right
def fns18 (fuel : Nat) : Fns := fnsOf []
theorem fnsOk18 (fuel : Nat) : FnsOk P (fns18 fuel) := fnsOk_nil
def fi18 : Fr := ⟨[.d false (.pair (.int .i64) (.int .i64))], [], 0⟩
def al18 : List (Tm × List To) := [(.d true (.bool), [])]
def an18 : AN := (.seq (.region [(0, { touch := [0], ro := false })]) (.seq (.region [(0, { touch := [0] }), (1, { touch := [0] }), (4, { touch := [0] }), (5, { touch := [0] }), (9, { touch := [0] }), (10, { touch := [0] }), (14, { touch := [0] }), (15, { touch := [0] })]) (.norm ⟨[2], padK 1 []⟩ (.ret []))))
def p18 (fuel : Nat) : (Int × Int) → Option Bool := fun x1 => (bif (decide ((0 : Int) ≤ x1.1)) then (bif (decide (x1.1 < (64 : Int))) then (bif (decide ((0 : Int) ≤ x1.2)) then (some (decide (x1.2 ≤ (64 : Int)))) else (some false)) else (some false)) else (some false))
def F18 (fuel : Nat) : Fun := funOfA fi18 al18 (p18 fuel)
theorem run18 (fuel : Nat) : ∀ y : (Int × Int), runF Bool T (fns18 fuel) fuel (subsOf []) (defOf Try.f18 an18 1 [] []) (fi18.vs y) (fi18.os y) (altsDec al18) = p18 fuel y := by
  rintro x1
  kernel_rfl
theorem ok18 (fuel : Nat) : FunOk P 18 (F18 fuel) :=
  funOfA_ok (subs := (subsOf [])) (an := an18) (room := 1) (ks := []) (g0 := []) (fuel := fuel) T_ok (fnsOk18 fuel) mixed (fn := Try.f18) (by kernel_rfl) (by kernel_rfl) subsOk_nil (by kernel_rfl) (fun _ => ⟨by kernel_rfl, by kernel_rfl⟩) (run18 fuel)

-- f10: tontine/arcs.Split
def fns10 (fuel : Nat) : Fns := fnsOf [(18, F18 fuel)]
theorem fnsOk10 (fuel : Nat) : FnsOk P (fns10 fuel) := (fnsOk_cons (ok18 fuel) fnsOk_nil)
def fi10 : Fr := ⟨[.d false (.pair (.int .i64) (.int .i64)), .d false (.int .i64)], [], 0⟩
def al10 : List (Tm × List To) := [(.tup (.cons (.d true (.pair (.int .i64) (.int .i64))) (.cons (.d true (.pair (.int .i64) (.int .i64))) (.cons (.d true (.int .i64)) (.c .nil)))), [])]
def fx10_0 : Fr := ⟨[.c (.ptr 0 0 []), .c (.ptr 1 0 []), .d true (.int .i64)], [.box (.d true (.pair (.int .i64) (.int .i64))), .box (.d true (.pair (.int .i64) (.int .i64)))], 4⟩
def fx10_1 : Fr := ⟨[.d true (.int .i64), .c (.ptr 0 0 []), .c (.ptr 1 0 []), .c (.ptr 2 0 [])], [.box (.d true (.pair (.int .i64) (.int .i64))), .box (.d true (.pair (.int .i64) (.int .i64))), .box (.d true (.pair (.int .i64) (.int .i64)))], 3⟩
def fr10_0 : Fr := ⟨[.d true (.int .i64), .c (.ptr 0 0 []), .c (.ptr 1 0 []), .c (.ptr 2 0 []), .d true (.bool)], [.box (.d true (.pair (.int .i64) (.int .i64))), .box (.d true (.pair (.int .i64) (.int .i64))), .box (.d true (.pair (.int .i64) (.int .i64)))], 3⟩
noncomputable def c10_0 : Code := bodyAt Try.f10 [1, 0, 1]
def j10_0 (fuel : Nat) {R : Type} (k0 : (Int × (Int × Int) × (Int × Int)) → Option R) (k1 : (Int × (Int × Int) × (Int × Int) × (Int × Int)) → Option R) : (Int × Bool × (Int × Int) × (Int × Int) × (Int × Int)) → Option R := fun (x4, x5, x6, x7, x8) => (bif x5 then (k0 ((21 : Int), ((0 : Int), (0 : Int)), ((0 : Int), (0 : Int)))) else (k1 (x4, x6, x7, x8)))
def al10_0 : AN := (.fin ⟨[1, 2, 4, 5], padK 3 [some (0, 0), some (1, 0), some (2, 0)]⟩ (.cond (.seq (.region [(2, { touch := [1], ro := false }), (3, { touch := [2], ro := false })]) (.norm ⟨[4, 5, 6], padK 4 [some (1, 0), some (2, 0)]⟩ (.ret []))) .leaf))
theorem u10_0 (fuel : Nat) {R : Type} (k : AExit → St → Option R) : ∀ x : (Int × Bool × (Int × Int) × (Int × Int) × (Int × Int)), runK R T (fns10 fuel) fuel [] (subsOf []) (partOf c10_0 al10_0) (fr10_0.st [1, 2, 4, 5, 19] x) k = j10_0 fuel (fun y => k (.ret []) (fx10_0.st [4, 5, 6] y)) (fun y => k .normal (fx10_1.st [1, 2, 4, 5] y)) x := by
  rintro ⟨x4, x5, x6, x7, x8⟩
  kernel_rfl
noncomputable def sub10_0 (fuel : Nat) (R : Type) : Sub R := Sub.of [1, 2, 4, 5, 19] c10_0 fr10_0 fun x k => j10_0 fuel (fun y => k (.ret []) (fx10_0.st [4, 5, 6] y)) (fun y => k .normal (fx10_1.st [1, 2, 4, 5] y)) x
theorem subOk10_0 (fuel : Nat) (R : Type) : SubOk P [] 36 (sub10_0 fuel R) :=
  subOk_part (fns := fns10 fuel) (fuel := fuel) (subs := (subsOf [])) (an := al10_0) T_ok (fnsOk10 fuel) mixed subsOk_nil (by kernel_rfl) (by kernel_rfl) fun _ _ _ _ h => Sub.of_run (fun (x : (Int × Bool × (Int × Int) × (Int × Int) × (Int × Int))) k => u10_0 fuel k x) h
def fr10_1 : Fr := ⟨[.d true (.int .i64), .c (.ptr 0 0 []), .c (.ptr 1 0 []), .c (.ptr 2 0 [])], [.box (.d true (.pair (.int .i64) (.int .i64))), .box (.d true (.pair (.int .i64) (.int .i64))), .box (.d true (.pair (.int .i64) (.int .i64)))], 3⟩
noncomputable def c10_1 : Code := bodyAt Try.f10 [1, 1]
def j10_1 (fuel : Nat) {R : Type} (k0 : (Int × (Int × Int) × (Int × Int)) → Option R) : (Int × (Int × Int) × (Int × Int) × (Int × Int)) → Option R := fun (x30, x31, _, _) => (k0 ((0 : Int), (x31.1, x30), ((Int.tmod (IntKind.wrap .i64 (x31.1 + x30)) (64 : Int)), (IntKind.wrap .i64 (x31.2 - x30)))))
def al10_1 : AN := (.seq (.region [(0, { touch := [0] }), (1, { touch := [0] }), (4, { touch := [0] }), (5, { touch := [0] }), (9, { touch := [0] }), (10, { touch := [0] }), (14, { touch := [1], ro := false }), (15, { touch := [2], ro := false })]) (.norm ⟨[4, 5, 6], padK 4 [some (1, 0), some (2, 0)]⟩ (.ret [])))
theorem u10_1 (fuel : Nat) {R : Type} (k : AExit → St → Option R) : ∀ x : (Int × (Int × Int) × (Int × Int) × (Int × Int)), runK R T (fns10 fuel) fuel [] (subsOf [sub10_0 fuel R]) (partOf c10_1 al10_1) (fr10_1.st [1, 2, 4, 5] x) k = j10_1 fuel (fun y => k (.ret []) (fx10_0.st [4, 5, 6] y)) x := by
  rintro ⟨x30, x31, x32, x33⟩
  kernel_rfl
noncomputable def sub10_1 (fuel : Nat) (R : Type) : Sub R := Sub.of [1, 2, 4, 5] c10_1 fr10_1 fun x k => j10_1 fuel (fun y => k (.ret []) (fx10_0.st [4, 5, 6] y)) x
theorem subOk10_1 (fuel : Nat) (R : Type) : SubOk P [] 36 (sub10_1 fuel R) :=
  subOk_part (fns := fns10 fuel) (fuel := fuel) (subs := (subsOf [sub10_0 fuel R])) (an := al10_1) T_ok (fnsOk10 fuel) mixed (subsOk_cons (subOk10_0 fuel R) subsOk_nil) (by kernel_rfl) (by kernel_rfl) fun _ _ _ _ h => Sub.of_run (fun (x : (Int × (Int × Int) × (Int × Int) × (Int × Int))) k => u10_1 fuel k x) h
def an10 : AN := (.seq (.region [(0, { touch := [3], base := 3, ro := false }), (1, { touch := [4], base := 4, ro := false }), (2, { touch := [5], base := 5, ro := false })]) (.seq (.seq (.region [(0, { touch := [3] }), (9, { touch := [3] }), (10, { touch := [3] })]) (.hole ⟨[1, 2, 4, 5, 19], padK 3 [some (3, 0), some (4, 0), some (5, 0)]⟩ 0)) (.hole ⟨[1, 2, 4, 5], padK 3 [some (0, 0), some (1, 0), some (2, 0)]⟩ 1)))
def p10 (fuel : Nat) : ((Int × Int) × Int) → Option ((Int × Int) × (Int × Int) × Int) := fun (x1, x2) => (match p18 fuel x1 with | some z3 => (bif (!z3) then (j10_0 fuel (fun (x9, x10, x11) => (some (x10, x11, x9))) (fun (x12, x13, x14, x15) => (j10_1 fuel (fun (x34, x35, x36) => (some (x35, x36, x34))) (x12, x13, x14, x15))) (x2, true, x1, ((0 : Int), (0 : Int)), ((0 : Int), (0 : Int)))) else (bif (decide (x2 < (0 : Int))) then (j10_0 fuel (fun (x16, x17, x18) => (some (x17, x18, x16))) (fun (x19, x20, x21, x22) => (j10_1 fuel (fun (x37, x38, x39) => (some (x38, x39, x37))) (x19, x20, x21, x22))) (x2, true, x1, ((0 : Int), (0 : Int)), ((0 : Int), (0 : Int)))) else (j10_0 fuel (fun (x23, x24, x25) => (some (x24, x25, x23))) (fun (x26, x27, x28, x29) => (j10_1 fuel (fun (x40, x41, x42) => (some (x41, x42, x40))) (x26, x27, x28, x29))) (x2, (decide (x1.2 < x2)), x1, ((0 : Int), (0 : Int)), ((0 : Int), (0 : Int)))))) | none => none)
def F10 (fuel : Nat) : Fun := funOfA fi10 al10 (p10 fuel)
theorem run10 (fuel : Nat) : ∀ y : ((Int × Int) × Int), runF ((Int × Int) × (Int × Int) × Int) T (fns10 fuel) fuel (subsOf [sub10_0 fuel ((Int × Int) × (Int × Int) × Int), sub10_1 fuel ((Int × Int) × (Int × Int) × Int)]) (defOf Try.f10 an10 6 [] []) (fi10.vs y) (fi10.os y) (altsDec al10) = p10 fuel y := by
  rintro ⟨x1, x2⟩
  kernel_rfl
theorem ok10 (fuel : Nat) : FunOk P 10 (F10 fuel) :=
  funOfA_ok (subs := (subsOf [sub10_0 fuel ((Int × Int) × (Int × Int) × Int), sub10_1 fuel ((Int × Int) × (Int × Int) × Int)])) (an := an10) (room := 6) (ks := []) (g0 := []) (fuel := fuel) T_ok (fnsOk10 fuel) mixed (fn := Try.f10) (by kernel_rfl) (by kernel_rfl) (subsOk_cons (subOk10_0 fuel _) (subsOk_cons (subOk10_1 fuel _) subsOk_nil)) (by kernel_rfl) (fun _ => ⟨by kernel_rfl, by kernel_rfl⟩) (run10 fuel)

-- f19: tontine/tontineref02.Right
def fns19 (fuel : Nat) : Fns := fnsOf []
theorem fnsOk19 (fuel : Nat) : FnsOk P (fns19 fuel) := fnsOk_nil
def fi19 : Fr := ⟨[.d false (.pair (.int .i64) (.int .i64))], [], 0⟩
def al19 : List (Tm × List To) := [(.d true (.bool), [])]
def an19 : AN := (.seq (.region [(0, { touch := [0], ro := false })]) (.seq (.region [(0, { touch := [0] }), (1, { touch := [0] }), (4, { touch := [0] }), (5, { touch := [0] }), (9, { touch := [0] }), (10, { touch := [0] }), (14, { touch := [0] }), (15, { touch := [0] })]) (.norm ⟨[2], padK 1 []⟩ (.ret []))))
def p19 (fuel : Nat) : (Int × Int) → Option Bool := fun x1 => (bif (decide ((0 : Int) ≤ x1.1)) then (bif (decide (x1.1 < (64 : Int))) then (bif (decide ((0 : Int) ≤ x1.2)) then (some (decide (x1.2 ≤ (64 : Int)))) else (some false)) else (some false)) else (some false))
def F19 (fuel : Nat) : Fun := funOfA fi19 al19 (p19 fuel)
theorem run19 (fuel : Nat) : ∀ y : (Int × Int), runF Bool T (fns19 fuel) fuel (subsOf []) (defOf Try.f19 an19 1 [] []) (fi19.vs y) (fi19.os y) (altsDec al19) = p19 fuel y := by
  rintro x1
  kernel_rfl
theorem ok19 (fuel : Nat) : FunOk P 19 (F19 fuel) :=
  funOfA_ok (subs := (subsOf [])) (an := an19) (room := 1) (ks := []) (g0 := []) (fuel := fuel) T_ok (fnsOk19 fuel) mixed (fn := Try.f19) (by kernel_rfl) (by kernel_rfl) subsOk_nil (by kernel_rfl) (fun _ => ⟨by kernel_rfl, by kernel_rfl⟩) (run19 fuel)

-- f11: tontine/tontineref02.Split
def fns11 (fuel : Nat) : Fns := fnsOf [(19, F19 fuel)]
theorem fnsOk11 (fuel : Nat) : FnsOk P (fns11 fuel) := (fnsOk_cons (ok19 fuel) fnsOk_nil)
def fi11 : Fr := ⟨[.d false (.pair (.int .i64) (.int .i64)), .d false (.int .i64)], [], 0⟩
def al11 : List (Tm × List To) := [(.tup (.cons (.d true (.pair (.int .i64) (.int .i64))) (.cons (.d true (.pair (.int .i64) (.int .i64))) (.cons (.d true (.int .i64)) (.c .nil)))), [])]
def fx11_0 : Fr := ⟨[.c (.ptr 0 0 []), .c (.ptr 1 0 []), .d true (.int .i64)], [.box (.d true (.pair (.int .i64) (.int .i64))), .box (.d true (.pair (.int .i64) (.int .i64)))], 4⟩
def fx11_1 : Fr := ⟨[.d true (.int .i64), .c (.ptr 0 0 []), .c (.ptr 1 0 []), .c (.ptr 2 0 [])], [.box (.d true (.pair (.int .i64) (.int .i64))), .box (.d true (.pair (.int .i64) (.int .i64))), .box (.d true (.pair (.int .i64) (.int .i64)))], 3⟩
def fr11_0 : Fr := ⟨[.d true (.int .i64), .c (.ptr 0 0 []), .c (.ptr 1 0 []), .c (.ptr 2 0 []), .d true (.bool)], [.box (.d true (.pair (.int .i64) (.int .i64))), .box (.d true (.pair (.int .i64) (.int .i64))), .box (.d true (.pair (.int .i64) (.int .i64)))], 3⟩
noncomputable def c11_0 : Code := bodyAt Try.f11 [1, 1, 0, 1]
def j11_0 (fuel : Nat) {R : Type} (k0 : (Int × (Int × Int) × (Int × Int)) → Option R) (k1 : (Int × (Int × Int) × (Int × Int) × (Int × Int)) → Option R) : (Int × Bool × (Int × Int) × (Int × Int) × (Int × Int)) → Option R := fun (x4, x5, x6, x7, x8) => (bif x5 then (k0 ((21 : Int), ((0 : Int), (0 : Int)), ((0 : Int), (0 : Int)))) else (k1 (x4, x6, x7, x8)))
def al11_0 : AN := (.fin ⟨[1, 2, 4, 5], padK 3 [some (0, 0), some (1, 0), some (2, 0)]⟩ (.cond (.seq (.region [(2, { touch := [1], ro := false }), (3, { touch := [2], ro := false })]) (.norm ⟨[4, 5, 6], padK 4 [some (1, 0), some (2, 0)]⟩ (.ret []))) .leaf))
theorem u11_0 (fuel : Nat) {R : Type} (k : AExit → St → Option R) : ∀ x : (Int × Bool × (Int × Int) × (Int × Int) × (Int × Int)), runK R T (fns11 fuel) fuel [] (subsOf []) (partOf c11_0 al11_0) (fr11_0.st [1, 2, 4, 5, 21] x) k = j11_0 fuel (fun y => k (.ret []) (fx11_0.st [4, 5, 6] y)) (fun y => k .normal (fx11_1.st [1, 2, 4, 5] y)) x := by
  rintro ⟨x4, x5, x6, x7, x8⟩
  kernel_rfl
noncomputable def sub11_0 (fuel : Nat) (R : Type) : Sub R := Sub.of [1, 2, 4, 5, 21] c11_0 fr11_0 fun x k => j11_0 fuel (fun y => k (.ret []) (fx11_0.st [4, 5, 6] y)) (fun y => k .normal (fx11_1.st [1, 2, 4, 5] y)) x
theorem subOk11_0 (fuel : Nat) (R : Type) : SubOk P [] 38 (sub11_0 fuel R) :=
  subOk_part (fns := fns11 fuel) (fuel := fuel) (subs := (subsOf [])) (an := al11_0) T_ok (fnsOk11 fuel) mixed subsOk_nil (by kernel_rfl) (by kernel_rfl) fun _ _ _ _ h => Sub.of_run (fun (x : (Int × Bool × (Int × Int) × (Int × Int) × (Int × Int))) k => u11_0 fuel k x) h
def fr11_1 : Fr := ⟨[.d true (.int .i64), .c (.ptr 0 0 []), .c (.ptr 1 0 []), .c (.ptr 2 0 [])], [.box (.d true (.pair (.int .i64) (.int .i64))), .box (.d true (.pair (.int .i64) (.int .i64))), .box (.d true (.pair (.int .i64) (.int .i64)))], 3⟩
noncomputable def c11_1 : Code := bodyAt Try.f11 [1, 1, 1]
def j11_1 (fuel : Nat) {R : Type} (k0 : (Int × (Int × Int) × (Int × Int)) → Option R) : (Int × (Int × Int) × (Int × Int) × (Int × Int)) → Option R := fun (x30, x31, _, _) => (k0 ((0 : Int), (x31.1, x30), ((Int.tmod (IntKind.wrap .i64 (x31.1 + x30)) (64 : Int)), (IntKind.wrap .i64 (x31.2 - x30)))))
def al11_1 : AN := (.seq (.region [(0, { touch := [0] }), (1, { touch := [0] }), (4, { touch := [0] }), (5, { touch := [0] }), (9, { touch := [0] }), (10, { touch := [0] }), (14, { touch := [1], ro := false }), (15, { touch := [2], ro := false })]) (.norm ⟨[4, 5, 6], padK 4 [some (1, 0), some (2, 0)]⟩ (.ret [])))
theorem u11_1 (fuel : Nat) {R : Type} (k : AExit → St → Option R) : ∀ x : (Int × (Int × Int) × (Int × Int) × (Int × Int)), runK R T (fns11 fuel) fuel [] (subsOf [sub11_0 fuel R]) (partOf c11_1 al11_1) (fr11_1.st [1, 2, 4, 5] x) k = j11_1 fuel (fun y => k (.ret []) (fx11_0.st [4, 5, 6] y)) x := by
  rintro ⟨x30, x31, x32, x33⟩
  kernel_rfl
noncomputable def sub11_1 (fuel : Nat) (R : Type) : Sub R := Sub.of [1, 2, 4, 5] c11_1 fr11_1 fun x k => j11_1 fuel (fun y => k (.ret []) (fx11_0.st [4, 5, 6] y)) x
theorem subOk11_1 (fuel : Nat) (R : Type) : SubOk P [] 38 (sub11_1 fuel R) :=
  subOk_part (fns := fns11 fuel) (fuel := fuel) (subs := (subsOf [sub11_0 fuel R])) (an := al11_1) T_ok (fnsOk11 fuel) mixed (subsOk_cons (subOk11_0 fuel R) subsOk_nil) (by kernel_rfl) (by kernel_rfl) fun _ _ _ _ h => Sub.of_run (fun (x : (Int × (Int × Int) × (Int × Int) × (Int × Int))) k => u11_1 fuel k x) h
def an11 : AN := (.seq (.region [(0, { touch := [3], base := 3, ro := false }), (1, { touch := [4], base := 4, ro := false }), (2, { touch := [5], base := 5, ro := false })]) (.seq (.region [(0, { touch := [3] })]) (.seq (.seq (.region [(8, { touch := [3] }), (9, { touch := [3] })]) (.hole ⟨[1, 2, 4, 5, 21], padK 3 [some (3, 0), some (4, 0), some (5, 0)]⟩ 0)) (.hole ⟨[1, 2, 4, 5], padK 3 [some (0, 0), some (1, 0), some (2, 0)]⟩ 1))))
def p11 (fuel : Nat) : ((Int × Int) × Int) → Option ((Int × Int) × (Int × Int) × Int) := fun (x1, x2) => (match p19 fuel x1 with | some z3 => (bif (!z3) then (j11_0 fuel (fun (x9, x10, x11) => (some (x10, x11, x9))) (fun (x12, x13, x14, x15) => (j11_1 fuel (fun (x34, x35, x36) => (some (x35, x36, x34))) (x12, x13, x14, x15))) (x2, true, x1, ((0 : Int), (0 : Int)), ((0 : Int), (0 : Int)))) else (bif (decide (x2 < (0 : Int))) then (j11_0 fuel (fun (x16, x17, x18) => (some (x17, x18, x16))) (fun (x19, x20, x21, x22) => (j11_1 fuel (fun (x37, x38, x39) => (some (x38, x39, x37))) (x19, x20, x21, x22))) (x2, true, x1, ((0 : Int), (0 : Int)), ((0 : Int), (0 : Int)))) else (j11_0 fuel (fun (x23, x24, x25) => (some (x24, x25, x23))) (fun (x26, x27, x28, x29) => (j11_1 fuel (fun (x40, x41, x42) => (some (x41, x42, x40))) (x26, x27, x28, x29))) (x2, (decide (x1.2 < x2)), x1, ((0 : Int), (0 : Int)), ((0 : Int), (0 : Int)))))) | none => none)
def F11 (fuel : Nat) : Fun := funOfA fi11 al11 (p11 fuel)
theorem run11 (fuel : Nat) : ∀ y : ((Int × Int) × Int), runF ((Int × Int) × (Int × Int) × Int) T (fns11 fuel) fuel (subsOf [sub11_0 fuel ((Int × Int) × (Int × Int) × Int), sub11_1 fuel ((Int × Int) × (Int × Int) × Int)]) (defOf Try.f11 an11 6 [] []) (fi11.vs y) (fi11.os y) (altsDec al11) = p11 fuel y := by
  rintro ⟨x1, x2⟩
  kernel_rfl
theorem ok11 (fuel : Nat) : FunOk P 11 (F11 fuel) :=
  funOfA_ok (subs := (subsOf [sub11_0 fuel ((Int × Int) × (Int × Int) × Int), sub11_1 fuel ((Int × Int) × (Int × Int) × Int)])) (an := an11) (room := 6) (ks := []) (g0 := []) (fuel := fuel) T_ok (fnsOk11 fuel) mixed (fn := Try.f11) (by kernel_rfl) (by kernel_rfl) (subsOk_cons (subOk11_0 fuel _) (subsOk_cons (subOk11_1 fuel _) subsOk_nil)) (by kernel_rfl) (fun _ => ⟨by kernel_rfl, by kernel_rfl⟩) (run11 fuel)

-- f12: tontine/arcs.Join
def fns12 (fuel : Nat) : Fns := fnsOf [(18, F18 fuel)]
theorem fnsOk12 (fuel : Nat) : FnsOk P (fns12 fuel) := (fnsOk_cons (ok18 fuel) fnsOk_nil)
def fi12 : Fr := ⟨[.d false (.pair (.int .i64) (.int .i64)), .d false (.pair (.int .i64) (.int .i64))], [], 0⟩
def al12 : List (Tm × List To) := [(.tup (.cons (.d true (.pair (.int .i64) (.int .i64))) (.cons (.d true (.int .i64)) (.c .nil))), [])]
def fx12_0 : Fr := ⟨[.c (.ptr 0 0 []), .d true (.int .i64)], [.box (.d true (.pair (.int .i64) (.int .i64)))], 5⟩
def fx12_1 : Fr := ⟨[.c (.ptr 0 0 []), .c (.ptr 1 0 []), .c (.ptr 2 0 [])], [.box (.d true (.pair (.int .i64) (.int .i64))), .box (.d true (.pair (.int .i64) (.int .i64))), .box (.d true (.pair (.int .i64) (.int .i64)))], 3⟩
def fr12_0 : Fr := ⟨[.c (.ptr 0 0 []), .c (.ptr 1 0 []), .c (.ptr 2 0 []), .d true (.bool)], [.box (.d true (.pair (.int .i64) (.int .i64))), .box (.d true (.pair (.int .i64) (.int .i64))), .box (.d true (.pair (.int .i64) (.int .i64)))], 3⟩
noncomputable def c12_0 : Code := bodyAt Try.f12 [1, 0, 0, 1]
def j12_0 (fuel : Nat) {R : Type} (k0 : (Int × (Int × Int)) → Option R) (k1 : ((Int × Int) × (Int × Int) × (Int × Int)) → Option R) : (Bool × (Int × Int) × (Int × Int) × (Int × Int)) → Option R := fun (x5, x6, x7, x8) => (bif x5 then (k0 ((21 : Int), ((0 : Int), (0 : Int)))) else let v9 := (!decide ((Int.tmod (IntKind.wrap .i64 (x6.1 + x6.2)) (64 : Int)) = x7.1)); (bif v9 then (k0 ((22 : Int), ((0 : Int), (0 : Int)))) else (k1 (x6, x7, x8))))
def al12_0 : AN := (.fin ⟨[2, 3, 4], padK 3 [some (0, 0), some (1, 0), some (2, 0)]⟩ (.cond (.seq (.region [(1, { touch := [2], ro := false })]) (.norm ⟨[4, 5], padK 5 [some (2, 0)]⟩ (.ret []))) (.seq (.region [(0, { touch := [0] }), (1, { touch := [0] }), (2, { touch := [0] }), (3, { touch := [0] }), (6, { touch := [1] }), (7, { touch := [1] })]) (.cond (.seq (.region [(1, { touch := [2], ro := false })]) (.norm ⟨[4, 5], padK 5 [some (2, 0)]⟩ (.ret []))) .leaf))))
theorem u12_0 (fuel : Nat) {R : Type} (k : AExit → St → Option R) : ∀ x : (Bool × (Int × Int) × (Int × Int) × (Int × Int)), runK R T (fns12 fuel) fuel [] (subsOf []) (partOf c12_0 al12_0) (fr12_0.st [2, 3, 4, 6] x) k = j12_0 fuel (fun y => k (.ret []) (fx12_0.st [4, 5] y)) (fun y => k .normal (fx12_1.st [2, 3, 4] y)) x := by
  rintro ⟨x5, x6, x7, x8⟩
  kernel_rfl
noncomputable def sub12_0 (fuel : Nat) (R : Type) : Sub R := Sub.of [2, 3, 4, 6] c12_0 fr12_0 fun x k => j12_0 fuel (fun y => k (.ret []) (fx12_0.st [4, 5] y)) (fun y => k .normal (fx12_1.st [2, 3, 4] y)) x
theorem subOk12_0 (fuel : Nat) (R : Type) : SubOk P [] 43 (sub12_0 fuel R) :=
  subOk_part (fns := fns12 fuel) (fuel := fuel) (subs := (subsOf [])) (an := al12_0) T_ok (fnsOk12 fuel) mixed subsOk_nil (by kernel_rfl) (by kernel_rfl) fun _ _ _ _ h => Sub.of_run (fun (x : (Bool × (Int × Int) × (Int × Int) × (Int × Int))) k => u12_0 fuel k x) h
def fr12_1 : Fr := ⟨[.c (.ptr 0 0 []), .c (.ptr 1 0 []), .c (.ptr 2 0 [])], [.box (.d true (.pair (.int .i64) (.int .i64))), .box (.d true (.pair (.int .i64) (.int .i64))), .box (.d true (.pair (.int .i64) (.int .i64)))], 3⟩
noncomputable def c12_1 : Code := bodyAt Try.f12 [1, 1]
def j12_1 (fuel : Nat) {R : Type} (k0 : (Int × (Int × Int)) → Option R) : ((Int × Int) × (Int × Int) × (Int × Int)) → Option R := fun (x25, x26, _) => (k0 ((0 : Int), (x25.1, (IntKind.wrap .i64 (x25.2 + x26.2)))))
def al12_1 : AN := (.seq (.region [(0, { touch := [0] }), (1, { touch := [0] }), (2, { touch := [0] }), (3, { touch := [0] }), (4, { touch := [1] }), (5, { touch := [1] }), (8, { touch := [2], ro := false })]) (.norm ⟨[4, 5], padK 5 [some (2, 0)]⟩ (.ret [])))
theorem u12_1 (fuel : Nat) {R : Type} (k : AExit → St → Option R) : ∀ x : ((Int × Int) × (Int × Int) × (Int × Int)), runK R T (fns12 fuel) fuel [] (subsOf [sub12_0 fuel R]) (partOf c12_1 al12_1) (fr12_1.st [2, 3, 4] x) k = j12_1 fuel (fun y => k (.ret []) (fx12_0.st [4, 5] y)) x := by
  rintro ⟨x25, x26, x27⟩
  kernel_rfl
noncomputable def sub12_1 (fuel : Nat) (R : Type) : Sub R := Sub.of [2, 3, 4] c12_1 fr12_1 fun x k => j12_1 fuel (fun y => k (.ret []) (fx12_0.st [4, 5] y)) x
theorem subOk12_1 (fuel : Nat) (R : Type) : SubOk P [] 43 (sub12_1 fuel R) :=
  subOk_part (fns := fns12 fuel) (fuel := fuel) (subs := (subsOf [sub12_0 fuel R])) (an := al12_1) T_ok (fnsOk12 fuel) mixed (subsOk_cons (subOk12_0 fuel R) subsOk_nil) (by kernel_rfl) (by kernel_rfl) fun _ _ _ _ h => Sub.of_run (fun (x : ((Int × Int) × (Int × Int) × (Int × Int))) k => u12_1 fuel k x) h
def an12 : AN := (.seq (.region [(0, { touch := [3], base := 3, ro := false }), (1, { touch := [4], base := 4, ro := false }), (2, { touch := [5], base := 5, ro := false })]) (.seq (.block (.seq (.region [(0, { touch := [3] }), (4, { touch := [4] }), (9, { touch := [3] }), (10, { touch := [3] }), (11, { touch := [4] }), (12, { touch := [4] })]) (.hole ⟨[2, 3, 4, 6], padK 3 [some (3, 0), some (4, 0), some (5, 0)]⟩ 0))) (.hole ⟨[2, 3, 4], padK 3 [some (0, 0), some (1, 0), some (2, 0)]⟩ 1)))
def p12 (fuel : Nat) : ((Int × Int) × (Int × Int)) → Option ((Int × Int) × Int) := fun (x1, x2) => (match p18 fuel x1 with | some z3 => (bif (!z3) then (j12_0 fuel (fun (x10, x11) => (some (x11, x10))) (fun (x12, x13, x14) => (j12_1 fuel (fun (x28, x29) => (some (x29, x28))) (x12, x13, x14))) (true, x1, x2, ((0 : Int), (0 : Int)))) else (match p18 fuel x2 with | some z4 => (bif (!z4) then (j12_0 fuel (fun (x15, x16) => (some (x16, x15))) (fun (x17, x18, x19) => (j12_1 fuel (fun (x30, x31) => (some (x31, x30))) (x17, x18, x19))) (true, x1, x2, ((0 : Int), (0 : Int)))) else (j12_0 fuel (fun (x20, x21) => (some (x21, x20))) (fun (x22, x23, x24) => (j12_1 fuel (fun (x32, x33) => (some (x33, x32))) (x22, x23, x24))) ((decide ((64 : Int) < (IntKind.wrap .i64 (x1.2 + x2.2)))), x1, x2, ((0 : Int), (0 : Int))))) | none => none)) | none => none)
def F12 (fuel : Nat) : Fun := funOfA fi12 al12 (p12 fuel)
theorem run12 (fuel : Nat) : ∀ y : ((Int × Int) × (Int × Int)), runF ((Int × Int) × Int) T (fns12 fuel) fuel (subsOf [sub12_0 fuel ((Int × Int) × Int), sub12_1 fuel ((Int × Int) × Int)]) (defOf Try.f12 an12 6 [] []) (fi12.vs y) (fi12.os y) (altsDec al12) = p12 fuel y := by
  rintro ⟨x1, x2⟩
  kernel_rfl
theorem ok12 (fuel : Nat) : FunOk P 12 (F12 fuel) :=
  funOfA_ok (subs := (subsOf [sub12_0 fuel ((Int × Int) × Int), sub12_1 fuel ((Int × Int) × Int)])) (an := an12) (room := 6) (ks := []) (g0 := []) (fuel := fuel) T_ok (fnsOk12 fuel) mixed (fn := Try.f12) (by kernel_rfl) (by kernel_rfl) (subsOk_cons (subOk12_0 fuel _) (subsOk_cons (subOk12_1 fuel _) subsOk_nil)) (by kernel_rfl) (fun _ => ⟨by kernel_rfl, by kernel_rfl⟩) (run12 fuel)

-- f13: tontine/tontineref02.Join
def fns13 (fuel : Nat) : Fns := fnsOf [(19, F19 fuel)]
theorem fnsOk13 (fuel : Nat) : FnsOk P (fns13 fuel) := (fnsOk_cons (ok19 fuel) fnsOk_nil)
def fi13 : Fr := ⟨[.d false (.pair (.int .i64) (.int .i64)), .d false (.pair (.int .i64) (.int .i64))], [], 0⟩
def al13 : List (Tm × List To) := [(.tup (.cons (.d true (.pair (.int .i64) (.int .i64))) (.cons (.d true (.int .i64)) (.c .nil))), [])]
def an13 : AN := (.seq (.region [(0, { touch := [3], base := 3, ro := false }), (1, { touch := [4], base := 4, ro := false }), (2, { touch := [5], base := 5, ro := false })]) (.seq (.region [(0, { touch := [3] })]) (.seq (.region [(0, { touch := [4] })]) (.seq (.seq (.region [(7, { touch := [3] }), (8, { touch := [3] }), (9, { touch := [4] }), (10, { touch := [4] })]) (.cond (.seq (.region [(1, { touch := [5], ro := false })]) (.norm ⟨[4, 5], padK 5 [some (5, 0)]⟩ (.ret []))) .leaf)) (.seq (.seq (.region [(0, { touch := [3] }), (1, { touch := [3] }), (2, { touch := [3] }), (3, { touch := [3] }), (6, { touch := [4] }), (7, { touch := [4] })]) (.cond (.seq (.region [(1, { touch := [5], ro := false })]) (.norm ⟨[4, 5], padK 5 [some (5, 0)]⟩ (.ret []))) .leaf)) (.seq (.region [(0, { touch := [3] }), (1, { touch := [3] }), (2, { touch := [3] }), (3, { touch := [3] }), (4, { touch := [4] }), (5, { touch := [4] }), (8, { touch := [5], ro := false })]) (.norm ⟨[4, 5], padK 5 [some (5, 0)]⟩ (.ret []))))))))
def p13 (fuel : Nat) : ((Int × Int) × (Int × Int)) → Option ((Int × Int) × Int) := fun (x1, x2) => (match p19 fuel x1 with | some z3 => (match p19 fuel x2 with | some z4 => (bif (!z3) then (some (((0 : Int), (0 : Int)), (21 : Int))) else (bif (!z4) then (some (((0 : Int), (0 : Int)), (21 : Int))) else (bif (decide ((64 : Int) < (IntKind.wrap .i64 (x1.2 + x2.2)))) then (some (((0 : Int), (0 : Int)), (21 : Int))) else let v5 := (!decide ((Int.tmod (IntKind.wrap .i64 (x1.1 + x1.2)) (64 : Int)) = x2.1)); (bif v5 then (some (((0 : Int), (0 : Int)), (22 : Int))) else (some ((x1.1, (IntKind.wrap .i64 (x1.2 + x2.2))), (0 : Int))))))) | none => none) | none => none)
def F13 (fuel : Nat) : Fun := funOfA fi13 al13 (p13 fuel)
theorem run13 (fuel : Nat) : ∀ y : ((Int × Int) × (Int × Int)), runF ((Int × Int) × Int) T (fns13 fuel) fuel (subsOf []) (defOf Try.f13 an13 6 [] []) (fi13.vs y) (fi13.os y) (altsDec al13) = p13 fuel y := by
  rintro ⟨x1, x2⟩
  kernel_rfl
theorem ok13 (fuel : Nat) : FunOk P 13 (F13 fuel) :=
  funOfA_ok (subs := (subsOf [])) (an := an13) (room := 6) (ks := []) (g0 := []) (fuel := fuel) T_ok (fnsOk13 fuel) mixed (fn := Try.f13) (by kernel_rfl) (by kernel_rfl) subsOk_nil (by kernel_rfl) (fun _ => ⟨by kernel_rfl, by kernel_rfl⟩) (run13 fuel)

-- f20: tontine/arcs.Has
def fns20 (fuel : Nat) : Fns := fnsOf [(18, F18 fuel)]
theorem fnsOk20 (fuel : Nat) : FnsOk P (fns20 fuel) := (fnsOk_cons (ok18 fuel) fnsOk_nil)
def fi20 : Fr := ⟨[.d false (.pair (.int .i64) (.int .i64)), .d false (.int .i64)], [], 0⟩
def al20 : List (Tm × List To) := [(.d true (.bool), [])]
def an20 : AN := (.seq (.region [(0, { touch := [0], ro := false })]) (.seq (.region [(0, { touch := [0] }), (12, { touch := [0] }), (13, { touch := [0] }), (17, { touch := [0] }), (18, { touch := [0] })]) (.norm ⟨[4], padK 1 []⟩ (.ret []))))
def p20 (fuel : Nat) : ((Int × Int) × Int) → Option Bool := fun (x1, x2) => (match p18 fuel x1 with | some z3 => (bif z3 then (bif (decide ((0 : Int) ≤ x2)) then (bif (decide (x2 < (64 : Int))) then let v4 := (Int.tmod (IntKind.wrap .i64 ((IntKind.wrap .i64 (x2 - x1.1)) + (64 : Int))) (64 : Int)); (some (decide (v4 < x1.2))) else (some false)) else (some false)) else (some false)) | none => none)
def F20 (fuel : Nat) : Fun := funOfA fi20 al20 (p20 fuel)
theorem run20 (fuel : Nat) : ∀ y : ((Int × Int) × Int), runF Bool T (fns20 fuel) fuel (subsOf []) (defOf Try.f20 an20 1 [] []) (fi20.vs y) (fi20.os y) (altsDec al20) = p20 fuel y := by
  rintro ⟨x1, x2⟩
  kernel_rfl
theorem ok20 (fuel : Nat) : FunOk P 20 (F20 fuel) :=
  funOfA_ok (subs := (subsOf [])) (an := an20) (room := 1) (ks := []) (g0 := []) (fuel := fuel) T_ok (fnsOk20 fuel) mixed (fn := Try.f20) (by kernel_rfl) (by kernel_rfl) subsOk_nil (by kernel_rfl) (fun _ => ⟨by kernel_rfl, by kernel_rfl⟩) (run20 fuel)

-- f14: tontine/tontinelaw02.alive
def fns14 (fuel : Nat) : Fns := fnsOf [(10, F10 fuel), (20, F20 fuel)]
theorem fnsOk14 (fuel : Nat) : FnsOk P (fns14 fuel) := (fnsOk_cons (ok10 fuel) (fnsOk_cons (ok20 fuel) fnsOk_nil))
def fi14 : Fr := ⟨[], [], 0⟩
def al14 : List (Tm × List To) := [(.d true (.bool), [])]
def an14 : AN := (.seq .leaf (.seq (.region [(1, { touch := [0], ro := false }), (2, { touch := [0], ro := false })]) (.seq (.region [(0, { touch := [0] }), (6, { touch := [1], base := 1, ro := false }), (7, { touch := [2], base := 2, ro := false }), (8, { touch := [1], ro := false }), (9, { touch := [2], ro := false })]) (.seq (.region [(3, { touch := [1] }), (8, { touch := [2] }), (13, { touch := [0] }), (17, { touch := [0] })]) (.norm ⟨[0], padK 3 []⟩ (.ret []))))))
def p14 (fuel : Nat) : Unit → Option Bool := fun _ => (match p10 fuel (((60 : Int), (8 : Int)), (4 : Int)) with | some z1 => (bif (decide (z1.2.2 = (0 : Int))) then (bif (Ty.eqB (.pair (.int .i64) (.int .i64)) z1.1 ((60 : Int), (4 : Int))) then (bif (Ty.eqB (.pair (.int .i64) (.int .i64)) z1.2.1 ((0 : Int), (4 : Int))) then (match p20 fuel (((60 : Int), (8 : Int)), (3 : Int)) with | some z2 => (bif z2 then (match p20 fuel (((60 : Int), (8 : Int)), (4 : Int)) with | some z3 => (some (!z3)) | none => none) else (some false)) | none => none) else (some false)) else (some false)) else (some false)) | none => none)
def F14 (fuel : Nat) : Fun := funOfA fi14 al14 (p14 fuel)
theorem run14 (fuel : Nat) : ∀ y : Unit, runF Bool T (fns14 fuel) fuel (subsOf []) (defOf Try.f14 an14 3 [] []) (fi14.vs y) (fi14.os y) (altsDec al14) = p14 fuel y := by
  rintro ⟨⟩
  kernel_rfl
theorem ok14 (fuel : Nat) : FunOk P 14 (F14 fuel) :=
  funOfA_ok (subs := (subsOf [])) (an := an14) (room := 3) (ks := []) (g0 := []) (fuel := fuel) T_ok (fnsOk14 fuel) mixed (fn := Try.f14) (by kernel_rfl) (by kernel_rfl) subsOk_nil (by kernel_rfl) (fun _ => ⟨by kernel_rfl, by kernel_rfl⟩) (run14 fuel)

-- f3: tontine/tontinelaw02.ArcsParts
def fns3 (fuel : Nat) : Fns := fnsOf [(10, F10 fuel), (11, F11 fuel), (12, F12 fuel), (13, F13 fuel), (14, F14 fuel)]
theorem fnsOk3 (fuel : Nat) : FnsOk P (fns3 fuel) := (fnsOk_cons (ok10 fuel) (fnsOk_cons (ok11 fuel) (fnsOk_cons (ok12 fuel) (fnsOk_cons (ok13 fuel) (fnsOk_cons (ok14 fuel) fnsOk_nil)))))
def fi3 : Fr := ⟨[.d false (.pair (.int .i64) (.int .i64)), .d false (.pair (.int .i64) (.int .i64)), .d false (.int .i64)], [], 0⟩
def al3 : List (Tm × List To) := [(.d true (.bool), [])]
def an3 : AN := (.seq (.region [(0, { touch := [0], ro := false }), (1, { touch := [1], base := 1, ro := false })]) (.seq (.region [(0, { touch := [0] }), (7, { touch := [2], base := 2, ro := false }), (8, { touch := [3], base := 3, ro := false }), (9, { touch := [2], ro := false }), (10, { touch := [3], ro := false })]) (.seq (.region [(0, { touch := [0] }), (7, { touch := [4], base := 4, ro := false }), (8, { touch := [5], base := 5, ro := false }), (9, { touch := [4], ro := false }), (10, { touch := [5], ro := false })]) (.seq (.region [(0, { touch := [0] }), (1, { touch := [1] }), (6, { touch := [6], base := 6, ro := false }), (7, { touch := [6], ro := false })]) (.seq (.region [(0, { touch := [0] }), (1, { touch := [1] }), (6, { touch := [7], base := 7, ro := false }), (7, { touch := [7], ro := false })]) (.seq (.region [(2, { touch := [2] }), (3, { touch := [4] }), (7, { touch := [3] }), (8, { touch := [5] }), (17, { touch := [6] }), (18, { touch := [7] })]) (.norm ⟨[6], padK 8 []⟩ (.ret []))))))))
def p3 (fuel : Nat) : ((Int × Int) × (Int × Int) × Int) → Option Bool := fun (x1, x2, x3) => (match p10 fuel (x1, x3) with | some z4 => (match p11 fuel (x1, x3) with | some z5 => (match p12 fuel (x1, x2) with | some z6 => (match p13 fuel (x1, x2) with | some z7 => (match p14 fuel () with | some z8 => (bif z8 then (bif (Ty.eqB (.pair (.int .i64) (.int .i64)) z4.1 z5.1) then (bif (Ty.eqB (.pair (.int .i64) (.int .i64)) z4.2.1 z5.2.1) then (bif (decide (z4.2.2 = z5.2.2)) then (bif (Ty.eqB (.pair (.int .i64) (.int .i64)) z6.1 z7.1) then (some (decide (z6.2 = z7.2))) else (some false)) else (some false)) else (some false)) else (some false)) else (some false)) | none => none) | none => none) | none => none) | none => none) | none => none)
def F3 (fuel : Nat) : Fun := funOfA fi3 al3 (p3 fuel)
theorem run3 (fuel : Nat) : ∀ y : ((Int × Int) × (Int × Int) × Int), runF Bool T (fns3 fuel) fuel (subsOf []) (defOf Try.f3 an3 8 [] []) (fi3.vs y) (fi3.os y) (altsDec al3) = p3 fuel y := by
  rintro ⟨x1, x2, x3⟩
  kernel_rfl
theorem ok3 (fuel : Nat) : FunOk P 3 (F3 fuel) :=
  funOfA_ok (subs := (subsOf [])) (an := an3) (room := 8) (ks := []) (g0 := []) (fuel := fuel) T_ok (fnsOk3 fuel) mixed (fn := Try.f3) (by kernel_rfl) (by kernel_rfl) subsOk_nil (by kernel_rfl) (fun _ => ⟨by kernel_rfl, by kernel_rfl⟩) (run3 fuel)

-- f15: tontine/arcs.Places
def fns15 (fuel : Nat) : Fns := fnsOf [(18, F18 fuel)]
theorem fnsOk15 (fuel : Nat) : FnsOk P (fns15 fuel) := (fnsOk_cons (ok18 fuel) fnsOk_nil)
def fi15 : Fr := ⟨[.d false (.pair (.int .i64) (.int .i64))], [], 0⟩
def al15 : List (Tm × List To) := [(.c (.slc 0 0), [.arr 0 (.int .i64)])]
def fx15_0 : Fr := ⟨[.c (.slc 0 0)], [.arr 0 (.int .i64)], 4⟩
def fr15_0 : Fr := ⟨[.c (.ptr 0 0 []), .c (.slc 1 0), .d true (.int .i64), .d true (.int .i64)], [.box (.d true (.pair (.int .i64) (.int .i64))), .arr 0 (.int .i64)], 3⟩
noncomputable def c15_0 : Code := bodyAt Try.f15 [1, 1, 1, 0, 1, 0]
def s15_0 (fuel : Nat) {R : Type} (F : (Int × Int × (Int × Int) × (List Int)) → Option R) (k0 : (List Int) → Option R) : (Int × Int × (Int × Int) × (List Int)) → Option R := fun (x3, x4, x5, x6) => (bif (decide (x4 < x3)) then (if (List.length x6 + List.length [(Int.tmod (IntKind.wrap .i64 (x5.1 + x4)) (64 : Int))]) * 8 ≤ 140737488355328 then (F (x3, (IntKind.wrap .i64 (x4 + (1 : Int))), x5, (x6 ++ [(Int.tmod (IntKind.wrap .i64 (x5.1 + x4)) (64 : Int))]))) else none) else (k0 x6))
def l15_0 (fuel : Nat) {R : Type} (k0 : (List Int) → Option R) : Nat → (Int × Int × (Int × Int) × (List Int)) → Option R
  | 0, _ => none
  | n + 1, x => s15_0 fuel (l15_0 fuel k0 n) k0 x
def nm15_0 : Norm := ⟨[1, 3, 9, 10], padK 3 [some (0, 0), some (1, 0)]⟩
def an15_0 : AN := (.seq .leaf (.seq (.cond .leaf (.norm ⟨[3], padK 4 [some (1, 0)]⟩ .leaf)) (.seq (.block (.seq .leaf (.region [(1, { touch := [0] }), (2, { touch := [0] }), (6, { touch := [3], base := 3, ro := false }), (7, { touch := [1, 3], ro := false })]))) .leaf)))
def al15_0 : AN := .loop nm15_0 an15_0
noncomputable def d15_0 : Code := bodyAt Try.f15 [1, 1, 1, 0, 1, 0, 0]
theorem e15_0 (fuel : Nat) {R : Type} (F : St → Option R) (k : AExit → St → Option R) : ∀ x : (Int × Int × (Int × Int) × (List Int)), runK R T (fns15 fuel) fuel [] (subsOf []) (partOf d15_0 an15_0) (fr15_0.st [1, 3, 9, 10] x) (backTo R [] nm15_0 F k) = s15_0 fuel (fun x => F (fr15_0.st [1, 3, 9, 10] x)) (fun y => k (.exit 0) (fx15_0.st [3] y)) x := by
  rintro ⟨x3, x4, x5, x6⟩
  kernel_rfl
theorem u15_0 (fuel : Nat) {R : Type} (k : AExit → St → Option R) (x : (Int × Int × (Int × Int) × (List Int))) : runK R T (fns15 fuel) fuel [] (subsOf []) (partOf c15_0 al15_0) (fr15_0.st [1, 3, 9, 10] x) k = l15_0 fuel (fun y => k (.exit 0) (fx15_0.st [3] y)) fuel x :=
  loop_eq (mk := fr15_0.st [1, 3, 9, 10]) (s := fun F x => s15_0 fuel F (fun y => k (.exit 0) (fx15_0.st [3] y)) x) (l := fun n x => l15_0 fuel (fun y => k (.exit 0) (fx15_0.st [3] y)) n x) (d := d15_0) (by kernel_rfl) (fun G x => by
    revert x
    rintro ⟨x3, x4, x5, x6⟩
    kernel_rfl) (fun F x => e15_0 fuel F k x) (fun _ => rfl) (fun _ _ => rfl) x
noncomputable def sub15_0 (fuel : Nat) (R : Type) : Sub R := Sub.of [1, 3, 9, 10] c15_0 fr15_0 fun x k => l15_0 fuel (fun y => k (.exit 0) (fx15_0.st [3] y)) fuel x
theorem subOk15_0 (fuel : Nat) (R : Type) : SubOk P [] 23 (sub15_0 fuel R) :=
  subOk_part (fns := fns15 fuel) (fuel := fuel) (subs := (subsOf [])) (an := al15_0) T_ok (fnsOk15 fuel) mixed subsOk_nil (by kernel_rfl) (by kernel_rfl) fun _ _ _ _ h => Sub.of_run (fun (x : (Int × Int × (Int × Int) × (List Int))) k => u15_0 fuel k x) h
def an15 : AN := (.seq (.region [(0, { touch := [2], base := 2, ro := false })]) (.seq (.seq (.region [(0, { touch := [2] })]) (.cond (.seq .leaf (.co (.empty (.slot 2 []) 4 (.int .i64)) (.norm ⟨[2], padK 4 [some (4, 0)]⟩ (.ret [some (0, 0)])))) .leaf)) (.seq .leaf (.seq (.seq (.region [(0, { touch := [2] }), (1, { touch := [2] })]) (.block (.co (.empty (.slot 3 []) 4 (.int .i64)) (.hole ⟨[1, 3, 9, 10], padK 3 [some (2, 0), some (4, 0)]⟩ 0)))) (.seq .leaf (.norm ⟨[2], padK 4 [some (0, 0)]⟩ (.ret [some (0, 0)])))))))
def p15 (fuel : Nat) : (Int × Int) → Option (List Int) := fun x1 => (match p18 fuel x1 with | some z2 => (bif (!z2) then (some []) else (l15_0 fuel (fun x7 => (some x7)) fuel (x1.2, (0 : Int), x1, []))) | none => none)
def F15 (fuel : Nat) : Fun := funOfA fi15 al15 (p15 fuel)
theorem run15 (fuel : Nat) : ∀ y : (Int × Int), runF (List Int) T (fns15 fuel) fuel (subsOf [sub15_0 fuel (List Int)]) (defOf Try.f15 an15 5 [] []) (fi15.vs y) (fi15.os y) (altsDec al15) = p15 fuel y := by
  rintro x1
  kernel_rfl
theorem ok15 (fuel : Nat) : FunOk P 15 (F15 fuel) :=
  funOfA_ok (subs := (subsOf [sub15_0 fuel (List Int)])) (an := an15) (room := 5) (ks := []) (g0 := []) (fuel := fuel) T_ok (fnsOk15 fuel) mixed (fn := Try.f15) (by kernel_rfl) (by kernel_rfl) (subsOk_cons (subOk15_0 fuel _) subsOk_nil) (by kernel_rfl) (fun _ => ⟨by kernel_rfl, by kernel_rfl⟩) (run15 fuel)

-- f17: tontine/tontineref02.Places
def fns17 (fuel : Nat) : Fns := fnsOf [(19, F19 fuel)]
theorem fnsOk17 (fuel : Nat) : FnsOk P (fns17 fuel) := (fnsOk_cons (ok19 fuel) fnsOk_nil)
def fi17 : Fr := ⟨[.d false (.pair (.int .i64) (.int .i64))], [], 0⟩
def al17 : List (Tm × List To) := [(.c (.slc 0 0), [.arr 0 (.int .i64)])]
def fx17_0 : Fr := ⟨[.c (.slc 0 0)], [.arr 0 (.int .i64)], 4⟩
def fr17_0 : Fr := ⟨[.c (.ptr 0 0 []), .c (.slc 1 0), .d true (.bool), .d true (.int .i64)], [.box (.d true (.pair (.int .i64) (.int .i64))), .arr 0 (.int .i64)], 3⟩
noncomputable def c17_0 : Code := bodyAt Try.f17 [1, 1, 1, 0, 1, 0]
def s17_0 (fuel : Nat) {R : Type} (F : (Bool × Int × (Int × Int) × (List Int)) → Option R) (k0 : (List Int) → Option R) : (Bool × Int × (Int × Int) × (List Int)) → Option R := fun (x3, x4, x5, x6) => (bif x3 then (bif (decide (x4 < x5.2)) then (if (List.length x6 + List.length [(Int.tmod (IntKind.wrap .i64 (x5.1 + x4)) (64 : Int))]) * 8 ≤ 140737488355328 then (F (x3, (IntKind.wrap .i64 (x4 + (1 : Int))), x5, (x6 ++ [(Int.tmod (IntKind.wrap .i64 (x5.1 + x4)) (64 : Int))]))) else none) else (k0 x6)) else (k0 x6))
def l17_0 (fuel : Nat) {R : Type} (k0 : (List Int) → Option R) : Nat → (Bool × Int × (Int × Int) × (List Int)) → Option R
  | 0, _ => none
  | n + 1, x => s17_0 fuel (l17_0 fuel k0 n) k0 x
def nm17_0 : Norm := ⟨[1, 3, 4, 5], padK 3 [some (0, 0), some (1, 0)]⟩
def an17_0 : AN := (.seq (.seq (.region [(3, { touch := [0] }), (4, { touch := [0] })]) (.cond .leaf (.norm ⟨[3], padK 4 [some (1, 0)]⟩ .leaf))) (.seq (.block (.region [(1, { touch := [0] }), (2, { touch := [0] }), (6, { touch := [3], base := 3, ro := false }), (7, { touch := [1, 3], ro := false })])) .leaf))
def al17_0 : AN := .loop nm17_0 an17_0
noncomputable def d17_0 : Code := bodyAt Try.f17 [1, 1, 1, 0, 1, 0, 0]
theorem e17_0 (fuel : Nat) {R : Type} (F : St → Option R) (k : AExit → St → Option R) : ∀ x : (Bool × Int × (Int × Int) × (List Int)), runK R T (fns17 fuel) fuel [] (subsOf []) (partOf d17_0 an17_0) (fr17_0.st [1, 3, 4, 5] x) (backTo R [] nm17_0 F k) = s17_0 fuel (fun x => F (fr17_0.st [1, 3, 4, 5] x)) (fun y => k (.exit 0) (fx17_0.st [3] y)) x := by
  rintro ⟨x3, x4, x5, x6⟩
  kernel_rfl
theorem u17_0 (fuel : Nat) {R : Type} (k : AExit → St → Option R) (x : (Bool × Int × (Int × Int) × (List Int))) : runK R T (fns17 fuel) fuel [] (subsOf []) (partOf c17_0 al17_0) (fr17_0.st [1, 3, 4, 5] x) k = l17_0 fuel (fun y => k (.exit 0) (fx17_0.st [3] y)) fuel x :=
  loop_eq (mk := fr17_0.st [1, 3, 4, 5]) (s := fun F x => s17_0 fuel F (fun y => k (.exit 0) (fx17_0.st [3] y)) x) (l := fun n x => l17_0 fuel (fun y => k (.exit 0) (fx17_0.st [3] y)) n x) (d := d17_0) (by kernel_rfl) (fun G x => by
    revert x
    rintro ⟨x3, x4, x5, x6⟩
    kernel_rfl) (fun F x => e17_0 fuel F k x) (fun _ => rfl) (fun _ _ => rfl) x
noncomputable def sub17_0 (fuel : Nat) (R : Type) : Sub R := Sub.of [1, 3, 4, 5] c17_0 fr17_0 fun x k => l17_0 fuel (fun y => k (.exit 0) (fx17_0.st [3] y)) fuel x
theorem subOk17_0 (fuel : Nat) (R : Type) : SubOk P [] 26 (sub17_0 fuel R) :=
  subOk_part (fns := fns17 fuel) (fuel := fuel) (subs := (subsOf [])) (an := al17_0) T_ok (fnsOk17 fuel) mixed subsOk_nil (by kernel_rfl) (by kernel_rfl) fun _ _ _ _ h => Sub.of_run (fun (x : (Bool × Int × (Int × Int) × (List Int))) k => u17_0 fuel k x) h
def an17 : AN := (.seq (.region [(0, { touch := [2], base := 2, ro := false })]) (.seq .leaf (.seq (.region [(0, { touch := [2] })]) (.seq (.seq .leaf (.block (.co (.empty (.slot 3 []) 4 (.int .i64)) (.hole ⟨[1, 3, 4, 5], padK 3 [some (2, 0), some (4, 0)]⟩ 0)))) (.seq .leaf (.norm ⟨[2], padK 4 [some (0, 0)]⟩ (.ret [some (0, 0)])))))))
def p17 (fuel : Nat) : (Int × Int) → Option (List Int) := fun x1 => (match p19 fuel x1 with | some z2 => (l17_0 fuel (fun x7 => (some x7)) fuel (z2, (0 : Int), x1, [])) | none => none)
def F17 (fuel : Nat) : Fun := funOfA fi17 al17 (p17 fuel)
theorem run17 (fuel : Nat) : ∀ y : (Int × Int), runF (List Int) T (fns17 fuel) fuel (subsOf [sub17_0 fuel (List Int)]) (defOf Try.f17 an17 5 [] []) (fi17.vs y) (fi17.os y) (altsDec al17) = p17 fuel y := by
  rintro x1
  kernel_rfl
theorem ok17 (fuel : Nat) : FunOk P 17 (F17 fuel) :=
  funOfA_ok (subs := (subsOf [sub17_0 fuel (List Int)])) (an := an17) (room := 5) (ks := []) (g0 := []) (fuel := fuel) T_ok (fnsOk17 fuel) mixed (fn := Try.f17) (by kernel_rfl) (by kernel_rfl) (subsOk_cons (subOk17_0 fuel _) subsOk_nil) (by kernel_rfl) (fun _ => ⟨by kernel_rfl, by kernel_rfl⟩) (run17 fuel)

-- f16: tontine/tontinelaw02.same
def fns16 (fuel : Nat) : Fns := fnsOf []
theorem fnsOk16 (fuel : Nat) : FnsOk P (fns16 fuel) := fnsOk_nil
def fi16 : Fr := ⟨[.d false (.slice (.int .i64)), .d false (.slice (.int .i64))], [], 0⟩
def al16 : List (Tm × List To) := [(.d true (.bool), [])]
def fx16_0 : Fr := ⟨[.d true (.bool)], [], 0⟩
def fx16_1 : Fr := ⟨[], [], 0⟩
def fr16_0 : Fr := ⟨[.d false (.slice (.int .i64)), .d false (.slice (.int .i64)), .d true (.int .i64)], [], 0⟩
noncomputable def c16_0 : Code := bodyAt Try.f16 [1, 1, 0, 1, 0]
def s16_0 (fuel : Nat) {R : Type} (F : ((List Int) × (List Int) × Int) → Option R) (k0 : Bool → Option R) (k1 : Unit → Option R) : ((List Int) × (List Int) × Int) → Option R := fun (x4, x5, x6) => (bif (decide (x6 < ((List.length x4 : Nat) : Int))) then (if 0 ≤ x6 then (match (x4)[Int.toNat x6]? with | some y7 => (if 0 ≤ x6 then (match (x5)[Int.toNat x6]? with | some y8 => (bif (!decide (y7 = y8)) then (k0 false) else (F (x4, x5, (IntKind.wrap .i64 (x6 + (1 : Int)))))) | none => none) else none) | none => none) else none) else (k1 ()))
def l16_0 (fuel : Nat) {R : Type} (k0 : Bool → Option R) (k1 : Unit → Option R) : Nat → ((List Int) × (List Int) × Int) → Option R
  | 0, _ => none
  | n + 1, x => s16_0 fuel (l16_0 fuel k0 k1 n) k0 k1 x
def nm16_0 : Norm := ⟨[0, 1, 5], padK 0 []⟩
def an16_0 : AN := (.seq (.seq .leaf (.cond .leaf (.norm ⟨[], padK 0 []⟩ .leaf))) (.seq (.block (.seq .leaf (.cond (.seq .leaf (.norm ⟨[4], padK 0 []⟩ (.ret []))) .leaf))) .leaf))
def al16_0 : AN := .loop nm16_0 an16_0
noncomputable def d16_0 : Code := bodyAt Try.f16 [1, 1, 0, 1, 0, 0]
theorem e16_0 (fuel : Nat) {R : Type} (F : St → Option R) (k : AExit → St → Option R) : ∀ x : ((List Int) × (List Int) × Int), runK R T (fns16 fuel) fuel [] (subsOf []) (partOf d16_0 an16_0) (fr16_0.st [0, 1, 5] x) (backTo R [] nm16_0 F k) = s16_0 fuel (fun x => F (fr16_0.st [0, 1, 5] x)) (fun y => k (.ret []) (fx16_0.st [4] y)) (fun y => k (.exit 0) (fx16_1.st [] y)) x := by
  rintro ⟨x4, x5, x6⟩
  kernel_rfl
theorem u16_0 (fuel : Nat) {R : Type} (k : AExit → St → Option R) (x : ((List Int) × (List Int) × Int)) : runK R T (fns16 fuel) fuel [] (subsOf []) (partOf c16_0 al16_0) (fr16_0.st [0, 1, 5] x) k = l16_0 fuel (fun y => k (.ret []) (fx16_0.st [4] y)) (fun y => k (.exit 0) (fx16_1.st [] y)) fuel x :=
  loop_eq (mk := fr16_0.st [0, 1, 5]) (s := fun F x => s16_0 fuel F (fun y => k (.ret []) (fx16_0.st [4] y)) (fun y => k (.exit 0) (fx16_1.st [] y)) x) (l := fun n x => l16_0 fuel (fun y => k (.ret []) (fx16_0.st [4] y)) (fun y => k (.exit 0) (fx16_1.st [] y)) n x) (d := d16_0) (by kernel_rfl) (fun G x => by
    revert x
    rintro ⟨x4, x5, x6⟩
    kernel_rfl) (fun F x => e16_0 fuel F k x) (fun _ => rfl) (fun _ _ => rfl) x
noncomputable def sub16_0 (fuel : Nat) (R : Type) : Sub R := Sub.of [0, 1, 5] c16_0 fr16_0 fun x k => l16_0 fuel (fun y => k (.ret []) (fx16_0.st [4] y)) (fun y => k (.exit 0) (fx16_1.st [] y)) fuel x
theorem subOk16_0 (fuel : Nat) (R : Type) : SubOk P [] 26 (sub16_0 fuel R) :=
  subOk_part (fns := fns16 fuel) (fuel := fuel) (subs := (subsOf [])) (an := al16_0) T_ok (fnsOk16 fuel) mixed subsOk_nil (by kernel_rfl) (by kernel_rfl) fun _ _ _ _ h => Sub.of_run (fun (x : ((List Int) × (List Int) × Int)) k => u16_0 fuel k x) h
def an16 : AN := (.seq .leaf (.seq (.seq .leaf (.cond (.seq .leaf (.norm ⟨[4], padK 0 []⟩ (.ret []))) .leaf)) (.seq (.seq .leaf (.block (.hole ⟨[0, 1, 5], padK 0 []⟩ 0))) (.seq .leaf (.norm ⟨[4], padK 0 []⟩ (.ret []))))))
def p16 (fuel : Nat) : ((List Int) × (List Int)) → Option Bool := fun (x1, x2) => let v3 := (!decide (((List.length x1 : Nat) : Int) = ((List.length x2 : Nat) : Int))); (bif v3 then (some false) else (l16_0 fuel (fun x9 => (some x9)) (fun _ => (some true)) fuel (x1, x2, (0 : Int))))
def F16 (fuel : Nat) : Fun := funOfA fi16 al16 (p16 fuel)
theorem run16 (fuel : Nat) : ∀ y : ((List Int) × (List Int)), runF Bool T (fns16 fuel) fuel (subsOf [sub16_0 fuel Bool]) (defOf Try.f16 an16 0 [] []) (fi16.vs y) (fi16.os y) (altsDec al16) = p16 fuel y := by
  rintro ⟨x1, x2⟩
  kernel_rfl
theorem ok16 (fuel : Nat) : FunOk P 16 (F16 fuel) :=
  funOfA_ok (subs := (subsOf [sub16_0 fuel Bool])) (an := an16) (room := 0) (ks := []) (g0 := []) (fuel := fuel) T_ok (fnsOk16 fuel) mixed (fn := Try.f16) (by kernel_rfl) (by kernel_rfl) (subsOk_cons (subOk16_0 fuel _) subsOk_nil) (by kernel_rfl) (fun _ => ⟨by kernel_rfl, by kernel_rfl⟩) (run16 fuel)

-- f21: tontine/tontineref02.Has
def fns21 (fuel : Nat) : Fns := fnsOf [(17, F17 fuel)]
theorem fnsOk21 (fuel : Nat) : FnsOk P (fns21 fuel) := (fnsOk_cons (ok17 fuel) fnsOk_nil)
def fi21 : Fr := ⟨[.d false (.pair (.int .i64) (.int .i64)), .d false (.int .i64)], [], 0⟩
def al21 : List (Tm × List To) := [(.d true (.bool), [])]
def fx21_0 : Fr := ⟨[.d true (.bool)], [], 3⟩
def fx21_1 : Fr := ⟨[], [], 3⟩
def fr21_0 : Fr := ⟨[.d true (.int .i64), .c (.slc 0 0), .d true (.int .i64)], [.arr 0 (.int .i64)], 2⟩
noncomputable def c21_0 : Code := bodyAt Try.f21 [1, 1, 0, 1, 0]
def s21_0 (fuel : Nat) {R : Type} (F : (Int × Int × (List Int)) → Option R) (k0 : Bool → Option R) (k1 : Unit → Option R) : (Int × Int × (List Int)) → Option R := fun (x4, x5, x6) => (bif (decide (x5 < ((List.length x6 : Nat) : Int))) then (if 0 ≤ x5 ∧ x5 < ((List.length x6 : Nat) : Int) then (match (x6)[(Int.toNat x5)]? with | some y7 => (bif (decide (y7 = x4)) then (k0 true) else (F (x4, (IntKind.wrap .i64 (x5 + (1 : Int))), x6))) | none => none) else none) else (k1 ()))
def l21_0 (fuel : Nat) {R : Type} (k0 : Bool → Option R) (k1 : Unit → Option R) : Nat → (Int × Int × (List Int)) → Option R
  | 0, _ => none
  | n + 1, x => s21_0 fuel (l21_0 fuel k0 k1 n) k0 k1 x
def nm21_0 : Norm := ⟨[1, 5, 6], padK 2 [some (0, 0)]⟩
def an21_0 : AN := (.seq (.seq (.region [(2, { touch := [0] })]) (.cond .leaf (.norm ⟨[], padK 3 []⟩ .leaf))) (.seq (.block (.seq (.region [(2, { touch := [0] }), (3, { touch := [0] })]) (.cond (.seq .leaf (.norm ⟨[4], padK 3 []⟩ (.ret []))) .leaf))) .leaf))
def al21_0 : AN := .loop nm21_0 an21_0
noncomputable def d21_0 : Code := bodyAt Try.f21 [1, 1, 0, 1, 0, 0]
theorem e21_0 (fuel : Nat) {R : Type} (F : St → Option R) (k : AExit → St → Option R) : ∀ x : (Int × Int × (List Int)), runK R T (fns21 fuel) fuel [] (subsOf []) (partOf d21_0 an21_0) (fr21_0.st [1, 5, 6] x) (backTo R [] nm21_0 F k) = s21_0 fuel (fun x => F (fr21_0.st [1, 5, 6] x)) (fun y => k (.ret []) (fx21_0.st [4] y)) (fun y => k (.exit 0) (fx21_1.st [] y)) x := by
  rintro ⟨x4, x5, x6⟩
  kernel_rfl
theorem u21_0 (fuel : Nat) {R : Type} (k : AExit → St → Option R) (x : (Int × Int × (List Int))) : runK R T (fns21 fuel) fuel [] (subsOf []) (partOf c21_0 al21_0) (fr21_0.st [1, 5, 6] x) k = l21_0 fuel (fun y => k (.ret []) (fx21_0.st [4] y)) (fun y => k (.exit 0) (fx21_1.st [] y)) fuel x :=
  loop_eq (mk := fr21_0.st [1, 5, 6]) (s := fun F x => s21_0 fuel F (fun y => k (.ret []) (fx21_0.st [4] y)) (fun y => k (.exit 0) (fx21_1.st [] y)) x) (l := fun n x => l21_0 fuel (fun y => k (.ret []) (fx21_0.st [4] y)) (fun y => k (.exit 0) (fx21_1.st [] y)) n x) (d := d21_0) (by kernel_rfl) (fun G x => by
    revert x
    rintro ⟨x4, x5, x6⟩
    kernel_rfl) (fun F x => e21_0 fuel F k x) (fun _ => rfl) (fun _ _ => rfl) x
noncomputable def sub21_0 (fuel : Nat) (R : Type) : Sub R := Sub.of [1, 5, 6] c21_0 fr21_0 fun x k => l21_0 fuel (fun y => k (.ret []) (fx21_0.st [4] y)) (fun y => k (.exit 0) (fx21_1.st [] y)) fuel x
theorem subOk21_0 (fuel : Nat) (R : Type) : SubOk P [] 21 (sub21_0 fuel R) :=
  subOk_part (fns := fns21 fuel) (fuel := fuel) (subs := (subsOf [])) (an := al21_0) T_ok (fnsOk21 fuel) mixed subsOk_nil (by kernel_rfl) (by kernel_rfl) fun _ _ _ _ h => Sub.of_run (fun (x : (Int × Int × (List Int))) k => u21_0 fuel k x) h
def an21 : AN := (.seq (.region [(0, { touch := [1], base := 1, ro := false })]) (.seq (.region [(0, { touch := [1] }), (1, { touch := [2], base := 2, ro := false, fresh := 1 })]) (.seq (.seq .leaf (.block (.hole ⟨[1, 5, 6], padK 2 [some (2, 0)]⟩ 0))) (.seq .leaf (.norm ⟨[4], padK 3 []⟩ (.ret []))))))
def p21 (fuel : Nat) : ((Int × Int) × Int) → Option Bool := fun (x1, x2) => (match p17 fuel x1 with | some z3 => (l21_0 fuel (fun x8 => (some x8)) (fun _ => (some false)) fuel (x2, (0 : Int), z3)) | none => none)
def F21 (fuel : Nat) : Fun := funOfA fi21 al21 (p21 fuel)
theorem run21 (fuel : Nat) : ∀ y : ((Int × Int) × Int), runF Bool T (fns21 fuel) fuel (subsOf [sub21_0 fuel Bool]) (defOf Try.f21 an21 3 [] []) (fi21.vs y) (fi21.os y) (altsDec al21) = p21 fuel y := by
  rintro ⟨x1, x2⟩
  kernel_rfl
theorem ok21 (fuel : Nat) : FunOk P 21 (F21 fuel) :=
  funOfA_ok (subs := (subsOf [sub21_0 fuel Bool])) (an := an21) (room := 3) (ks := []) (g0 := []) (fuel := fuel) T_ok (fnsOk21 fuel) mixed (fn := Try.f21) (by kernel_rfl) (by kernel_rfl) (subsOk_cons (subOk21_0 fuel _) subsOk_nil) (by kernel_rfl) (fun _ => ⟨by kernel_rfl, by kernel_rfl⟩) (run21 fuel)

-- f22: tontine/arcs.Overlap
def fns22 (fuel : Nat) : Fns := fnsOf [(18, F18 fuel), (20, F20 fuel)]
theorem fnsOk22 (fuel : Nat) : FnsOk P (fns22 fuel) := (fnsOk_cons (ok18 fuel) (fnsOk_cons (ok20 fuel) fnsOk_nil))
def fi22 : Fr := ⟨[.d false (.pair (.int .i64) (.int .i64)), .d false (.pair (.int .i64) (.int .i64))], [], 0⟩
def al22 : List (Tm × List To) := [(.d true (.bool), [])]
def an22 : AN := (.seq (.region [(0, { touch := [0], ro := false }), (1, { touch := [1], base := 1, ro := false })]) (.seq (.region [(0, { touch := [0] }), (1, { touch := [0] }), (4, { touch := [1] }), (5, { touch := [1] }), (9, { touch := [0] }), (13, { touch := [1] }), (17, { touch := [0] }), (18, { touch := [1] }), (19, { touch := [1] }), (22, { touch := [1] }), (23, { touch := [0] }), (24, { touch := [0] })]) (.norm ⟨[4], padK 2 []⟩ (.ret []))))
def p22 (fuel : Nat) : ((Int × Int) × (Int × Int)) → Option Bool := fun (x1, x2) => (bif (decide ((0 : Int) < x1.2)) then (bif (decide ((0 : Int) < x2.2)) then (match p18 fuel x1 with | some z3 => (bif z3 then (match p18 fuel x2 with | some z4 => (bif z4 then (match p20 fuel (x1, x2.1) with | some z5 => (bif z5 then (some true) else (match p20 fuel (x2, x1.1) with | some z6 => (some z6) | none => none)) | none => none) else (some false)) | none => none) else (some false)) | none => none) else (some false)) else (some false))
def F22 (fuel : Nat) : Fun := funOfA fi22 al22 (p22 fuel)
theorem run22 (fuel : Nat) : ∀ y : ((Int × Int) × (Int × Int)), runF Bool T (fns22 fuel) fuel (subsOf []) (defOf Try.f22 an22 2 [] []) (fi22.vs y) (fi22.os y) (altsDec al22) = p22 fuel y := by
  rintro ⟨x1, x2⟩
  kernel_rfl
theorem ok22 (fuel : Nat) : FunOk P 22 (F22 fuel) :=
  funOfA_ok (subs := (subsOf [])) (an := an22) (room := 2) (ks := []) (g0 := []) (fuel := fuel) T_ok (fnsOk22 fuel) mixed (fn := Try.f22) (by kernel_rfl) (by kernel_rfl) subsOk_nil (by kernel_rfl) (fun _ => ⟨by kernel_rfl, by kernel_rfl⟩) (run22 fuel)

-- f23: tontine/tontineref02.Overlap
def fns23 (fuel : Nat) : Fns := fnsOf [(17, F17 fuel), (21, F21 fuel)]
theorem fnsOk23 (fuel : Nat) : FnsOk P (fns23 fuel) := (fnsOk_cons (ok17 fuel) (fnsOk_cons (ok21 fuel) fnsOk_nil))
def fi23 : Fr := ⟨[.d false (.pair (.int .i64) (.int .i64)), .d false (.pair (.int .i64) (.int .i64))], [], 0⟩
def al23 : List (Tm × List To) := [(.d true (.bool), [])]
def fx23_0 : Fr := ⟨[.d true (.bool)], [], 5⟩
def fx23_1 : Fr := ⟨[], [], 5⟩
def fr23_0 : Fr := ⟨[.c (.ptr 0 0 []), .c (.slc 1 0), .d true (.int .i64)], [.box (.d true (.pair (.int .i64) (.int .i64))), .arr 0 (.int .i64)], 3⟩
noncomputable def c23_0 : Code := bodyAt Try.f23 [1, 1, 0, 1, 0]
def s23_0 (fuel : Nat) {R : Type} (F : (Int × (Int × Int) × (List Int)) → Option R) (k0 : Bool → Option R) (k1 : Unit → Option R) : (Int × (Int × Int) × (List Int)) → Option R := fun (x4, x5, x6) => (bif (decide (x4 < ((List.length x6 : Nat) : Int))) then (if 0 ≤ x4 ∧ x4 < ((List.length x6 : Nat) : Int) then (match (x6)[(Int.toNat x4)]? with | some y7 => (match p21 fuel (x5, y7) with | some z8 => (bif z8 then (k0 true) else (F ((IntKind.wrap .i64 (x4 + (1 : Int))), x5, x6))) | none => none) | none => none) else none) else (k1 ()))
def l23_0 (fuel : Nat) {R : Type} (k0 : Bool → Option R) (k1 : Unit → Option R) : Nat → (Int × (Int × Int) × (List Int)) → Option R
  | 0, _ => none
  | n + 1, x => s23_0 fuel (l23_0 fuel k0 k1 n) k0 k1 x
def nm23_0 : Norm := ⟨[3, 5, 6], padK 3 [some (0, 0), some (1, 0)]⟩
def an23_0 : AN := (.seq (.seq (.region [(2, { touch := [1] })]) (.cond .leaf (.norm ⟨[], padK 5 []⟩ .leaf))) (.seq (.block (.seq (.region [(0, { touch := [0] }), (3, { touch := [1] }), (4, { touch := [1] })]) (.seq .leaf (.cond (.seq .leaf (.norm ⟨[4], padK 5 []⟩ (.ret []))) .leaf)))) .leaf))
def al23_0 : AN := .loop nm23_0 an23_0
noncomputable def d23_0 : Code := bodyAt Try.f23 [1, 1, 0, 1, 0, 0]
theorem e23_0 (fuel : Nat) {R : Type} (F : St → Option R) (k : AExit → St → Option R) : ∀ x : (Int × (Int × Int) × (List Int)), runK R T (fns23 fuel) fuel [] (subsOf []) (partOf d23_0 an23_0) (fr23_0.st [3, 5, 6] x) (backTo R [] nm23_0 F k) = s23_0 fuel (fun x => F (fr23_0.st [3, 5, 6] x)) (fun y => k (.ret []) (fx23_0.st [4] y)) (fun y => k (.exit 0) (fx23_1.st [] y)) x := by
  rintro ⟨x4, x5, x6⟩
  kernel_rfl
theorem u23_0 (fuel : Nat) {R : Type} (k : AExit → St → Option R) (x : (Int × (Int × Int) × (List Int))) : runK R T (fns23 fuel) fuel [] (subsOf []) (partOf c23_0 al23_0) (fr23_0.st [3, 5, 6] x) k = l23_0 fuel (fun y => k (.ret []) (fx23_0.st [4] y)) (fun y => k (.exit 0) (fx23_1.st [] y)) fuel x :=
  loop_eq (mk := fr23_0.st [3, 5, 6]) (s := fun F x => s23_0 fuel F (fun y => k (.ret []) (fx23_0.st [4] y)) (fun y => k (.exit 0) (fx23_1.st [] y)) x) (l := fun n x => l23_0 fuel (fun y => k (.ret []) (fx23_0.st [4] y)) (fun y => k (.exit 0) (fx23_1.st [] y)) n x) (d := d23_0) (by kernel_rfl) (fun G x => by
    revert x
    rintro ⟨x4, x5, x6⟩
    kernel_rfl) (fun F x => e23_0 fuel F k x) (fun _ => rfl) (fun _ _ => rfl) x
noncomputable def sub23_0 (fuel : Nat) (R : Type) : Sub R := Sub.of [3, 5, 6] c23_0 fr23_0 fun x k => l23_0 fuel (fun y => k (.ret []) (fx23_0.st [4] y)) (fun y => k (.exit 0) (fx23_1.st [] y)) fuel x
theorem subOk23_0 (fuel : Nat) (R : Type) : SubOk P [] 23 (sub23_0 fuel R) :=
  subOk_part (fns := fns23 fuel) (fuel := fuel) (subs := (subsOf [])) (an := al23_0) T_ok (fnsOk23 fuel) mixed subsOk_nil (by kernel_rfl) (by kernel_rfl) fun _ _ _ _ h => Sub.of_run (fun (x : (Int × (Int × Int) × (List Int))) k => u23_0 fuel k x) h
def an23 : AN := (.seq (.region [(0, { touch := [2], base := 2, ro := false }), (1, { touch := [3], base := 3, ro := false })]) (.seq (.region [(0, { touch := [2] }), (1, { touch := [4], base := 4, ro := false, fresh := 1 })]) (.seq (.seq .leaf (.block (.hole ⟨[3, 5, 6], padK 3 [some (3, 0), some (4, 0)]⟩ 0))) (.seq .leaf (.norm ⟨[4], padK 5 []⟩ (.ret []))))))
def p23 (fuel : Nat) : ((Int × Int) × (Int × Int)) → Option Bool := fun (x1, x2) => (match p17 fuel x1 with | some z3 => (l23_0 fuel (fun x9 => (some x9)) (fun _ => (some false)) fuel ((0 : Int), x2, z3)) | none => none)
def F23 (fuel : Nat) : Fun := funOfA fi23 al23 (p23 fuel)
theorem run23 (fuel : Nat) : ∀ y : ((Int × Int) × (Int × Int)), runF Bool T (fns23 fuel) fuel (subsOf [sub23_0 fuel Bool]) (defOf Try.f23 an23 5 [] []) (fi23.vs y) (fi23.os y) (altsDec al23) = p23 fuel y := by
  rintro ⟨x1, x2⟩
  kernel_rfl
theorem ok23 (fuel : Nat) : FunOk P 23 (F23 fuel) :=
  funOfA_ok (subs := (subsOf [sub23_0 fuel Bool])) (an := an23) (room := 5) (ks := []) (g0 := []) (fuel := fuel) T_ok (fnsOk23 fuel) mixed (fn := Try.f23) (by kernel_rfl) (by kernel_rfl) (subsOk_cons (subOk23_0 fuel _) subsOk_nil) (by kernel_rfl) (fun _ => ⟨by kernel_rfl, by kernel_rfl⟩) (run23 fuel)

-- f4: tontine/tontinelaw02.ArcsPlaces
def fns4 (fuel : Nat) : Fns := fnsOf [(15, F15 fuel), (17, F17 fuel), (16, F16 fuel), (14, F14 fuel), (18, F18 fuel), (19, F19 fuel), (20, F20 fuel), (21, F21 fuel), (22, F22 fuel), (23, F23 fuel)]
theorem fnsOk4 (fuel : Nat) : FnsOk P (fns4 fuel) := (fnsOk_cons (ok15 fuel) (fnsOk_cons (ok17 fuel) (fnsOk_cons (ok16 fuel) (fnsOk_cons (ok14 fuel) (fnsOk_cons (ok18 fuel) (fnsOk_cons (ok19 fuel) (fnsOk_cons (ok20 fuel) (fnsOk_cons (ok21 fuel) (fnsOk_cons (ok22 fuel) (fnsOk_cons (ok23 fuel) fnsOk_nil))))))))))
def fi4 : Fr := ⟨[.d false (.pair (.int .i64) (.int .i64)), .d false (.pair (.int .i64) (.int .i64)), .d false (.int .i64)], [], 0⟩
def al4 : List (Tm × List To) := [(.d true (.bool), [])]
def fx4_0 : Fr := ⟨[.d true (.int .i64), .c (.ptr 0 0 []), .c (.ptr 1 0 []), .d true (.bool)], [.box (.d true (.pair (.int .i64) (.int .i64))), .box (.d true (.pair (.int .i64) (.int .i64)))], 7⟩
def fr4_0 : Fr := ⟨[.d true (.int .i64), .c (.ptr 0 0 []), .c (.ptr 1 0 []), .c (.slc 2 0), .d true (.bool), .d true (.int .i64)], [.box (.d true (.pair (.int .i64) (.int .i64))), .box (.d true (.pair (.int .i64) (.int .i64))), .arr 0 (.int .i64)], 6⟩
noncomputable def c4_0 : Code := bodyAt Try.f4 [1, 1, 1, 0, 1, 0]
def s4_0 (fuel : Nat) {R : Type} (F : (Int × Bool × Int × (Int × Int) × (Int × Int) × (List Int)) → Option R) (k0 : (Int × Bool × (Int × Int) × (Int × Int)) → Option R) : (Int × Bool × Int × (Int × Int) × (Int × Int) × (List Int)) → Option R := fun (x7, x8, x9, x10, x11, x12) => (bif (decide (x9 < ((List.length x12 : Nat) : Int))) then (if 0 ≤ x9 ∧ x9 < ((List.length x12 : Nat) : Int) then (match (x12)[(Int.toNat x9)]? with | some y13 => (F (x7, x8, (IntKind.wrap .i64 (x9 + (1 : Int))), x10, x11, (List.set x12 (Int.toNat x9) (-1 : Int)))) | none => none) else none) else (k0 (x7, x8, x10, x11)))
def l4_0 (fuel : Nat) {R : Type} (k0 : (Int × Bool × (Int × Int) × (Int × Int)) → Option R) : Nat → (Int × Bool × Int × (Int × Int) × (Int × Int) × (List Int)) → Option R
  | 0, _ => none
  | n + 1, x => s4_0 fuel (l4_0 fuel k0 n) k0 x
def nm4_0 : Norm := ⟨[2, 3, 4, 7, 8, 9], padK 6 [some (0, 0), some (1, 0), some (2, 0)]⟩
def an4_0 : AN := (.seq (.seq (.region [(2, { touch := [2] })]) (.cond .leaf (.norm ⟨[2, 3, 4, 8], padK 7 [some (0, 0), some (1, 0)]⟩ .leaf))) (.seq (.block (.region [(2, { touch := [2] }), (3, { touch := [2], ro := false })])) .leaf))
def al4_0 : AN := .loop nm4_0 an4_0
noncomputable def d4_0 : Code := bodyAt Try.f4 [1, 1, 1, 0, 1, 0, 0]
theorem e4_0 (fuel : Nat) {R : Type} (F : St → Option R) (k : AExit → St → Option R) : ∀ x : (Int × Bool × Int × (Int × Int) × (Int × Int) × (List Int)), runK R T (fns4 fuel) fuel [] (subsOf []) (partOf d4_0 an4_0) (fr4_0.st [2, 3, 4, 7, 8, 9] x) (backTo R [] nm4_0 F k) = s4_0 fuel (fun x => F (fr4_0.st [2, 3, 4, 7, 8, 9] x)) (fun y => k (.exit 0) (fx4_0.st [2, 3, 4, 8] y)) x := by
  rintro ⟨x7, x8, x9, x10, x11, x12⟩
  kernel_rfl
theorem u4_0 (fuel : Nat) {R : Type} (k : AExit → St → Option R) (x : (Int × Bool × Int × (Int × Int) × (Int × Int) × (List Int))) : runK R T (fns4 fuel) fuel [] (subsOf []) (partOf c4_0 al4_0) (fr4_0.st [2, 3, 4, 7, 8, 9] x) k = l4_0 fuel (fun y => k (.exit 0) (fx4_0.st [2, 3, 4, 8] y)) fuel x :=
  loop_eq (mk := fr4_0.st [2, 3, 4, 7, 8, 9]) (s := fun F x => s4_0 fuel F (fun y => k (.exit 0) (fx4_0.st [2, 3, 4, 8] y)) x) (l := fun n x => l4_0 fuel (fun y => k (.exit 0) (fx4_0.st [2, 3, 4, 8] y)) n x) (d := d4_0) (by kernel_rfl) (fun G x => by
    revert x
    rintro ⟨x7, x8, x9, x10, x11, x12⟩
    kernel_rfl) (fun F x => e4_0 fuel F k x) (fun _ => rfl) (fun _ _ => rfl) x
noncomputable def sub4_0 (fuel : Nat) (R : Type) : Sub R := Sub.of [2, 3, 4, 7, 8, 9] c4_0 fr4_0 fun x k => l4_0 fuel (fun y => k (.exit 0) (fx4_0.st [2, 3, 4, 8] y)) fuel x
theorem subOk4_0 (fuel : Nat) (R : Type) : SubOk P [] 63 (sub4_0 fuel R) :=
  subOk_part (fns := fns4 fuel) (fuel := fuel) (subs := (subsOf [])) (an := al4_0) T_ok (fnsOk4 fuel) mixed subsOk_nil (by kernel_rfl) (by kernel_rfl) fun _ _ _ _ h => Sub.of_run (fun (x : (Int × Bool × Int × (Int × Int) × (Int × Int) × (List Int))) k => u4_0 fuel k x) h
def an4 : AN := (.seq (.region [(0, { touch := [3], base := 3, ro := false }), (1, { touch := [4], base := 4, ro := false })]) (.seq (.region [(0, { touch := [3] }), (1, { touch := [5], base := 5, ro := false, fresh := 1 })]) (.seq (.region [(1, { touch := [3] }), (2, { touch := [6], base := 6, ro := false, fresh := 1 }), (3, { touch := [5, 6], lend := [some (.slice (.int .i64)), some (.slice (.int .i64))] })]) (.seq (.seq .leaf (.block (.hole ⟨[2, 3, 4, 7, 8, 9], padK 6 [some (3, 0), some (4, 0), some (5, 0)]⟩ 0))) (.seq (.region [(0, { touch := [0] }), (1, { touch := [7], base := 7, ro := false, fresh := 1 }), (2, { touch := [0] }), (3, { touch := [8], base := 8, ro := false, fresh := 1 }), (4, { touch := [7, 8], lend := [some (.slice (.int .i64)), some (.slice (.int .i64))] })]) (.seq (.region [(2, { touch := [0] }), (4, { touch := [0] }), (9, { touch := [0] }), (12, { touch := [0] }), (18, { touch := [0] }), (19, { touch := [1] }), (21, { touch := [0] }), (22, { touch := [1] })]) (.norm ⟨[6], padK 9 []⟩ (.ret []))))))))
def p4 (fuel : Nat) : ((Int × Int) × (Int × Int) × Int) → Option Bool := fun (x1, x2, x3) => (match p15 fuel x1 with | some z4 => (match p17 fuel x1 with | some z5 => (match p16 fuel (z4, z5) with | some z6 => (l4_0 fuel (fun (x14, x15, x16, x17) => (match p15 fuel x16 with | some z18 => (match p17 fuel x16 with | some z19 => (match p16 fuel (z18, z19) with | some z20 => (match p14 fuel () with | some z21 => (bif z21 then (match p18 fuel x16 with | some z22 => (match p19 fuel x16 with | some z23 => (bif (z22 == z23) then (match p20 fuel (x16, x14) with | some z24 => (match p21 fuel (x16, x14) with | some z25 => (bif (z24 == z25) then (match p22 fuel (x16, x17) with | some z26 => (match p23 fuel (x16, x17) with | some z27 => (bif (z26 == z27) then (bif x15 then (some z20) else (some false)) else (some false)) | none => none) | none => none) else (some false)) | none => none) | none => none) else (some false)) | none => none) | none => none) else (some false)) | none => none) | none => none) | none => none) | none => none)) fuel (x3, z6, (0 : Int), x1, x2, z4)) | none => none) | none => none) | none => none)
def F4 (fuel : Nat) : Fun := funOfA fi4 al4 (p4 fuel)
theorem run4 (fuel : Nat) : ∀ y : ((Int × Int) × (Int × Int) × Int), runF Bool T (fns4 fuel) fuel (subsOf [sub4_0 fuel Bool]) (defOf Try.f4 an4 9 [] []) (fi4.vs y) (fi4.os y) (altsDec al4) = p4 fuel y := by
  rintro ⟨x1, x2, x3⟩
  kernel_rfl
theorem ok4 (fuel : Nat) : FunOk P 4 (F4 fuel) :=
  funOfA_ok (subs := (subsOf [sub4_0 fuel Bool])) (an := an4) (room := 9) (ks := []) (g0 := []) (fuel := fuel) T_ok (fnsOk4 fuel) mixed (fn := Try.f4) (by kernel_rfl) (by kernel_rfl) (subsOk_cons (subOk4_0 fuel _) subsOk_nil) (by kernel_rfl) (fun _ => ⟨by kernel_rfl, by kernel_rfl⟩) (run4 fuel)

-- f5: tontine/tontinelaw02.ArcsShare
def fns5 (fuel : Nat) : Fns := fnsOf [(20, F20 fuel), (18, F18 fuel), (14, F14 fuel), (15, F15 fuel), (22, F22 fuel)]
theorem fnsOk5 (fuel : Nat) : FnsOk P (fns5 fuel) := (fnsOk_cons (ok20 fuel) (fnsOk_cons (ok18 fuel) (fnsOk_cons (ok14 fuel) (fnsOk_cons (ok15 fuel) (fnsOk_cons (ok22 fuel) fnsOk_nil)))))
def fi5 : Fr := ⟨[.d false (.pair (.int .i64) (.int .i64)), .d false (.pair (.int .i64) (.int .i64))], [], 0⟩
def al5 : List (Tm × List To) := [(.d true (.bool), [])]
def fx5_0 : Fr := ⟨[.c (.ptr 0 0 []), .c (.ptr 1 0 []), .d true (.int .i64), .d true (.bool), .d true (.int .i64)], [.box (.d true (.pair (.int .i64) (.int .i64))), .box (.d true (.pair (.int .i64) (.int .i64)))], 3⟩
def fr5_0 : Fr := ⟨[.c (.ptr 0 0 []), .c (.ptr 1 0 []), .d true (.int .i64), .d true (.bool), .d true (.int .i64), .d true (.bool), .d true (.bool)], [.box (.d true (.pair (.int .i64) (.int .i64))), .box (.d true (.pair (.int .i64) (.int .i64)))], 3⟩
noncomputable def c5_0 : Code := bodyAt Try.f5 [1, 1, 1, 0, 1, 0, 0, 1, 0, 0, 1, 1, 1]
def j5_0 (fuel : Nat) {R : Type} (k0 : (Int × Bool × Int × (Int × Int) × (Int × Int)) → Option R) : (Int × Bool × Int × Bool × Bool × (Int × Int) × (Int × Int)) → Option R := fun (x10, x11, x12, x13, x14, x15, x16) => (bif x11 then (k0 (x10, true, x12, x15, x16)) else (bif x13 then (k0 (x10, x14, x12, x15, x16)) else (k0 (x10, false, x12, x15, x16))))
def al5_0 : AN := (.fin ⟨[2, 3, 5, 6, 7], padK 3 [some (0, 0), some (1, 0)]⟩ .leaf)
theorem u5_0 (fuel : Nat) {R : Type} (k : AExit → St → Option R) : ∀ x : (Int × Bool × Int × Bool × Bool × (Int × Int) × (Int × Int)), runK R T (fns5 fuel) fuel [] (subsOf []) (partOf c5_0 al5_0) (fr5_0.st [2, 3, 5, 6, 7, 8, 9] x) k = j5_0 fuel (fun y => k .normal (fx5_0.st [2, 3, 5, 6, 7] y)) x := by
  rintro ⟨x10, x11, x12, x13, x14, x15, x16⟩
  kernel_rfl
noncomputable def sub5_0 (fuel : Nat) (R : Type) : Sub R := Sub.of [2, 3, 5, 6, 7, 8, 9] c5_0 fr5_0 fun x k => j5_0 fuel (fun y => k .normal (fx5_0.st [2, 3, 5, 6, 7] y)) x
theorem subOk5_0 (fuel : Nat) (R : Type) : SubOk P [] 64 (sub5_0 fuel R) :=
  subOk_part (fns := fns5 fuel) (fuel := fuel) (subs := (subsOf [])) (an := al5_0) T_ok (fnsOk5 fuel) mixed subsOk_nil (by kernel_rfl) (by kernel_rfl) fun _ _ _ _ h => Sub.of_run (fun (x : (Int × Bool × Int × Bool × Bool × (Int × Int) × (Int × Int))) k => u5_0 fuel k x) h
def fx5_1 : Fr := ⟨[.c (.ptr 0 0 []), .c (.ptr 1 0 []), .d true (.int .i64), .d true (.bool)], [.box (.d true (.pair (.int .i64) (.int .i64))), .box (.d true (.pair (.int .i64) (.int .i64)))], 3⟩
def fr5_1 : Fr := ⟨[.c (.ptr 0 0 []), .c (.ptr 1 0 []), .d true (.int .i64), .d true (.bool), .d true (.int .i64)], [.box (.d true (.pair (.int .i64) (.int .i64))), .box (.d true (.pair (.int .i64) (.int .i64)))], 3⟩
noncomputable def c5_1 : Code := bodyAt Try.f5 [1, 1, 1, 0, 1, 0]
def s5_1 (fuel : Nat) {R : Type} (F : (Int × Bool × Int × (Int × Int) × (Int × Int)) → Option R) (k0 : (Int × Bool × (Int × Int) × (Int × Int)) → Option R) : (Int × Bool × Int × (Int × Int) × (Int × Int)) → Option R := fun (x3, x4, x5, x6, x7) => (bif (decide (x5 < (64 : Int))) then (match p20 fuel (x6, x5) with | some z8 => (match p20 fuel (x7, x5) with | some z9 => (bif z8 then (j5_0 fuel (fun (x17, x18, x19, x20, x21) => (F (x17, x18, (IntKind.wrap .i64 (x19 + (1 : Int))), x20, x21))) ((IntKind.wrap .i64 (x3 + (1 : Int))), x4, x5, z8, z9, x6, x7)) else (j5_0 fuel (fun (x22, x23, x24, x25, x26) => (F (x22, x23, (IntKind.wrap .i64 (x24 + (1 : Int))), x25, x26))) (x3, x4, x5, z8, z9, x6, x7))) | none => none) | none => none) else (k0 (x3, x4, x6, x7)))
def l5_1 (fuel : Nat) {R : Type} (k0 : (Int × Bool × (Int × Int) × (Int × Int)) → Option R) : Nat → (Int × Bool × Int × (Int × Int) × (Int × Int)) → Option R
  | 0, _ => none
  | n + 1, x => s5_1 fuel (l5_1 fuel k0 n) k0 x
def nm5_1 : Norm := ⟨[2, 3, 5, 6, 7], padK 3 [some (0, 0), some (1, 0)]⟩
def an5_1 : AN := (.seq (.seq .leaf (.cond .leaf (.norm ⟨[2, 3, 5, 6], padK 3 [some (0, 0), some (1, 0)]⟩ .leaf))) (.seq (.block (.seq (.region [(0, { touch := [0] })]) (.seq (.region [(0, { touch := [1] })]) (.seq (.seq .leaf (.cond (.fin ⟨[2, 3, 5, 6, 7, 8, 9], padK 3 [some (0, 0), some (1, 0)]⟩ .leaf) (.fin ⟨[2, 3, 5, 6, 7, 8, 9], padK 3 [some (0, 0), some (1, 0)]⟩ .leaf))) (.hole ⟨[2, 3, 5, 6, 7, 8, 9], padK 3 [some (0, 0), some (1, 0)]⟩ 0))))) .leaf))
def al5_1 : AN := .loop nm5_1 an5_1
noncomputable def d5_1 : Code := bodyAt Try.f5 [1, 1, 1, 0, 1, 0, 0]
theorem e5_1 (fuel : Nat) {R : Type} (F : St → Option R) (k : AExit → St → Option R) : ∀ x : (Int × Bool × Int × (Int × Int) × (Int × Int)), runK R T (fns5 fuel) fuel [] (subsOf [sub5_0 fuel R]) (partOf d5_1 an5_1) (fr5_1.st [2, 3, 5, 6, 7] x) (backTo R [] nm5_1 F k) = s5_1 fuel (fun x => F (fr5_1.st [2, 3, 5, 6, 7] x)) (fun y => k (.exit 0) (fx5_1.st [2, 3, 5, 6] y)) x := by
  rintro ⟨x3, x4, x5, x6, x7⟩
  kernel_rfl
theorem u5_1 (fuel : Nat) {R : Type} (k : AExit → St → Option R) (x : (Int × Bool × Int × (Int × Int) × (Int × Int))) : runK R T (fns5 fuel) fuel [] (subsOf [sub5_0 fuel R]) (partOf c5_1 al5_1) (fr5_1.st [2, 3, 5, 6, 7] x) k = l5_1 fuel (fun y => k (.exit 0) (fx5_1.st [2, 3, 5, 6] y)) fuel x :=
  loop_eq (mk := fr5_1.st [2, 3, 5, 6, 7]) (s := fun F x => s5_1 fuel F (fun y => k (.exit 0) (fx5_1.st [2, 3, 5, 6] y)) x) (l := fun n x => l5_1 fuel (fun y => k (.exit 0) (fx5_1.st [2, 3, 5, 6] y)) n x) (d := d5_1) (by kernel_rfl) (fun G x => by
    revert x
    rintro ⟨x3, x4, x5, x6, x7⟩
    kernel_rfl) (fun F x => e5_1 fuel F k x) (fun _ => rfl) (fun _ _ => rfl) x
noncomputable def sub5_1 (fuel : Nat) (R : Type) : Sub R := Sub.of [2, 3, 5, 6, 7] c5_1 fr5_1 fun x k => l5_1 fuel (fun y => k (.exit 0) (fx5_1.st [2, 3, 5, 6] y)) fuel x
theorem subOk5_1 (fuel : Nat) (R : Type) : SubOk P [] 64 (sub5_1 fuel R) :=
  subOk_part (fns := fns5 fuel) (fuel := fuel) (subs := (subsOf [sub5_0 fuel R])) (an := al5_1) T_ok (fnsOk5 fuel) mixed (subsOk_cons (subOk5_0 fuel R) subsOk_nil) (by kernel_rfl) (by kernel_rfl) fun _ _ _ _ h => Sub.of_run (fun (x : (Int × Bool × Int × (Int × Int) × (Int × Int))) k => u5_1 fuel k x) h
def fx5_2 : Fr := ⟨[.d true (.bool)], [], 5⟩
def fr5_2 : Fr := ⟨[.c (.ptr 0 0 []), .c (.ptr 1 0 []), .d true (.int .i64), .d true (.bool), .d true (.int .i64)], [.box (.d true (.pair (.int .i64) (.int .i64))), .box (.d true (.pair (.int .i64) (.int .i64)))], 3⟩
noncomputable def c5_2 : Code := bodyAt Try.f5 [1, 1, 1, 1, 1, 1, 1]
def j5_2 (fuel : Nat) {R : Type} (k0 : Bool → Option R) : (Int × Bool × Int × (Int × Int) × (Int × Int)) → Option R := fun (x32, x33, x34, x35, x36) => (match p14 fuel () with | some z37 => (bif z37 then (bif (decide (x32 = x34)) then (match p15 fuel x35 with | some z38 => (bif (decide (((List.length z38 : Nat) : Int) = x34)) then (match p22 fuel (x35, x36) with | some z39 => (bif (z39 == x33) then (match p22 fuel (x36, x35) with | some z40 => (k0 (z40 == x33)) | none => none) else (k0 false)) | none => none) else (k0 false)) | none => none) else (k0 false)) else (k0 false)) | none => none)
def al5_2 : AN := (.seq (.region [(7, { touch := [0] }), (8, { touch := [4], base := 4, ro := false, fresh := 1 }), (9, { touch := [4] }), (14, { touch := [0] }), (15, { touch := [1] }), (21, { touch := [1] }), (22, { touch := [0] })]) (.norm ⟨[4], padK 5 []⟩ (.ret [])))
theorem u5_2 (fuel : Nat) {R : Type} (k : AExit → St → Option R) : ∀ x : (Int × Bool × Int × (Int × Int) × (Int × Int)), runK R T (fns5 fuel) fuel [] (subsOf [sub5_0 fuel R, sub5_1 fuel R]) (partOf c5_2 al5_2) (fr5_2.st [2, 3, 5, 6, 10] x) k = j5_2 fuel (fun y => k (.ret []) (fx5_2.st [4] y)) x := by
  rintro ⟨x32, x33, x34, x35, x36⟩
  kernel_rfl
noncomputable def sub5_2 (fuel : Nat) (R : Type) : Sub R := Sub.of [2, 3, 5, 6, 10] c5_2 fr5_2 fun x k => j5_2 fuel (fun y => k (.ret []) (fx5_2.st [4] y)) x
theorem subOk5_2 (fuel : Nat) (R : Type) : SubOk P [] 64 (sub5_2 fuel R) :=
  subOk_part (fns := fns5 fuel) (fuel := fuel) (subs := (subsOf [sub5_0 fuel R, sub5_1 fuel R])) (an := al5_2) T_ok (fnsOk5 fuel) mixed (subsOk_cons (subOk5_0 fuel R) (subsOk_cons (subOk5_1 fuel R) subsOk_nil)) (by kernel_rfl) (by kernel_rfl) fun _ _ _ _ h => Sub.of_run (fun (x : (Int × Bool × Int × (Int × Int) × (Int × Int))) k => u5_2 fuel k x) h
def an5 : AN := (.seq (.region [(0, { touch := [2], base := 2, ro := false }), (1, { touch := [3], base := 3, ro := false })]) (.seq .leaf (.seq .leaf (.seq (.seq .leaf (.block (.hole ⟨[2, 3, 5, 6, 7], padK 3 [some (2, 0), some (3, 0)]⟩ 1))) (.seq .leaf (.seq (.region [(0, { touch := [0] })]) (.seq (.seq .leaf (.cond (.fin ⟨[2, 3, 5, 6, 10], padK 3 [some (0, 0), some (1, 0)]⟩ (.region [(0, { touch := [0] }), (1, { touch := [0] })])) (.fin ⟨[2, 3, 5, 6, 10], padK 3 [some (0, 0), some (1, 0)]⟩ .leaf))) (.hole ⟨[2, 3, 5, 6, 10], padK 3 [some (0, 0), some (1, 0)]⟩ 2))))))))
def p5 (fuel : Nat) : ((Int × Int) × (Int × Int)) → Option Bool := fun (x1, x2) => (l5_1 fuel (fun (x27, x28, x29, x30) => (match p18 fuel x29 with | some z31 => (bif z31 then (j5_2 fuel (fun x41 => (some x41)) (x27, x28, x29.2, x29, x30)) else (j5_2 fuel (fun x42 => (some x42)) (x27, x28, (0 : Int), x29, x30))) | none => none)) fuel ((0 : Int), false, (0 : Int), x1, x2))
def F5 (fuel : Nat) : Fun := funOfA fi5 al5 (p5 fuel)
theorem run5 (fuel : Nat) : ∀ y : ((Int × Int) × (Int × Int)), runF Bool T (fns5 fuel) fuel (subsOf [sub5_0 fuel Bool, sub5_1 fuel Bool, sub5_2 fuel Bool]) (defOf Try.f5 an5 5 [] []) (fi5.vs y) (fi5.os y) (altsDec al5) = p5 fuel y := by
  rintro ⟨x1, x2⟩
  kernel_rfl
theorem ok5 (fuel : Nat) : FunOk P 5 (F5 fuel) :=
  funOfA_ok (subs := (subsOf [sub5_0 fuel Bool, sub5_1 fuel Bool, sub5_2 fuel Bool])) (an := an5) (room := 5) (ks := []) (g0 := []) (fuel := fuel) T_ok (fnsOk5 fuel) mixed (fn := Try.f5) (by kernel_rfl) (by kernel_rfl) (subsOk_cons (subOk5_0 fuel _) (subsOk_cons (subOk5_1 fuel _) (subsOk_cons (subOk5_2 fuel _) subsOk_nil))) (by kernel_rfl) (fun _ => ⟨by kernel_rfl, by kernel_rfl⟩) (run5 fuel)

-- f25: tontine/arcs.Of
def fns25 (fuel : Nat) : Fns := fnsOf []
theorem fnsOk25 (fuel : Nat) : FnsOk P (fns25 fuel) := fnsOk_nil
def fi25 : Fr := ⟨[.d false (.arr 64 (.bool))], [], 0⟩
def al25 : List (Tm × List To) := [(.c (.slc 0 0), [.arr 0 (.pair (.int .i64) (.int .i64))])]
def fx25_0 : Fr := ⟨[.c (.ptr 0 0 []), .c (.slc 1 0), .d true (.arr 64 (.bool)), .d true (.int .i64)], [.box (.d true (.arr 64 (.bool))), .arr 0 (.pair (.int .i64) (.int .i64))], 3⟩
def fr25_0 : Fr := ⟨[.c (.ptr 0 0 []), .c (.slc 1 0), .d true (.int .i64), .d true (.arr 64 (.bool)), .d true (.int .i64), .d true (.bool)], [.box (.d true (.arr 64 (.bool))), .arr 0 (.pair (.int .i64) (.int .i64))], 3⟩
noncomputable def c25_0 : Code := bodyAt Try.f25 [1, 1, 1, 0, 1, 0, 0, 1, 1, 0, 0, 1, 0, 1, 1, 1]
def j25_0 (fuel : Nat) {R : Type} (k0 : ((List Bool) × Int × (List Bool) × (List (Int × Int))) → Option R) : (Int × (List Bool) × Int × Bool × (List Bool) × (List (Int × Int))) → Option R := fun (x8, x9, x10, x11, x12, x13) => (bif x11 then (if 0 ≤ (IntKind.wrap .i64 (((List.length x13 : Nat) : Int) - (1 : Int))) ∧ (IntKind.wrap .i64 (((List.length x13 : Nat) : Int) - (1 : Int))) < ((List.length x13 : Nat) : Int) then (match (x13)[(Int.toNat (IntKind.wrap .i64 (((List.length x13 : Nat) : Int) - (1 : Int))))]? with | some y14 => (if 0 ≤ (IntKind.wrap .i64 (((List.length x13 : Nat) : Int) - (1 : Int))) ∧ (IntKind.wrap .i64 (((List.length x13 : Nat) : Int) - (1 : Int))) < ((List.length x13 : Nat) : Int) then (match (x13)[(Int.toNat (IntKind.wrap .i64 (((List.length x13 : Nat) : Int) - (1 : Int))))]? with | some y15 => let v16 := (List.set x13 (Int.toNat (IntKind.wrap .i64 (((List.length x13 : Nat) : Int) - (1 : Int)))) (y15.1, (IntKind.wrap .i64 (y14.2 + (1 : Int))))); (k0 (x9, x10, x12, v16)) | none => none) else none) | none => none) else none) else (if (List.length x13 + List.length [(x8, (1 : Int))]) * 16 ≤ 140737488355328 then (k0 (x9, x10, x12, (x13 ++ [(x8, (1 : Int))]))) else none))
def al25_0 : AN := (.fin ⟨[1, 3, 11, 12], padK 3 [some (0, 0), some (1, 0)]⟩ (.cond (.fin ⟨[1, 3, 11, 12], padK 3 [some (0, 0), some (1, 0)]⟩ (.region [(2, { touch := [1] }), (4, { touch := [1] }), (5, { touch := [1] }), (6, { touch := [1] }), (8, { touch := [1] }), (9, { touch := [1] }), (10, { touch := [1], ro := false })])) (.fin ⟨[1, 3, 11, 12], padK 3 [some (0, 0), some (1, 0)]⟩ (.region [(3, { touch := [3], base := 3, ro := false }), (4, { touch := [1, 3], ro := false })]))))
theorem u25_0 (fuel : Nat) {R : Type} (k : AExit → St → Option R) : ∀ x : (Int × (List Bool) × Int × Bool × (List Bool) × (List (Int × Int))), runK R T (fns25 fuel) fuel [] (subsOf []) (partOf c25_0 al25_0) (fr25_0.st [1, 3, 4, 11, 12, 24] x) k = j25_0 fuel (fun y => k .normal (fx25_0.st [1, 3, 11, 12] y)) x := by
  rintro ⟨x8, x9, x10, x11, x12, x13⟩
  kernel_rfl
noncomputable def sub25_0 (fuel : Nat) (R : Type) : Sub R := Sub.of [1, 3, 4, 11, 12, 24] c25_0 fr25_0 fun x k => j25_0 fuel (fun y => k .normal (fx25_0.st [1, 3, 11, 12] y)) x
theorem subOk25_0 (fuel : Nat) (R : Type) : SubOk P [] 75 (sub25_0 fuel R) :=
  subOk_part (fns := fns25 fuel) (fuel := fuel) (subs := (subsOf [])) (an := al25_0) T_ok (fnsOk25 fuel) mixed subsOk_nil (by kernel_rfl) (by kernel_rfl) fun _ _ _ _ h => Sub.of_run (fun (x : (Int × (List Bool) × Int × Bool × (List Bool) × (List (Int × Int)))) k => u25_0 fuel k x) h
def fx25_1 : Fr := ⟨[.c (.ptr 0 0 []), .c (.slc 1 0)], [.box (.d true (.arr 64 (.bool))), .arr 0 (.pair (.int .i64) (.int .i64))], 3⟩
def fr25_1 : Fr := ⟨[.c (.ptr 0 0 []), .c (.slc 1 0), .d true (.arr 64 (.bool)), .d true (.int .i64)], [.box (.d true (.arr 64 (.bool))), .arr 0 (.pair (.int .i64) (.int .i64))], 3⟩
noncomputable def c25_1 : Code := bodyAt Try.f25 [1, 1, 1, 0, 1, 0]
def s25_1 (fuel : Nat) {R : Type} (F : ((List Bool) × Int × (List Bool) × (List (Int × Int))) → Option R) (k0 : ((List Bool) × (List (Int × Int))) → Option R) : ((List Bool) × Int × (List Bool) × (List (Int × Int))) → Option R := fun (x2, x3, x4, x5) => (bif (decide (x3 < (64 : Int))) then (if 0 ≤ x3 ∧ x3 < ((64 : Nat) : Int) then (match (x2)[Int.toNat x3]? with | some y6 => (bif (!y6) then (F (x2, (IntKind.wrap .i64 (x3 + (1 : Int))), x4, x5)) else (bif (decide ((0 : Int) < x3)) then (if 0 ≤ (IntKind.wrap .i64 (x3 - (1 : Int))) ∧ (IntKind.wrap .i64 (x3 - (1 : Int))) < ((64 : Nat) : Int) then (match (x4)[(Int.toNat (IntKind.wrap .i64 (x3 - (1 : Int))))]? with | some y7 => (j25_0 fuel (fun (x17, x18, x19, x20) => (F (x17, (IntKind.wrap .i64 (x18 + (1 : Int))), x19, x20))) (x3, x2, x3, y7, x4, x5)) | none => none) else none) else (j25_0 fuel (fun (x21, x22, x23, x24) => (F (x21, (IntKind.wrap .i64 (x22 + (1 : Int))), x23, x24))) (x3, x2, x3, false, x4, x5)))) | none => none) else none) else (k0 (x4, x5)))
def l25_1 (fuel : Nat) {R : Type} (k0 : ((List Bool) × (List (Int × Int))) → Option R) : Nat → ((List Bool) × Int × (List Bool) × (List (Int × Int))) → Option R
  | 0, _ => none
  | n + 1, x => s25_1 fuel (l25_1 fuel k0 n) k0 x
def nm25_1 : Norm := ⟨[1, 3, 11, 12], padK 3 [some (0, 0), some (1, 0)]⟩
def an25_1 : AN := (.seq .leaf (.seq (.cond .leaf (.norm ⟨[1, 3], padK 3 [some (0, 0), some (1, 0)]⟩ .leaf)) (.seq (.block (.seq .leaf (.block (.seq .leaf (.cond (.fin ⟨[1, 3, 11, 12], padK 3 [some (0, 0), some (1, 0)]⟩ .leaf) (.fin ⟨[1, 3, 11, 12], padK 3 [some (0, 0), some (1, 0)]⟩ (.seq (.region [(5, { touch := [0] }), (6, { touch := [0] })]) (.hole ⟨[1, 3, 4, 11, 12, 24], padK 3 [some (0, 0), some (1, 0)]⟩ 0)))))))) .leaf)))
def al25_1 : AN := .loop nm25_1 an25_1
noncomputable def d25_1 : Code := bodyAt Try.f25 [1, 1, 1, 0, 1, 0, 0]
theorem e25_1 (fuel : Nat) {R : Type} (F : St → Option R) (k : AExit → St → Option R) : ∀ x : ((List Bool) × Int × (List Bool) × (List (Int × Int))), runK R T (fns25 fuel) fuel [] (subsOf [sub25_0 fuel R]) (partOf d25_1 an25_1) (fr25_1.st [1, 3, 11, 12] x) (backTo R [] nm25_1 F k) = s25_1 fuel (fun x => F (fr25_1.st [1, 3, 11, 12] x)) (fun y => k (.exit 0) (fx25_1.st [1, 3] y)) x := by
  rintro ⟨x2, x3, x4, x5⟩
  kernel_rfl
theorem u25_1 (fuel : Nat) {R : Type} (k : AExit → St → Option R) (x : ((List Bool) × Int × (List Bool) × (List (Int × Int)))) : runK R T (fns25 fuel) fuel [] (subsOf [sub25_0 fuel R]) (partOf c25_1 al25_1) (fr25_1.st [1, 3, 11, 12] x) k = l25_1 fuel (fun y => k (.exit 0) (fx25_1.st [1, 3] y)) fuel x :=
  loop_eq (mk := fr25_1.st [1, 3, 11, 12]) (s := fun F x => s25_1 fuel F (fun y => k (.exit 0) (fx25_1.st [1, 3] y)) x) (l := fun n x => l25_1 fuel (fun y => k (.exit 0) (fx25_1.st [1, 3] y)) n x) (d := d25_1) (by kernel_rfl) (fun G x => by
    revert x
    rintro ⟨x2, x3, x4, x5⟩
    kernel_rfl) (fun F x => e25_1 fuel F k x) (fun _ => rfl) (fun _ _ => rfl) x
noncomputable def sub25_1 (fuel : Nat) (R : Type) : Sub R := Sub.of [1, 3, 11, 12] c25_1 fr25_1 fun x k => l25_1 fuel (fun y => k (.exit 0) (fx25_1.st [1, 3] y)) fuel x
theorem subOk25_1 (fuel : Nat) (R : Type) : SubOk P [] 75 (sub25_1 fuel R) :=
  subOk_part (fns := fns25 fuel) (fuel := fuel) (subs := (subsOf [sub25_0 fuel R])) (an := al25_1) T_ok (fnsOk25 fuel) mixed (subsOk_cons (subOk25_0 fuel R) subsOk_nil) (by kernel_rfl) (by kernel_rfl) fun _ _ _ _ h => Sub.of_run (fun (x : ((List Bool) × Int × (List Bool) × (List (Int × Int)))) k => u25_1 fuel k x) h
def fx25_2 : Fr := ⟨[.c (.slc 0 0)], [.arr 0 (.pair (.int .i64) (.int .i64))], 4⟩
def fr25_2 : Fr := ⟨[.c (.slc 0 0), .ptr 0 0 [] [], .d true (.bool)], [.arr 0 (.pair (.int .i64) (.int .i64))], 4⟩
noncomputable def c25_2 : Code := bodyAt Try.f25 [1, 1, 1, 1, 1, 0, 1, 1]
def j25_2 (fuel : Nat) {R : Type} (k0 : (List (Int × Int)) → Option R) : (Nat × Bool × (List (Int × Int))) → Option R := fun (x29, x30, x31) => (bif x30 then (match (x31)[x29]? with | some y32 => (if 0 ≤ (0 : Int) ∧ (0 : Int) < ((List.length x31 : Nat) : Int) then (match (x31)[(Int.toNat (0 : Int))]? with | some y33 => (match (x31)[x29]? with | some y34 => (if 0 ≤ (1 : Int) ∧ (1 : Int) ≤ (((List.length (List.set x31 x29 (y34.1, (IntKind.wrap .i64 (y32.2 + y33.2))))) : Nat) : Int) then let v35 := (List.drop 1 (List.take (List.length (List.set x31 x29 (y34.1, (IntKind.wrap .i64 (y32.2 + y33.2))))) (List.set x31 x29 (y34.1, (IntKind.wrap .i64 (y32.2 + y33.2)))))); (k0 v35) else none) | none => none) | none => none) else none) | none => none) else (k0 x31))
def al25_2 : AN := (.fin ⟨[3], padK 4 [some (0, 0)]⟩ (.cond (.seq (.region [(1, { touch := [0] }), (2, { touch := [0] }), (3, { touch := [0] }), (5, { touch := [0] }), (6, { touch := [0] }), (7, { touch := [0] }), (9, { touch := [0] }), (10, { touch := [0] }), (11, { touch := [0], ro := false })]) (.region [(1, { touch := [0], ro := false, mode := 1 })])) .leaf))
theorem u25_2 (fuel : Nat) {R : Type} (k : AExit → St → Option R) : ∀ x : (Nat × Bool × (List (Int × Int))), runK R T (fns25 fuel) fuel [] (subsOf [sub25_0 fuel R, sub25_1 fuel R]) (partOf c25_2 al25_2) (fr25_2.st [3, 6, 60] x) k = j25_2 fuel (fun y => k .normal (fx25_2.st [3] y)) x := by
  rintro ⟨x29, x30, x31⟩
  kernel_rfl
noncomputable def sub25_2 (fuel : Nat) (R : Type) : Sub R := Sub.of [3, 6, 60] c25_2 fr25_2 fun x k => j25_2 fuel (fun y => k .normal (fx25_2.st [3] y)) x
theorem subOk25_2 (fuel : Nat) (R : Type) : SubOk P [] 75 (sub25_2 fuel R) :=
  subOk_part (fns := fns25 fuel) (fuel := fuel) (subs := (subsOf [sub25_0 fuel R, sub25_1 fuel R])) (an := al25_2) T_ok (fnsOk25 fuel) mixed (subsOk_cons (subOk25_0 fuel R) (subsOk_cons (subOk25_1 fuel R) subsOk_nil)) (by kernel_rfl) (by kernel_rfl) fun _ _ _ _ h => Sub.of_run (fun (x : (Nat × Bool × (List (Int × Int)))) k => u25_2 fuel k x) h
def an25 : AN := (.seq (.region [(0, { touch := [2], base := 2, ro := false })]) (.seq (.seq (.region [(0, { touch := [2] })]) (.cond (.seq .leaf (.co (.empty (.slot 2 []) 4 (.pair (.int .i64) (.int .i64))) (.norm ⟨[2], padK 4 [some (4, 0)]⟩ (.ret [some (0, 0)])))) .leaf)) (.seq .leaf (.seq (.seq (.region [(0, { touch := [2] })]) (.block (.co (.empty (.slot 3 []) 4 (.pair (.int .i64) (.int .i64))) (.hole ⟨[1, 3, 11, 12], padK 3 [some (2, 0), some (4, 0)]⟩ 1)))) (.seq (.region [(2, { touch := [1] }), (4, { touch := [1] })]) (.seq (.seq (.region [(1, { touch := [1] })]) (.seq (.region [(3, { touch := [0] }), (4, { touch := [0] }), (7, { touch := [0] }), (8, { touch := [0] })]) (.hole ⟨[3, 6, 60], padK 4 [some (1, 0)]⟩ 2))) (.seq .leaf (.norm ⟨[2], padK 4 [some (0, 0)]⟩ (.ret [some (0, 0)])))))))))
def p25 (fuel : Nat) : (List Bool) → Option (List (Int × Int)) := fun x1 => (bif (Ty.eqB (.arr 64 (.bool)) x1 (List.replicate 64 false)) then (some []) else (l25_1 fuel (fun (x25, x26) => (if 0 ≤ (IntKind.wrap .i64 (((List.length x26 : Nat) : Int) - (1 : Int))) ∧ (IntKind.wrap .i64 (((List.length x26 : Nat) : Int) - (1 : Int))) < ((List.length x26 : Nat) : Int) then (bif (decide ((1 : Int) < ((List.length x26 : Nat) : Int))) then (match (x25)[0]? with | some y27 => (bif y27 then (match (x25)[63]? with | some y28 => (j25_2 fuel (fun x36 => (some x36)) ((Int.toNat (IntKind.wrap .i64 (((List.length x26 : Nat) : Int) - (1 : Int)))), y28, x26)) | none => none) else (j25_2 fuel (fun x37 => (some x37)) ((Int.toNat (IntKind.wrap .i64 (((List.length x26 : Nat) : Int) - (1 : Int)))), false, x26))) | none => none) else (j25_2 fuel (fun x38 => (some x38)) ((Int.toNat (IntKind.wrap .i64 (((List.length x26 : Nat) : Int) - (1 : Int)))), false, x26))) else none)) fuel (x1, (0 : Int), x1, [])))
def F25 (fuel : Nat) : Fun := funOfA fi25 al25 (p25 fuel)
theorem run25 (fuel : Nat) : ∀ y : (List Bool), runF (List (Int × Int)) T (fns25 fuel) fuel (subsOf [sub25_0 fuel (List (Int × Int)), sub25_1 fuel (List (Int × Int)), sub25_2 fuel (List (Int × Int))]) (defOf Try.f25 an25 5 [] []) (fi25.vs y) (fi25.os y) (altsDec al25) = p25 fuel y := by
  rintro x1
  kernel_rfl
theorem ok25 (fuel : Nat) : FunOk P 25 (F25 fuel) :=
  funOfA_ok (subs := (subsOf [sub25_0 fuel (List (Int × Int)), sub25_1 fuel (List (Int × Int)), sub25_2 fuel (List (Int × Int))])) (an := an25) (room := 5) (ks := []) (g0 := []) (fuel := fuel) T_ok (fnsOk25 fuel) mixed (fn := Try.f25) (by kernel_rfl) (by kernel_rfl) (subsOk_cons (subOk25_0 fuel _) (subsOk_cons (subOk25_1 fuel _) (subsOk_cons (subOk25_2 fuel _) subsOk_nil))) (by kernel_rfl) (fun _ => ⟨by kernel_rfl, by kernel_rfl⟩) (run25 fuel)

-- f26: tontine/tontineref02.Of
def fns26 (fuel : Nat) : Fns := fnsOf []
theorem fnsOk26 (fuel : Nat) : FnsOk P (fns26 fuel) := fnsOk_nil
def fi26 : Fr := ⟨[.d false (.arr 64 (.bool))], [], 0⟩
def al26 : List (Tm × List To) := [(.c (.slc 0 0), [.arr 0 (.pair (.int .i64) (.int .i64))])]
def fx26_0 : Fr := ⟨[.c (.ptr 0 0 []), .c (.slc 1 0), .d true (.bool), .d true (.int .i64), .d true (.int .i64)], [.box (.d true (.arr 64 (.bool))), .arr 0 (.pair (.int .i64) (.int .i64))], 4⟩
def fr26_0 : Fr := ⟨[.c (.ptr 0 0 []), .c (.slc 1 0), .d true (.bool), .d true (.int .i64), .d true (.int .i64)], [.box (.d true (.arr 64 (.bool))), .arr 0 (.pair (.int .i64) (.int .i64))], 4⟩
noncomputable def c26_0 : Code := bodyAt Try.f26 [1, 1, 1, 0, 1, 0, 0, 1, 0, 0, 1, 1, 1, 0, 0]
def s26_0 (fuel : Nat) {R : Type} (F : (Bool × Int × Int × (List Bool) × (List (Int × Int))) → Option R) (k0 : (Bool × Int × Int × (List Bool) × (List (Int × Int))) → Option R) : (Bool × Int × Int × (List Bool) × (List (Int × Int))) → Option R := fun (x13, x14, x15, x16, x17) => (if 0 ≤ (Int.tmod (IntKind.wrap .i64 (x14 + x15)) (64 : Int)) ∧ (Int.tmod (IntKind.wrap .i64 (x14 + x15)) (64 : Int)) < ((64 : Nat) : Int) then (match (x16)[(Int.toNat (Int.tmod (IntKind.wrap .i64 (x14 + x15)) (64 : Int)))]? with | some y18 => (bif y18 then (F (x13, x14, (IntKind.wrap .i64 (x15 + (1 : Int))), x16, x17)) else (k0 (x13, x14, x15, x16, x17))) | none => none) else none)
def l26_0 (fuel : Nat) {R : Type} (k0 : (Bool × Int × Int × (List Bool) × (List (Int × Int))) → Option R) : Nat → (Bool × Int × Int × (List Bool) × (List (Int × Int))) → Option R
  | 0, _ => none
  | n + 1, x => s26_0 fuel (l26_0 fuel k0 n) k0 x
def nm26_0 : Norm := ⟨[1, 3, 4, 5, 6], padK 4 [some (0, 0), some (1, 0)]⟩
def an26_0 : AN := (.seq (.seq (.region [(4, { touch := [0] }), (5, { touch := [0] })]) (.cond .leaf (.norm ⟨[1, 3, 4, 5, 6], padK 4 [some (0, 0), some (1, 0)]⟩ .leaf))) (.block .leaf))
def al26_0 : AN := .loop nm26_0 an26_0
noncomputable def d26_0 : Code := bodyAt Try.f26 [1, 1, 1, 0, 1, 0, 0, 1, 0, 0, 1, 1, 1, 0, 0, 0]
theorem e26_0 (fuel : Nat) {R : Type} (F : St → Option R) (k : AExit → St → Option R) : ∀ x : (Bool × Int × Int × (List Bool) × (List (Int × Int))), runK R T (fns26 fuel) fuel [] (subsOf []) (partOf d26_0 an26_0) (fr26_0.st [1, 3, 4, 5, 6] x) (backTo R [] nm26_0 F k) = s26_0 fuel (fun x => F (fr26_0.st [1, 3, 4, 5, 6] x)) (fun y => k (.exit 2) (fx26_0.st [1, 3, 4, 5, 6] y)) x := by
  rintro ⟨x13, x14, x15, x16, x17⟩
  kernel_rfl
theorem u26_0 (fuel : Nat) {R : Type} (k : AExit → St → Option R) (x : (Bool × Int × Int × (List Bool) × (List (Int × Int)))) : runK R T (fns26 fuel) fuel [] (subsOf []) (partOf c26_0 al26_0) (fr26_0.st [1, 3, 4, 5, 6] x) k = l26_0 fuel (fun y => k (.exit 2) (fx26_0.st [1, 3, 4, 5, 6] y)) fuel x :=
  loop_eq (mk := fr26_0.st [1, 3, 4, 5, 6]) (s := fun F x => s26_0 fuel F (fun y => k (.exit 2) (fx26_0.st [1, 3, 4, 5, 6] y)) x) (l := fun n x => l26_0 fuel (fun y => k (.exit 2) (fx26_0.st [1, 3, 4, 5, 6] y)) n x) (d := d26_0) (by kernel_rfl) (fun G x => by
    revert x
    rintro ⟨x13, x14, x15, x16, x17⟩
    kernel_rfl) (fun F x => e26_0 fuel F k x) (fun _ => rfl) (fun _ _ => rfl) x
noncomputable def sub26_0 (fuel : Nat) (R : Type) : Sub R := Sub.of [1, 3, 4, 5, 6] c26_0 fr26_0 fun x k => l26_0 fuel (fun y => k (.exit 2) (fx26_0.st [1, 3, 4, 5, 6] y)) fuel x
theorem subOk26_0 (fuel : Nat) (R : Type) : SubOk P [] 46 (sub26_0 fuel R) :=
  subOk_part (fns := fns26 fuel) (fuel := fuel) (subs := (subsOf [])) (an := al26_0) T_ok (fnsOk26 fuel) mixed subsOk_nil (by kernel_rfl) (by kernel_rfl) fun _ _ _ _ h => Sub.of_run (fun (x : (Bool × Int × Int × (List Bool) × (List (Int × Int)))) k => u26_0 fuel k x) h
def fx26_1 : Fr := ⟨[.c (.ptr 0 0 []), .c (.slc 1 0), .d true (.bool), .d true (.int .i64)], [.box (.d true (.arr 64 (.bool))), .arr 0 (.pair (.int .i64) (.int .i64))], 4⟩
def fr26_1 : Fr := ⟨[.c (.ptr 0 0 []), .c (.slc 1 0), .d true (.bool), .d true (.int .i64)], [.box (.d true (.arr 64 (.bool))), .arr 0 (.pair (.int .i64) (.int .i64))], 4⟩
noncomputable def c26_1 : Code := bodyAt Try.f26 [1, 1, 1, 0, 1, 0, 0, 1, 0, 0, 1]
def j26_1 (fuel : Nat) {R : Type} (k0 : (Bool × Int × (List Bool) × (List (Int × Int))) → Option R) (k1 : (Bool × Int × (List Bool) × (List (Int × Int))) → Option R) : (Bool × Int × (List Bool) × (List (Int × Int))) → Option R := fun (x7, x8, x9, x10) => (if 0 ≤ x8 ∧ x8 < ((64 : Nat) : Int) then (match (x9)[(Int.toNat x8)]? with | some y11 => (bif (!y11) then (k0 (x7, x8, x9, x10)) else (if 0 ≤ (Int.tmod (IntKind.wrap .i64 (x8 + (63 : Int))) (64 : Int)) ∧ (Int.tmod (IntKind.wrap .i64 (x8 + (63 : Int))) (64 : Int)) < ((64 : Nat) : Int) then (match (x9)[(Int.toNat (Int.tmod (IntKind.wrap .i64 (x8 + (63 : Int))) (64 : Int)))]? with | some y12 => (bif y12 then (k0 (x7, x8, x9, x10)) else (l26_0 fuel (fun (x19, x20, x21, x22, x23) => (if (List.length x23 + List.length [(x20, x21)]) * 16 ≤ 140737488355328 then (k1 (x19, x20, x22, (x23 ++ [(x20, x21)]))) else none)) fuel (x7, x8, (1 : Int), x9, x10))) | none => none) else none)) | none => none) else none)
def al26_1 : AN := (.fin ⟨[1, 3, 4, 5], padK 4 [some (0, 0), some (1, 0)]⟩ (.seq (.seq (.region [(1, { touch := [0] }), (2, { touch := [0] }), (8, { touch := [0] }), (9, { touch := [0] })]) (.cond (.norm ⟨[1, 3, 4, 5], padK 4 [some (0, 0), some (1, 0)]⟩ .leaf) .leaf)) (.seq .leaf (.seq (.block (.hole ⟨[1, 3, 4, 5, 6], padK 4 [some (0, 0), some (1, 0)]⟩ 0)) (.region [(4, { touch := [3], base := 3, ro := false }), (5, { touch := [1, 3], ro := false })])))))
theorem u26_1 (fuel : Nat) {R : Type} (k : AExit → St → Option R) : ∀ x : (Bool × Int × (List Bool) × (List (Int × Int))), runK R T (fns26 fuel) fuel [] (subsOf [sub26_0 fuel R]) (partOf c26_1 al26_1) (fr26_1.st [1, 3, 4, 5] x) k = j26_1 fuel (fun y => k (.exit 1) (fx26_1.st [1, 3, 4, 5] y)) (fun y => k .normal (fx26_1.st [1, 3, 4, 5] y)) x := by
  rintro ⟨x7, x8, x9, x10⟩
  kernel_rfl
noncomputable def sub26_1 (fuel : Nat) (R : Type) : Sub R := Sub.of [1, 3, 4, 5] c26_1 fr26_1 fun x k => j26_1 fuel (fun y => k (.exit 1) (fx26_1.st [1, 3, 4, 5] y)) (fun y => k .normal (fx26_1.st [1, 3, 4, 5] y)) x
theorem subOk26_1 (fuel : Nat) (R : Type) : SubOk P [] 46 (sub26_1 fuel R) :=
  subOk_part (fns := fns26 fuel) (fuel := fuel) (subs := (subsOf [sub26_0 fuel R])) (an := al26_1) T_ok (fnsOk26 fuel) mixed (subsOk_cons (subOk26_0 fuel R) subsOk_nil) (by kernel_rfl) (by kernel_rfl) fun _ _ _ _ h => Sub.of_run (fun (x : (Bool × Int × (List Bool) × (List (Int × Int)))) k => u26_1 fuel k x) h
def fx26_2 : Fr := ⟨[.c (.slc 0 0), .d true (.bool)], [.arr 0 (.pair (.int .i64) (.int .i64))], 5⟩
def fr26_2 : Fr := ⟨[.c (.ptr 0 0 []), .c (.slc 1 0), .d true (.bool), .d true (.int .i64)], [.box (.d true (.arr 64 (.bool))), .arr 0 (.pair (.int .i64) (.int .i64))], 4⟩
noncomputable def c26_2 : Code := bodyAt Try.f26 [1, 1, 1, 0, 1, 0]
def s26_2 (fuel : Nat) {R : Type} (F : (Bool × Int × (List Bool) × (List (Int × Int))) → Option R) (k0 : (Bool × (List (Int × Int))) → Option R) : (Bool × Int × (List Bool) × (List (Int × Int))) → Option R := fun (x2, x3, x4, x5) => (bif (decide (x3 < (64 : Int))) then (bif x2 then (if 0 ≤ x3 ∧ x3 < ((64 : Nat) : Int) then (match (x4)[(Int.toNat x3)]? with | some y6 => (j26_1 fuel (fun (x24, x25, x26, x27) => (F (x24, (IntKind.wrap .i64 (x25 + (1 : Int))), x26, x27))) (fun (x28, x29, x30, x31) => (F (x28, (IntKind.wrap .i64 (x29 + (1 : Int))), x30, x31))) (y6, x3, x4, x5)) | none => none) else none) else (j26_1 fuel (fun (x32, x33, x34, x35) => (F (x32, (IntKind.wrap .i64 (x33 + (1 : Int))), x34, x35))) (fun (x36, x37, x38, x39) => (F (x36, (IntKind.wrap .i64 (x37 + (1 : Int))), x38, x39))) (false, x3, x4, x5))) else (k0 (x2, x5)))
def l26_2 (fuel : Nat) {R : Type} (k0 : (Bool × (List (Int × Int))) → Option R) : Nat → (Bool × Int × (List Bool) × (List (Int × Int))) → Option R
  | 0, _ => none
  | n + 1, x => s26_2 fuel (l26_2 fuel k0 n) k0 x
def nm26_2 : Norm := ⟨[1, 3, 4, 5], padK 4 [some (0, 0), some (1, 0)]⟩
def an26_2 : AN := (.seq (.seq .leaf (.cond .leaf (.norm ⟨[3, 4], padK 5 [some (1, 0)]⟩ .leaf))) (.seq (.block (.seq (.region [(3, { touch := [0] }), (4, { touch := [0] })]) (.hole ⟨[1, 3, 4, 5], padK 4 [some (0, 0), some (1, 0)]⟩ 1))) .leaf))
def al26_2 : AN := .loop nm26_2 an26_2
noncomputable def d26_2 : Code := bodyAt Try.f26 [1, 1, 1, 0, 1, 0, 0]
theorem e26_2 (fuel : Nat) {R : Type} (F : St → Option R) (k : AExit → St → Option R) : ∀ x : (Bool × Int × (List Bool) × (List (Int × Int))), runK R T (fns26 fuel) fuel [] (subsOf [sub26_0 fuel R, sub26_1 fuel R]) (partOf d26_2 an26_2) (fr26_2.st [1, 3, 4, 5] x) (backTo R [] nm26_2 F k) = s26_2 fuel (fun x => F (fr26_2.st [1, 3, 4, 5] x)) (fun y => k (.exit 0) (fx26_2.st [3, 4] y)) x := by
  rintro ⟨x2, x3, x4, x5⟩
  kernel_rfl
theorem u26_2 (fuel : Nat) {R : Type} (k : AExit → St → Option R) (x : (Bool × Int × (List Bool) × (List (Int × Int)))) : runK R T (fns26 fuel) fuel [] (subsOf [sub26_0 fuel R, sub26_1 fuel R]) (partOf c26_2 al26_2) (fr26_2.st [1, 3, 4, 5] x) k = l26_2 fuel (fun y => k (.exit 0) (fx26_2.st [3, 4] y)) fuel x :=
  loop_eq (mk := fr26_2.st [1, 3, 4, 5]) (s := fun F x => s26_2 fuel F (fun y => k (.exit 0) (fx26_2.st [3, 4] y)) x) (l := fun n x => l26_2 fuel (fun y => k (.exit 0) (fx26_2.st [3, 4] y)) n x) (d := d26_2) (by kernel_rfl) (fun G x => by
    revert x
    rintro ⟨x2, x3, x4, x5⟩
    kernel_rfl) (fun F x => e26_2 fuel F k x) (fun _ => rfl) (fun _ _ => rfl) x
noncomputable def sub26_2 (fuel : Nat) (R : Type) : Sub R := Sub.of [1, 3, 4, 5] c26_2 fr26_2 fun x k => l26_2 fuel (fun y => k (.exit 0) (fx26_2.st [3, 4] y)) fuel x
theorem subOk26_2 (fuel : Nat) (R : Type) : SubOk P [] 46 (sub26_2 fuel R) :=
  subOk_part (fns := fns26 fuel) (fuel := fuel) (subs := (subsOf [sub26_0 fuel R, sub26_1 fuel R])) (an := al26_2) T_ok (fnsOk26 fuel) mixed (subsOk_cons (subOk26_0 fuel R) (subsOk_cons (subOk26_1 fuel R) subsOk_nil)) (by kernel_rfl) (by kernel_rfl) fun _ _ _ _ h => Sub.of_run (fun (x : (Bool × Int × (List Bool) × (List (Int × Int)))) k => u26_2 fuel k x) h
def an26 : AN := (.seq (.region [(0, { touch := [2], base := 2, ro := false })]) (.seq .leaf (.seq .leaf (.seq (.seq .leaf (.block (.co (.empty (.slot 3 []) 5 (.pair (.int .i64) (.int .i64))) (.hole ⟨[1, 3, 4, 5], padK 4 [some (2, 0), some (5, 0)]⟩ 2)))) (.seq (.seq .leaf (.cond (.seq (.region [(1, { touch := [4], base := 4, ro := false })]) (.norm ⟨[2], padK 5 [some (4, 0)]⟩ (.ret [some (0, 0)]))) .leaf)) (.seq .leaf (.norm ⟨[2], padK 5 [some (0, 0)]⟩ (.ret [some (0, 0)]))))))))
def p26 (fuel : Nat) : (List Bool) → Option (List (Int × Int)) := fun x1 => (l26_2 fuel (fun (x40, x41) => (bif x40 then (some [((0 : Int), (64 : Int))]) else (some x41))) fuel (true, (0 : Int), x1, []))
def F26 (fuel : Nat) : Fun := funOfA fi26 al26 (p26 fuel)
theorem run26 (fuel : Nat) : ∀ y : (List Bool), runF (List (Int × Int)) T (fns26 fuel) fuel (subsOf [sub26_0 fuel (List (Int × Int)), sub26_1 fuel (List (Int × Int)), sub26_2 fuel (List (Int × Int))]) (defOf Try.f26 an26 6 [] []) (fi26.vs y) (fi26.os y) (altsDec al26) = p26 fuel y := by
  rintro x1
  kernel_rfl
theorem ok26 (fuel : Nat) : FunOk P 26 (F26 fuel) :=
  funOfA_ok (subs := (subsOf [sub26_0 fuel (List (Int × Int)), sub26_1 fuel (List (Int × Int)), sub26_2 fuel (List (Int × Int))])) (an := an26) (room := 6) (ks := []) (g0 := []) (fuel := fuel) T_ok (fnsOk26 fuel) mixed (fn := Try.f26) (by kernel_rfl) (by kernel_rfl) (subsOk_cons (subOk26_0 fuel _) (subsOk_cons (subOk26_1 fuel _) (subsOk_cons (subOk26_2 fuel _) subsOk_nil))) (by kernel_rfl) (fun _ => ⟨by kernel_rfl, by kernel_rfl⟩) (run26 fuel)

-- f24: tontine/tontineref02.Same
def fns24 (fuel : Nat) : Fns := fnsOf []
theorem fnsOk24 (fuel : Nat) : FnsOk P (fns24 fuel) := fnsOk_nil
def fi24 : Fr := ⟨[.d false (.slice (.pair (.int .i64) (.int .i64))), .d false (.slice (.pair (.int .i64) (.int .i64)))], [], 0⟩
def al24 : List (Tm × List To) := [(.d true (.bool), [])]
def fx24_0 : Fr := ⟨[.d true (.bool)], [], 0⟩
def fx24_1 : Fr := ⟨[], [], 0⟩
def fr24_0 : Fr := ⟨[.d false (.slice (.pair (.int .i64) (.int .i64))), .d false (.slice (.pair (.int .i64) (.int .i64))), .d true (.int .i64)], [], 0⟩
noncomputable def c24_0 : Code := bodyAt Try.f24 [1, 1, 0, 1, 0]
def s24_0 (fuel : Nat) {R : Type} (F : ((List (Int × Int)) × (List (Int × Int)) × Int) → Option R) (k0 : Bool → Option R) (k1 : Unit → Option R) : ((List (Int × Int)) × (List (Int × Int)) × Int) → Option R := fun (x4, x5, x6) => (bif (decide (x6 < ((List.length x4 : Nat) : Int))) then (if 0 ≤ x6 then (match (x4)[Int.toNat x6]? with | some y7 => (if 0 ≤ x6 then (match (x5)[Int.toNat x6]? with | some y8 => (bif (!(Ty.eqB (.pair (.int .i64) (.int .i64)) y7 y8)) then (k0 false) else (F (x4, x5, (IntKind.wrap .i64 (x6 + (1 : Int)))))) | none => none) else none) | none => none) else none) else (k1 ()))
def l24_0 (fuel : Nat) {R : Type} (k0 : Bool → Option R) (k1 : Unit → Option R) : Nat → ((List (Int × Int)) × (List (Int × Int)) × Int) → Option R
  | 0, _ => none
  | n + 1, x => s24_0 fuel (l24_0 fuel k0 k1 n) k0 k1 x
def nm24_0 : Norm := ⟨[0, 1, 5], padK 0 []⟩
def an24_0 : AN := (.seq (.seq .leaf (.cond .leaf (.norm ⟨[], padK 0 []⟩ .leaf))) (.seq (.block (.seq .leaf (.cond (.seq .leaf (.norm ⟨[4], padK 0 []⟩ (.ret []))) .leaf))) .leaf))
def al24_0 : AN := .loop nm24_0 an24_0
noncomputable def d24_0 : Code := bodyAt Try.f24 [1, 1, 0, 1, 0, 0]
theorem e24_0 (fuel : Nat) {R : Type} (F : St → Option R) (k : AExit → St → Option R) : ∀ x : ((List (Int × Int)) × (List (Int × Int)) × Int), runK R T (fns24 fuel) fuel [] (subsOf []) (partOf d24_0 an24_0) (fr24_0.st [0, 1, 5] x) (backTo R [] nm24_0 F k) = s24_0 fuel (fun x => F (fr24_0.st [0, 1, 5] x)) (fun y => k (.ret []) (fx24_0.st [4] y)) (fun y => k (.exit 0) (fx24_1.st [] y)) x := by
  rintro ⟨x4, x5, x6⟩
  kernel_rfl
theorem u24_0 (fuel : Nat) {R : Type} (k : AExit → St → Option R) (x : ((List (Int × Int)) × (List (Int × Int)) × Int)) : runK R T (fns24 fuel) fuel [] (subsOf []) (partOf c24_0 al24_0) (fr24_0.st [0, 1, 5] x) k = l24_0 fuel (fun y => k (.ret []) (fx24_0.st [4] y)) (fun y => k (.exit 0) (fx24_1.st [] y)) fuel x :=
  loop_eq (mk := fr24_0.st [0, 1, 5]) (s := fun F x => s24_0 fuel F (fun y => k (.ret []) (fx24_0.st [4] y)) (fun y => k (.exit 0) (fx24_1.st [] y)) x) (l := fun n x => l24_0 fuel (fun y => k (.ret []) (fx24_0.st [4] y)) (fun y => k (.exit 0) (fx24_1.st [] y)) n x) (d := d24_0) (by kernel_rfl) (fun G x => by
    revert x
    rintro ⟨x4, x5, x6⟩
    kernel_rfl) (fun F x => e24_0 fuel F k x) (fun _ => rfl) (fun _ _ => rfl) x
noncomputable def sub24_0 (fuel : Nat) (R : Type) : Sub R := Sub.of [0, 1, 5] c24_0 fr24_0 fun x k => l24_0 fuel (fun y => k (.ret []) (fx24_0.st [4] y)) (fun y => k (.exit 0) (fx24_1.st [] y)) fuel x
theorem subOk24_0 (fuel : Nat) (R : Type) : SubOk P [] 26 (sub24_0 fuel R) :=
  subOk_part (fns := fns24 fuel) (fuel := fuel) (subs := (subsOf [])) (an := al24_0) T_ok (fnsOk24 fuel) mixed subsOk_nil (by kernel_rfl) (by kernel_rfl) fun _ _ _ _ h => Sub.of_run (fun (x : ((List (Int × Int)) × (List (Int × Int)) × Int)) k => u24_0 fuel k x) h
def an24 : AN := (.seq .leaf (.seq (.seq .leaf (.cond (.seq .leaf (.norm ⟨[4], padK 0 []⟩ (.ret []))) .leaf)) (.seq (.seq .leaf (.block (.hole ⟨[0, 1, 5], padK 0 []⟩ 0))) (.seq .leaf (.norm ⟨[4], padK 0 []⟩ (.ret []))))))
def p24 (fuel : Nat) : ((List (Int × Int)) × (List (Int × Int))) → Option Bool := fun (x1, x2) => let v3 := (!decide (((List.length x1 : Nat) : Int) = ((List.length x2 : Nat) : Int))); (bif v3 then (some false) else (l24_0 fuel (fun x9 => (some x9)) (fun _ => (some true)) fuel (x1, x2, (0 : Int))))
def F24 (fuel : Nat) : Fun := funOfA fi24 al24 (p24 fuel)
theorem run24 (fuel : Nat) : ∀ y : ((List (Int × Int)) × (List (Int × Int))), runF Bool T (fns24 fuel) fuel (subsOf [sub24_0 fuel Bool]) (defOf Try.f24 an24 0 [] []) (fi24.vs y) (fi24.os y) (altsDec al24) = p24 fuel y := by
  rintro ⟨x1, x2⟩
  kernel_rfl
theorem ok24 (fuel : Nat) : FunOk P 24 (F24 fuel) :=
  funOfA_ok (subs := (subsOf [sub24_0 fuel Bool])) (an := an24) (room := 0) (ks := []) (g0 := []) (fuel := fuel) T_ok (fnsOk24 fuel) mixed (fn := Try.f24) (by kernel_rfl) (by kernel_rfl) (subsOk_cons (subOk24_0 fuel _) subsOk_nil) (by kernel_rfl) (fun _ => ⟨by kernel_rfl, by kernel_rfl⟩) (run24 fuel)

-- f6: tontine/tontinelaw02.ArcsOf
def fns6 (fuel : Nat) : Fns := fnsOf [(14, F14 fuel), (25, F25 fuel), (26, F26 fuel), (24, F24 fuel)]
theorem fnsOk6 (fuel : Nat) : FnsOk P (fns6 fuel) := (fnsOk_cons (ok14 fuel) (fnsOk_cons (ok25 fuel) (fnsOk_cons (ok26 fuel) (fnsOk_cons (ok24 fuel) fnsOk_nil))))
def fi6 : Fr := ⟨[.d false (.arr 64 (.bool))], [], 0⟩
def al6 : List (Tm × List To) := [(.d true (.bool), [])]
def an6 : AN := (.seq (.region [(0, { touch := [0], ro := false })]) (.seq (.region [(2, { touch := [0] }), (3, { touch := [1], base := 1, ro := false, fresh := 1 }), (4, { touch := [0] }), (5, { touch := [2], base := 2, ro := false, fresh := 1 }), (6, { touch := [1, 2], lend := [some (.slice (.pair (.int .i64) (.int .i64))), some (.slice (.pair (.int .i64) (.int .i64)))] })]) (.norm ⟨[2], padK 3 []⟩ (.ret []))))
def p6 (fuel : Nat) : (List Bool) → Option Bool := fun x1 => (match p14 fuel () with | some z2 => (bif z2 then (match p25 fuel x1 with | some z3 => (match p26 fuel x1 with | some z4 => (match p24 fuel (z3, z4) with | some z5 => (some z5) | none => none) | none => none) | none => none) else (some false)) | none => none)
def F6 (fuel : Nat) : Fun := funOfA fi6 al6 (p6 fuel)
theorem run6 (fuel : Nat) : ∀ y : (List Bool), runF Bool T (fns6 fuel) fuel (subsOf []) (defOf Try.f6 an6 3 [] []) (fi6.vs y) (fi6.os y) (altsDec al6) = p6 fuel y := by
  rintro x1
  kernel_rfl
theorem ok6 (fuel : Nat) : FunOk P 6 (F6 fuel) :=
  funOfA_ok (subs := (subsOf [])) (an := an6) (room := 3) (ks := []) (g0 := []) (fuel := fuel) T_ok (fnsOk6 fuel) mixed (fn := Try.f6) (by kernel_rfl) (by kernel_rfl) subsOk_nil (by kernel_rfl) (fun _ => ⟨by kernel_rfl, by kernel_rfl⟩) (run6 fuel)

-- f7: tontine/tontinelaw02.ArcsWhole
def fns7 (fuel : Nat) : Fns := fnsOf [(10, F10 fuel), (12, F12 fuel), (20, F20 fuel), (25, F25 fuel), (15, F15 fuel), (14, F14 fuel)]
theorem fnsOk7 (fuel : Nat) : FnsOk P (fns7 fuel) := (fnsOk_cons (ok10 fuel) (fnsOk_cons (ok12 fuel) (fnsOk_cons (ok20 fuel) (fnsOk_cons (ok25 fuel) (fnsOk_cons (ok15 fuel) (fnsOk_cons (ok14 fuel) fnsOk_nil))))))
def fi7 : Fr := ⟨[.d false (.pair (.int .i64) (.int .i64)), .d false (.int .i64), .d false (.arr 64 (.bool))], [], 0⟩
def al7 : List (Tm × List To) := [(.d true (.bool), [])]
def fx7_0 : Fr := ⟨[.d true (.bool)], [], 12⟩
def fx7_1 : Fr := ⟨[.c (.ptr 0 0 [])], [.box (.d true (.arr 64 (.bool)))], 11⟩
def fr7_0 : Fr := ⟨[.c (.ptr 0 0 []), .c (.ptr 1 0 []), .c (.ptr 2 0 []), .c (.ptr 3 0 []), .d true (.int .i64)], [.box (.d true (.pair (.int .i64) (.int .i64))), .box (.d true (.arr 64 (.bool))), .box (.d true (.pair (.int .i64) (.int .i64))), .box (.d true (.pair (.int .i64) (.int .i64)))], 8⟩
noncomputable def c7_0 : Code := bodyAt Try.f7 [1, 1, 0, 1, 0, 1, 1, 1, 0]
def s7_0 (fuel : Nat) {R : Type} (F : (Int × (Int × Int) × (List Bool) × (Int × Int) × (Int × Int)) → Option R) (k0 : Bool → Option R) (k1 : (List Bool) → Option R) : (Int × (Int × Int) × (List Bool) × (Int × Int) × (Int × Int)) → Option R := fun (x6, x7, x8, x9, x10) => (bif (decide (x6 < (64 : Int))) then (match p20 fuel (x9, x6) with | some z11 => (match p20 fuel (x10, x6) with | some z12 => (bif z11 then (bif z12 then (k0 false) else (match p20 fuel (x7, x6) with | some z13 => (bif z11 then (bif (!(z13 == true)) then (k0 false) else (F ((IntKind.wrap .i64 (x6 + (1 : Int))), x7, x8, x9, x10))) else (bif (!(z13 == z12)) then (k0 false) else (F ((IntKind.wrap .i64 (x6 + (1 : Int))), x7, x8, x9, x10)))) | none => none)) else (match p20 fuel (x7, x6) with | some z14 => (bif z11 then (bif (!(z14 == true)) then (k0 false) else (F ((IntKind.wrap .i64 (x6 + (1 : Int))), x7, x8, x9, x10))) else (bif (!(z14 == z12)) then (k0 false) else (F ((IntKind.wrap .i64 (x6 + (1 : Int))), x7, x8, x9, x10)))) | none => none)) | none => none) | none => none) else (k1 x8))
def l7_0 (fuel : Nat) {R : Type} (k0 : Bool → Option R) (k1 : (List Bool) → Option R) : Nat → (Int × (Int × Int) × (List Bool) × (Int × Int) × (Int × Int)) → Option R
  | 0, _ => none
  | n + 1, x => s7_0 fuel (l7_0 fuel k0 k1 n) k0 k1 x
def nm7_0 : Norm := ⟨[3, 5, 7, 8, 12], padK 8 [some (0, 0), some (1, 0), some (2, 0), some (3, 0)]⟩
def an7_0 : AN := (.seq (.seq .leaf (.cond .leaf (.norm ⟨[5], padK 11 [some (1, 0)]⟩ .leaf))) (.seq (.block (.seq (.region [(0, { touch := [2] })]) (.seq (.region [(0, { touch := [3] })]) (.seq (.region [(5, { touch := [0] })]) (.cond (.seq .leaf (.norm ⟨[6], padK 12 []⟩ (.ret []))) .leaf))))) .leaf))
def al7_0 : AN := .loop nm7_0 an7_0
noncomputable def d7_0 : Code := bodyAt Try.f7 [1, 1, 0, 1, 0, 1, 1, 1, 0, 0]
theorem e7_0 (fuel : Nat) {R : Type} (F : St → Option R) (k : AExit → St → Option R) : ∀ x : (Int × (Int × Int) × (List Bool) × (Int × Int) × (Int × Int)), runK R T (fns7 fuel) fuel [] (subsOf []) (partOf d7_0 an7_0) (fr7_0.st [3, 5, 7, 8, 12] x) (backTo R [] nm7_0 F k) = s7_0 fuel (fun x => F (fr7_0.st [3, 5, 7, 8, 12] x)) (fun y => k (.ret []) (fx7_0.st [6] y)) (fun y => k (.exit 0) (fx7_1.st [5] y)) x := by
  rintro ⟨x6, x7, x8, x9, x10⟩
  kernel_rfl
theorem u7_0 (fuel : Nat) {R : Type} (k : AExit → St → Option R) (x : (Int × (Int × Int) × (List Bool) × (Int × Int) × (Int × Int))) : runK R T (fns7 fuel) fuel [] (subsOf []) (partOf c7_0 al7_0) (fr7_0.st [3, 5, 7, 8, 12] x) k = l7_0 fuel (fun y => k (.ret []) (fx7_0.st [6] y)) (fun y => k (.exit 0) (fx7_1.st [5] y)) fuel x :=
  loop_eq (mk := fr7_0.st [3, 5, 7, 8, 12]) (s := fun F x => s7_0 fuel F (fun y => k (.ret []) (fx7_0.st [6] y)) (fun y => k (.exit 0) (fx7_1.st [5] y)) x) (l := fun n x => l7_0 fuel (fun y => k (.ret []) (fx7_0.st [6] y)) (fun y => k (.exit 0) (fx7_1.st [5] y)) n x) (d := d7_0) (by kernel_rfl) (fun G x => by
    revert x
    rintro ⟨x6, x7, x8, x9, x10⟩
    kernel_rfl) (fun F x => e7_0 fuel F k x) (fun _ => rfl) (fun _ _ => rfl) x
noncomputable def sub7_0 (fuel : Nat) (R : Type) : Sub R := Sub.of [3, 5, 7, 8, 12] c7_0 fr7_0 fun x k => l7_0 fuel (fun y => k (.ret []) (fx7_0.st [6] y)) (fun y => k (.exit 0) (fx7_1.st [5] y)) fuel x
theorem subOk7_0 (fuel : Nat) (R : Type) : SubOk P [] 147 (sub7_0 fuel R) :=
  subOk_part (fns := fns7 fuel) (fuel := fuel) (subs := (subsOf [])) (an := al7_0) T_ok (fnsOk7 fuel) mixed subsOk_nil (by kernel_rfl) (by kernel_rfl) fun _ _ _ _ h => Sub.of_run (fun (x : (Int × (Int × Int) × (List Bool) × (Int × Int) × (Int × Int))) k => u7_0 fuel k x) h
def fx7_2 : Fr := ⟨[.c (.ptr 0 0 []), .c (.slc 1 0), .c (.ptr 2 0 []), .d true (.int .i64)], [.box (.d true (.arr 64 (.bool))), .arr 0 (.pair (.int .i64) (.int .i64)), .box (.d true (.arr 64 (.bool)))], 9⟩
def fr7_1 : Fr := ⟨[.c (.ptr 0 0 []), .c (.slc 1 0), .c (.ptr 2 0 []), .d true (.int .i64), .c (.slc 3 0), .d true (.int .i64)], [.box (.d true (.arr 64 (.bool))), .arr 0 (.pair (.int .i64) (.int .i64)), .box (.d true (.arr 64 (.bool))), .arr 0 (.int .i64)], 8⟩
noncomputable def c7_1 : Code := bodyAt Try.f7 [1, 1, 1, 1, 1, 0, 1, 0, 0, 1, 0, 0, 1, 1, 0, 1, 0]
def s7_1 (fuel : Nat) {R : Type} (F : (Int × Int × (List Bool) × (List (Int × Int)) × (List Bool) × (List Int)) → Option R) (k0 : Bool → Option R) (k1 : (Int × (List Bool) × (List (Int × Int)) × (List Bool)) → Option R) : (Int × Int × (List Bool) × (List (Int × Int)) × (List Bool) × (List Int)) → Option R := fun (x32, x33, x34, x35, x36, x37) => (bif (decide (x33 < ((List.length x37 : Nat) : Int))) then (if 0 ≤ x33 ∧ x33 < ((List.length x37 : Nat) : Int) then (match (x37)[(Int.toNat x33)]? with | some y38 => (if 0 ≤ y38 ∧ y38 < ((64 : Nat) : Int) then (match (x36)[(Int.toNat y38)]? with | some y39 => (bif y39 then (k0 false) else (if 0 ≤ x33 ∧ x33 < ((List.length x37 : Nat) : Int) then (match (x37)[(Int.toNat x33)]? with | some y40 => (if 0 ≤ y40 ∧ y40 < ((64 : Nat) : Int) then (match (x36)[(Int.toNat y40)]? with | some y41 => (F (x32, (IntKind.wrap .i64 (x33 + (1 : Int))), x34, x35, (List.set x36 (Int.toNat y40) true), x37)) | none => none) else none) | none => none) else none)) | none => none) else none) | none => none) else none) else (k1 (x32, x34, x35, x36)))
def l7_1 (fuel : Nat) {R : Type} (k0 : Bool → Option R) (k1 : (Int × (List Bool) × (List (Int × Int)) × (List Bool)) → Option R) : Nat → (Int × Int × (List Bool) × (List (Int × Int)) × (List Bool) × (List Int)) → Option R
  | 0, _ => none
  | n + 1, x => s7_1 fuel (l7_1 fuel k0 k1 n) k0 k1 x
def nm7_1 : Norm := ⟨[5, 15, 16, 17, 18, 19], padK 8 [some (0, 0), some (1, 0), some (2, 0), some (3, 0)]⟩
def an7_1 : AN := (.seq (.seq (.region [(2, { touch := [3] })]) (.cond .leaf (.norm ⟨[5, 15, 16, 17], padK 9 [some (0, 0), some (1, 0), some (2, 0)]⟩ .leaf))) (.seq (.block (.seq (.seq (.region [(2, { touch := [3] }), (3, { touch := [3] }), (4, { touch := [2] }), (5, { touch := [2] })]) (.cond (.seq .leaf (.norm ⟨[6], padK 12 []⟩ (.ret []))) .leaf)) (.region [(2, { touch := [3] }), (3, { touch := [3] }), (4, { touch := [2] }), (5, { touch := [2], ro := false })]))) .leaf))
def al7_1 : AN := .loop nm7_1 an7_1
noncomputable def d7_1 : Code := bodyAt Try.f7 [1, 1, 1, 1, 1, 0, 1, 0, 0, 1, 0, 0, 1, 1, 0, 1, 0, 0]
theorem e7_1 (fuel : Nat) {R : Type} (F : St → Option R) (k : AExit → St → Option R) : ∀ x : (Int × Int × (List Bool) × (List (Int × Int)) × (List Bool) × (List Int)), runK R T (fns7 fuel) fuel [] (subsOf [sub7_0 fuel R]) (partOf d7_1 an7_1) (fr7_1.st [5, 15, 16, 17, 18, 19] x) (backTo R [] nm7_1 F k) = s7_1 fuel (fun x => F (fr7_1.st [5, 15, 16, 17, 18, 19] x)) (fun y => k (.ret []) (fx7_0.st [6] y)) (fun y => k (.exit 4) (fx7_2.st [5, 15, 16, 17] y)) x := by
  rintro ⟨x32, x33, x34, x35, x36, x37⟩
  kernel_rfl
theorem u7_1 (fuel : Nat) {R : Type} (k : AExit → St → Option R) (x : (Int × Int × (List Bool) × (List (Int × Int)) × (List Bool) × (List Int))) : runK R T (fns7 fuel) fuel [] (subsOf [sub7_0 fuel R]) (partOf c7_1 al7_1) (fr7_1.st [5, 15, 16, 17, 18, 19] x) k = l7_1 fuel (fun y => k (.ret []) (fx7_0.st [6] y)) (fun y => k (.exit 4) (fx7_2.st [5, 15, 16, 17] y)) fuel x :=
  loop_eq (mk := fr7_1.st [5, 15, 16, 17, 18, 19]) (s := fun F x => s7_1 fuel F (fun y => k (.ret []) (fx7_0.st [6] y)) (fun y => k (.exit 4) (fx7_2.st [5, 15, 16, 17] y)) x) (l := fun n x => l7_1 fuel (fun y => k (.ret []) (fx7_0.st [6] y)) (fun y => k (.exit 4) (fx7_2.st [5, 15, 16, 17] y)) n x) (d := d7_1) (by kernel_rfl) (fun G x => by
    revert x
    rintro ⟨x32, x33, x34, x35, x36, x37⟩
    kernel_rfl) (fun F x => e7_1 fuel F k x) (fun _ => rfl) (fun _ _ => rfl) x
noncomputable def sub7_1 (fuel : Nat) (R : Type) : Sub R := Sub.of [5, 15, 16, 17, 18, 19] c7_1 fr7_1 fun x k => l7_1 fuel (fun y => k (.ret []) (fx7_0.st [6] y)) (fun y => k (.exit 4) (fx7_2.st [5, 15, 16, 17] y)) fuel x
theorem subOk7_1 (fuel : Nat) (R : Type) : SubOk P [] 147 (sub7_1 fuel R) :=
  subOk_part (fns := fns7 fuel) (fuel := fuel) (subs := (subsOf [sub7_0 fuel R])) (an := al7_1) T_ok (fnsOk7 fuel) mixed (subsOk_cons (subOk7_0 fuel R) subsOk_nil) (by kernel_rfl) (by kernel_rfl) fun _ _ _ _ h => Sub.of_run (fun (x : (Int × Int × (List Bool) × (List (Int × Int)) × (List Bool) × (List Int))) k => u7_1 fuel k x) h
def fr7_2 : Fr := ⟨[.c (.ptr 0 0 []), .c (.slc 1 0), .c (.ptr 2 0 []), .d true (.int .i64), .c (.slc 3 0)], [.box (.d true (.arr 64 (.bool))), .arr 0 (.pair (.int .i64) (.int .i64)), .box (.d true (.arr 64 (.bool))), .arr 0 (.int .i64)], 8⟩
noncomputable def c7_2 : Code := bodyAt Try.f7 [1, 1, 1, 1, 1, 0, 1, 0, 0, 1, 0, 0, 1, 1]
def j7_2 (fuel : Nat) {R : Type} (k0 : Bool → Option R) (k1 : (Int × (List Bool) × (List (Int × Int)) × (List Bool)) → Option R) : (Int × (List Bool) × (List (Int × Int)) × (List Bool) × (List Int)) → Option R := fun (x27, x28, x29, x30, x31) => (l7_1 fuel (fun x42 => (k0 x42)) (fun (x43, x44, x45, x46) => (if 0 ≤ x43 ∧ x43 < ((List.length x45 : Nat) : Int) then (match (x45)[(Int.toNat x43)]? with | some y47 => (if 0 ≤ x43 ∧ x43 < ((List.length x45 : Nat) : Int) then (match (x45)[(Int.toNat x43)]? with | some y48 => (if 0 ≤ x43 ∧ x43 < ((List.length x45 : Nat) : Int) then (match (x45)[(Int.toNat x43)]? with | some y49 => (bif (decide (y49.2 < (64 : Int))) then (if 0 ≤ (Int.tmod (IntKind.wrap .i64 (y47.1 + y48.2)) (64 : Int)) ∧ (Int.tmod (IntKind.wrap .i64 (y47.1 + y48.2)) (64 : Int)) < ((64 : Nat) : Int) then (match (x44)[(Int.toNat (Int.tmod (IntKind.wrap .i64 (y47.1 + y48.2)) (64 : Int)))]? with | some y50 => (bif y50 then (k0 false) else (k1 (x43, x44, x45, x46))) | none => none) else none) else (k1 (x43, x44, x45, x46))) | none => none) else none) | none => none) else none) | none => none) else none)) fuel (x27, (0 : Int), x28, x29, x30, x31))
def al7_2 : AN := (.fin ⟨[5, 15, 16, 17], padK 9 [some (0, 0), some (1, 0), some (2, 0)]⟩ (.seq (.seq .leaf (.block (.hole ⟨[5, 15, 16, 17, 18, 19], padK 8 [some (0, 0), some (1, 0), some (2, 0), some (3, 0)]⟩ 1))) (.seq (.region [(2, { touch := [1] }), (3, { touch := [1] }), (4, { touch := [1] }), (7, { touch := [1] }), (8, { touch := [1] }), (9, { touch := [1] })]) (.seq (.region [(2, { touch := [1] }), (3, { touch := [1] }), (4, { touch := [1] }), (8, { touch := [0] }), (9, { touch := [0] })]) (.cond (.seq .leaf (.norm ⟨[6], padK 12 []⟩ (.ret []))) .leaf)))))
theorem u7_2 (fuel : Nat) {R : Type} (k : AExit → St → Option R) : ∀ x : (Int × (List Bool) × (List (Int × Int)) × (List Bool) × (List Int)), runK R T (fns7 fuel) fuel [] (subsOf [sub7_0 fuel R, sub7_1 fuel R]) (partOf c7_2 al7_2) (fr7_2.st [5, 15, 16, 17, 18] x) k = j7_2 fuel (fun y => k (.ret []) (fx7_0.st [6] y)) (fun y => k .normal (fx7_2.st [5, 15, 16, 17] y)) x := by
  rintro ⟨x27, x28, x29, x30, x31⟩
  kernel_rfl
noncomputable def sub7_2 (fuel : Nat) (R : Type) : Sub R := Sub.of [5, 15, 16, 17, 18] c7_2 fr7_2 fun x k => j7_2 fuel (fun y => k (.ret []) (fx7_0.st [6] y)) (fun y => k .normal (fx7_2.st [5, 15, 16, 17] y)) x
theorem subOk7_2 (fuel : Nat) (R : Type) : SubOk P [] 147 (sub7_2 fuel R) :=
  subOk_part (fns := fns7 fuel) (fuel := fuel) (subs := (subsOf [sub7_0 fuel R, sub7_1 fuel R])) (an := al7_2) T_ok (fnsOk7 fuel) mixed (subsOk_cons (subOk7_0 fuel R) (subsOk_cons (subOk7_1 fuel R) subsOk_nil)) (by kernel_rfl) (by kernel_rfl) fun _ _ _ _ h => Sub.of_run (fun (x : (Int × (List Bool) × (List (Int × Int)) × (List Bool) × (List Int))) k => u7_2 fuel k x) h
def fx7_3 : Fr := ⟨[.c (.ptr 0 0 []), .c (.ptr 1 0 [])], [.box (.d true (.arr 64 (.bool))), .box (.d true (.arr 64 (.bool)))], 10⟩
def fr7_3 : Fr := ⟨[.c (.ptr 0 0 []), .c (.slc 1 0), .c (.ptr 2 0 []), .d true (.int .i64)], [.box (.d true (.arr 64 (.bool))), .arr 0 (.pair (.int .i64) (.int .i64)), .box (.d true (.arr 64 (.bool)))], 9⟩
noncomputable def c7_3 : Code := bodyAt Try.f7 [1, 1, 1, 1, 1, 0, 1, 0]
def s7_3 (fuel : Nat) {R : Type} (F : (Int × (List Bool) × (List (Int × Int)) × (List Bool)) → Option R) (k0 : Bool → Option R) (k1 : ((List Bool) × (List Bool)) → Option R) : (Int × (List Bool) × (List (Int × Int)) × (List Bool)) → Option R := fun (x19, x20, x21, x22) => (bif (decide (x19 < ((List.length x21 : Nat) : Int))) then (if 0 ≤ x19 ∧ x19 < ((List.length x21 : Nat) : Int) then (match (x21)[(Int.toNat x19)]? with | some y23 => (match p15 fuel y23 with | some z24 => (bif (decide (((List.length z24 : Nat) : Int) = (0 : Int))) then (k0 false) else (bif (decide ((0 : Int) < x19)) then (if 0 ≤ (IntKind.wrap .i64 (x19 - (1 : Int))) ∧ (IntKind.wrap .i64 (x19 - (1 : Int))) < ((List.length x21 : Nat) : Int) then (match (x21)[(Int.toNat (IntKind.wrap .i64 (x19 - (1 : Int))))]? with | some y25 => (if 0 ≤ x19 ∧ x19 < ((List.length x21 : Nat) : Int) then (match (x21)[(Int.toNat x19)]? with | some y26 => (bif (decide (y26.1 ≤ y25.1)) then (k0 false) else (j7_2 fuel (fun x51 => (k0 x51)) (fun (x52, x53, x54, x55) => (F ((IntKind.wrap .i64 (x52 + (1 : Int))), x53, x54, x55))) (x19, x20, x21, x22, z24))) | none => none) else none) | none => none) else none) else (j7_2 fuel (fun x56 => (k0 x56)) (fun (x57, x58, x59, x60) => (F ((IntKind.wrap .i64 (x57 + (1 : Int))), x58, x59, x60))) (x19, x20, x21, x22, z24)))) | none => none) | none => none) else none) else (k1 (x20, x22)))
def l7_3 (fuel : Nat) {R : Type} (k0 : Bool → Option R) (k1 : ((List Bool) × (List Bool)) → Option R) : Nat → (Int × (List Bool) × (List (Int × Int)) × (List Bool)) → Option R
  | 0, _ => none
  | n + 1, x => s7_3 fuel (l7_3 fuel k0 k1 n) k0 k1 x
def nm7_3 : Norm := ⟨[5, 15, 16, 17], padK 9 [some (0, 0), some (1, 0), some (2, 0)]⟩
def an7_3 : AN := (.seq (.seq (.region [(2, { touch := [1] })]) (.cond .leaf (.norm ⟨[5, 16], padK 10 [some (0, 0), some (2, 0)]⟩ .leaf))) (.seq (.block (.seq (.region [(2, { touch := [1] }), (3, { touch := [1] }), (4, { touch := [11], base := 11, ro := false, fresh := 1 })]) (.seq (.seq (.region [(1, { touch := [11] }), (10, { touch := [1] }), (11, { touch := [1] }), (12, { touch := [1] }), (15, { touch := [1] }), (16, { touch := [1] }), (17, { touch := [1] })]) (.cond (.seq .leaf (.norm ⟨[6], padK 12 []⟩ (.ret []))) .leaf)) (.hole ⟨[5, 15, 16, 17, 18], padK 8 [some (0, 0), some (1, 0), some (2, 0), some (11, 0)]⟩ 2)))) .leaf))
def al7_3 : AN := .loop nm7_3 an7_3
noncomputable def d7_3 : Code := bodyAt Try.f7 [1, 1, 1, 1, 1, 0, 1, 0, 0]
theorem e7_3 (fuel : Nat) {R : Type} (F : St → Option R) (k : AExit → St → Option R) : ∀ x : (Int × (List Bool) × (List (Int × Int)) × (List Bool)), runK R T (fns7 fuel) fuel [] (subsOf [sub7_0 fuel R, sub7_1 fuel R, sub7_2 fuel R]) (partOf d7_3 an7_3) (fr7_3.st [5, 15, 16, 17] x) (backTo R [] nm7_3 F k) = s7_3 fuel (fun x => F (fr7_3.st [5, 15, 16, 17] x)) (fun y => k (.ret []) (fx7_0.st [6] y)) (fun y => k (.exit 2) (fx7_3.st [5, 16] y)) x := by
  rintro ⟨x19, x20, x21, x22⟩
  kernel_rfl
theorem u7_3 (fuel : Nat) {R : Type} (k : AExit → St → Option R) (x : (Int × (List Bool) × (List (Int × Int)) × (List Bool))) : runK R T (fns7 fuel) fuel [] (subsOf [sub7_0 fuel R, sub7_1 fuel R, sub7_2 fuel R]) (partOf c7_3 al7_3) (fr7_3.st [5, 15, 16, 17] x) k = l7_3 fuel (fun y => k (.ret []) (fx7_0.st [6] y)) (fun y => k (.exit 2) (fx7_3.st [5, 16] y)) fuel x :=
  loop_eq (mk := fr7_3.st [5, 15, 16, 17]) (s := fun F x => s7_3 fuel F (fun y => k (.ret []) (fx7_0.st [6] y)) (fun y => k (.exit 2) (fx7_3.st [5, 16] y)) x) (l := fun n x => l7_3 fuel (fun y => k (.ret []) (fx7_0.st [6] y)) (fun y => k (.exit 2) (fx7_3.st [5, 16] y)) n x) (d := d7_3) (by kernel_rfl) (fun G x => by
    revert x
    rintro ⟨x19, x20, x21, x22⟩
    kernel_rfl) (fun F x => e7_3 fuel F k x) (fun _ => rfl) (fun _ _ => rfl) x
noncomputable def sub7_3 (fuel : Nat) (R : Type) : Sub R := Sub.of [5, 15, 16, 17] c7_3 fr7_3 fun x k => l7_3 fuel (fun y => k (.ret []) (fx7_0.st [6] y)) (fun y => k (.exit 2) (fx7_3.st [5, 16] y)) fuel x
theorem subOk7_3 (fuel : Nat) (R : Type) : SubOk P [] 147 (sub7_3 fuel R) :=
  subOk_part (fns := fns7 fuel) (fuel := fuel) (subs := (subsOf [sub7_0 fuel R, sub7_1 fuel R, sub7_2 fuel R])) (an := al7_3) T_ok (fnsOk7 fuel) mixed (subsOk_cons (subOk7_0 fuel R) (subsOk_cons (subOk7_1 fuel R) (subsOk_cons (subOk7_2 fuel R) subsOk_nil))) (by kernel_rfl) (by kernel_rfl) fun _ _ _ _ h => Sub.of_run (fun (x : (Int × (List Bool) × (List (Int × Int)) × (List Bool))) k => u7_3 fuel k x) h
def fr7_4 : Fr := ⟨[.c (.ptr 0 0 [])], [.box (.d true (.arr 64 (.bool)))], 11⟩
noncomputable def c7_4 : Code := bodyAt Try.f7 [1, 1, 1]
def j7_4 (fuel : Nat) {R : Type} (k0 : Bool → Option R) : (List Bool) → Option R := fun x17 => (match p25 fuel x17 with | some z18 => (l7_3 fuel (fun x61 => (k0 x61)) (fun (x62, x63) => (match p14 fuel () with | some z64 => (bif z64 then (k0 (Ty.eqB (.arr 64 (.bool)) x63 x62)) else (k0 false)) | none => none)) fuel ((0 : Int), x17, z18, (List.replicate 64 false))) | none => none)
def al7_4 : AN := (.seq (.region [(0, { touch := [0] }), (1, { touch := [9], base := 9, ro := false, fresh := 1 })]) (.seq (.region [(0, { touch := [10], base := 10, ro := false })]) (.seq (.seq .leaf (.block (.hole ⟨[5, 15, 16, 17], padK 9 [some (0, 0), some (9, 0), some (10, 0)]⟩ 3))) (.seq (.region [(2, { touch := [1] }), (3, { touch := [0] })]) (.norm ⟨[6], padK 12 []⟩ (.ret []))))))
theorem u7_4 (fuel : Nat) {R : Type} (k : AExit → St → Option R) : ∀ x : (List Bool), runK R T (fns7 fuel) fuel [] (subsOf [sub7_0 fuel R, sub7_1 fuel R, sub7_2 fuel R, sub7_3 fuel R]) (partOf c7_4 al7_4) (fr7_4.st [5] x) k = j7_4 fuel (fun y => k (.ret []) (fx7_0.st [6] y)) x := by
  rintro x17
  kernel_rfl
noncomputable def sub7_4 (fuel : Nat) (R : Type) : Sub R := Sub.of [5] c7_4 fr7_4 fun x k => j7_4 fuel (fun y => k (.ret []) (fx7_0.st [6] y)) x
theorem subOk7_4 (fuel : Nat) (R : Type) : SubOk P [] 147 (sub7_4 fuel R) :=
  subOk_part (fns := fns7 fuel) (fuel := fuel) (subs := (subsOf [sub7_0 fuel R, sub7_1 fuel R, sub7_2 fuel R, sub7_3 fuel R])) (an := al7_4) T_ok (fnsOk7 fuel) mixed (subsOk_cons (subOk7_0 fuel R) (subsOk_cons (subOk7_1 fuel R) (subsOk_cons (subOk7_2 fuel R) (subsOk_cons (subOk7_3 fuel R) subsOk_nil)))) (by kernel_rfl) (by kernel_rfl) fun _ _ _ _ h => Sub.of_run (fun (x : (List Bool)) k => u7_4 fuel k x) h
def an7 : AN := (.seq (.region [(0, { touch := [4], base := 4, ro := false }), (1, { touch := [5], base := 5, ro := false })]) (.seq (.region [(0, { touch := [4] }), (7, { touch := [6], base := 6, ro := false }), (8, { touch := [7], base := 7, ro := false }), (9, { touch := [6], ro := false }), (10, { touch := [7], ro := false })]) (.seq (.seq .leaf (.cond (.fin ⟨[5], padK 11 [some (0, 0)]⟩ (.seq (.region [(0, { touch := [6] }), (1, { touch := [7] }), (6, { touch := [8], base := 8, ro := false }), (7, { touch := [8], ro := false })]) (.seq (.seq (.region [(3, { touch := [8] }), (4, { touch := [4] })]) (.cond (.seq .leaf (.norm ⟨[6], padK 12 []⟩ (.ret []))) .leaf)) (.seq .leaf (.block (.hole ⟨[3, 5, 7, 8, 12], padK 8 [some (4, 0), some (5, 0), some (6, 0), some (7, 0)]⟩ 0)))))) (.fin ⟨[5], padK 11 [some (5, 0)]⟩ .leaf))) (.hole ⟨[5], padK 11 [some (0, 0)]⟩ 4))))
def p7 (fuel : Nat) : ((Int × Int) × Int × (List Bool)) → Option Bool := fun (x1, x2, x3) => (match p10 fuel (x1, x2) with | some z4 => (bif (decide (z4.2.2 = (0 : Int))) then (match p12 fuel (z4.1, z4.2.1) with | some z5 => (bif (!decide (z5.2 = (0 : Int))) then (some false) else (bif (!(Ty.eqB (.pair (.int .i64) (.int .i64)) z5.1 x1)) then (some false) else (l7_0 fuel (fun x15 => (some x15)) (fun x16 => (j7_4 fuel (fun x65 => (some x65)) x16)) fuel ((0 : Int), x1, x3, z4.1, z4.2.1)))) | none => none) else (j7_4 fuel (fun x66 => (some x66)) x3)) | none => none)
def F7 (fuel : Nat) : Fun := funOfA fi7 al7 (p7 fuel)
theorem run7 (fuel : Nat) : ∀ y : ((Int × Int) × Int × (List Bool)), runF Bool T (fns7 fuel) fuel (subsOf [sub7_0 fuel Bool, sub7_1 fuel Bool, sub7_2 fuel Bool, sub7_3 fuel Bool, sub7_4 fuel Bool]) (defOf Try.f7 an7 12 [] []) (fi7.vs y) (fi7.os y) (altsDec al7) = p7 fuel y := by
  rintro ⟨x1, x2, x3⟩
  kernel_rfl
theorem ok7 (fuel : Nat) : FunOk P 7 (F7 fuel) :=
  funOfA_ok (subs := (subsOf [sub7_0 fuel Bool, sub7_1 fuel Bool, sub7_2 fuel Bool, sub7_3 fuel Bool, sub7_4 fuel Bool])) (an := an7) (room := 12) (ks := []) (g0 := []) (fuel := fuel) T_ok (fnsOk7 fuel) mixed (fn := Try.f7) (by kernel_rfl) (by kernel_rfl) (subsOk_cons (subOk7_0 fuel _) (subsOk_cons (subOk7_1 fuel _) (subsOk_cons (subOk7_2 fuel _) (subsOk_cons (subOk7_3 fuel _) (subsOk_cons (subOk7_4 fuel _) subsOk_nil))))) (by kernel_rfl) (fun _ => ⟨by kernel_rfl, by kernel_rfl⟩) (run7 fuel)

-- f33: cmp.isNaN[uint64]
def fns33 (fuel : Nat) : Fns := fnsOf []
theorem fnsOk33 (fuel : Nat) : FnsOk P (fns33 fuel) := fnsOk_nil
def fi33 : Fr := ⟨[.d false (.int .u64)], [], 0⟩
def al33 : List (Tm × List To) := [(.d true (.bool), [])]
def an33 : AN := (.seq .leaf (.seq .leaf (.norm ⟨[2], padK 0 []⟩ (.ret []))))
def p33 (fuel : Nat) : Int → Option Bool := fun x1 => (some (!decide (x1 = x1)))
def F33 (fuel : Nat) : Fun := funOfA fi33 al33 (p33 fuel)
theorem run33 (fuel : Nat) : ∀ y : Int, runF Bool T (fns33 fuel) fuel (subsOf []) (defOf Try.f33 an33 0 [] []) (fi33.vs y) (fi33.os y) (altsDec al33) = p33 fuel y := by
  rintro x1
  kernel_rfl
theorem ok33 (fuel : Nat) : FunOk P 33 (F33 fuel) :=
  funOfA_ok (subs := (subsOf [])) (an := an33) (room := 0) (ks := []) (g0 := []) (fuel := fuel) T_ok (fnsOk33 fuel) mixed (fn := Try.f33) (by kernel_rfl) (by kernel_rfl) subsOk_nil (by kernel_rfl) (fun _ => ⟨by kernel_rfl, by kernel_rfl⟩) (run33 fuel)

-- f32: cmp.Compare[uint64]
def fns32 (fuel : Nat) : Fns := fnsOf [(33, F33 fuel)]
theorem fnsOk32 (fuel : Nat) : FnsOk P (fns32 fuel) := (fnsOk_cons (ok33 fuel) fnsOk_nil)
def fi32 : Fr := ⟨[.d false (.int .u64), .d false (.int .u64)], [], 0⟩
def al32 : List (Tm × List To) := [(.d true (.int .i64), [])]
def an32 : AN := (.seq .leaf (.seq .leaf (.seq .leaf (.seq (.seq .leaf (.cond (.seq (.seq .leaf (.cond (.seq .leaf (.norm ⟨[4], padK 0 []⟩ (.ret []))) .leaf)) (.seq .leaf (.norm ⟨[4], padK 0 []⟩ (.ret [])))) .leaf)) (.seq (.seq .leaf (.cond (.seq .leaf (.norm ⟨[4], padK 0 []⟩ (.ret []))) .leaf)) (.seq (.seq .leaf (.cond (.seq .leaf (.norm ⟨[4], padK 0 []⟩ (.ret []))) .leaf)) (.seq (.seq .leaf (.cond (.seq .leaf (.norm ⟨[4], padK 0 []⟩ (.ret []))) .leaf)) (.seq .leaf (.norm ⟨[4], padK 0 []⟩ (.ret []))))))))))
def p32 (fuel : Nat) : (Int × Int) → Option Int := fun (x1, x2) => (match p33 fuel x1 with | some z3 => (match p33 fuel x2 with | some z4 => (bif z3 then (bif z4 then (some (0 : Int)) else (some (-1 : Int))) else (bif z4 then (some (1 : Int)) else (bif (decide (x1 < x2)) then (some (-1 : Int)) else (bif (decide (x2 < x1)) then (some (1 : Int)) else (some (0 : Int)))))) | none => none) | none => none)
def F32 (fuel : Nat) : Fun := funOfA fi32 al32 (p32 fuel)
theorem run32 (fuel : Nat) : ∀ y : (Int × Int), runF Int T (fns32 fuel) fuel (subsOf []) (defOf Try.f32 an32 0 [] []) (fi32.vs y) (fi32.os y) (altsDec al32) = p32 fuel y := by
  rintro ⟨x1, x2⟩
  kernel_rfl
theorem ok32 (fuel : Nat) : FunOk P 32 (F32 fuel) :=
  funOfA_ok (subs := (subsOf [])) (an := an32) (room := 0) (ks := []) (g0 := []) (fuel := fuel) T_ok (fnsOk32 fuel) mixed (fn := Try.f32) (by kernel_rfl) (by kernel_rfl) subsOk_nil (by kernel_rfl) (fun _ => ⟨by kernel_rfl, by kernel_rfl⟩) (run32 fuel)

-- f31: cmp.Or[int]
def fns31 (fuel : Nat) : Fns := fnsOf []
theorem fnsOk31 (fuel : Nat) : FnsOk P (fns31 fuel) := fnsOk_nil
def fi31 : Fr := ⟨[.d false (.slice (.int .i64))], [], 0⟩
def al31 : List (Tm × List To) := [(.d true (.int .i64), [])]
def fx31_0 : Fr := ⟨[.d true (.int .i64)], [], 0⟩
def fx31_1 : Fr := ⟨[.d true (.int .i64)], [], 0⟩
def fr31_0 : Fr := ⟨[.d true (.int .i64), .d false (.slice (.int .i64)), .d true (.int .i64), .d true (.int .i64)], [], 0⟩
noncomputable def c31_0 : Code := bodyAt Try.f31 [1, 1, 0, 1, 0]
def s31_0 (fuel : Nat) {R : Type} (F : (Int × (List Int) × Int × Int) → Option R) (k0 : Int → Option R) (k1 : Int → Option R) : (Int × (List Int) × Int × Int) → Option R := fun (x2, x3, x4, x5) => (bif (decide (x5 < x4)) then (if 0 ≤ x5 then (match (x3)[Int.toNat x5]? with | some y6 => (bif (!decide (y6 = x2)) then (k0 y6) else (F (x2, x3, x4, (IntKind.wrap .i64 (x5 + (1 : Int)))))) | none => none) else none) else (k1 x2))
def l31_0 (fuel : Nat) {R : Type} (k0 : Int → Option R) (k1 : Int → Option R) : Nat → (Int × (List Int) × Int × Int) → Option R
  | 0, _ => none
  | n + 1, x => s31_0 fuel (l31_0 fuel k0 k1 n) k0 k1 x
def nm31_0 : Norm := ⟨[3, 6, 7, 8], padK 0 []⟩
def an31_0 : AN := (.seq .leaf (.seq (.cond .leaf (.norm ⟨[3], padK 0 []⟩ .leaf)) (.seq (.block (.seq .leaf (.seq .leaf (.cond (.seq .leaf (.norm ⟨[2], padK 0 []⟩ (.ret []))) .leaf)))) .leaf)))
def al31_0 : AN := .loop nm31_0 an31_0
noncomputable def d31_0 : Code := bodyAt Try.f31 [1, 1, 0, 1, 0, 0]
theorem e31_0 (fuel : Nat) {R : Type} (F : St → Option R) (k : AExit → St → Option R) : ∀ x : (Int × (List Int) × Int × Int), runK R T (fns31 fuel) fuel [] (subsOf []) (partOf d31_0 an31_0) (fr31_0.st [3, 6, 7, 8] x) (backTo R [] nm31_0 F k) = s31_0 fuel (fun x => F (fr31_0.st [3, 6, 7, 8] x)) (fun y => k (.ret []) (fx31_0.st [2] y)) (fun y => k (.exit 0) (fx31_1.st [3] y)) x := by
  rintro ⟨x2, x3, x4, x5⟩
  kernel_rfl
theorem u31_0 (fuel : Nat) {R : Type} (k : AExit → St → Option R) (x : (Int × (List Int) × Int × Int)) : runK R T (fns31 fuel) fuel [] (subsOf []) (partOf c31_0 al31_0) (fr31_0.st [3, 6, 7, 8] x) k = l31_0 fuel (fun y => k (.ret []) (fx31_0.st [2] y)) (fun y => k (.exit 0) (fx31_1.st [3] y)) fuel x :=
  loop_eq (mk := fr31_0.st [3, 6, 7, 8]) (s := fun F x => s31_0 fuel F (fun y => k (.ret []) (fx31_0.st [2] y)) (fun y => k (.exit 0) (fx31_1.st [3] y)) x) (l := fun n x => l31_0 fuel (fun y => k (.ret []) (fx31_0.st [2] y)) (fun y => k (.exit 0) (fx31_1.st [3] y)) n x) (d := d31_0) (by kernel_rfl) (fun G x => by
    revert x
    rintro ⟨x2, x3, x4, x5⟩
    kernel_rfl) (fun F x => e31_0 fuel F k x) (fun _ => rfl) (fun _ _ => rfl) x
noncomputable def sub31_0 (fuel : Nat) (R : Type) : Sub R := Sub.of [3, 6, 7, 8] c31_0 fr31_0 fun x k => l31_0 fuel (fun y => k (.ret []) (fx31_0.st [2] y)) (fun y => k (.exit 0) (fx31_1.st [3] y)) fuel x
theorem subOk31_0 (fuel : Nat) (R : Type) : SubOk P [] 18 (sub31_0 fuel R) :=
  subOk_part (fns := fns31 fuel) (fuel := fuel) (subs := (subsOf [])) (an := al31_0) T_ok (fnsOk31 fuel) mixed subsOk_nil (by kernel_rfl) (by kernel_rfl) fun _ _ _ _ h => Sub.of_run (fun (x : (Int × (List Int) × Int × Int)) k => u31_0 fuel k x) h
def an31 : AN := (.seq .leaf (.seq .leaf (.seq (.seq .leaf (.block (.hole ⟨[3, 6, 7, 8], padK 0 []⟩ 0))) (.seq .leaf (.norm ⟨[2], padK 0 []⟩ (.ret []))))))
def p31 (fuel : Nat) : (List Int) → Option Int := fun x1 => (l31_0 fuel (fun x7 => (some x7)) (fun x8 => (some x8)) fuel ((0 : Int), x1, ((List.length x1 : Nat) : Int), (0 : Int)))
def F31 (fuel : Nat) : Fun := funOfA fi31 al31 (p31 fuel)
theorem run31 (fuel : Nat) : ∀ y : (List Int), runF Int T (fns31 fuel) fuel (subsOf [sub31_0 fuel Int]) (defOf Try.f31 an31 0 [] []) (fi31.vs y) (fi31.os y) (altsDec al31) = p31 fuel y := by
  rintro x1
  kernel_rfl
theorem ok31 (fuel : Nat) : FunOk P 31 (F31 fuel) :=
  funOfA_ok (subs := (subsOf [sub31_0 fuel Int])) (an := an31) (room := 0) (ks := []) (g0 := []) (fuel := fuel) T_ok (fnsOk31 fuel) mixed (fn := Try.f31) (by kernel_rfl) (by kernel_rfl) (subsOk_cons (subOk31_0 fuel _) subsOk_nil) (by kernel_rfl) (fun _ => ⟨by kernel_rfl, by kernel_rfl⟩) (run31 fuel)

-- f29: tontine/keys.Cmp
def fns29 (fuel : Nat) : Fns := fnsOf [(32, F32 fuel), (31, F31 fuel)]
theorem fnsOk29 (fuel : Nat) : FnsOk P (fns29 fuel) := (fnsOk_cons (ok32 fuel) (fnsOk_cons (ok31 fuel) fnsOk_nil))
def fi29 : Fr := ⟨[.d false (.pair (.int .u64) (.int .u64)), .d false (.pair (.int .u64) (.int .u64))], [], 0⟩
def al29 : List (Tm × List To) := [(.d true (.int .i64), [])]
def an29 : AN := (.seq (.region [(0, { touch := [0], ro := false }), (1, { touch := [1], base := 1, ro := false })]) (.seq (.region [(0, { touch := [0] }), (1, { touch := [0] }), (2, { touch := [1] }), (3, { touch := [1] }), (5, { touch := [0] }), (6, { touch := [0] }), (7, { touch := [1] }), (8, { touch := [1] }), (10, { touch := [2], base := 2, ro := false }), (11, { touch := [2], lend := [some (.slice (.int .i64))] })]) (.norm ⟨[4], padK 3 []⟩ (.ret []))))
def p29 (fuel : Nat) : ((Int × Int) × (Int × Int)) → Option Int := fun (x1, x2) => (match p32 fuel (x1.1, x2.1) with | some z3 => (match p32 fuel (x1.2, x2.2) with | some z4 => (match p31 fuel [z3, z4] with | some z5 => (some z5) | none => none) | none => none) | none => none)
def F29 (fuel : Nat) : Fun := funOfA fi29 al29 (p29 fuel)
theorem run29 (fuel : Nat) : ∀ y : ((Int × Int) × (Int × Int)), runF Int T (fns29 fuel) fuel (subsOf []) (defOf Try.f29 an29 3 [] []) (fi29.vs y) (fi29.os y) (altsDec al29) = p29 fuel y := by
  rintro ⟨x1, x2⟩
  kernel_rfl
theorem ok29 (fuel : Nat) : FunOk P 29 (F29 fuel) :=
  funOfA_ok (subs := (subsOf [])) (an := an29) (room := 3) (ks := []) (g0 := []) (fuel := fuel) T_ok (fnsOk29 fuel) mixed (fn := Try.f29) (by kernel_rfl) (by kernel_rfl) subsOk_nil (by kernel_rfl) (fun _ => ⟨by kernel_rfl, by kernel_rfl⟩) (run29 fuel)

-- f27: tontine/arcs.Between
def fns27 (fuel : Nat) : Fns := fnsOf [(29, F29 fuel)]
theorem fnsOk27 (fuel : Nat) : FnsOk P (fns27 fuel) := (fnsOk_cons (ok29 fuel) fnsOk_nil)
def fi27 : Fr := ⟨[.d false (.pair (.int .u64) (.int .u64)), .d false (.pair (.int .u64) (.int .u64)), .d false (.pair (.int .u64) (.int .u64))], [], 0⟩
def al27 : List (Tm × List To) := [(.d true (.bool), [])]
def an27 : AN := (.seq (.region [(0, { touch := [0], ro := false }), (1, { touch := [1], base := 1, ro := false }), (2, { touch := [2], base := 2, ro := false })]) (.seq (.region [(0, { touch := [0] }), (1, { touch := [1] }), (4, { touch := [1] }), (5, { touch := [2] })]) (.seq (.block (.seq (.region [(0, { touch := [0] }), (1, { touch := [2] })]) (.cond (.seq .leaf (.norm ⟨[6], padK 3 []⟩ (.ret []))) (.seq (.region [(0, { touch := [0] }), (1, { touch := [2] })]) (.cond (.seq .leaf (.norm ⟨[6], padK 3 []⟩ (.ret []))) .leaf))))) (.seq .leaf (.norm ⟨[6], padK 3 []⟩ (.ret []))))))
def p27 (fuel : Nat) : ((Int × Int) × (Int × Int) × (Int × Int)) → Option Bool := fun (x1, x2, x3) => (match p29 fuel (x1, x2) with | some z4 => (match p29 fuel (x2, x3) with | some z5 => (bif (Ty.eqB (.pair (.int .u64) (.int .u64)) x1 x3) then (some true) else (match p29 fuel (x1, x3) with | some z6 => (bif (decide (z6 < (0 : Int))) then (bif (decide (z4 < (0 : Int))) then (some (decide (z5 ≤ (0 : Int)))) else (some false)) else (bif (decide (z4 < (0 : Int))) then (some true) else (some (decide (z5 ≤ (0 : Int)))))) | none => none)) | none => none) | none => none)
def F27 (fuel : Nat) : Fun := funOfA fi27 al27 (p27 fuel)
theorem run27 (fuel : Nat) : ∀ y : ((Int × Int) × (Int × Int) × (Int × Int)), runF Bool T (fns27 fuel) fuel (subsOf []) (defOf Try.f27 an27 3 [] []) (fi27.vs y) (fi27.os y) (altsDec al27) = p27 fuel y := by
  rintro ⟨x1, x2, x3⟩
  kernel_rfl
theorem ok27 (fuel : Nat) : FunOk P 27 (F27 fuel) :=
  funOfA_ok (subs := (subsOf [])) (an := an27) (room := 3) (ks := []) (g0 := []) (fuel := fuel) T_ok (fnsOk27 fuel) mixed (fn := Try.f27) (by kernel_rfl) (by kernel_rfl) subsOk_nil (by kernel_rfl) (fun _ => ⟨by kernel_rfl, by kernel_rfl⟩) (run27 fuel)

-- f30: tontine/tontineref01.Cmp
def fns30 (fuel : Nat) : Fns := fnsOf []
theorem fnsOk30 (fuel : Nat) : FnsOk P (fns30 fuel) := fnsOk_nil
def fi30 : Fr := ⟨[.d false (.pair (.int .u64) (.int .u64)), .d false (.pair (.int .u64) (.int .u64))], [], 0⟩
def al30 : List (Tm × List To) := [(.d true (.int .i64), [])]
def fx30_0 : Fr := ⟨[.d true (.int .i64)], [], 4⟩
def fx30_1 : Fr := ⟨[], [], 4⟩
def fr30_0 : Fr := ⟨[.c (.ptr 0 0 []), .c (.ptr 1 0 []), .d true (.bool)], [.box (.d true (.pair (.int .u64) (.int .u64))), .box (.d true (.pair (.int .u64) (.int .u64)))], 2⟩
noncomputable def c30_0 : Code := bodyAt Try.f30 [1, 0, 0, 1]
def j30_0 (fuel : Nat) {R : Type} (k0 : Int → Option R) (k1 : Unit → Option R) : (Bool × (Int × Int) × (Int × Int)) → Option R := fun (x3, x4, x5) => (bif x3 then (k0 (-1 : Int)) else (bif (Ty.eqB (.pair (.int .u64) (.int .u64)) x4 x5) then (k0 (0 : Int)) else (k1 ())))
def al30_0 : AN := (.fin ⟨[], padK 4 []⟩ (.cond (.seq .leaf (.norm ⟨[4], padK 4 []⟩ (.ret []))) (.seq (.region [(0, { touch := [0] }), (1, { touch := [1] })]) (.cond (.seq .leaf (.norm ⟨[4], padK 4 []⟩ (.ret []))) .leaf))))
theorem u30_0 (fuel : Nat) {R : Type} (k : AExit → St → Option R) : ∀ x : (Bool × (Int × Int) × (Int × Int)), runK R T (fns30 fuel) fuel [] (subsOf []) (partOf c30_0 al30_0) (fr30_0.st [2, 3, 5] x) k = j30_0 fuel (fun y => k (.ret []) (fx30_0.st [4] y)) (fun y => k .normal (fx30_1.st [] y)) x := by
  rintro ⟨x3, x4, x5⟩
  kernel_rfl
noncomputable def sub30_0 (fuel : Nat) (R : Type) : Sub R := Sub.of [2, 3, 5] c30_0 fr30_0 fun x k => j30_0 fuel (fun y => k (.ret []) (fx30_0.st [4] y)) (fun y => k .normal (fx30_1.st [] y)) x
theorem subOk30_0 (fuel : Nat) (R : Type) : SubOk P [] 29 (sub30_0 fuel R) :=
  subOk_part (fns := fns30 fuel) (fuel := fuel) (subs := (subsOf [])) (an := al30_0) T_ok (fnsOk30 fuel) mixed subsOk_nil (by kernel_rfl) (by kernel_rfl) fun _ _ _ _ h => Sub.of_run (fun (x : (Bool × (Int × Int) × (Int × Int))) k => u30_0 fuel k x) h
def an30 : AN := (.seq (.region [(0, { touch := [2], base := 2, ro := false }), (1, { touch := [3], base := 3, ro := false })]) (.seq (.block (.seq (.region [(0, { touch := [2] }), (1, { touch := [2] }), (2, { touch := [3] }), (3, { touch := [3] }), (6, { touch := [2] }), (7, { touch := [2] }), (8, { touch := [3] }), (9, { touch := [3] }), (12, { touch := [2] }), (13, { touch := [2] }), (14, { touch := [3] }), (15, { touch := [3] })]) (.hole ⟨[2, 3, 5], padK 2 [some (2, 0), some (3, 0)]⟩ 0))) (.seq .leaf (.norm ⟨[4], padK 4 []⟩ (.ret [])))))
def p30 (fuel : Nat) : ((Int × Int) × (Int × Int)) → Option Int := fun (x1, x2) => (bif (decide (x1.1 < x2.1)) then (j30_0 fuel (fun x6 => (some x6)) (fun _ => (some (1 : Int))) (true, x1, x2)) else (bif (decide (x1.1 = x2.1)) then (j30_0 fuel (fun x7 => (some x7)) (fun _ => (some (1 : Int))) ((decide (x1.2 < x2.2)), x1, x2)) else (j30_0 fuel (fun x8 => (some x8)) (fun _ => (some (1 : Int))) (false, x1, x2))))
def F30 (fuel : Nat) : Fun := funOfA fi30 al30 (p30 fuel)
theorem run30 (fuel : Nat) : ∀ y : ((Int × Int) × (Int × Int)), runF Int T (fns30 fuel) fuel (subsOf [sub30_0 fuel Int]) (defOf Try.f30 an30 4 [] []) (fi30.vs y) (fi30.os y) (altsDec al30) = p30 fuel y := by
  rintro ⟨x1, x2⟩
  kernel_rfl
theorem ok30 (fuel : Nat) : FunOk P 30 (F30 fuel) :=
  funOfA_ok (subs := (subsOf [sub30_0 fuel Int])) (an := an30) (room := 4) (ks := []) (g0 := []) (fuel := fuel) T_ok (fnsOk30 fuel) mixed (fn := Try.f30) (by kernel_rfl) (by kernel_rfl) (subsOk_cons (subOk30_0 fuel _) subsOk_nil) (by kernel_rfl) (fun _ => ⟨by kernel_rfl, by kernel_rfl⟩) (run30 fuel)

-- f28: tontine/tontineref02.Between
def fns28 (fuel : Nat) : Fns := fnsOf [(30, F30 fuel)]
theorem fnsOk28 (fuel : Nat) : FnsOk P (fns28 fuel) := (fnsOk_cons (ok30 fuel) fnsOk_nil)
def fi28 : Fr := ⟨[.d false (.pair (.int .u64) (.int .u64)), .d false (.pair (.int .u64) (.int .u64)), .d false (.pair (.int .u64) (.int .u64))], [], 0⟩
def al28 : List (Tm × List To) := [(.d true (.bool), [])]
def an28 : AN := (.seq (.region [(0, { touch := [0], ro := false }), (1, { touch := [1], base := 1, ro := false }), (2, { touch := [2], base := 2, ro := false })]) (.seq (.region [(0, { touch := [0] }), (1, { touch := [2] })]) (.seq (.region [(0, { touch := [0] }), (1, { touch := [1] })]) (.seq (.region [(0, { touch := [1] }), (1, { touch := [2] })]) (.seq (.seq .leaf (.block (.seq .leaf (.cond (.seq .leaf (.norm ⟨[6], padK 3 []⟩ (.ret []))) (.seq .leaf (.cond (.seq .leaf (.norm ⟨[6], padK 3 []⟩ (.ret []))) .leaf)))))) (.seq .leaf (.norm ⟨[6], padK 3 []⟩ (.ret []))))))))
def p28 (fuel : Nat) : ((Int × Int) × (Int × Int) × (Int × Int)) → Option Bool := fun (x1, x2, x3) => (match p30 fuel (x1, x3) with | some z4 => (match p30 fuel (x1, x2) with | some z5 => (match p30 fuel (x2, x3) with | some z6 => (bif (decide (z4 = (-1 : Int))) then (bif (decide (z5 < (0 : Int))) then (some (decide (z6 ≤ (0 : Int)))) else (some false)) else (bif (decide (z4 = (1 : Int))) then (bif (decide (z5 < (0 : Int))) then (some true) else (some (decide (z6 ≤ (0 : Int))))) else (some true))) | none => none) | none => none) | none => none)
def F28 (fuel : Nat) : Fun := funOfA fi28 al28 (p28 fuel)
theorem run28 (fuel : Nat) : ∀ y : ((Int × Int) × (Int × Int) × (Int × Int)), runF Bool T (fns28 fuel) fuel (subsOf []) (defOf Try.f28 an28 3 [] []) (fi28.vs y) (fi28.os y) (altsDec al28) = p28 fuel y := by
  rintro ⟨x1, x2, x3⟩
  kernel_rfl
theorem ok28 (fuel : Nat) : FunOk P 28 (F28 fuel) :=
  funOfA_ok (subs := (subsOf [])) (an := an28) (room := 3) (ks := []) (g0 := []) (fuel := fuel) T_ok (fnsOk28 fuel) mixed (fn := Try.f28) (by kernel_rfl) (by kernel_rfl) subsOk_nil (by kernel_rfl) (fun _ => ⟨by kernel_rfl, by kernel_rfl⟩) (run28 fuel)

-- f8: tontine/tontinelaw02.ArcsBetween
def fns8 (fuel : Nat) : Fns := fnsOf [(14, F14 fuel), (27, F27 fuel), (28, F28 fuel)]
theorem fnsOk8 (fuel : Nat) : FnsOk P (fns8 fuel) := (fnsOk_cons (ok14 fuel) (fnsOk_cons (ok27 fuel) (fnsOk_cons (ok28 fuel) fnsOk_nil)))
def fi8 : Fr := ⟨[.d false (.pair (.int .u64) (.int .u64)), .d false (.pair (.int .u64) (.int .u64)), .d false (.pair (.int .u64) (.int .u64))], [], 0⟩
def al8 : List (Tm × List To) := [(.d true (.bool), [])]
def an8 : AN := (.seq (.region [(0, { touch := [0], ro := false }), (1, { touch := [1], base := 1, ro := false }), (2, { touch := [2], base := 2, ro := false })]) (.seq (.region [(2, { touch := [0] }), (3, { touch := [1] }), (4, { touch := [2] }), (6, { touch := [0] }), (7, { touch := [1] }), (8, { touch := [2] })]) (.norm ⟨[6], padK 3 []⟩ (.ret []))))
def p8 (fuel : Nat) : ((Int × Int) × (Int × Int) × (Int × Int)) → Option Bool := fun (x1, x2, x3) => (match p14 fuel () with | some z4 => (bif z4 then (match p27 fuel (x1, x2, x3) with | some z5 => (match p28 fuel (x1, x2, x3) with | some z6 => (some (z5 == z6)) | none => none) | none => none) else (some false)) | none => none)
def F8 (fuel : Nat) : Fun := funOfA fi8 al8 (p8 fuel)
theorem run8 (fuel : Nat) : ∀ y : ((Int × Int) × (Int × Int) × (Int × Int)), runF Bool T (fns8 fuel) fuel (subsOf []) (defOf Try.f8 an8 3 [] []) (fi8.vs y) (fi8.os y) (altsDec al8) = p8 fuel y := by
  rintro ⟨x1, x2, x3⟩
  kernel_rfl
theorem ok8 (fuel : Nat) : FunOk P 8 (F8 fuel) :=
  funOfA_ok (subs := (subsOf [])) (an := an8) (room := 3) (ks := []) (g0 := []) (fuel := fuel) T_ok (fnsOk8 fuel) mixed (fn := Try.f8) (by kernel_rfl) (by kernel_rfl) subsOk_nil (by kernel_rfl) (fun _ => ⟨by kernel_rfl, by kernel_rfl⟩) (run8 fuel)

-- f9: tontine/tontinelaw02.ArcsAround
def fns9 (fuel : Nat) : Fns := fnsOf [(27, F27 fuel), (14, F14 fuel)]
theorem fnsOk9 (fuel : Nat) : FnsOk P (fns9 fuel) := (fnsOk_cons (ok27 fuel) (fnsOk_cons (ok14 fuel) fnsOk_nil))
def fi9 : Fr := ⟨[.d false (.pair (.int .u64) (.int .u64)), .d false (.pair (.int .u64) (.int .u64)), .d false (.pair (.int .u64) (.int .u64))], [], 0⟩
def al9 : List (Tm × List To) := [(.d true (.bool), [])]
def an9 : AN := (.seq (.region [(0, { touch := [0], ro := false }), (1, { touch := [1], base := 1, ro := false }), (2, { touch := [2], base := 2, ro := false })]) (.seq (.region [(0, { touch := [0] }), (1, { touch := [1] }), (2, { touch := [2] })]) (.seq (.region [(0, { touch := [2] }), (1, { touch := [1] }), (2, { touch := [0] })]) (.seq (.region [(0, { touch := [0] }), (1, { touch := [2] }), (2, { touch := [2] })]) (.seq (.region [(0, { touch := [0] }), (1, { touch := [0] }), (2, { touch := [2] })]) (.seq (.region [(2, { touch := [0] }), (3, { touch := [2] }), (12, { touch := [0] }), (13, { touch := [2] })]) (.norm ⟨[6], padK 3 []⟩ (.ret []))))))))
def p9 (fuel : Nat) : ((Int × Int) × (Int × Int) × (Int × Int)) → Option Bool := fun (x1, x2, x3) => (match p27 fuel (x1, x2, x3) with | some z4 => (match p27 fuel (x3, x2, x1) with | some z5 => (match p27 fuel (x1, x3, x3) with | some z6 => (match p27 fuel (x1, x1, x3) with | some z7 => (match p14 fuel () with | some z8 => (bif z8 then (bif (Ty.eqB (.pair (.int .u64) (.int .u64)) x1 x3) then (bif z4 then (bif z5 then (some true) else (bif (!(Ty.eqB (.pair (.int .u64) (.int .u64)) x1 x3)) then (bif (!(z4 == z5)) then (bif z6 then (some (!z7)) else (some false)) else (some false)) else (some false))) else (bif (!(Ty.eqB (.pair (.int .u64) (.int .u64)) x1 x3)) then (bif (!(z4 == z5)) then (bif z6 then (some (!z7)) else (some false)) else (some false)) else (some false))) else (bif (!(Ty.eqB (.pair (.int .u64) (.int .u64)) x1 x3)) then (bif (!(z4 == z5)) then (bif z6 then (some (!z7)) else (some false)) else (some false)) else (some false))) else (some false)) | none => none) | none => none) | none => none) | none => none) | none => none)
def F9 (fuel : Nat) : Fun := funOfA fi9 al9 (p9 fuel)
theorem run9 (fuel : Nat) : ∀ y : ((Int × Int) × (Int × Int) × (Int × Int)), runF Bool T (fns9 fuel) fuel (subsOf []) (defOf Try.f9 an9 3 [] []) (fi9.vs y) (fi9.os y) (altsDec al9) = p9 fuel y := by
  rintro ⟨x1, x2, x3⟩
  kernel_rfl
theorem ok9 (fuel : Nat) : FunOk P 9 (F9 fuel) :=
  funOfA_ok (subs := (subsOf [])) (an := an9) (room := 3) (ks := []) (g0 := []) (fuel := fuel) T_ok (fnsOk9 fuel) mixed (fn := Try.f9) (by kernel_rfl) (by kernel_rfl) subsOk_nil (by kernel_rfl) (fun _ => ⟨by kernel_rfl, by kernel_rfl⟩) (run9 fuel)
end Go.Am.Ytlnidkgehflmfaa
