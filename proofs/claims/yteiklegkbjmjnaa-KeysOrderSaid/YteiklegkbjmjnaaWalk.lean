/- Printed by gen2.py: functions as plain Lean functions, each with its equality with the machine run. -/
import Derived.Test.YteiklegkbjmjnaaProg
import Derived.Test.YteiklegkbjmjnaaAmZC
namespace Go.Am.Yteiklegkbjmjnaa
open Go.Proofs
noncomputable abbrev P : Program := Try.prog
noncomputable def td3 : TD := { und := .int .i64, size := 1, bytes := 8, zero := (.dat true (.int .i64) ((0 : Int) : Int)), cmp := true }
theorem tdOk3 : TdOk P 3 td3 := tdOk_of (i := infoAt P 3) (cs := cellsOfTD td3) (by kernel_rfl) (by kernel_rfl) (by kernel_rfl) (by kernel_rfl) (show P.underlying 3 = some (.int .i64) by kernel_rfl) (fun _ => ⟨by kernel_rfl, by kernel_rfl⟩)
noncomputable def td4 : TD := { und := .bool, size := 1, bytes := 1, zero := (.dat true (.bool) (false : Bool)), cmp := true }
theorem tdOk4 : TdOk P 4 td4 := tdOk_of (i := infoAt P 4) (cs := cellsOfTD td4) (by kernel_rfl) (by kernel_rfl) (by kernel_rfl) (by kernel_rfl) (show P.underlying 4 = some .bool by kernel_rfl) (fun _ => ⟨by kernel_rfl, by kernel_rfl⟩)
noncomputable def td5 : TD := { und := .int .u8, size := 1, bytes := 1, zero := (.dat true (.int .u8) ((0 : Int) : Int)), cmp := true }
theorem tdOk5 : TdOk P 5 td5 := tdOk_of (i := infoAt P 5) (cs := cellsOfTD td5) (by kernel_rfl) (by kernel_rfl) (by kernel_rfl) (by kernel_rfl) (show P.underlying 5 = some (.int .u8) by kernel_rfl) (fun _ => ⟨by kernel_rfl, by kernel_rfl⟩)
noncomputable def td9 : TD := { und := .str, size := 1, bytes := 16, zero := (.dat true (.str) (ByteArray.empty : ByteArray)), cmp := true }
theorem tdOk9 : TdOk P 9 td9 := tdOk_of (i := infoAt P 9) (cs := cellsOfTD td9) (by kernel_rfl) (by kernel_rfl) (by kernel_rfl) (by kernel_rfl) (show P.underlying 9 = some .string by kernel_rfl) (fun _ => ⟨by kernel_rfl, by kernel_rfl⟩)
noncomputable def td22 : TD := { und := .int .u64, size := 1, bytes := 8, zero := (.dat true (.int .u64) ((0 : Int) : Int)), cmp := true }
theorem tdOk22 : TdOk P 22 td22 := tdOk_of (i := infoAt P 22) (cs := cellsOfTD td22) (by kernel_rfl) (by kernel_rfl) (by kernel_rfl) (by kernel_rfl) (show P.underlying 22 = some (.int .u64) by kernel_rfl) (fun _ => ⟨by kernel_rfl, by kernel_rfl⟩)
noncomputable def td24 : TD := { und := .struct [(0, 22), (1, 22)], size := 2, bytes := 16, zero := (.dat true (.pair (.int .u64) (.int .u64)) (((0 : Int), (0 : Int)) : (Int × Int))), cmp := true }
theorem tdOk24 : TdOk P 24 td24 := tdOk_of (i := infoAt P 24) (cs := cellsOfTD td24) (by kernel_rfl) (by kernel_rfl) (by kernel_rfl) (by kernel_rfl) (undStruct (fieldsAt P 24) (by kernel_rfl) (by kernel_rfl) (by kernel_rfl)) (fun _ => ⟨by kernel_rfl, by kernel_rfl⟩)
noncomputable def td31 : TD := { und := .struct [(0, 24), (2, 3), (3, 3), (4, 9)], size := 5, bytes := 48, zero := (.dat true (.pair (.pair (.int .u64) (.int .u64)) (.pair (.int .i64) (.pair (.int .i64) (.str)))) ((((0 : Int), (0 : Int)), ((0 : Int), ((0 : Int), ByteArray.empty))) : ((Int × Int) × (Int × (Int × ByteArray))))), cmp := true }
theorem tdOk31 : TdOk P 31 td31 := tdOk_of (i := infoAt P 31) (cs := cellsOfTD td31) (by kernel_rfl) (by kernel_rfl) (by kernel_rfl) (by kernel_rfl) (undStruct (fieldsAt P 31) (by kernel_rfl) (by kernel_rfl) (by kernel_rfl)) (fun _ => ⟨by kernel_rfl, by kernel_rfl⟩)
noncomputable def td32 : TD := { und := .int .i64, size := 1, bytes := 8, zero := (.dat true (.int .i64) ((0 : Int) : Int)), cmp := true }
theorem tdOk32 : TdOk P 32 td32 := tdOk_of (i := infoAt P 32) (cs := cellsOfTD td32) (by kernel_rfl) (by kernel_rfl) (by kernel_rfl) (by kernel_rfl) (show P.underlying 32 = some (.int .i64) by kernel_rfl) (fun _ => ⟨by kernel_rfl, by kernel_rfl⟩)
noncomputable def td36 : TD := { und := .arr 4 4, size := 4, bytes := 4, zero := (.dat true (.arr 4 (.bool)) ([false, false, false, false] : (List Bool))), cmp := true }
theorem tdOk36 : TdOk P 36 td36 := tdOk_of (i := infoAt P 36) (cs := cellsOfTD td36) (by kernel_rfl) (by kernel_rfl) (by kernel_rfl) (by kernel_rfl) (show P.underlying 36 = some (.array 4 4) by kernel_rfl) (fun _ => ⟨by kernel_rfl, by kernel_rfl⟩)
noncomputable def td44 : TD := { und := .arr 4 3, size := 4, bytes := 32, zero := (.dat true (.arr 4 (.int .i64)) ([(0 : Int), (0 : Int), (0 : Int), (0 : Int)] : (List Int))), cmp := true }
theorem tdOk44 : TdOk P 44 td44 := tdOk_of (i := infoAt P 44) (cs := cellsOfTD td44) (by kernel_rfl) (by kernel_rfl) (by kernel_rfl) (by kernel_rfl) (show P.underlying 44 = some (.array 4 3) by kernel_rfl) (fun _ => ⟨by kernel_rfl, by kernel_rfl⟩)
noncomputable def td51 : TD := { und := .arr 2 22, size := 2, bytes := 16, zero := (.dat true (.arr 2 (.int .u64)) ([(0 : Int), (0 : Int)] : (List Int))), cmp := true }
theorem tdOk51 : TdOk P 51 td51 := tdOk_of (i := infoAt P 51) (cs := cellsOfTD td51) (by kernel_rfl) (by kernel_rfl) (by kernel_rfl) (by kernel_rfl) (show P.underlying 51 = some (.array 2 22) by kernel_rfl) (fun _ => ⟨by kernel_rfl, by kernel_rfl⟩)
noncomputable def td52 : TD := { und := .int .u64, size := 1, bytes := 8, zero := (.dat true (.int .u64) ((0 : Int) : Int)), cmp := true }
theorem tdOk52 : TdOk P 52 td52 := tdOk_of (i := infoAt P 52) (cs := cellsOfTD td52) (by kernel_rfl) (by kernel_rfl) (by kernel_rfl) (by kernel_rfl) (show P.underlying 52 = some (.int .u64) by kernel_rfl) (fun _ => ⟨by kernel_rfl, by kernel_rfl⟩)
noncomputable def td56 : TD := { und := .slice 3, size := 1, bytes := 24, zero := .nils, cmp := false }
theorem tdOk56 : TdOk P 56 td56 := tdOk_of (i := infoAt P 56) (cs := cellsOfTD td56) (by kernel_rfl) (by kernel_rfl) (by kernel_rfl) (by kernel_rfl) (show P.underlying 56 = some (.slice 3) by kernel_rfl) (fun h => by cases h)
noncomputable def T : Tbl := tblOf [(3, td3), (4, td4), (5, td5), (9, td9), (22, td22), (24, td24), (31, td31), (32, td32), (36, td36), (44, td44), (51, td51), (52, td52), (56, td56)]
theorem T_ok : TblOk P T := (tblOk_cons tdOk3 (tblOk_cons tdOk4 (tblOk_cons tdOk5 (tblOk_cons tdOk9 (tblOk_cons tdOk22 (tblOk_cons tdOk24 (tblOk_cons tdOk31 (tblOk_cons tdOk32 (tblOk_cons tdOk36 (tblOk_cons tdOk44 (tblOk_cons tdOk51 (tblOk_cons tdOk52 (tblOk_cons tdOk56 tblOk_nil)))))))))))))
theorem mixed : P.follows .mixedOrders = true := by kernel_rfl

-- f10: tontine/keys.Of
def fns10 (fuel : Nat) : Fns := fnsOf []
theorem fnsOk10 (fuel : Nat) : FnsOk P (fns10 fuel) := fnsOk_nil
def fi10 : Fr := ⟨[.d false (.str)], [], 0⟩
def al10 : List (Tm × List To) := [(.d true (.pair (.int .u64) (.int .u64)), [])]
def fx10_0 : Fr := ⟨[.c (.ptr 0 0 []), .c (.ptr 1 0 [])], [.box (.d true (.pair (.int .u64) (.int .u64))), .box (.d true (.arr 2 (.int .u64)))], 2⟩
def fr10_0 : Fr := ⟨[.d true (.str), .c (.ptr 0 0 []), .c (.ptr 1 0 []), .d true (.int .i64)], [.box (.d true (.pair (.int .u64) (.int .u64))), .box (.d true (.arr 2 (.int .u64)))], 2⟩
noncomputable def c10_0 : Code := bodyAt Try.f10 [1, 1, 0, 1, 0]
def s10_0 (fuel : Nat) {R : Type} (F : (ByteArray × Int × (Int × Int) × (List Int)) → Option R) (k0 : ((Int × Int) × (List Int)) → Option R) : (ByteArray × Int × (Int × Int) × (List Int)) → Option R := fun (x2, x3, x4, x5) => (bif (decide (x3 < ((ByteArray.size x2 : Nat) : Int))) then (bif (decide (x3 < (16 : Int))) then (if 0 ≤ (IntKind.wrap .i64 (Int.tdiv x3 (8 : Int))) ∧ (IntKind.wrap .i64 (Int.tdiv x3 (8 : Int))) < ((2 : Nat) : Int) then (match (x5)[(Int.toNat (IntKind.wrap .i64 (Int.tdiv x3 (8 : Int))))]? with | some y6 => (if 0 ≤ x3 ∧ x3 < ((ByteArray.size x2 : Nat) : Int) then let v7 := (IntKind.wrap .i64 ((56 : Int) - (IntKind.wrap .i64 ((8 : Int) * (Int.tmod x3 (8 : Int)))))); (if v7 < 0 then none else let v8 := (IntKind.wrap .u64 ((IntKind.wrap .u64 (byteAt x2 (Int.toNat x3))) * 2 ^ (min (Int.toNat v7) (IntKind.bits .u64)))); (if 0 ≤ (IntKind.wrap .i64 (Int.tdiv x3 (8 : Int))) ∧ (IntKind.wrap .i64 (Int.tdiv x3 (8 : Int))) < ((2 : Nat) : Int) then (match (x5)[(Int.toNat (IntKind.wrap .i64 (Int.tdiv x3 (8 : Int))))]? with | some y9 => let v10 := (List.set x5 (Int.toNat (IntKind.wrap .i64 (Int.tdiv x3 (8 : Int)))) (bitsOp .or .u64 y6 v8)); (F (x2, (IntKind.wrap .i64 (x3 + (1 : Int))), x4, v10)) | none => none) else none)) else none) | none => none) else none) else (k0 (x4, x5))) else (k0 (x4, x5)))
def l10_0 (fuel : Nat) {R : Type} (k0 : ((Int × Int) × (List Int)) → Option R) : Nat → (ByteArray × Int × (Int × Int) × (List Int)) → Option R
  | 0, _ => none
  | n + 1, x => s10_0 fuel (l10_0 fuel k0 n) k0 x
def nm10_0 : Norm := ⟨[0, 2, 3, 4], padK 2 [some (0, 0), some (1, 0)]⟩
def an10_0 : AN := (.seq (.seq .leaf (.cond .leaf (.norm ⟨[2, 3], padK 2 [some (0, 0), some (1, 0)]⟩ .leaf))) (.seq (.block (.region [(2, { touch := [1] }), (3, { touch := [1] }), (14, { touch := [1] }), (15, { touch := [1], ro := false })])) .leaf))
def al10_0 : AN := .loop nm10_0 an10_0
noncomputable def d10_0 : Code := bodyAt Try.f10 [1, 1, 0, 1, 0, 0]
theorem e10_0 (fuel : Nat) {R : Type} (F : St → Option R) (k : AExit → St → Option R) : ∀ x : (ByteArray × Int × (Int × Int) × (List Int)), runK R T (fns10 fuel) fuel [] (subsOf []) (partOf d10_0 an10_0) (fr10_0.st [0, 2, 3, 4] x) (backTo R [] nm10_0 F k) = s10_0 fuel (fun x => F (fr10_0.st [0, 2, 3, 4] x)) (fun y => k (.exit 0) (fx10_0.st [2, 3] y)) x := by
  rintro ⟨x2, x3, x4, x5⟩
  kernel_rfl
theorem u10_0 (fuel : Nat) {R : Type} (k : AExit → St → Option R) (x : (ByteArray × Int × (Int × Int) × (List Int))) : runK R T (fns10 fuel) fuel [] (subsOf []) (partOf c10_0 al10_0) (fr10_0.st [0, 2, 3, 4] x) k = l10_0 fuel (fun y => k (.exit 0) (fx10_0.st [2, 3] y)) fuel x :=
  loop_eq (mk := fr10_0.st [0, 2, 3, 4]) (s := fun F x => s10_0 fuel F (fun y => k (.exit 0) (fx10_0.st [2, 3] y)) x) (l := fun n x => l10_0 fuel (fun y => k (.exit 0) (fx10_0.st [2, 3] y)) n x) (d := d10_0) (by kernel_rfl) (fun G x => by
    revert x
    rintro ⟨x2, x3, x4, x5⟩
    kernel_rfl) (fun F x => e10_0 fuel F k x) (fun _ => rfl) (fun _ _ => rfl) x
noncomputable def sub10_0 (fuel : Nat) (R : Type) : Sub R := Sub.of [0, 2, 3, 4] c10_0 fr10_0 fun x k => l10_0 fuel (fun y => k (.exit 0) (fx10_0.st [2, 3] y)) fuel x
theorem subOk10_0 (fuel : Nat) (R : Type) : SubOk P [] 35 (sub10_0 fuel R) :=
  subOk_part (fns := (fns10 fuel)) (fuel := fuel) (subs := (subsOf [])) (an := al10_0) T_ok (fnsOk10 fuel) mixed subsOk_nil (by kernel_rfl) (by kernel_rfl) fun _ _ _ _ h => Sub.of_run (fun (x : (ByteArray × Int × (Int × Int) × (List Int))) k => u10_0 fuel k x) h
def an10 : AN := (.seq (.region [(0, { touch := [2], base := 2, ro := false })]) (.seq (.region [(0, { touch := [3], base := 3, ro := false })]) (.seq (.seq .leaf (.block (.hole ⟨[0, 2, 3, 4], padK 2 [some (2, 0), some (3, 0)]⟩ 0))) (.seq (.region [(0, { touch := [1] }), (1, { touch := [1] }), (2, { touch := [1] }), (3, { touch := [1] }), (5, { touch := [0], ro := false })]) (.norm ⟨[2], padK 3 [some (0, 0)]⟩ (.ret []))))))
def p10 (fuel : Nat) : ByteArray → Option (Int × Int) := fun x1 => (l10_0 fuel (fun (x11, x12) => (match (x12)[0]? with | some y13 => (match (x12)[1]? with | some y14 => (some (y13, y14)) | none => none) | none => none)) fuel (x1, (0 : Int), ((0 : Int), (0 : Int)), [(0 : Int), (0 : Int)]))
def F10 (fuel : Nat) : Fun := funOfA fi10 al10 (p10 fuel)
theorem run10 (fuel : Nat) : ∀ y : ByteArray, runF (Int × Int) T (fns10 fuel) fuel (subsOf [sub10_0 fuel (Int × Int)]) (defOf Try.f10 an10 4 [] []) (fi10.vs y) (fi10.os y) (altsDec al10) = p10 fuel y := by
  rintro x1
  kernel_rfl
theorem ok10 (fuel : Nat) : FunOk P 10 (funOfA fi10 al10 (p10 fuel)) :=
  funOfA_ok (subs := (subsOf [sub10_0 fuel (Int × Int)])) (an := an10) (room := 4) (ks := []) (g0 := []) (fuel := fuel) T_ok (fnsOk10 fuel) mixed (fn := Try.f10) (by kernel_rfl) (by kernel_rfl) (subsOk_cons (subOk10_0 fuel _) subsOk_nil) (by kernel_rfl) (fun _ => ⟨by kernel_rfl, by kernel_rfl⟩) (run10 fuel)

-- f33: tontine/keys.in
def fns33 (fuel : Nat) : Fns := fnsOf []
theorem fnsOk33 (fuel : Nat) : FnsOk P (fns33 fuel) := fnsOk_nil
def fi33 : Fr := ⟨[.d false (.int .i64), .d false (.int .i64)], [], 0⟩
def al33 : List (Tm × List To) := [(.d true (.bool), [])]
def an33 : AN := (.seq .leaf (.seq .leaf (.norm ⟨[4], padK 0 []⟩ (.ret []))))
def p33 (fuel : Nat) : (Int × Int) → Option Bool := fun (x1, x2) => (bif (decide ((0 : Int) ≤ x1)) then (some (decide (x1 < x2))) else (some false))
def F33 (fuel : Nat) : Fun := funOfA fi33 al33 (p33 fuel)
theorem run33 (fuel : Nat) : ∀ y : (Int × Int), runF Bool T (fns33 fuel) fuel (subsOf []) (defOf Try.f33 an33 0 [] []) (fi33.vs y) (fi33.os y) (altsDec al33) = p33 fuel y := by
  rintro ⟨x1, x2⟩
  kernel_rfl
theorem ok33 (fuel : Nat) : FunOk P 33 (funOfA fi33 al33 (p33 fuel)) :=
  funOfA_ok (subs := (subsOf [])) (an := an33) (room := 0) (ks := []) (g0 := []) (fuel := fuel) T_ok (fnsOk33 fuel) mixed (fn := Try.f33) (by kernel_rfl) (by kernel_rfl) subsOk_nil (by kernel_rfl) (fun _ => ⟨by kernel_rfl, by kernel_rfl⟩) (run33 fuel)

-- f26: tontine/keys.Place
def fns26 (fuel : Nat) : Fns := fnsOf [(33, F33 fuel)]
theorem fnsOk26 (fuel : Nat) : FnsOk P (fns26 fuel) := (fnsOk_cons (ok33 fuel) fnsOk_nil)
def fi26 : Fr := ⟨[.d false (.int .i64), .d false (.int .i64)], [], 0⟩
def al26 : List (Tm × List To) := [(.tup (.cons (.d true (.int .i64)) (.cons (.d true (.int .i64)) (.c .nil))), [])]
def an26 : AN := (.seq .leaf (.seq (.seq .leaf (.cond (.seq .leaf (.norm ⟨[4, 5], padK 0 []⟩ (.ret []))) .leaf)) (.seq .leaf (.norm ⟨[4, 5], padK 0 []⟩ (.ret [])))))
def p26 (fuel : Nat) : (Int × Int) → Option (Int × Int) := fun (x1, x2) => (match p33 fuel (x1, (64 : Int)) with | some z3 => (bif (!z3) then (some ((0 : Int), (1 : Int))) else (match p33 fuel (x2, (4 : Int)) with | some z4 => (bif (!z4) then (some ((0 : Int), (1 : Int))) else let v5 := (Int.tmod (IntKind.wrap .i64 (x1 + (IntKind.wrap .i64 ((16 : Int) * x2)))) (64 : Int)); (some (v5, (0 : Int)))) | none => none)) | none => none)
def F26 (fuel : Nat) : Fun := funOfA fi26 al26 (p26 fuel)
theorem run26 (fuel : Nat) : ∀ y : (Int × Int), runF (Int × Int) T (fns26 fuel) fuel (subsOf []) (defOf Try.f26 an26 0 [] []) (fi26.vs y) (fi26.os y) (altsDec al26) = p26 fuel y := by
  rintro ⟨x1, x2⟩
  kernel_rfl
theorem ok26 (fuel : Nat) : FunOk P 26 (funOfA fi26 al26 (p26 fuel)) :=
  funOfA_ok (subs := (subsOf [])) (an := an26) (room := 0) (ks := []) (g0 := []) (fuel := fuel) T_ok (fnsOk26 fuel) mixed (fn := Try.f26) (by kernel_rfl) (by kernel_rfl) subsOk_nil (by kernel_rfl) (fun _ => ⟨by kernel_rfl, by kernel_rfl⟩) (run26 fuel)

-- f17: tontine/keys.Bucket
def fns17 (fuel : Nat) : Fns := fnsOf []
theorem fnsOk17 (fuel : Nat) : FnsOk P (fns17 fuel) := fnsOk_nil
def fi17 : Fr := ⟨[.d false (.pair (.int .u64) (.int .u64))], [], 0⟩
def al17 : List (Tm × List To) := [(.d true (.int .i64), [])]
def an17 : AN := (.seq (.region [(0, { touch := [0], ro := false })]) (.seq (.region [(0, { touch := [0] }), (1, { touch := [0] })]) (.norm ⟨[2], padK 1 []⟩ (.ret []))))
def p17 (fuel : Nat) : (Int × Int) → Option Int := fun x1 => (some (IntKind.wrap .i64 (Int.fdiv x1.1 (2 ^ 58))))
def F17 (fuel : Nat) : Fun := funOfA fi17 al17 (p17 fuel)
theorem run17 (fuel : Nat) : ∀ y : (Int × Int), runF Int T (fns17 fuel) fuel (subsOf []) (defOf Try.f17 an17 1 [] []) (fi17.vs y) (fi17.os y) (altsDec al17) = p17 fuel y := by
  rintro x1
  kernel_rfl
theorem ok17 (fuel : Nat) : FunOk P 17 (funOfA fi17 al17 (p17 fuel)) :=
  funOfA_ok (subs := (subsOf [])) (an := an17) (room := 1) (ks := []) (g0 := []) (fuel := fuel) T_ok (fnsOk17 fuel) mixed (fn := Try.f17) (by kernel_rfl) (by kernel_rfl) subsOk_nil (by kernel_rfl) (fun _ => ⟨by kernel_rfl, by kernel_rfl⟩) (run17 fuel)

-- f19: tontine/keys.KeyBucket
def fns19 (fuel : Nat) : Fns := fnsOf [(10, F10 fuel), (17, F17 fuel)]
theorem fnsOk19 (fuel : Nat) : FnsOk P (fns19 fuel) := (fnsOk_cons (ok10 fuel) (fnsOk_cons (ok17 fuel) fnsOk_nil))
def fi19 : Fr := ⟨[.d false (.str)], [], 0⟩
def al19 : List (Tm × List To) := [(.d true (.int .i64), [])]
def an19 : AN := (.seq .leaf (.seq .leaf (.norm ⟨[2], padK 0 []⟩ (.ret []))))
def p19 (fuel : Nat) : ByteArray → Option Int := fun x1 => (match p10 fuel x1 with | some z2 => (match p17 fuel z2 with | some z3 => (some z3) | none => none) | none => none)
def F19 (fuel : Nat) : Fun := funOfA fi19 al19 (p19 fuel)
theorem run19 (fuel : Nat) : ∀ y : ByteArray, runF Int T (fns19 fuel) fuel (subsOf []) (defOf Try.f19 an19 0 [] []) (fi19.vs y) (fi19.os y) (altsDec al19) = p19 fuel y := by
  rintro x1
  kernel_rfl
theorem ok19 (fuel : Nat) : FunOk P 19 (funOfA fi19 al19 (p19 fuel)) :=
  funOfA_ok (subs := (subsOf [])) (an := an19) (room := 0) (ks := []) (g0 := []) (fuel := fuel) T_ok (fnsOk19 fuel) mixed (fn := Try.f19) (by kernel_rfl) (by kernel_rfl) subsOk_nil (by kernel_rfl) (fun _ => ⟨by kernel_rfl, by kernel_rfl⟩) (run19 fuel)

-- f12: tontine/keys.MayKey
def fns12 (fuel : Nat) : Fns := fnsOf []
theorem fnsOk12 (fuel : Nat) : FnsOk P (fns12 fuel) := fnsOk_nil
def fi12 : Fr := ⟨[.d false (.str)], [], 0⟩
def al12 : List (Tm × List To) := [(.d true (.bool), [])]
def an12 : AN := (.seq .leaf (.seq .leaf (.norm ⟨[2], padK 0 []⟩ (.ret []))))
def p12 (fuel : Nat) : ByteArray → Option Bool := fun x1 => (bif (decide ((1 : Int) ≤ ((ByteArray.size x1 : Nat) : Int))) then (some (decide (((ByteArray.size x1 : Nat) : Int) ≤ (32 : Int)))) else (some false))
def F12 (fuel : Nat) : Fun := funOfA fi12 al12 (p12 fuel)
theorem run12 (fuel : Nat) : ∀ y : ByteArray, runF Bool T (fns12 fuel) fuel (subsOf []) (defOf Try.f12 an12 0 [] []) (fi12.vs y) (fi12.os y) (altsDec al12) = p12 fuel y := by
  rintro x1
  kernel_rfl
theorem ok12 (fuel : Nat) : FunOk P 12 (funOfA fi12 al12 (p12 fuel)) :=
  funOfA_ok (subs := (subsOf [])) (an := an12) (room := 0) (ks := []) (g0 := []) (fuel := fuel) T_ok (fnsOk12 fuel) mixed (fn := Try.f12) (by kernel_rfl) (by kernel_rfl) subsOk_nil (by kernel_rfl) (fun _ => ⟨by kernel_rfl, by kernel_rfl⟩) (run12 fuel)

-- f11: tontine/tontinelaw01.alive
def fns11 (fuel : Nat) : Fns := fnsOf [(26, F26 fuel), (19, F19 fuel), (12, F12 fuel)]
theorem fnsOk11 (fuel : Nat) : FnsOk P (fns11 fuel) := (fnsOk_cons (ok26 fuel) (fnsOk_cons (ok19 fuel) (fnsOk_cons (ok12 fuel) fnsOk_nil)))
def fi11 : Fr := ⟨[], [], 0⟩
def al11 : List (Tm × List To) := [(.d true (.bool), [])]
def an11 : AN := (.seq .leaf (.seq .leaf (.seq .leaf (.norm ⟨[0], padK 0 []⟩ (.ret [])))))
def p11 (fuel : Nat) : Unit → Option Bool := fun _ => (match p26 fuel ((60 : Int), (1 : Int)) with | some z1 => (match p19 fuel (⟨#[97]⟩ : ByteArray) with | some z2 => (bif (decide (z2 = (24 : Int))) then (bif (decide (z1.1 = (12 : Int))) then (bif (decide (z1.2 = (0 : Int))) then (match p12 fuel (⟨#[97]⟩ : ByteArray) with | some z3 => (some z3) | none => none) else (some false)) else (some false)) else (some false)) | none => none) | none => none)
def F11 (fuel : Nat) : Fun := funOfA fi11 al11 (p11 fuel)
theorem run11 (fuel : Nat) : ∀ y : Unit, runF Bool T (fns11 fuel) fuel (subsOf []) (defOf Try.f11 an11 0 [] []) (fi11.vs y) (fi11.os y) (altsDec al11) = p11 fuel y := by
  rintro ⟨⟩
  kernel_rfl
theorem ok11 (fuel : Nat) : FunOk P 11 (funOfA fi11 al11 (p11 fuel)) :=
  funOfA_ok (subs := (subsOf [])) (an := an11) (room := 0) (ks := []) (g0 := []) (fuel := fuel) T_ok (fnsOk11 fuel) mixed (fn := Try.f11) (by kernel_rfl) (by kernel_rfl) subsOk_nil (by kernel_rfl) (fun _ => ⟨by kernel_rfl, by kernel_rfl⟩) (run11 fuel)

-- f13: tontine/tontineref01.MayKey
def fns13 (fuel : Nat) : Fns := fnsOf []
theorem fnsOk13 (fuel : Nat) : FnsOk P (fns13 fuel) := fnsOk_nil
def fi13 : Fr := ⟨[.d false (.str)], [], 0⟩
def al13 : List (Tm × List To) := [(.d true (.bool), [])]
def an13 : AN := (.seq .leaf (.seq .leaf (.norm ⟨[2], padK 0 []⟩ (.ret []))))
def p13 (fuel : Nat) : ByteArray → Option Bool := fun x1 => (bif (decide ((1 : Int) ≤ ((ByteArray.size x1 : Nat) : Int))) then (some (decide (((ByteArray.size x1 : Nat) : Int) ≤ (32 : Int)))) else (some false))
def F13 (fuel : Nat) : Fun := funOfA fi13 al13 (p13 fuel)
theorem run13 (fuel : Nat) : ∀ y : ByteArray, runF Bool T (fns13 fuel) fuel (subsOf []) (defOf Try.f13 an13 0 [] []) (fi13.vs y) (fi13.os y) (altsDec al13) = p13 fuel y := by
  rintro x1
  kernel_rfl
theorem ok13 (fuel : Nat) : FunOk P 13 (funOfA fi13 al13 (p13 fuel)) :=
  funOfA_ok (subs := (subsOf [])) (an := an13) (room := 0) (ks := []) (g0 := []) (fuel := fuel) T_ok (fnsOk13 fuel) mixed (fn := Try.f13) (by kernel_rfl) (by kernel_rfl) subsOk_nil (by kernel_rfl) (fun _ => ⟨by kernel_rfl, by kernel_rfl⟩) (run13 fuel)

-- f14: tontine/keys.MayValue
def fns14 (fuel : Nat) : Fns := fnsOf []
theorem fnsOk14 (fuel : Nat) : FnsOk P (fns14 fuel) := fnsOk_nil
def fi14 : Fr := ⟨[.d false (.str)], [], 0⟩
def al14 : List (Tm × List To) := [(.d true (.bool), [])]
def an14 : AN := (.seq .leaf (.seq .leaf (.norm ⟨[2], padK 0 []⟩ (.ret []))))
def p14 (fuel : Nat) : ByteArray → Option Bool := fun x1 => (some (decide (((ByteArray.size x1 : Nat) : Int) ≤ (64 : Int))))
def F14 (fuel : Nat) : Fun := funOfA fi14 al14 (p14 fuel)
theorem run14 (fuel : Nat) : ∀ y : ByteArray, runF Bool T (fns14 fuel) fuel (subsOf []) (defOf Try.f14 an14 0 [] []) (fi14.vs y) (fi14.os y) (altsDec al14) = p14 fuel y := by
  rintro x1
  kernel_rfl
theorem ok14 (fuel : Nat) : FunOk P 14 (funOfA fi14 al14 (p14 fuel)) :=
  funOfA_ok (subs := (subsOf [])) (an := an14) (room := 0) (ks := []) (g0 := []) (fuel := fuel) T_ok (fnsOk14 fuel) mixed (fn := Try.f14) (by kernel_rfl) (by kernel_rfl) subsOk_nil (by kernel_rfl) (fun _ => ⟨by kernel_rfl, by kernel_rfl⟩) (run14 fuel)

-- f15: tontine/tontineref01.MayValue
def fns15 (fuel : Nat) : Fns := fnsOf []
theorem fnsOk15 (fuel : Nat) : FnsOk P (fns15 fuel) := fnsOk_nil
def fi15 : Fr := ⟨[.d false (.str)], [], 0⟩
def al15 : List (Tm × List To) := [(.d true (.bool), [])]
def an15 : AN := (.seq .leaf (.seq .leaf (.norm ⟨[2], padK 0 []⟩ (.ret []))))
def p15 (fuel : Nat) : ByteArray → Option Bool := fun x1 => (some (decide (((ByteArray.size x1 : Nat) : Int) ≤ (64 : Int))))
def F15 (fuel : Nat) : Fun := funOfA fi15 al15 (p15 fuel)
theorem run15 (fuel : Nat) : ∀ y : ByteArray, runF Bool T (fns15 fuel) fuel (subsOf []) (defOf Try.f15 an15 0 [] []) (fi15.vs y) (fi15.os y) (altsDec al15) = p15 fuel y := by
  rintro x1
  kernel_rfl
theorem ok15 (fuel : Nat) : FunOk P 15 (funOfA fi15 al15 (p15 fuel)) :=
  funOfA_ok (subs := (subsOf [])) (an := an15) (room := 0) (ks := []) (g0 := []) (fuel := fuel) T_ok (fnsOk15 fuel) mixed (fn := Try.f15) (by kernel_rfl) (by kernel_rfl) subsOk_nil (by kernel_rfl) (fun _ => ⟨by kernel_rfl, by kernel_rfl⟩) (run15 fuel)

-- f16: tontine/tontineref01.Of
def fns16 (fuel : Nat) : Fns := fnsOf []
theorem fnsOk16 (fuel : Nat) : FnsOk P (fns16 fuel) := fnsOk_nil
def fi16 : Fr := ⟨[.d false (.str)], [], 0⟩
def al16 : List (Tm × List To) := [(.d true (.pair (.int .u64) (.int .u64)), [])]
def fx16_0 : Fr := ⟨[.d true (.str), .c (.ptr 0 0 []), .c (.ptr 1 0 []), .d true (.int .i64)], [.box (.d true (.pair (.int .u64) (.int .u64))), .box (.d true (.pair (.int .u64) (.int .u64)))], 2⟩
def fr16_0 : Fr := ⟨[.d true (.str), .c (.ptr 0 0 []), .c (.ptr 1 0 []), .d true (.int .i64), .d true (.int .u64)], [.box (.d true (.pair (.int .u64) (.int .u64))), .box (.d true (.pair (.int .u64) (.int .u64)))], 2⟩
noncomputable def c16_0 : Code := bodyAt Try.f16 [1, 1, 0, 1, 0, 0, 1, 0, 0, 1, 1]
def j16_0 (fuel : Nat) {R : Type} (k0 : (ByteArray × Int × (Int × Int) × (Int × Int)) → Option R) : (ByteArray × Int × Int × (Int × Int) × (Int × Int)) → Option R := fun (x6, x7, x8, x9, x10) => (bif (decide (x7 < (8 : Int))) then (k0 (x6, x7, x9, ((IntKind.wrap .u64 ((IntKind.wrap .u64 ((256 : Int) * x10.1)) + x8)), x10.2))) else (k0 (x6, x7, x9, (x10.1, (IntKind.wrap .u64 ((IntKind.wrap .u64 ((256 : Int) * x10.2)) + x8))))))
def al16_0 : AN := (.fin ⟨[0, 2, 3, 4], padK 2 [some (0, 0), some (1, 0)]⟩ (.seq .leaf (.cond (.fin ⟨[0, 2, 3, 4], padK 2 [some (0, 0), some (1, 0)]⟩ (.region [(0, { touch := [1] }), (1, { touch := [1] }), (5, { touch := [1] }), (6, { touch := [1], ro := false })])) (.fin ⟨[0, 2, 3, 4], padK 2 [some (0, 0), some (1, 0)]⟩ (.region [(0, { touch := [1] }), (1, { touch := [1] }), (5, { touch := [1] }), (6, { touch := [1], ro := false })])))))
theorem u16_0 (fuel : Nat) {R : Type} (k : AExit → St → Option R) : ∀ x : (ByteArray × Int × Int × (Int × Int) × (Int × Int)), runK R T (fns16 fuel) fuel [] (subsOf []) (partOf c16_0 al16_0) (fr16_0.st [0, 2, 3, 4, 5] x) k = j16_0 fuel (fun y => k .normal (fx16_0.st [0, 2, 3, 4] y)) x := by
  rintro ⟨x6, x7, x8, x9, x10⟩
  kernel_rfl
noncomputable def sub16_0 (fuel : Nat) (R : Type) : Sub R := Sub.of [0, 2, 3, 4, 5] c16_0 fr16_0 fun x k => j16_0 fuel (fun y => k .normal (fx16_0.st [0, 2, 3, 4] y)) x
theorem subOk16_0 (fuel : Nat) (R : Type) : SubOk P [] 33 (sub16_0 fuel R) :=
  subOk_part (fns := (fns16 fuel)) (fuel := fuel) (subs := (subsOf [])) (an := al16_0) T_ok (fnsOk16 fuel) mixed subsOk_nil (by kernel_rfl) (by kernel_rfl) fun _ _ _ _ h => Sub.of_run (fun (x : (ByteArray × Int × Int × (Int × Int) × (Int × Int))) k => u16_0 fuel k x) h
def fx16_1 : Fr := ⟨[.c (.ptr 0 0 []), .c (.ptr 1 0 [])], [.box (.d true (.pair (.int .u64) (.int .u64))), .box (.d true (.pair (.int .u64) (.int .u64)))], 2⟩
def fr16_1 : Fr := ⟨[.d true (.str), .c (.ptr 0 0 []), .c (.ptr 1 0 []), .d true (.int .i64)], [.box (.d true (.pair (.int .u64) (.int .u64))), .box (.d true (.pair (.int .u64) (.int .u64)))], 2⟩
noncomputable def c16_1 : Code := bodyAt Try.f16 [1, 1, 0, 1, 0]
def s16_1 (fuel : Nat) {R : Type} (F : (ByteArray × Int × (Int × Int) × (Int × Int)) → Option R) (k0 : ((Int × Int) × (Int × Int)) → Option R) : (ByteArray × Int × (Int × Int) × (Int × Int)) → Option R := fun (x2, x3, x4, x5) => (bif (decide (x3 < (16 : Int))) then (bif (decide (x3 < ((ByteArray.size x2 : Nat) : Int))) then (if 0 ≤ x3 ∧ x3 < ((ByteArray.size x2 : Nat) : Int) then (j16_0 fuel (fun (x11, x12, x13, x14) => (F (x11, (IntKind.wrap .i64 (x12 + (1 : Int))), x13, x14))) (x2, x3, (IntKind.wrap .u64 (byteAt x2 (Int.toNat x3))), x4, x5)) else none) else (j16_0 fuel (fun (x15, x16, x17, x18) => (F (x15, (IntKind.wrap .i64 (x16 + (1 : Int))), x17, x18))) (x2, x3, (0 : Int), x4, x5))) else (k0 (x4, x5)))
def l16_1 (fuel : Nat) {R : Type} (k0 : ((Int × Int) × (Int × Int)) → Option R) : Nat → (ByteArray × Int × (Int × Int) × (Int × Int)) → Option R
  | 0, _ => none
  | n + 1, x => s16_1 fuel (l16_1 fuel k0 n) k0 x
def nm16_1 : Norm := ⟨[0, 2, 3, 4], padK 2 [some (0, 0), some (1, 0)]⟩
def an16_1 : AN := (.seq (.seq .leaf (.cond .leaf (.norm ⟨[2, 3], padK 2 [some (0, 0), some (1, 0)]⟩ .leaf))) (.seq (.block (.seq .leaf (.seq (.seq .leaf (.cond (.fin ⟨[0, 2, 3, 4, 5], padK 2 [some (0, 0), some (1, 0)]⟩ .leaf) (.fin ⟨[0, 2, 3, 4, 5], padK 2 [some (0, 0), some (1, 0)]⟩ .leaf))) (.hole ⟨[0, 2, 3, 4, 5], padK 2 [some (0, 0), some (1, 0)]⟩ 0)))) .leaf))
def al16_1 : AN := .loop nm16_1 an16_1
noncomputable def d16_1 : Code := bodyAt Try.f16 [1, 1, 0, 1, 0, 0]
theorem e16_1 (fuel : Nat) {R : Type} (F : St → Option R) (k : AExit → St → Option R) : ∀ x : (ByteArray × Int × (Int × Int) × (Int × Int)), runK R T (fns16 fuel) fuel [] (subsOf [sub16_0 fuel R]) (partOf d16_1 an16_1) (fr16_1.st [0, 2, 3, 4] x) (backTo R [] nm16_1 F k) = s16_1 fuel (fun x => F (fr16_1.st [0, 2, 3, 4] x)) (fun y => k (.exit 0) (fx16_1.st [2, 3] y)) x := by
  rintro ⟨x2, x3, x4, x5⟩
  kernel_rfl
theorem u16_1 (fuel : Nat) {R : Type} (k : AExit → St → Option R) (x : (ByteArray × Int × (Int × Int) × (Int × Int))) : runK R T (fns16 fuel) fuel [] (subsOf [sub16_0 fuel R]) (partOf c16_1 al16_1) (fr16_1.st [0, 2, 3, 4] x) k = l16_1 fuel (fun y => k (.exit 0) (fx16_1.st [2, 3] y)) fuel x :=
  loop_eq (mk := fr16_1.st [0, 2, 3, 4]) (s := fun F x => s16_1 fuel F (fun y => k (.exit 0) (fx16_1.st [2, 3] y)) x) (l := fun n x => l16_1 fuel (fun y => k (.exit 0) (fx16_1.st [2, 3] y)) n x) (d := d16_1) (by kernel_rfl) (fun G x => by
    revert x
    rintro ⟨x2, x3, x4, x5⟩
    kernel_rfl) (fun F x => e16_1 fuel F k x) (fun _ => rfl) (fun _ _ => rfl) x
noncomputable def sub16_1 (fuel : Nat) (R : Type) : Sub R := Sub.of [0, 2, 3, 4] c16_1 fr16_1 fun x k => l16_1 fuel (fun y => k (.exit 0) (fx16_1.st [2, 3] y)) fuel x
theorem subOk16_1 (fuel : Nat) (R : Type) : SubOk P [] 33 (sub16_1 fuel R) :=
  subOk_part (fns := (fns16 fuel)) (fuel := fuel) (subs := (subsOf [sub16_0 fuel R])) (an := al16_1) T_ok (fnsOk16 fuel) mixed (subsOk_cons (subOk16_0 fuel R) subsOk_nil) (by kernel_rfl) (by kernel_rfl) fun _ _ _ _ h => Sub.of_run (fun (x : (ByteArray × Int × (Int × Int) × (Int × Int))) k => u16_1 fuel k x) h
def an16 : AN := (.seq (.region [(0, { touch := [2], base := 2, ro := false })]) (.seq (.region [(0, { touch := [3], base := 3, ro := false })]) (.seq (.seq .leaf (.block (.hole ⟨[0, 2, 3, 4], padK 2 [some (2, 0), some (3, 0)]⟩ 1))) (.seq (.region [(0, { touch := [1] }), (1, { touch := [0], ro := false })]) (.norm ⟨[2], padK 3 [some (0, 0)]⟩ (.ret []))))))
def p16 (fuel : Nat) : ByteArray → Option (Int × Int) := fun x1 => (l16_1 fuel (fun (x19, x20) => (some x20)) fuel (x1, (0 : Int), ((0 : Int), (0 : Int)), ((0 : Int), (0 : Int))))
def F16 (fuel : Nat) : Fun := funOfA fi16 al16 (p16 fuel)
theorem run16 (fuel : Nat) : ∀ y : ByteArray, runF (Int × Int) T (fns16 fuel) fuel (subsOf [sub16_0 fuel (Int × Int), sub16_1 fuel (Int × Int)]) (defOf Try.f16 an16 4 [] []) (fi16.vs y) (fi16.os y) (altsDec al16) = p16 fuel y := by
  rintro x1
  kernel_rfl
theorem ok16 (fuel : Nat) : FunOk P 16 (funOfA fi16 al16 (p16 fuel)) :=
  funOfA_ok (subs := (subsOf [sub16_0 fuel (Int × Int), sub16_1 fuel (Int × Int)])) (an := an16) (room := 4) (ks := []) (g0 := []) (fuel := fuel) T_ok (fnsOk16 fuel) mixed (fn := Try.f16) (by kernel_rfl) (by kernel_rfl) (subsOk_cons (subOk16_0 fuel _) (subsOk_cons (subOk16_1 fuel _) subsOk_nil)) (by kernel_rfl) (fun _ => ⟨by kernel_rfl, by kernel_rfl⟩) (run16 fuel)

-- f18: tontine/tontineref01.Bucket
def fns18 (fuel : Nat) : Fns := fnsOf []
theorem fnsOk18 (fuel : Nat) : FnsOk P (fns18 fuel) := fnsOk_nil
def fi18 : Fr := ⟨[.d false (.pair (.int .u64) (.int .u64))], [], 0⟩
def al18 : List (Tm × List To) := [(.d true (.int .i64), [])]
def an18 : AN := (.seq (.region [(0, { touch := [0], ro := false })]) (.seq (.region [(0, { touch := [0] }), (1, { touch := [0] })]) (.norm ⟨[2], padK 1 []⟩ (.ret []))))
def p18 (fuel : Nat) : (Int × Int) → Option Int := fun x1 => let v2 := (IntKind.wrap .i64 (IntKind.wrap .u64 (Int.tdiv x1.1 (288230376151711744 : Int)))); (some v2)
def F18 (fuel : Nat) : Fun := funOfA fi18 al18 (p18 fuel)
theorem run18 (fuel : Nat) : ∀ y : (Int × Int), runF Int T (fns18 fuel) fuel (subsOf []) (defOf Try.f18 an18 1 [] []) (fi18.vs y) (fi18.os y) (altsDec al18) = p18 fuel y := by
  rintro x1
  kernel_rfl
theorem ok18 (fuel : Nat) : FunOk P 18 (funOfA fi18 al18 (p18 fuel)) :=
  funOfA_ok (subs := (subsOf [])) (an := an18) (room := 1) (ks := []) (g0 := []) (fuel := fuel) T_ok (fnsOk18 fuel) mixed (fn := Try.f18) (by kernel_rfl) (by kernel_rfl) subsOk_nil (by kernel_rfl) (fun _ => ⟨by kernel_rfl, by kernel_rfl⟩) (run18 fuel)

-- f3: tontine/tontinelaw01.KeysTexts
def fns3 (fuel : Nat) : Fns := fnsOf [(10, F10 fuel), (11, F11 fuel), (12, F12 fuel), (13, F13 fuel), (14, F14 fuel), (15, F15 fuel), (16, F16 fuel), (17, F17 fuel), (18, F18 fuel), (19, F19 fuel)]
theorem fnsOk3 (fuel : Nat) : FnsOk P (fns3 fuel) := (fnsOk_cons (ok10 fuel) (fnsOk_cons (ok11 fuel) (fnsOk_cons (ok12 fuel) (fnsOk_cons (ok13 fuel) (fnsOk_cons (ok14 fuel) (fnsOk_cons (ok15 fuel) (fnsOk_cons (ok16 fuel) (fnsOk_cons (ok17 fuel) (fnsOk_cons (ok18 fuel) (fnsOk_cons (ok19 fuel) fnsOk_nil))))))))))
def fi3 : Fr := ⟨[.d false (.str)], [], 0⟩
def al3 : List (Tm × List To) := [(.d true (.bool), [])]
def an3 : AN := (.seq .leaf (.seq (.region [(2, { touch := [0], ro := false }), (3, { touch := [0], ro := false })]) (.seq (.region [(16, { touch := [0] }), (22, { touch := [0] }), (24, { touch := [0] }), (31, { touch := [0] })]) (.norm ⟨[2], padK 1 []⟩ (.ret [])))))
def p3 (fuel : Nat) : ByteArray → Option Bool := fun x1 => (match p10 fuel x1 with | some z2 => (match p11 fuel () with | some z3 => (bif z3 then (match p12 fuel x1 with | some z4 => (match p13 fuel x1 with | some z5 => (bif (z4 == z5) then (match p14 fuel x1 with | some z6 => (match p15 fuel x1 with | some z7 => (bif (z6 == z7) then (match p16 fuel x1 with | some z8 => (bif (Ty.eqB (.pair (.int .u64) (.int .u64)) z2 z8) then (match p17 fuel z2 with | some z9 => (match p18 fuel z2 with | some z10 => (bif (decide (z9 = z10)) then (match p19 fuel x1 with | some z11 => (match p17 fuel z2 with | some z12 => (some (decide (z11 = z12))) | none => none) | none => none) else (some false)) | none => none) | none => none) else (some false)) | none => none) else (some false)) | none => none) | none => none) else (some false)) | none => none) | none => none) else (some false)) | none => none) | none => none)
def F3 (fuel : Nat) : Fun := funOfA fi3 al3 (p3 fuel)
theorem run3 (fuel : Nat) : ∀ y : ByteArray, runF Bool T (fns3 fuel) fuel (subsOf []) (defOf Try.f3 an3 1 [] []) (fi3.vs y) (fi3.os y) (altsDec al3) = p3 fuel y := by
  rintro x1
  kernel_rfl
theorem ok3 (fuel : Nat) : FunOk P 3 (funOfA fi3 al3 (p3 fuel)) :=
  funOfA_ok (subs := (subsOf [])) (an := an3) (room := 1) (ks := []) (g0 := []) (fuel := fuel) T_ok (fnsOk3 fuel) mixed (fn := Try.f3) (by kernel_rfl) (by kernel_rfl) subsOk_nil (by kernel_rfl) (fun _ => ⟨by kernel_rfl, by kernel_rfl⟩) (run3 fuel)

-- f20: tontine/keys.Symmetric
def fns20 (fuel : Nat) : Fns := fnsOf []
theorem fnsOk20 (fuel : Nat) : FnsOk P (fns20 fuel) := fnsOk_nil
def fi20 : Fr := ⟨[.d false (.pair (.int .u64) (.int .u64)), .d false (.int .i64)], [], 0⟩
def al20 : List (Tm × List To) := [(.tup (.cons (.d true (.pair (.int .u64) (.int .u64))) (.cons (.d true (.int .i64)) (.c .nil))), [])]
def an20 : AN := (.seq (.region [(0, { touch := [2], base := 2, ro := false }), (1, { touch := [3], base := 3, ro := false })]) (.seq (.seq .leaf (.cond (.seq (.region [(1, { touch := [3], ro := false })]) (.norm ⟨[4, 5], padK 3 [some (3, 0)]⟩ (.ret []))) .leaf)) (.seq (.region [(0, { touch := [2] }), (1, { touch := [2] }), (6, { touch := [2] }), (7, { touch := [2], ro := false })]) (.seq (.region [(0, { touch := [2] }), (1, { touch := [3], ro := false })]) (.norm ⟨[4, 5], padK 3 [some (3, 0)]⟩ (.ret []))))))
def p20 (fuel : Nat) : ((Int × Int) × Int) → Option ((Int × Int) × Int) := fun (x1, x2) => (bif (decide (x2 < (0 : Int))) then (some (((0 : Int), (0 : Int)), (1 : Int))) else (bif (decide ((4 : Int) ≤ x2)) then (some (((0 : Int), (0 : Int)), (1 : Int))) else let v3 := (IntKind.wrap .u64 (x1.1 + (IntKind.wrap .u64 ((IntKind.wrap .u64 x2) * 2 ^ 62)))); (some ((v3, x1.2), (0 : Int)))))
def F20 (fuel : Nat) : Fun := funOfA fi20 al20 (p20 fuel)
theorem run20 (fuel : Nat) : ∀ y : ((Int × Int) × Int), runF ((Int × Int) × Int) T (fns20 fuel) fuel (subsOf []) (defOf Try.f20 an20 4 [] []) (fi20.vs y) (fi20.os y) (altsDec al20) = p20 fuel y := by
  rintro ⟨x1, x2⟩
  kernel_rfl
theorem ok20 (fuel : Nat) : FunOk P 20 (funOfA fi20 al20 (p20 fuel)) :=
  funOfA_ok (subs := (subsOf [])) (an := an20) (room := 4) (ks := []) (g0 := []) (fuel := fuel) T_ok (fnsOk20 fuel) mixed (fn := Try.f20) (by kernel_rfl) (by kernel_rfl) subsOk_nil (by kernel_rfl) (fun _ => ⟨by kernel_rfl, by kernel_rfl⟩) (run20 fuel)

-- f4: tontine/tontinelaw01.KeysTurns
def fns4 (fuel : Nat) : Fns := fnsOf [(20, F20 fuel), (11, F11 fuel), (10, F10 fuel)]
theorem fnsOk4 (fuel : Nat) : FnsOk P (fns4 fuel) := (fnsOk_cons (ok20 fuel) (fnsOk_cons (ok11 fuel) (fnsOk_cons (ok10 fuel) fnsOk_nil)))
def fi4 : Fr := ⟨[.d false (.pair (.pair (.int .u64) (.int .u64)) (.pair (.int .i64) (.pair (.int .i64) (.str))))], [], 0⟩
def al4 : List (Tm × List To) := [(.d true (.bool), [])]
def fx4_0 : Fr := ⟨[.d true (.bool)], [], 6⟩
def fr4_0 : Fr := ⟨[.c (.ptr 0 0 []), .d true (.int .i64), .d true (.int .i64), .d true (.str)], [.box (.d true (.pair (.int .u64) (.int .u64)))], 5⟩
noncomputable def c4_0 : Code := bodyAt Try.f4 [1, 1, 1, 1]
def j4_0 (fuel : Nat) {R : Type} (k0 : Bool → Option R) : (Int × Int × ByteArray × (Int × Int)) → Option R := fun (x6, x7, x8, x9) => (match p20 fuel (x9, (Int.tmod x6 (4 : Int))) with | some z10 => (match p20 fuel (z10.1, (Int.tmod x7 (4 : Int))) with | some z11 => let v12 := (IntKind.wrap .i64 ((Int.tmod x6 (4 : Int)) + (Int.tmod x7 (4 : Int)))); (match p20 fuel (x9, (Int.tmod v12 (4 : Int))) with | some z13 => let v14 := (if (16 : Int) < ((ByteArray.size x8 : Nat) : Int) then (16 : Int) else ((ByteArray.size x8 : Nat) : Int)); (if 0 ≤ v14 ∧ v14 ≤ (((ByteArray.size x8) : Nat) : Int) then (match p11 fuel () with | some z15 => (bif z15 then (bif (decide (z10.2 = (0 : Int))) then (bif (decide (z11.2 = (0 : Int))) then (bif (decide (z13.2 = (0 : Int))) then (bif (Ty.eqB (.pair (.int .u64) (.int .u64)) z11.1 z13.1) then (match p10 fuel x8 with | some z16 => (match p10 fuel (ByteArray.extract x8 0 (Int.toNat v14)) with | some z17 => (k0 (Ty.eqB (.pair (.int .u64) (.int .u64)) z16 z17)) | none => none) | none => none) else (k0 false)) else (k0 false)) else (k0 false)) else (k0 false)) else (k0 false)) | none => none) else none) | none => none) | none => none) | none => none)
def al4_0 : AN := (.seq .leaf (.seq .leaf (.seq (.region [(0, { touch := [0] }), (6, { touch := [3], base := 3, ro := false }), (7, { touch := [3], ro := false })]) (.seq (.region [(0, { touch := [3] }), (6, { touch := [4], base := 4, ro := false }), (7, { touch := [4], ro := false })]) (.seq (.region [(0, { touch := [0] }), (9, { touch := [5], base := 5, ro := false }), (10, { touch := [5], ro := false })]) (.seq .leaf (.seq (.region [(14, { touch := [4] }), (15, { touch := [5] })]) (.norm ⟨[2], padK 6 []⟩ (.ret [])))))))))
theorem u4_0 (fuel : Nat) {R : Type} (k : AExit → St → Option R) : ∀ x : (Int × Int × ByteArray × (Int × Int)), runK R T (fns4 fuel) fuel [] (subsOf []) (partOf c4_0 al4_0) (fr4_0.st [3, 4, 5, 6] x) k = j4_0 fuel (fun y => k (.ret []) (fx4_0.st [2] y)) x := by
  rintro ⟨x6, x7, x8, x9⟩
  kernel_rfl
noncomputable def sub4_0 (fuel : Nat) (R : Type) : Sub R := Sub.of [3, 4, 5, 6] c4_0 fr4_0 fun x k => j4_0 fuel (fun y => k (.ret []) (fx4_0.st [2] y)) x
theorem subOk4_0 (fuel : Nat) (R : Type) : SubOk P [] 87 (sub4_0 fuel R) :=
  subOk_part (fns := (fns4 fuel)) (fuel := fuel) (subs := (subsOf [])) (an := al4_0) T_ok (fnsOk4 fuel) mixed subsOk_nil (by kernel_rfl) (by kernel_rfl) fun _ _ _ _ h => Sub.of_run (fun (x : (Int × Int × ByteArray × (Int × Int))) k => u4_0 fuel k x) h
def fr4_1 : Fr := ⟨[.c (.ptr 0 0 []), .d true (.int .i64), .d true (.int .i64), .d true (.str)], [.box (.d true (.pair (.int .u64) (.int .u64)))], 5⟩
noncomputable def c4_1 : Code := bodyAt Try.f4 [1, 1, 1]
def j4_1 (fuel : Nat) {R : Type} (k0 : Bool → Option R) : (Int × Int × ByteArray × (Int × Int)) → Option R := fun (x2, x3, x4, x5) => (bif (decide (x3 < (0 : Int))) then (j4_0 fuel (fun x18 => (k0 x18)) (x2, (IntKind.wrap .i64 (0 - (IntKind.wrap .i64 (x3 + (1 : Int))))), x4, x5)) else (j4_0 fuel (fun x19 => (k0 x19)) (x2, x3, x4, x5)))
def al4_1 : AN := (.seq (.seq .leaf (.cond (.fin ⟨[3, 4, 5, 6], padK 5 [some (0, 0)]⟩ .leaf) (.fin ⟨[3, 4, 5, 6], padK 5 [some (0, 0)]⟩ .leaf))) (.hole ⟨[3, 4, 5, 6], padK 5 [some (0, 0)]⟩ 0))
theorem u4_1 (fuel : Nat) {R : Type} (k : AExit → St → Option R) : ∀ x : (Int × Int × ByteArray × (Int × Int)), runK R T (fns4 fuel) fuel [] (subsOf [sub4_0 fuel R]) (partOf c4_1 al4_1) (fr4_1.st [3, 4, 5, 6] x) k = j4_1 fuel (fun y => k (.ret []) (fx4_0.st [2] y)) x := by
  rintro ⟨x2, x3, x4, x5⟩
  kernel_rfl
noncomputable def sub4_1 (fuel : Nat) (R : Type) : Sub R := Sub.of [3, 4, 5, 6] c4_1 fr4_1 fun x k => j4_1 fuel (fun y => k (.ret []) (fx4_0.st [2] y)) x
theorem subOk4_1 (fuel : Nat) (R : Type) : SubOk P [] 87 (sub4_1 fuel R) :=
  subOk_part (fns := (fns4 fuel)) (fuel := fuel) (subs := (subsOf [sub4_0 fuel R])) (an := al4_1) T_ok (fnsOk4 fuel) mixed (subsOk_cons (subOk4_0 fuel R) subsOk_nil) (by kernel_rfl) (by kernel_rfl) fun _ _ _ _ h => Sub.of_run (fun (x : (Int × Int × ByteArray × (Int × Int))) k => u4_1 fuel k x) h
def an4 : AN := (.seq (.region [(0, { touch := [1], base := 1, ro := false })]) (.seq (.region [(0, { touch := [1] }), (1, { touch := [1] }), (2, { touch := [1] }), (3, { touch := [1] }), (4, { touch := [1] }), (5, { touch := [1] }), (6, { touch := [1] }), (7, { touch := [1] }), (8, { touch := [2], base := 2, ro := false }), (9, { touch := [2], ro := false })]) (.seq (.seq .leaf (.cond (.fin ⟨[3, 4, 5, 6], padK 5 [some (2, 0)]⟩ .leaf) (.fin ⟨[3, 4, 5, 6], padK 5 [some (2, 0)]⟩ .leaf))) (.hole ⟨[3, 4, 5, 6], padK 5 [some (0, 0)]⟩ 1))))
def p4 (fuel : Nat) : ((Int × Int) × (Int × (Int × ByteArray))) → Option Bool := fun x1 => (bif (decide (x1.2.1 < (0 : Int))) then (j4_1 fuel (fun x20 => (some x20)) ((IntKind.wrap .i64 (0 - (IntKind.wrap .i64 (x1.2.1 + (1 : Int))))), x1.2.2.1, x1.2.2.2, x1.1)) else (j4_1 fuel (fun x21 => (some x21)) (x1.2.1, x1.2.2.1, x1.2.2.2, x1.1)))
def F4 (fuel : Nat) : Fun := funOfA fi4 al4 (p4 fuel)
theorem run4 (fuel : Nat) : ∀ y : ((Int × Int) × (Int × (Int × ByteArray))), runF Bool T (fns4 fuel) fuel (subsOf [sub4_0 fuel Bool, sub4_1 fuel Bool]) (defOf Try.f4 an4 6 [] []) (fi4.vs y) (fi4.os y) (altsDec al4) = p4 fuel y := by
  rintro x1
  kernel_rfl
theorem ok4 (fuel : Nat) : FunOk P 4 (funOfA fi4 al4 (p4 fuel)) :=
  funOfA_ok (subs := (subsOf [sub4_0 fuel Bool, sub4_1 fuel Bool])) (an := an4) (room := 6) (ks := []) (g0 := []) (fuel := fuel) T_ok (fnsOk4 fuel) mixed (fn := Try.f4) (by kernel_rfl) (by kernel_rfl) (subsOk_cons (subOk4_0 fuel _) (subsOk_cons (subOk4_1 fuel _) subsOk_nil)) (by kernel_rfl) (fun _ => ⟨by kernel_rfl, by kernel_rfl⟩) (run4 fuel)

-- f21: tontine/keys.Enough
def fns21 (fuel : Nat) : Fns := fnsOf []
theorem fnsOk21 (fuel : Nat) : FnsOk P (fns21 fuel) := fnsOk_nil
def fi21 : Fr := ⟨[.d false (.arr 4 (.bool))], [], 0⟩
def al21 : List (Tm × List To) := [(.d true (.bool), [])]
def fx21_0 : Fr := ⟨[.d true (.int .i64)], [], 1⟩
def fr21_0 : Fr := ⟨[.d true (.int .i64), .d true (.arr 4 (.bool)), .d true (.int .i64)], [], 1⟩
noncomputable def c21_0 : Code := bodyAt Try.f21 [1, 1, 0, 1, 0]
def s21_0 (fuel : Nat) {R : Type} (F : (Int × (List Bool) × Int) → Option R) (k0 : Int → Option R) : (Int × (List Bool) × Int) → Option R := fun (x2, x3, x4) => (bif (decide (x4 < (4 : Int))) then (if 0 ≤ x4 ∧ x4 < ((4 : Nat) : Int) then (match (x3)[Int.toNat x4]? with | some y5 => (bif (!y5) then (F ((IntKind.wrap .i64 (x2 + (1 : Int))), x3, (IntKind.wrap .i64 (x4 + (1 : Int))))) else (F (x2, x3, (IntKind.wrap .i64 (x4 + (1 : Int)))))) | none => none) else none) else (k0 x2))
def l21_0 (fuel : Nat) {R : Type} (k0 : Int → Option R) : Nat → (Int × (List Bool) × Int) → Option R
  | 0, _ => none
  | n + 1, x => s21_0 fuel (l21_0 fuel k0 n) k0 x
def nm21_0 : Norm := ⟨[3, 6, 7], padK 1 []⟩
def an21_0 : AN := (.seq .leaf (.seq (.cond .leaf (.norm ⟨[3], padK 1 []⟩ .leaf)) (.seq (.block (.seq .leaf (.seq .leaf (.cond (.fin ⟨[3, 6, 7], padK 1 []⟩ .leaf) (.fin ⟨[3, 6, 7], padK 1 []⟩ .leaf))))) .leaf)))
def al21_0 : AN := .loop nm21_0 an21_0
noncomputable def d21_0 : Code := bodyAt Try.f21 [1, 1, 0, 1, 0, 0]
theorem e21_0 (fuel : Nat) {R : Type} (F : St → Option R) (k : AExit → St → Option R) : ∀ x : (Int × (List Bool) × Int), runK R T (fns21 fuel) fuel [] (subsOf []) (partOf d21_0 an21_0) (fr21_0.st [3, 6, 7] x) (backTo R [] nm21_0 F k) = s21_0 fuel (fun x => F (fr21_0.st [3, 6, 7] x)) (fun y => k (.exit 0) (fx21_0.st [3] y)) x := by
  rintro ⟨x2, x3, x4⟩
  kernel_rfl
theorem u21_0 (fuel : Nat) {R : Type} (k : AExit → St → Option R) (x : (Int × (List Bool) × Int)) : runK R T (fns21 fuel) fuel [] (subsOf []) (partOf c21_0 al21_0) (fr21_0.st [3, 6, 7] x) k = l21_0 fuel (fun y => k (.exit 0) (fx21_0.st [3] y)) fuel x :=
  loop_eq (mk := fr21_0.st [3, 6, 7]) (s := fun F x => s21_0 fuel F (fun y => k (.exit 0) (fx21_0.st [3] y)) x) (l := fun n x => l21_0 fuel (fun y => k (.exit 0) (fx21_0.st [3] y)) n x) (d := d21_0) (by kernel_rfl) (fun G x => by
    revert x
    rintro ⟨x2, x3, x4⟩
    kernel_rfl) (fun F x => e21_0 fuel F k x) (fun _ => rfl) (fun _ _ => rfl) x
noncomputable def sub21_0 (fuel : Nat) (R : Type) : Sub R := Sub.of [3, 6, 7] c21_0 fr21_0 fun x k => l21_0 fuel (fun y => k (.exit 0) (fx21_0.st [3] y)) fuel x
theorem subOk21_0 (fuel : Nat) (R : Type) : SubOk P [] 17 (sub21_0 fuel R) :=
  subOk_part (fns := (fns21 fuel)) (fuel := fuel) (subs := (subsOf [])) (an := al21_0) T_ok (fnsOk21 fuel) mixed subsOk_nil (by kernel_rfl) (by kernel_rfl) fun _ _ _ _ h => Sub.of_run (fun (x : (Int × (List Bool) × Int)) k => u21_0 fuel k x) h
def an21 : AN := (.seq (.region [(0, { touch := [0], ro := false })]) (.seq .leaf (.seq (.seq (.region [(0, { touch := [0] })]) (.block (.hole ⟨[3, 6, 7], padK 1 []⟩ 0))) (.seq .leaf (.norm ⟨[2], padK 1 []⟩ (.ret []))))))
def p21 (fuel : Nat) : (List Bool) → Option Bool := fun x1 => (l21_0 fuel (fun x6 => (some (decide (x6 ≤ (1 : Int))))) fuel ((0 : Int), x1, (0 : Int)))
def F21 (fuel : Nat) : Fun := funOfA fi21 al21 (p21 fuel)
theorem run21 (fuel : Nat) : ∀ y : (List Bool), runF Bool T (fns21 fuel) fuel (subsOf [sub21_0 fuel Bool]) (defOf Try.f21 an21 1 [] []) (fi21.vs y) (fi21.os y) (altsDec al21) = p21 fuel y := by
  rintro x1
  kernel_rfl
theorem ok21 (fuel : Nat) : FunOk P 21 (funOfA fi21 al21 (p21 fuel)) :=
  funOfA_ok (subs := (subsOf [sub21_0 fuel Bool])) (an := an21) (room := 1) (ks := []) (g0 := []) (fuel := fuel) T_ok (fnsOk21 fuel) mixed (fn := Try.f21) (by kernel_rfl) (by kernel_rfl) (subsOk_cons (subOk21_0 fuel _) subsOk_nil) (by kernel_rfl) (fun _ => ⟨by kernel_rfl, by kernel_rfl⟩) (run21 fuel)

-- f5: tontine/tontinelaw01.KeysQuorums
def fns5 (fuel : Nat) : Fns := fnsOf [(21, F21 fuel), (11, F11 fuel)]
theorem fnsOk5 (fuel : Nat) : FnsOk P (fns5 fuel) := (fnsOk_cons (ok21 fuel) (fnsOk_cons (ok11 fuel) fnsOk_nil))
def fi5 : Fr := ⟨[.d false (.arr 4 (.bool)), .d false (.arr 4 (.bool))], [], 0⟩
def al5 : List (Tm × List To) := [(.d true (.bool), [])]
def fx5_0 : Fr := ⟨[.d true (.bool), .d true (.bool), .d true (.int .i64)], [], 4⟩
def fr5_0 : Fr := ⟨[.c (.ptr 0 0 []), .c (.ptr 1 0 []), .d true (.bool), .d true (.bool), .d true (.int .i64), .d true (.int .i64)], [.box (.d true (.arr 4 (.bool))), .box (.d true (.arr 4 (.bool)))], 2⟩
noncomputable def c5_0 : Code := bodyAt Try.f5 [1, 1, 1, 1, 0, 1, 0]
def s5_0 (fuel : Nat) {R : Type} (F : (Bool × Bool × Int × Int × (List Bool) × (List Bool)) → Option R) (k0 : (Bool × Bool × Int) → Option R) : (Bool × Bool × Int × Int × (List Bool) × (List Bool)) → Option R := fun (x5, x6, x7, x8, x9, x10) => (bif (decide (x8 < (4 : Int))) then (if 0 ≤ x8 ∧ x8 < ((4 : Nat) : Int) then (match (x9)[(Int.toNat x8)]? with | some y11 => (bif y11 then (if 0 ≤ x8 ∧ x8 < ((4 : Nat) : Int) then (match (x10)[(Int.toNat x8)]? with | some y12 => (bif y12 then (F (x5, x6, (IntKind.wrap .i64 (x7 + (1 : Int))), (IntKind.wrap .i64 (x8 + (1 : Int))), x9, x10)) else (F (x5, x6, x7, (IntKind.wrap .i64 (x8 + (1 : Int))), x9, x10))) | none => none) else none) else (F (x5, x6, x7, (IntKind.wrap .i64 (x8 + (1 : Int))), x9, x10))) | none => none) else none) else (k0 (x5, x6, x7)))
def l5_0 (fuel : Nat) {R : Type} (k0 : (Bool × Bool × Int) → Option R) : Nat → (Bool × Bool × Int × Int × (List Bool) × (List Bool)) → Option R
  | 0, _ => none
  | n + 1, x => s5_0 fuel (l5_0 fuel k0 n) k0 x
def nm5_0 : Norm := ⟨[2, 3, 5, 6, 7, 8], padK 2 [some (0, 0), some (1, 0)]⟩
def an5_0 : AN := (.seq (.seq .leaf (.cond .leaf (.norm ⟨[5, 6, 7], padK 4 []⟩ .leaf))) (.seq (.block (.seq (.region [(1, { touch := [0] }), (2, { touch := [0] }), (5, { touch := [1] }), (6, { touch := [1] })]) (.cond (.fin ⟨[2, 3, 5, 6, 7, 8], padK 2 [some (0, 0), some (1, 0)]⟩ .leaf) (.fin ⟨[2, 3, 5, 6, 7, 8], padK 2 [some (0, 0), some (1, 0)]⟩ .leaf)))) .leaf))
def al5_0 : AN := .loop nm5_0 an5_0
noncomputable def d5_0 : Code := bodyAt Try.f5 [1, 1, 1, 1, 0, 1, 0, 0]
theorem e5_0 (fuel : Nat) {R : Type} (F : St → Option R) (k : AExit → St → Option R) : ∀ x : (Bool × Bool × Int × Int × (List Bool) × (List Bool)), runK R T (fns5 fuel) fuel [] (subsOf []) (partOf d5_0 an5_0) (fr5_0.st [2, 3, 5, 6, 7, 8] x) (backTo R [] nm5_0 F k) = s5_0 fuel (fun x => F (fr5_0.st [2, 3, 5, 6, 7, 8] x)) (fun y => k (.exit 0) (fx5_0.st [5, 6, 7] y)) x := by
  rintro ⟨x5, x6, x7, x8, x9, x10⟩
  kernel_rfl
theorem u5_0 (fuel : Nat) {R : Type} (k : AExit → St → Option R) (x : (Bool × Bool × Int × Int × (List Bool) × (List Bool))) : runK R T (fns5 fuel) fuel [] (subsOf []) (partOf c5_0 al5_0) (fr5_0.st [2, 3, 5, 6, 7, 8] x) k = l5_0 fuel (fun y => k (.exit 0) (fx5_0.st [5, 6, 7] y)) fuel x :=
  loop_eq (mk := fr5_0.st [2, 3, 5, 6, 7, 8]) (s := fun F x => s5_0 fuel F (fun y => k (.exit 0) (fx5_0.st [5, 6, 7] y)) x) (l := fun n x => l5_0 fuel (fun y => k (.exit 0) (fx5_0.st [5, 6, 7] y)) n x) (d := d5_0) (by kernel_rfl) (fun G x => by
    revert x
    rintro ⟨x5, x6, x7, x8, x9, x10⟩
    kernel_rfl) (fun F x => e5_0 fuel F k x) (fun _ => rfl) (fun _ _ => rfl) x
noncomputable def sub5_0 (fuel : Nat) (R : Type) : Sub R := Sub.of [2, 3, 5, 6, 7, 8] c5_0 fr5_0 fun x k => l5_0 fuel (fun y => k (.exit 0) (fx5_0.st [5, 6, 7] y)) fuel x
theorem subOk5_0 (fuel : Nat) (R : Type) : SubOk P [] 49 (sub5_0 fuel R) :=
  subOk_part (fns := (fns5 fuel)) (fuel := fuel) (subs := (subsOf [])) (an := al5_0) T_ok (fnsOk5 fuel) mixed subsOk_nil (by kernel_rfl) (by kernel_rfl) fun _ _ _ _ h => Sub.of_run (fun (x : (Bool × Bool × Int × Int × (List Bool) × (List Bool))) k => u5_0 fuel k x) h
def an5 : AN := (.seq (.region [(0, { touch := [2], base := 2, ro := false }), (1, { touch := [3], base := 3, ro := false })]) (.seq (.region [(0, { touch := [2] })]) (.seq (.region [(0, { touch := [3] })]) (.seq .leaf (.seq (.seq .leaf (.block (.hole ⟨[2, 3, 5, 6, 7, 8], padK 2 [some (2, 0), some (3, 0)]⟩ 0))) (.seq .leaf (.norm ⟨[4], padK 4 []⟩ (.ret []))))))))
def p5 (fuel : Nat) : ((List Bool) × (List Bool)) → Option Bool := fun (x1, x2) => (match p21 fuel x1 with | some z3 => (match p21 fuel x2 with | some z4 => (l5_0 fuel (fun (x13, x14, x15) => (match p11 fuel () with | some z16 => (bif z16 then (bif (!x13) then (match p21 fuel [true, true, true, false] with | some z17 => (bif z17 then (match p21 fuel [true, false, true, false] with | some z18 => (some (!z18)) | none => none) else (some false)) | none => none) else (bif (!x14) then (match p21 fuel [true, true, true, false] with | some z19 => (bif z19 then (match p21 fuel [true, false, true, false] with | some z20 => (some (!z20)) | none => none) else (some false)) | none => none) else (bif (decide ((2 : Int) ≤ x15)) then (match p21 fuel [true, true, true, false] with | some z21 => (bif z21 then (match p21 fuel [true, false, true, false] with | some z22 => (some (!z22)) | none => none) else (some false)) | none => none) else (some false)))) else (some false)) | none => none)) fuel (z3, z4, (0 : Int), (0 : Int), x1, x2)) | none => none) | none => none)
def F5 (fuel : Nat) : Fun := funOfA fi5 al5 (p5 fuel)
theorem run5 (fuel : Nat) : ∀ y : ((List Bool) × (List Bool)), runF Bool T (fns5 fuel) fuel (subsOf [sub5_0 fuel Bool]) (defOf Try.f5 an5 4 [] []) (fi5.vs y) (fi5.os y) (altsDec al5) = p5 fuel y := by
  rintro ⟨x1, x2⟩
  kernel_rfl
theorem ok5 (fuel : Nat) : FunOk P 5 (funOfA fi5 al5 (p5 fuel)) :=
  funOfA_ok (subs := (subsOf [sub5_0 fuel Bool])) (an := an5) (room := 4) (ks := []) (g0 := []) (fuel := fuel) T_ok (fnsOk5 fuel) mixed (fn := Try.f5) (by kernel_rfl) (by kernel_rfl) (subsOk_cons (subOk5_0 fuel _) subsOk_nil) (by kernel_rfl) (fun _ => ⟨by kernel_rfl, by kernel_rfl⟩) (run5 fuel)

-- f22: tontine/keys.Span
def fns22 (fuel : Nat) : Fns := fnsOf [(19, F19 fuel)]
theorem fnsOk22 (fuel : Nat) : FnsOk P (fns22 fuel) := (fnsOk_cons (ok19 fuel) fnsOk_nil)
def fi22 : Fr := ⟨[.d false (.str), .d false (.str)], [], 0⟩
def al22 : List (Tm × List To) := [(.tup (.cons (.d true (.int .i64)) (.cons (.d true (.int .i64)) (.cons (.d true (.int .i64)) (.c .nil)))), [])]
def an22 : AN := (.seq .leaf (.seq (.seq .leaf (.cond (.seq .leaf (.norm ⟨[4, 5, 6], padK 0 []⟩ (.ret []))) .leaf)) (.seq .leaf (.norm ⟨[4, 5, 6], padK 0 []⟩ (.ret [])))))
def p22 (fuel : Nat) : (ByteArray × ByteArray) → Option (Int × Int × Int) := fun (x1, x2) => (bif (!(strLess x1 x2 || strEq x1 x2)) then (some ((0 : Int), (0 : Int), (1 : Int))) else (match p19 fuel x1 with | some z3 => (match p19 fuel x2 with | some z4 => (some (z3, z4, (0 : Int))) | none => none) | none => none))
def F22 (fuel : Nat) : Fun := funOfA fi22 al22 (p22 fuel)
theorem run22 (fuel : Nat) : ∀ y : (ByteArray × ByteArray), runF (Int × Int × Int) T (fns22 fuel) fuel (subsOf []) (defOf Try.f22 an22 0 [] []) (fi22.vs y) (fi22.os y) (altsDec al22) = p22 fuel y := by
  rintro ⟨x1, x2⟩
  kernel_rfl
theorem ok22 (fuel : Nat) : FunOk P 22 (funOfA fi22 al22 (p22 fuel)) :=
  funOfA_ok (subs := (subsOf [])) (an := an22) (room := 0) (ks := []) (g0 := []) (fuel := fuel) T_ok (fnsOk22 fuel) mixed (fn := Try.f22) (by kernel_rfl) (by kernel_rfl) subsOk_nil (by kernel_rfl) (fun _ => ⟨by kernel_rfl, by kernel_rfl⟩) (run22 fuel)

-- f23: tontine/tontineref01.Span
def fns23 (fuel : Nat) : Fns := fnsOf [(16, F16 fuel), (18, F18 fuel)]
theorem fnsOk23 (fuel : Nat) : FnsOk P (fns23 fuel) := (fnsOk_cons (ok16 fuel) (fnsOk_cons (ok18 fuel) fnsOk_nil))
def fi23 : Fr := ⟨[.d false (.str), .d false (.str)], [], 0⟩
def al23 : List (Tm × List To) := [(.tup (.cons (.d true (.int .i64)) (.cons (.d true (.int .i64)) (.cons (.d true (.int .i64)) (.c .nil)))), [])]
def an23 : AN := (.seq .leaf (.seq (.seq .leaf (.cond (.seq .leaf (.norm ⟨[4, 5, 6], padK 0 []⟩ (.ret []))) .leaf)) (.seq .leaf (.norm ⟨[4, 5, 6], padK 0 []⟩ (.ret [])))))
def p23 (fuel : Nat) : (ByteArray × ByteArray) → Option (Int × Int × Int) := fun (x1, x2) => (bif (!(strLess x1 x2 || strEq x1 x2)) then (some ((0 : Int), (0 : Int), (1 : Int))) else (match p16 fuel x1 with | some z3 => (match p18 fuel z3 with | some z4 => (match p16 fuel x2 with | some z5 => (match p18 fuel z5 with | some z6 => (some (z4, z6, (0 : Int))) | none => none) | none => none) | none => none) | none => none))
def F23 (fuel : Nat) : Fun := funOfA fi23 al23 (p23 fuel)
theorem run23 (fuel : Nat) : ∀ y : (ByteArray × ByteArray), runF (Int × Int × Int) T (fns23 fuel) fuel (subsOf []) (defOf Try.f23 an23 0 [] []) (fi23.vs y) (fi23.os y) (altsDec al23) = p23 fuel y := by
  rintro ⟨x1, x2⟩
  kernel_rfl
theorem ok23 (fuel : Nat) : FunOk P 23 (funOfA fi23 al23 (p23 fuel)) :=
  funOfA_ok (subs := (subsOf [])) (an := an23) (room := 0) (ks := []) (g0 := []) (fuel := fuel) T_ok (fnsOk23 fuel) mixed (fn := Try.f23) (by kernel_rfl) (by kernel_rfl) subsOk_nil (by kernel_rfl) (fun _ => ⟨by kernel_rfl, by kernel_rfl⟩) (run23 fuel)

-- f24: tontine/tontineref01.Enough
def fns24 (fuel : Nat) : Fns := fnsOf []
theorem fnsOk24 (fuel : Nat) : FnsOk P (fns24 fuel) := fnsOk_nil
def fi24 : Fr := ⟨[.d false (.arr 4 (.bool))], [], 0⟩
def al24 : List (Tm × List To) := [(.d true (.bool), [])]
def fx24_0 : Fr := ⟨[.d true (.int .i64)], [], 2⟩
def fr24_0 : Fr := ⟨[.c (.ptr 0 0 []), .d true (.int .i64), .d true (.int .i64)], [.box (.d true (.arr 4 (.bool)))], 1⟩
noncomputable def c24_0 : Code := bodyAt Try.f24 [1, 1, 0, 1, 0]
def s24_0 (fuel : Nat) {R : Type} (F : (Int × Int × (List Bool)) → Option R) (k0 : Int → Option R) : (Int × Int × (List Bool)) → Option R := fun (x2, x3, x4) => (bif (decide (x3 < (4 : Int))) then (if 0 ≤ x3 ∧ x3 < ((4 : Nat) : Int) then (match (x4)[(Int.toNat x3)]? with | some y5 => (bif y5 then (F ((IntKind.wrap .i64 (x2 + (1 : Int))), (IntKind.wrap .i64 (x3 + (1 : Int))), x4)) else (F (x2, (IntKind.wrap .i64 (x3 + (1 : Int))), x4))) | none => none) else none) else (k0 x2))
def l24_0 (fuel : Nat) {R : Type} (k0 : Int → Option R) : Nat → (Int × Int × (List Bool)) → Option R
  | 0, _ => none
  | n + 1, x => s24_0 fuel (l24_0 fuel k0 n) k0 x
def nm24_0 : Norm := ⟨[1, 3, 4], padK 1 [some (0, 0)]⟩
def an24_0 : AN := (.seq (.seq .leaf (.cond .leaf (.norm ⟨[3], padK 2 []⟩ .leaf))) (.seq (.block (.seq (.region [(1, { touch := [0] }), (2, { touch := [0] })]) (.cond (.fin ⟨[1, 3, 4], padK 1 [some (0, 0)]⟩ .leaf) (.fin ⟨[1, 3, 4], padK 1 [some (0, 0)]⟩ .leaf)))) .leaf))
def al24_0 : AN := .loop nm24_0 an24_0
noncomputable def d24_0 : Code := bodyAt Try.f24 [1, 1, 0, 1, 0, 0]
theorem e24_0 (fuel : Nat) {R : Type} (F : St → Option R) (k : AExit → St → Option R) : ∀ x : (Int × Int × (List Bool)), runK R T (fns24 fuel) fuel [] (subsOf []) (partOf d24_0 an24_0) (fr24_0.st [1, 3, 4] x) (backTo R [] nm24_0 F k) = s24_0 fuel (fun x => F (fr24_0.st [1, 3, 4] x)) (fun y => k (.exit 0) (fx24_0.st [3] y)) x := by
  rintro ⟨x2, x3, x4⟩
  kernel_rfl
theorem u24_0 (fuel : Nat) {R : Type} (k : AExit → St → Option R) (x : (Int × Int × (List Bool))) : runK R T (fns24 fuel) fuel [] (subsOf []) (partOf c24_0 al24_0) (fr24_0.st [1, 3, 4] x) k = l24_0 fuel (fun y => k (.exit 0) (fx24_0.st [3] y)) fuel x :=
  loop_eq (mk := fr24_0.st [1, 3, 4]) (s := fun F x => s24_0 fuel F (fun y => k (.exit 0) (fx24_0.st [3] y)) x) (l := fun n x => l24_0 fuel (fun y => k (.exit 0) (fx24_0.st [3] y)) n x) (d := d24_0) (by kernel_rfl) (fun G x => by
    revert x
    rintro ⟨x2, x3, x4⟩
    kernel_rfl) (fun F x => e24_0 fuel F k x) (fun _ => rfl) (fun _ _ => rfl) x
noncomputable def sub24_0 (fuel : Nat) (R : Type) : Sub R := Sub.of [1, 3, 4] c24_0 fr24_0 fun x k => l24_0 fuel (fun y => k (.exit 0) (fx24_0.st [3] y)) fuel x
theorem subOk24_0 (fuel : Nat) (R : Type) : SubOk P [] 16 (sub24_0 fuel R) :=
  subOk_part (fns := (fns24 fuel)) (fuel := fuel) (subs := (subsOf [])) (an := al24_0) T_ok (fnsOk24 fuel) mixed subsOk_nil (by kernel_rfl) (by kernel_rfl) fun _ _ _ _ h => Sub.of_run (fun (x : (Int × Int × (List Bool))) k => u24_0 fuel k x) h
def an24 : AN := (.seq (.region [(0, { touch := [1], base := 1, ro := false })]) (.seq .leaf (.seq (.seq .leaf (.block (.hole ⟨[1, 3, 4], padK 1 [some (1, 0)]⟩ 0))) (.seq .leaf (.norm ⟨[2], padK 2 []⟩ (.ret []))))))
def p24 (fuel : Nat) : (List Bool) → Option Bool := fun x1 => (l24_0 fuel (fun x6 => (some (decide ((3 : Int) ≤ x6)))) fuel ((0 : Int), (0 : Int), x1))
def F24 (fuel : Nat) : Fun := funOfA fi24 al24 (p24 fuel)
theorem run24 (fuel : Nat) : ∀ y : (List Bool), runF Bool T (fns24 fuel) fuel (subsOf [sub24_0 fuel Bool]) (defOf Try.f24 an24 2 [] []) (fi24.vs y) (fi24.os y) (altsDec al24) = p24 fuel y := by
  rintro x1
  kernel_rfl
theorem ok24 (fuel : Nat) : FunOk P 24 (funOfA fi24 al24 (p24 fuel)) :=
  funOfA_ok (subs := (subsOf [sub24_0 fuel Bool])) (an := an24) (room := 2) (ks := []) (g0 := []) (fuel := fuel) T_ok (fnsOk24 fuel) mixed (fn := Try.f24) (by kernel_rfl) (by kernel_rfl) (subsOk_cons (subOk24_0 fuel _) subsOk_nil) (by kernel_rfl) (fun _ => ⟨by kernel_rfl, by kernel_rfl⟩) (run24 fuel)

-- f6: tontine/tontinelaw01.KeysRanges
def fns6 (fuel : Nat) : Fns := fnsOf [(22, F22 fuel), (23, F23 fuel), (11, F11 fuel), (21, F21 fuel), (24, F24 fuel)]
theorem fnsOk6 (fuel : Nat) : FnsOk P (fns6 fuel) := (fnsOk_cons (ok22 fuel) (fnsOk_cons (ok23 fuel) (fnsOk_cons (ok11 fuel) (fnsOk_cons (ok21 fuel) (fnsOk_cons (ok24 fuel) fnsOk_nil)))))
def fi6 : Fr := ⟨[.d false (.str), .d false (.str), .d false (.arr 4 (.bool))], [], 0⟩
def al6 : List (Tm × List To) := [(.d true (.bool), [])]
def an6 : AN := (.seq (.region [(0, { touch := [0], ro := false })]) (.seq .leaf (.seq .leaf (.seq (.region [(17, { touch := [0] }), (19, { touch := [0] })]) (.norm ⟨[6], padK 1 []⟩ (.ret []))))))
def p6 (fuel : Nat) : (ByteArray × ByteArray × (List Bool)) → Option Bool := fun (x1, x2, x3) => (match p22 fuel (x1, x2) with | some z4 => (match p23 fuel (x1, x2) with | some z5 => (match p11 fuel () with | some z6 => (bif z6 then (bif (decide (z4.1 = z5.1)) then (bif (decide (z4.2.1 = z5.2.1)) then (bif (decide (z4.2.2 = z5.2.2)) then (match p21 fuel x3 with | some z7 => (match p24 fuel x3 with | some z8 => (some (z7 == z8)) | none => none) | none => none) else (some false)) else (some false)) else (some false)) else (some false)) | none => none) | none => none) | none => none)
def F6 (fuel : Nat) : Fun := funOfA fi6 al6 (p6 fuel)
theorem run6 (fuel : Nat) : ∀ y : (ByteArray × ByteArray × (List Bool)), runF Bool T (fns6 fuel) fuel (subsOf []) (defOf Try.f6 an6 1 [] []) (fi6.vs y) (fi6.os y) (altsDec al6) = p6 fuel y := by
  rintro ⟨x1, x2, x3⟩
  kernel_rfl
theorem ok6 (fuel : Nat) : FunOk P 6 (funOfA fi6 al6 (p6 fuel)) :=
  funOfA_ok (subs := (subsOf [])) (an := an6) (room := 1) (ks := []) (g0 := []) (fuel := fuel) T_ok (fnsOk6 fuel) mixed (fn := Try.f6) (by kernel_rfl) (by kernel_rfl) subsOk_nil (by kernel_rfl) (fun _ => ⟨by kernel_rfl, by kernel_rfl⟩) (run6 fuel)

-- f25: tontine/tontineref01.Symmetric
def fns25 (fuel : Nat) : Fns := fnsOf []
theorem fnsOk25 (fuel : Nat) : FnsOk P (fns25 fuel) := fnsOk_nil
def fi25 : Fr := ⟨[.d false (.pair (.int .u64) (.int .u64)), .d false (.int .i64)], [], 0⟩
def al25 : List (Tm × List To) := [(.tup (.cons (.d true (.pair (.int .u64) (.int .u64))) (.cons (.d true (.int .i64)) (.c .nil))), [])]
def fx25_0 : Fr := ⟨[.c (.ptr 0 0 []), .c (.ptr 1 0 [])], [.box (.d true (.pair (.int .u64) (.int .u64))), .box (.d true (.pair (.int .u64) (.int .u64)))], 2⟩
def fr25_0 : Fr := ⟨[.d true (.int .i64), .c (.ptr 0 0 []), .c (.ptr 1 0 []), .d true (.int .i64)], [.box (.d true (.pair (.int .u64) (.int .u64))), .box (.d true (.pair (.int .u64) (.int .u64)))], 2⟩
noncomputable def c25_0 : Code := bodyAt Try.f25 [1, 1, 0, 1, 0]
def s25_0 (fuel : Nat) {R : Type} (F : (Int × Int × (Int × Int) × (Int × Int)) → Option R) (k0 : ((Int × Int) × (Int × Int)) → Option R) : (Int × Int × (Int × Int) × (Int × Int)) → Option R := fun (x3, x4, x5, x6) => (bif (decide (x4 < x3)) then (F (x3, (IntKind.wrap .i64 (x4 + (1 : Int))), ((IntKind.wrap .u64 (x5.1 + (4611686018427387904 : Int))), x5.2), x6)) else (k0 (x5, x6)))
def l25_0 (fuel : Nat) {R : Type} (k0 : ((Int × Int) × (Int × Int)) → Option R) : Nat → (Int × Int × (Int × Int) × (Int × Int)) → Option R
  | 0, _ => none
  | n + 1, x => s25_0 fuel (l25_0 fuel k0 n) k0 x
def nm25_0 : Norm := ⟨[1, 2, 4, 6], padK 2 [some (0, 0), some (1, 0)]⟩
def an25_0 : AN := (.seq (.seq .leaf (.cond .leaf (.norm ⟨[2, 4], padK 2 [some (0, 0), some (1, 0)]⟩ .leaf))) (.seq (.block (.region [(0, { touch := [0] }), (1, { touch := [0] }), (3, { touch := [0] }), (4, { touch := [0], ro := false })])) .leaf))
def al25_0 : AN := .loop nm25_0 an25_0
noncomputable def d25_0 : Code := bodyAt Try.f25 [1, 1, 0, 1, 0, 0]
theorem e25_0 (fuel : Nat) {R : Type} (F : St → Option R) (k : AExit → St → Option R) : ∀ x : (Int × Int × (Int × Int) × (Int × Int)), runK R T (fns25 fuel) fuel [] (subsOf []) (partOf d25_0 an25_0) (fr25_0.st [1, 2, 4, 6] x) (backTo R [] nm25_0 F k) = s25_0 fuel (fun x => F (fr25_0.st [1, 2, 4, 6] x)) (fun y => k (.exit 0) (fx25_0.st [2, 4] y)) x := by
  rintro ⟨x3, x4, x5, x6⟩
  kernel_rfl
theorem u25_0 (fuel : Nat) {R : Type} (k : AExit → St → Option R) (x : (Int × Int × (Int × Int) × (Int × Int))) : runK R T (fns25 fuel) fuel [] (subsOf []) (partOf c25_0 al25_0) (fr25_0.st [1, 2, 4, 6] x) k = l25_0 fuel (fun y => k (.exit 0) (fx25_0.st [2, 4] y)) fuel x :=
  loop_eq (mk := fr25_0.st [1, 2, 4, 6]) (s := fun F x => s25_0 fuel F (fun y => k (.exit 0) (fx25_0.st [2, 4] y)) x) (l := fun n x => l25_0 fuel (fun y => k (.exit 0) (fx25_0.st [2, 4] y)) n x) (d := d25_0) (by kernel_rfl) (fun G x => by
    revert x
    rintro ⟨x3, x4, x5, x6⟩
    kernel_rfl) (fun F x => e25_0 fuel F k x) (fun _ => rfl) (fun _ _ => rfl) x
noncomputable def sub25_0 (fuel : Nat) (R : Type) : Sub R := Sub.of [1, 2, 4, 6] c25_0 fr25_0 fun x k => l25_0 fuel (fun y => k (.exit 0) (fx25_0.st [2, 4] y)) fuel x
theorem subOk25_0 (fuel : Nat) (R : Type) : SubOk P [] 24 (sub25_0 fuel R) :=
  subOk_part (fns := (fns25 fuel)) (fuel := fuel) (subs := (subsOf [])) (an := al25_0) T_ok (fnsOk25 fuel) mixed subsOk_nil (by kernel_rfl) (by kernel_rfl) fun _ _ _ _ h => Sub.of_run (fun (x : (Int × Int × (Int × Int) × (Int × Int))) k => u25_0 fuel k x) h
def an25 : AN := (.seq (.region [(0, { touch := [2], base := 2, ro := false }), (1, { touch := [3], base := 3, ro := false })]) (.seq (.seq .leaf (.cond (.seq (.region [(1, { touch := [3], ro := false })]) (.norm ⟨[4, 5], padK 3 [some (3, 0)]⟩ (.ret []))) .leaf)) (.seq (.seq .leaf (.block (.hole ⟨[1, 2, 4, 6], padK 2 [some (2, 0), some (3, 0)]⟩ 0))) (.seq (.region [(0, { touch := [0] }), (1, { touch := [1], ro := false })]) (.norm ⟨[4, 5], padK 3 [some (1, 0)]⟩ (.ret []))))))
def p25 (fuel : Nat) : ((Int × Int) × Int) → Option ((Int × Int) × Int) := fun (x1, x2) => (bif (decide (x2 < (0 : Int))) then (some (((0 : Int), (0 : Int)), (1 : Int))) else (bif (decide ((3 : Int) < x2)) then (some (((0 : Int), (0 : Int)), (1 : Int))) else (l25_0 fuel (fun (x7, x8) => (some (x7, (0 : Int)))) fuel (x2, (0 : Int), x1, ((0 : Int), (0 : Int))))))
def F25 (fuel : Nat) : Fun := funOfA fi25 al25 (p25 fuel)
theorem run25 (fuel : Nat) : ∀ y : ((Int × Int) × Int), runF ((Int × Int) × Int) T (fns25 fuel) fuel (subsOf [sub25_0 fuel ((Int × Int) × Int)]) (defOf Try.f25 an25 4 [] []) (fi25.vs y) (fi25.os y) (altsDec al25) = p25 fuel y := by
  rintro ⟨x1, x2⟩
  kernel_rfl
theorem ok25 (fuel : Nat) : FunOk P 25 (funOfA fi25 al25 (p25 fuel)) :=
  funOfA_ok (subs := (subsOf [sub25_0 fuel ((Int × Int) × Int)])) (an := an25) (room := 4) (ks := []) (g0 := []) (fuel := fuel) T_ok (fnsOk25 fuel) mixed (fn := Try.f25) (by kernel_rfl) (by kernel_rfl) (subsOk_cons (subOk25_0 fuel _) subsOk_nil) (by kernel_rfl) (fun _ => ⟨by kernel_rfl, by kernel_rfl⟩) (run25 fuel)

-- f27: tontine/tontineref01.Place
def fns27 (fuel : Nat) : Fns := fnsOf []
theorem fnsOk27 (fuel : Nat) : FnsOk P (fns27 fuel) := fnsOk_nil
def fi27 : Fr := ⟨[.d false (.int .i64), .d false (.int .i64)], [], 0⟩
def al27 : List (Tm × List To) := [(.tup (.cons (.d true (.int .i64)) (.cons (.d true (.int .i64)) (.c .nil))), [])]
def an27 : AN := (.seq .leaf (.seq (.seq .leaf (.cond (.seq .leaf (.norm ⟨[4, 5], padK 0 []⟩ (.ret []))) .leaf)) (.seq .leaf (.norm ⟨[4, 5], padK 0 []⟩ (.ret [])))))
def p27 (fuel : Nat) : (Int × Int) → Option (Int × Int) := fun (x1, x2) => (bif (decide (x1 < (0 : Int))) then (some ((0 : Int), (1 : Int))) else (bif (decide ((63 : Int) < x1)) then (some ((0 : Int), (1 : Int))) else (bif (decide (x2 < (0 : Int))) then (some ((0 : Int), (1 : Int))) else (bif (decide ((3 : Int) < x2)) then (some ((0 : Int), (1 : Int))) else let v3 := (Int.tmod (IntKind.wrap .i64 (x1 + (IntKind.wrap .i64 ((16 : Int) * x2)))) (64 : Int)); (some (v3, (0 : Int)))))))
def F27 (fuel : Nat) : Fun := funOfA fi27 al27 (p27 fuel)
theorem run27 (fuel : Nat) : ∀ y : (Int × Int), runF (Int × Int) T (fns27 fuel) fuel (subsOf []) (defOf Try.f27 an27 0 [] []) (fi27.vs y) (fi27.os y) (altsDec al27) = p27 fuel y := by
  rintro ⟨x1, x2⟩
  kernel_rfl
theorem ok27 (fuel : Nat) : FunOk P 27 (funOfA fi27 al27 (p27 fuel)) :=
  funOfA_ok (subs := (subsOf [])) (an := an27) (room := 0) (ks := []) (g0 := []) (fuel := fuel) T_ok (fnsOk27 fuel) mixed (fn := Try.f27) (by kernel_rfl) (by kernel_rfl) subsOk_nil (by kernel_rfl) (fun _ => ⟨by kernel_rfl, by kernel_rfl⟩) (run27 fuel)

-- f28: tontine/keys.BucketAt
def fns28 (fuel : Nat) : Fns := fnsOf [(33, F33 fuel)]
theorem fnsOk28 (fuel : Nat) : FnsOk P (fns28 fuel) := (fnsOk_cons (ok33 fuel) fnsOk_nil)
def fi28 : Fr := ⟨[.d false (.int .i64), .d false (.int .i64)], [], 0⟩
def al28 : List (Tm × List To) := [(.tup (.cons (.d true (.int .i64)) (.cons (.d true (.int .i64)) (.c .nil))), [])]
def an28 : AN := (.seq .leaf (.seq (.seq .leaf (.cond (.seq .leaf (.norm ⟨[4, 5], padK 0 []⟩ (.ret []))) .leaf)) (.seq .leaf (.norm ⟨[4, 5], padK 0 []⟩ (.ret [])))))
def p28 (fuel : Nat) : (Int × Int) → Option (Int × Int) := fun (x1, x2) => (match p33 fuel (x1, (64 : Int)) with | some z3 => (bif (!z3) then (some ((0 : Int), (1 : Int))) else (match p33 fuel (x2, (4 : Int)) with | some z4 => (bif (!z4) then (some ((0 : Int), (1 : Int))) else let v5 := (IntKind.wrap .i64 ((IntKind.wrap .i64 (x1 + (64 : Int))) - (IntKind.wrap .i64 ((16 : Int) * x2)))); (some ((Int.tmod v5 (64 : Int)), (0 : Int)))) | none => none)) | none => none)
def F28 (fuel : Nat) : Fun := funOfA fi28 al28 (p28 fuel)
theorem run28 (fuel : Nat) : ∀ y : (Int × Int), runF (Int × Int) T (fns28 fuel) fuel (subsOf []) (defOf Try.f28 an28 0 [] []) (fi28.vs y) (fi28.os y) (altsDec al28) = p28 fuel y := by
  rintro ⟨x1, x2⟩
  kernel_rfl
theorem ok28 (fuel : Nat) : FunOk P 28 (funOfA fi28 al28 (p28 fuel)) :=
  funOfA_ok (subs := (subsOf [])) (an := an28) (room := 0) (ks := []) (g0 := []) (fuel := fuel) T_ok (fnsOk28 fuel) mixed (fn := Try.f28) (by kernel_rfl) (by kernel_rfl) subsOk_nil (by kernel_rfl) (fun _ => ⟨by kernel_rfl, by kernel_rfl⟩) (run28 fuel)

-- f29: tontine/tontineref01.BucketAt
def fns29 (fuel : Nat) : Fns := fnsOf [(27, F27 fuel)]
theorem fnsOk29 (fuel : Nat) : FnsOk P (fns29 fuel) := (fnsOk_cons (ok27 fuel) fnsOk_nil)
def fi29 : Fr := ⟨[.d false (.int .i64), .d false (.int .i64)], [], 0⟩
def al29 : List (Tm × List To) := [(.tup (.cons (.d true (.int .i64)) (.cons (.d true (.int .i64)) (.c .nil))), [])]
def fx29_0 : Fr := ⟨[.d true (.int .i64), .d true (.int .i64)], [], 0⟩
def fx29_1 : Fr := ⟨[], [], 0⟩
def fr29_0 : Fr := ⟨[.d true (.int .i64), .d true (.int .i64), .d true (.int .i64)], [], 0⟩
noncomputable def c29_0 : Code := bodyAt Try.f29 [1, 0, 1, 0]
def s29_0 (fuel : Nat) {R : Type} (F : (Int × Int × Int) → Option R) (k0 : (Int × Int) → Option R) (k1 : Unit → Option R) : (Int × Int × Int) → Option R := fun (x3, x4, x5) => (bif (decide (x5 < (64 : Int))) then (match p27 fuel (x5, x4) with | some z6 => (bif (decide (z6.2 = (0 : Int))) then (bif (decide (z6.1 = x3)) then (k0 (x5, (0 : Int))) else (F (x3, x4, (IntKind.wrap .i64 (x5 + (1 : Int)))))) else (F (x3, x4, (IntKind.wrap .i64 (x5 + (1 : Int)))))) | none => none) else (k1 ()))
def l29_0 (fuel : Nat) {R : Type} (k0 : (Int × Int) → Option R) (k1 : Unit → Option R) : Nat → (Int × Int × Int) → Option R
  | 0, _ => none
  | n + 1, x => s29_0 fuel (l29_0 fuel k0 k1 n) k0 k1 x
def nm29_0 : Norm := ⟨[0, 1, 6], padK 0 []⟩
def an29_0 : AN := (.seq (.seq .leaf (.cond .leaf (.norm ⟨[], padK 0 []⟩ .leaf))) (.seq (.block (.seq .leaf (.seq .leaf (.cond (.seq .leaf (.norm ⟨[4, 5], padK 0 []⟩ (.ret []))) .leaf)))) .leaf))
def al29_0 : AN := .loop nm29_0 an29_0
noncomputable def d29_0 : Code := bodyAt Try.f29 [1, 0, 1, 0, 0]
theorem e29_0 (fuel : Nat) {R : Type} (F : St → Option R) (k : AExit → St → Option R) : ∀ x : (Int × Int × Int), runK R T (fns29 fuel) fuel [] (subsOf []) (partOf d29_0 an29_0) (fr29_0.st [0, 1, 6] x) (backTo R [] nm29_0 F k) = s29_0 fuel (fun x => F (fr29_0.st [0, 1, 6] x)) (fun y => k (.ret []) (fx29_0.st [4, 5] y)) (fun y => k (.exit 0) (fx29_1.st [] y)) x := by
  rintro ⟨x3, x4, x5⟩
  kernel_rfl
theorem u29_0 (fuel : Nat) {R : Type} (k : AExit → St → Option R) (x : (Int × Int × Int)) : runK R T (fns29 fuel) fuel [] (subsOf []) (partOf c29_0 al29_0) (fr29_0.st [0, 1, 6] x) k = l29_0 fuel (fun y => k (.ret []) (fx29_0.st [4, 5] y)) (fun y => k (.exit 0) (fx29_1.st [] y)) fuel x :=
  loop_eq (mk := fr29_0.st [0, 1, 6]) (s := fun F x => s29_0 fuel F (fun y => k (.ret []) (fx29_0.st [4, 5] y)) (fun y => k (.exit 0) (fx29_1.st [] y)) x) (l := fun n x => l29_0 fuel (fun y => k (.ret []) (fx29_0.st [4, 5] y)) (fun y => k (.exit 0) (fx29_1.st [] y)) n x) (d := d29_0) (by kernel_rfl) (fun G x => by
    revert x
    rintro ⟨x3, x4, x5⟩
    kernel_rfl) (fun F x => e29_0 fuel F k x) (fun _ => rfl) (fun _ _ => rfl) x
noncomputable def sub29_0 (fuel : Nat) (R : Type) : Sub R := Sub.of [0, 1, 6] c29_0 fr29_0 fun x k => l29_0 fuel (fun y => k (.ret []) (fx29_0.st [4, 5] y)) (fun y => k (.exit 0) (fx29_1.st [] y)) fuel x
theorem subOk29_0 (fuel : Nat) (R : Type) : SubOk P [] 27 (sub29_0 fuel R) :=
  subOk_part (fns := (fns29 fuel)) (fuel := fuel) (subs := (subsOf [])) (an := al29_0) T_ok (fnsOk29 fuel) mixed subsOk_nil (by kernel_rfl) (by kernel_rfl) fun _ _ _ _ h => Sub.of_run (fun (x : (Int × Int × Int)) k => u29_0 fuel k x) h
def an29 : AN := (.seq .leaf (.seq (.seq .leaf (.block (.hole ⟨[0, 1, 6], padK 0 []⟩ 0))) (.seq .leaf (.norm ⟨[4, 5], padK 0 []⟩ (.ret [])))))
def p29 (fuel : Nat) : (Int × Int) → Option (Int × Int) := fun (x1, x2) => (l29_0 fuel (fun (x7, x8) => (some (x7, x8))) (fun _ => (some ((0 : Int), (1 : Int)))) fuel (x1, x2, (0 : Int)))
def F29 (fuel : Nat) : Fun := funOfA fi29 al29 (p29 fuel)
theorem run29 (fuel : Nat) : ∀ y : (Int × Int), runF (Int × Int) T (fns29 fuel) fuel (subsOf [sub29_0 fuel (Int × Int)]) (defOf Try.f29 an29 0 [] []) (fi29.vs y) (fi29.os y) (altsDec al29) = p29 fuel y := by
  rintro ⟨x1, x2⟩
  kernel_rfl
theorem ok29 (fuel : Nat) : FunOk P 29 (funOfA fi29 al29 (p29 fuel)) :=
  funOfA_ok (subs := (subsOf [sub29_0 fuel (Int × Int)])) (an := an29) (room := 0) (ks := []) (g0 := []) (fuel := fuel) T_ok (fnsOk29 fuel) mixed (fn := Try.f29) (by kernel_rfl) (by kernel_rfl) (subsOk_cons (subOk29_0 fuel _) subsOk_nil) (by kernel_rfl) (fun _ => ⟨by kernel_rfl, by kernel_rfl⟩) (run29 fuel)

-- f30: tontine/keys.Homes
def fns30 (fuel : Nat) : Fns := fnsOf [(26, F26 fuel)]
theorem fnsOk30 (fuel : Nat) : FnsOk P (fns30 fuel) := (fnsOk_cons (ok26 fuel) fnsOk_nil)
def fi30 : Fr := ⟨[.d false (.int .i64)], [], 0⟩
def al30 : List (Tm × List To) := [(.tup (.cons (.d true (.arr 4 (.int .i64))) (.cons (.d true (.int .i64)) (.c .nil))), [])]
def fx30_0 : Fr := ⟨[.c (.ptr 0 0 []), .d true (.int .i64)], [.box (.d true (.arr 4 (.int .i64)))], 3⟩
def fx30_1 : Fr := ⟨[.c (.ptr 0 0 []), .c (.ptr 1 0 [])], [.box (.d true (.arr 4 (.int .i64))), .box (.d true (.arr 4 (.int .i64)))], 2⟩
def fr30_0 : Fr := ⟨[.d true (.int .i64), .c (.ptr 0 0 []), .c (.ptr 1 0 []), .d true (.int .i64)], [.box (.d true (.arr 4 (.int .i64))), .box (.d true (.arr 4 (.int .i64)))], 2⟩
noncomputable def c30_0 : Code := bodyAt Try.f30 [1, 1, 0, 1, 0]
def s30_0 (fuel : Nat) {R : Type} (F : (Int × Int × (List Int) × (List Int)) → Option R) (k0 : (Int × (List Int)) → Option R) (k1 : ((List Int) × (List Int)) → Option R) : (Int × Int × (List Int) × (List Int)) → Option R := fun (x2, x3, x4, x5) => (bif (decide (x3 < (4 : Int))) then (match p26 fuel (x2, x3) with | some z6 => (bif (!decide (z6.2 = (0 : Int))) then (k0 (z6.2, [(0 : Int), (0 : Int), (0 : Int), (0 : Int)])) else (if 0 ≤ x3 ∧ x3 < ((4 : Nat) : Int) then (match (x5)[(Int.toNat x3)]? with | some y7 => (F (x2, (IntKind.wrap .i64 (x3 + (1 : Int))), x4, (List.set x5 (Int.toNat x3) z6.1))) | none => none) else none)) | none => none) else (k1 (x4, x5)))
def l30_0 (fuel : Nat) {R : Type} (k0 : (Int × (List Int)) → Option R) (k1 : ((List Int) × (List Int)) → Option R) : Nat → (Int × Int × (List Int) × (List Int)) → Option R
  | 0, _ => none
  | n + 1, x => s30_0 fuel (l30_0 fuel k0 k1 n) k0 k1 x
def nm30_0 : Norm := ⟨[0, 2, 4, 8], padK 2 [some (0, 0), some (1, 0)]⟩
def an30_0 : AN := (.seq .leaf (.seq (.cond .leaf (.norm ⟨[2, 4], padK 2 [some (0, 0), some (1, 0)]⟩ .leaf)) (.seq (.block (.seq .leaf (.seq .leaf (.seq (.seq .leaf (.cond (.seq (.region [(2, { touch := [0], ro := false })]) (.norm ⟨[2, 3], padK 3 [some (0, 0)]⟩ (.ret []))) .leaf)) (.region [(2, { touch := [1] }), (3, { touch := [1], ro := false })]))))) .leaf)))
def al30_0 : AN := .loop nm30_0 an30_0
noncomputable def d30_0 : Code := bodyAt Try.f30 [1, 1, 0, 1, 0, 0]
theorem e30_0 (fuel : Nat) {R : Type} (F : St → Option R) (k : AExit → St → Option R) : ∀ x : (Int × Int × (List Int) × (List Int)), runK R T (fns30 fuel) fuel [] (subsOf []) (partOf d30_0 an30_0) (fr30_0.st [0, 2, 4, 8] x) (backTo R [] nm30_0 F k) = s30_0 fuel (fun x => F (fr30_0.st [0, 2, 4, 8] x)) (fun y => k (.ret []) (fx30_0.st [2, 3] y)) (fun y => k (.exit 0) (fx30_1.st [2, 4] y)) x := by
  rintro ⟨x2, x3, x4, x5⟩
  kernel_rfl
theorem u30_0 (fuel : Nat) {R : Type} (k : AExit → St → Option R) (x : (Int × Int × (List Int) × (List Int))) : runK R T (fns30 fuel) fuel [] (subsOf []) (partOf c30_0 al30_0) (fr30_0.st [0, 2, 4, 8] x) k = l30_0 fuel (fun y => k (.ret []) (fx30_0.st [2, 3] y)) (fun y => k (.exit 0) (fx30_1.st [2, 4] y)) fuel x :=
  loop_eq (mk := fr30_0.st [0, 2, 4, 8]) (s := fun F x => s30_0 fuel F (fun y => k (.ret []) (fx30_0.st [2, 3] y)) (fun y => k (.exit 0) (fx30_1.st [2, 4] y)) x) (l := fun n x => l30_0 fuel (fun y => k (.ret []) (fx30_0.st [2, 3] y)) (fun y => k (.exit 0) (fx30_1.st [2, 4] y)) n x) (d := d30_0) (by kernel_rfl) (fun G x => by
    revert x
    rintro ⟨x2, x3, x4, x5⟩
    kernel_rfl) (fun F x => e30_0 fuel F k x) (fun _ => rfl) (fun _ _ => rfl) x
noncomputable def sub30_0 (fuel : Nat) (R : Type) : Sub R := Sub.of [0, 2, 4, 8] c30_0 fr30_0 fun x k => l30_0 fuel (fun y => k (.ret []) (fx30_0.st [2, 3] y)) (fun y => k (.exit 0) (fx30_1.st [2, 4] y)) fuel x
theorem subOk30_0 (fuel : Nat) (R : Type) : SubOk P [] 26 (sub30_0 fuel R) :=
  subOk_part (fns := (fns30 fuel)) (fuel := fuel) (subs := (subsOf [])) (an := al30_0) T_ok (fnsOk30 fuel) mixed subsOk_nil (by kernel_rfl) (by kernel_rfl) fun _ _ _ _ h => Sub.of_run (fun (x : (Int × Int × (List Int) × (List Int))) k => u30_0 fuel k x) h
def an30 : AN := (.seq (.region [(0, { touch := [2], base := 2, ro := false })]) (.seq (.region [(0, { touch := [3], base := 3, ro := false })]) (.seq (.seq .leaf (.block (.hole ⟨[0, 2, 4, 8], padK 2 [some (2, 0), some (3, 0)]⟩ 0))) (.seq (.region [(0, { touch := [1] }), (1, { touch := [0], ro := false })]) (.norm ⟨[2, 3], padK 3 [some (0, 0)]⟩ (.ret []))))))
def p30 (fuel : Nat) : Int → Option ((List Int) × Int) := fun x1 => (l30_0 fuel (fun (x8, x9) => (some (x9, x8))) (fun (x10, x11) => (some (x11, (0 : Int)))) fuel (x1, (0 : Int), [(0 : Int), (0 : Int), (0 : Int), (0 : Int)], [(0 : Int), (0 : Int), (0 : Int), (0 : Int)]))
def F30 (fuel : Nat) : Fun := funOfA fi30 al30 (p30 fuel)
theorem run30 (fuel : Nat) : ∀ y : Int, runF ((List Int) × Int) T (fns30 fuel) fuel (subsOf [sub30_0 fuel ((List Int) × Int)]) (defOf Try.f30 an30 4 [] []) (fi30.vs y) (fi30.os y) (altsDec al30) = p30 fuel y := by
  rintro x1
  kernel_rfl
theorem ok30 (fuel : Nat) : FunOk P 30 (funOfA fi30 al30 (p30 fuel)) :=
  funOfA_ok (subs := (subsOf [sub30_0 fuel ((List Int) × Int)])) (an := an30) (room := 4) (ks := []) (g0 := []) (fuel := fuel) T_ok (fnsOk30 fuel) mixed (fn := Try.f30) (by kernel_rfl) (by kernel_rfl) (subsOk_cons (subOk30_0 fuel _) subsOk_nil) (by kernel_rfl) (fun _ => ⟨by kernel_rfl, by kernel_rfl⟩) (run30 fuel)

-- f31: tontine/tontineref01.Homes
def fns31 (fuel : Nat) : Fns := fnsOf [(27, F27 fuel)]
theorem fnsOk31 (fuel : Nat) : FnsOk P (fns31 fuel) := (fnsOk_cons (ok27 fuel) fnsOk_nil)
def fi31 : Fr := ⟨[.d false (.int .i64)], [], 0⟩
def al31 : List (Tm × List To) := [(.tup (.cons (.d true (.arr 4 (.int .i64))) (.cons (.d true (.int .i64)) (.c .nil))), [])]
def fx31_0 : Fr := ⟨[.c (.ptr 0 0 []), .d true (.int .i64)], [.box (.d true (.arr 4 (.int .i64)))], 3⟩
def fx31_1 : Fr := ⟨[.c (.ptr 0 0 []), .c (.ptr 1 0 [])], [.box (.d true (.arr 4 (.int .i64))), .box (.d true (.arr 4 (.int .i64)))], 2⟩
def fr31_0 : Fr := ⟨[.d true (.int .i64), .c (.ptr 0 0 []), .c (.ptr 1 0 []), .d true (.int .i64)], [.box (.d true (.arr 4 (.int .i64))), .box (.d true (.arr 4 (.int .i64)))], 2⟩
noncomputable def c31_0 : Code := bodyAt Try.f31 [1, 1, 0, 1, 0]
def s31_0 (fuel : Nat) {R : Type} (F : (Int × Int × (List Int) × (List Int)) → Option R) (k0 : (Int × (List Int)) → Option R) (k1 : ((List Int) × (List Int)) → Option R) : (Int × Int × (List Int) × (List Int)) → Option R := fun (x2, x3, x4, x5) => (bif (decide (x3 < (4 : Int))) then (match p27 fuel (x2, x3) with | some z6 => (bif (!decide (z6.2 = (0 : Int))) then (k0 (z6.2, [(0 : Int), (0 : Int), (0 : Int), (0 : Int)])) else (if 0 ≤ x3 ∧ x3 < ((4 : Nat) : Int) then (match (x5)[(Int.toNat x3)]? with | some y7 => (F (x2, (IntKind.wrap .i64 (x3 + (1 : Int))), x4, (List.set x5 (Int.toNat x3) z6.1))) | none => none) else none)) | none => none) else (k1 (x4, x5)))
def l31_0 (fuel : Nat) {R : Type} (k0 : (Int × (List Int)) → Option R) (k1 : ((List Int) × (List Int)) → Option R) : Nat → (Int × Int × (List Int) × (List Int)) → Option R
  | 0, _ => none
  | n + 1, x => s31_0 fuel (l31_0 fuel k0 k1 n) k0 k1 x
def nm31_0 : Norm := ⟨[0, 2, 4, 5], padK 2 [some (0, 0), some (1, 0)]⟩
def an31_0 : AN := (.seq (.seq .leaf (.cond .leaf (.norm ⟨[2, 4], padK 2 [some (0, 0), some (1, 0)]⟩ .leaf))) (.seq (.block (.seq .leaf (.seq (.seq .leaf (.cond (.seq (.region [(2, { touch := [0], ro := false })]) (.norm ⟨[2, 3], padK 3 [some (0, 0)]⟩ (.ret []))) .leaf)) (.region [(2, { touch := [1] }), (3, { touch := [1], ro := false })])))) .leaf))
def al31_0 : AN := .loop nm31_0 an31_0
noncomputable def d31_0 : Code := bodyAt Try.f31 [1, 1, 0, 1, 0, 0]
theorem e31_0 (fuel : Nat) {R : Type} (F : St → Option R) (k : AExit → St → Option R) : ∀ x : (Int × Int × (List Int) × (List Int)), runK R T (fns31 fuel) fuel [] (subsOf []) (partOf d31_0 an31_0) (fr31_0.st [0, 2, 4, 5] x) (backTo R [] nm31_0 F k) = s31_0 fuel (fun x => F (fr31_0.st [0, 2, 4, 5] x)) (fun y => k (.ret []) (fx31_0.st [2, 3] y)) (fun y => k (.exit 0) (fx31_1.st [2, 4] y)) x := by
  rintro ⟨x2, x3, x4, x5⟩
  kernel_rfl
theorem u31_0 (fuel : Nat) {R : Type} (k : AExit → St → Option R) (x : (Int × Int × (List Int) × (List Int))) : runK R T (fns31 fuel) fuel [] (subsOf []) (partOf c31_0 al31_0) (fr31_0.st [0, 2, 4, 5] x) k = l31_0 fuel (fun y => k (.ret []) (fx31_0.st [2, 3] y)) (fun y => k (.exit 0) (fx31_1.st [2, 4] y)) fuel x :=
  loop_eq (mk := fr31_0.st [0, 2, 4, 5]) (s := fun F x => s31_0 fuel F (fun y => k (.ret []) (fx31_0.st [2, 3] y)) (fun y => k (.exit 0) (fx31_1.st [2, 4] y)) x) (l := fun n x => l31_0 fuel (fun y => k (.ret []) (fx31_0.st [2, 3] y)) (fun y => k (.exit 0) (fx31_1.st [2, 4] y)) n x) (d := d31_0) (by kernel_rfl) (fun G x => by
    revert x
    rintro ⟨x2, x3, x4, x5⟩
    kernel_rfl) (fun F x => e31_0 fuel F k x) (fun _ => rfl) (fun _ _ => rfl) x
noncomputable def sub31_0 (fuel : Nat) (R : Type) : Sub R := Sub.of [0, 2, 4, 5] c31_0 fr31_0 fun x k => l31_0 fuel (fun y => k (.ret []) (fx31_0.st [2, 3] y)) (fun y => k (.exit 0) (fx31_1.st [2, 4] y)) fuel x
theorem subOk31_0 (fuel : Nat) (R : Type) : SubOk P [] 26 (sub31_0 fuel R) :=
  subOk_part (fns := (fns31 fuel)) (fuel := fuel) (subs := (subsOf [])) (an := al31_0) T_ok (fnsOk31 fuel) mixed subsOk_nil (by kernel_rfl) (by kernel_rfl) fun _ _ _ _ h => Sub.of_run (fun (x : (Int × Int × (List Int) × (List Int))) k => u31_0 fuel k x) h
def an31 : AN := (.seq (.region [(0, { touch := [2], base := 2, ro := false })]) (.seq (.region [(0, { touch := [3], base := 3, ro := false })]) (.seq (.seq .leaf (.block (.hole ⟨[0, 2, 4, 5], padK 2 [some (2, 0), some (3, 0)]⟩ 0))) (.seq (.region [(0, { touch := [1] }), (1, { touch := [0], ro := false })]) (.norm ⟨[2, 3], padK 3 [some (0, 0)]⟩ (.ret []))))))
def p31 (fuel : Nat) : Int → Option ((List Int) × Int) := fun x1 => (l31_0 fuel (fun (x8, x9) => (some (x9, x8))) (fun (x10, x11) => (some (x11, (0 : Int)))) fuel (x1, (0 : Int), [(0 : Int), (0 : Int), (0 : Int), (0 : Int)], [(0 : Int), (0 : Int), (0 : Int), (0 : Int)]))
def F31 (fuel : Nat) : Fun := funOfA fi31 al31 (p31 fuel)
theorem run31 (fuel : Nat) : ∀ y : Int, runF ((List Int) × Int) T (fns31 fuel) fuel (subsOf [sub31_0 fuel ((List Int) × Int)]) (defOf Try.f31 an31 4 [] []) (fi31.vs y) (fi31.os y) (altsDec al31) = p31 fuel y := by
  rintro x1
  kernel_rfl
theorem ok31 (fuel : Nat) : FunOk P 31 (funOfA fi31 al31 (p31 fuel)) :=
  funOfA_ok (subs := (subsOf [sub31_0 fuel ((List Int) × Int)])) (an := an31) (room := 4) (ks := []) (g0 := []) (fuel := fuel) T_ok (fnsOk31 fuel) mixed (fn := Try.f31) (by kernel_rfl) (by kernel_rfl) (subsOk_cons (subOk31_0 fuel _) subsOk_nil) (by kernel_rfl) (fun _ => ⟨by kernel_rfl, by kernel_rfl⟩) (run31 fuel)

-- f7: tontine/tontinelaw01.KeysPlaces
def fns7 (fuel : Nat) : Fns := fnsOf [(20, F20 fuel), (25, F25 fuel), (26, F26 fuel), (27, F27 fuel), (28, F28 fuel), (29, F29 fuel), (30, F30 fuel), (31, F31 fuel), (11, F11 fuel)]
theorem fnsOk7 (fuel : Nat) : FnsOk P (fns7 fuel) := (fnsOk_cons (ok20 fuel) (fnsOk_cons (ok25 fuel) (fnsOk_cons (ok26 fuel) (fnsOk_cons (ok27 fuel) (fnsOk_cons (ok28 fuel) (fnsOk_cons (ok29 fuel) (fnsOk_cons (ok30 fuel) (fnsOk_cons (ok31 fuel) (fnsOk_cons (ok11 fuel) fnsOk_nil)))))))))
def fi7 : Fr := ⟨[.d false (.pair (.int .u64) (.int .u64)), .d false (.int .i64), .d false (.int .i64)], [], 0⟩
def al7 : List (Tm × List To) := [(.d true (.bool), [])]
def an7 : AN := (.seq (.region [(0, { touch := [0], ro := false })]) (.seq (.region [(0, { touch := [0] }), (6, { touch := [1], base := 1, ro := false }), (7, { touch := [1], ro := false })]) (.seq (.region [(0, { touch := [0] }), (6, { touch := [2], base := 2, ro := false }), (7, { touch := [2], ro := false })]) (.seq .leaf (.seq .leaf (.seq .leaf (.seq .leaf (.seq (.region [(5, { touch := [3], base := 3, ro := false }), (6, { touch := [3], ro := false })]) (.seq (.region [(5, { touch := [4], base := 4, ro := false }), (6, { touch := [4], ro := false })]) (.seq (.region [(2, { touch := [1] }), (3, { touch := [2] }), (32, { touch := [3] }), (33, { touch := [4] })]) (.norm ⟨[6], padK 5 []⟩ (.ret []))))))))))))
def p7 (fuel : Nat) : ((Int × Int) × Int × Int) → Option Bool := fun (x1, x2, x3) => (match p20 fuel (x1, x3) with | some z4 => (match p25 fuel (x1, x3) with | some z5 => (match p26 fuel (x2, x3) with | some z6 => (match p27 fuel (x2, x3) with | some z7 => (match p28 fuel (x2, x3) with | some z8 => (match p29 fuel (x2, x3) with | some z9 => (match p30 fuel x2 with | some z10 => (match p31 fuel x2 with | some z11 => (match p11 fuel () with | some z12 => (bif z12 then (bif (Ty.eqB (.pair (.int .u64) (.int .u64)) z4.1 z5.1) then (bif (decide (z4.2 = z5.2)) then (bif (decide (z6.1 = z7.1)) then (bif (decide (z6.2 = z7.2)) then (bif (decide (z8.1 = z9.1)) then (bif (decide (z8.2 = z9.2)) then (bif (Ty.eqB (.arr 4 (.int .i64)) z10.1 z11.1) then (some (decide (z10.2 = z11.2))) else (some false)) else (some false)) else (some false)) else (some false)) else (some false)) else (some false)) else (some false)) else (some false)) | none => none) | none => none) | none => none) | none => none) | none => none) | none => none) | none => none) | none => none) | none => none)
def F7 (fuel : Nat) : Fun := funOfA fi7 al7 (p7 fuel)
theorem run7 (fuel : Nat) : ∀ y : ((Int × Int) × Int × Int), runF Bool T (fns7 fuel) fuel (subsOf []) (defOf Try.f7 an7 5 [] []) (fi7.vs y) (fi7.os y) (altsDec al7) = p7 fuel y := by
  rintro ⟨x1, x2, x3⟩
  kernel_rfl
theorem ok7 (fuel : Nat) : FunOk P 7 (funOfA fi7 al7 (p7 fuel)) :=
  funOfA_ok (subs := (subsOf [])) (an := an7) (room := 5) (ks := []) (g0 := []) (fuel := fuel) T_ok (fnsOk7 fuel) mixed (fn := Try.f7) (by kernel_rfl) (by kernel_rfl) subsOk_nil (by kernel_rfl) (fun _ => ⟨by kernel_rfl, by kernel_rfl⟩) (run7 fuel)

-- f8: tontine/tontinelaw01.KeysFour
def fns8 (fuel : Nat) : Fns := fnsOf [(17, F17 fuel), (30, F30 fuel), (11, F11 fuel), (20, F20 fuel), (28, F28 fuel), (26, F26 fuel)]
theorem fnsOk8 (fuel : Nat) : FnsOk P (fns8 fuel) := (fnsOk_cons (ok17 fuel) (fnsOk_cons (ok30 fuel) (fnsOk_cons (ok11 fuel) (fnsOk_cons (ok20 fuel) (fnsOk_cons (ok28 fuel) (fnsOk_cons (ok26 fuel) fnsOk_nil))))))
def fi8 : Fr := ⟨[.d false (.pair (.int .u64) (.int .u64)), .d false (.int .i64)], [], 0⟩
def al8 : List (Tm × List To) := [(.d true (.bool), [])]
def fx8_0 : Fr := ⟨[.d true (.bool)], [], 5⟩
def fx8_1 : Fr := ⟨[.d true (.int .i64), .c (.ptr 0 0 []), .c (.ptr 1 0 []), .d true (.int .i64)], [.box (.d true (.pair (.int .u64) (.int .u64))), .box (.d true (.arr 4 (.int .i64)))], 3⟩
def fr8_0 : Fr := ⟨[.d true (.int .i64), .c (.ptr 0 0 []), .c (.ptr 1 0 []), .d true (.int .i64), .d true (.int .i64)], [.box (.d true (.pair (.int .u64) (.int .u64))), .box (.d true (.arr 4 (.int .i64)))], 3⟩
noncomputable def c8_0 : Code := bodyAt Try.f8 [1, 1, 1, 0, 1, 0, 0, 1, 0, 0, 1, 1, 1, 1, 0]
def s8_0 (fuel : Nat) {R : Type} (F : (Int × Int × Int × (Int × Int) × (List Int)) → Option R) (k0 : Bool → Option R) (k1 : (Int × Int × (Int × Int) × (List Int)) → Option R) : (Int × Int × Int × (Int × Int) × (List Int)) → Option R := fun (x16, x17, x18, x19, x20) => (bif (decide (x18 < x17)) then (if 0 ≤ x18 ∧ x18 < ((4 : Nat) : Int) then (match (x20)[(Int.toNat x18)]? with | some y21 => (if 0 ≤ x17 ∧ x17 < ((4 : Nat) : Int) then (match (x20)[(Int.toNat x17)]? with | some y22 => (bif (decide (y21 = y22)) then (k0 false) else (F (x16, x17, (IntKind.wrap .i64 (x18 + (1 : Int))), x19, x20))) | none => none) else none) | none => none) else none) else (k1 (x16, x17, x19, x20)))
def l8_0 (fuel : Nat) {R : Type} (k0 : Bool → Option R) (k1 : (Int × Int × (Int × Int) × (List Int)) → Option R) : Nat → (Int × Int × Int × (Int × Int) × (List Int)) → Option R
  | 0, _ => none
  | n + 1, x => s8_0 fuel (l8_0 fuel k0 k1 n) k0 k1 x
def nm8_0 : Norm := ⟨[1, 2, 5, 7, 12], padK 3 [some (0, 0), some (1, 0)]⟩
def an8_0 : AN := (.seq (.seq .leaf (.cond .leaf (.norm ⟨[1, 2, 5, 7], padK 3 [some (0, 0), some (1, 0)]⟩ .leaf))) (.seq (.block (.seq (.region [(1, { touch := [1] }), (2, { touch := [1] }), (4, { touch := [1] }), (5, { touch := [1] })]) (.cond (.seq .leaf (.norm ⟨[4], padK 5 []⟩ (.ret []))) .leaf))) .leaf))
def al8_0 : AN := .loop nm8_0 an8_0
noncomputable def d8_0 : Code := bodyAt Try.f8 [1, 1, 1, 0, 1, 0, 0, 1, 0, 0, 1, 1, 1, 1, 0, 0]
theorem e8_0 (fuel : Nat) {R : Type} (F : St → Option R) (k : AExit → St → Option R) : ∀ x : (Int × Int × Int × (Int × Int) × (List Int)), runK R T (fns8 fuel) fuel [] (subsOf []) (partOf d8_0 an8_0) (fr8_0.st [1, 2, 5, 7, 12] x) (backTo R [] nm8_0 F k) = s8_0 fuel (fun x => F (fr8_0.st [1, 2, 5, 7, 12] x)) (fun y => k (.ret []) (fx8_0.st [4] y)) (fun y => k (.exit 2) (fx8_1.st [1, 2, 5, 7] y)) x := by
  rintro ⟨x16, x17, x18, x19, x20⟩
  kernel_rfl
theorem u8_0 (fuel : Nat) {R : Type} (k : AExit → St → Option R) (x : (Int × Int × Int × (Int × Int) × (List Int))) : runK R T (fns8 fuel) fuel [] (subsOf []) (partOf c8_0 al8_0) (fr8_0.st [1, 2, 5, 7, 12] x) k = l8_0 fuel (fun y => k (.ret []) (fx8_0.st [4] y)) (fun y => k (.exit 2) (fx8_1.st [1, 2, 5, 7] y)) fuel x :=
  loop_eq (mk := fr8_0.st [1, 2, 5, 7, 12]) (s := fun F x => s8_0 fuel F (fun y => k (.ret []) (fx8_0.st [4] y)) (fun y => k (.exit 2) (fx8_1.st [1, 2, 5, 7] y)) x) (l := fun n x => l8_0 fuel (fun y => k (.ret []) (fx8_0.st [4] y)) (fun y => k (.exit 2) (fx8_1.st [1, 2, 5, 7] y)) n x) (d := d8_0) (by kernel_rfl) (fun G x => by
    revert x
    rintro ⟨x16, x17, x18, x19, x20⟩
    kernel_rfl) (fun F x => e8_0 fuel F k x) (fun _ => rfl) (fun _ _ => rfl) x
noncomputable def sub8_0 (fuel : Nat) (R : Type) : Sub R := Sub.of [1, 2, 5, 7, 12] c8_0 fr8_0 fun x k => l8_0 fuel (fun y => k (.ret []) (fx8_0.st [4] y)) (fun y => k (.exit 2) (fx8_1.st [1, 2, 5, 7] y)) fuel x
theorem subOk8_0 (fuel : Nat) (R : Type) : SubOk P [] 114 (sub8_0 fuel R) :=
  subOk_part (fns := (fns8 fuel)) (fuel := fuel) (subs := (subsOf [])) (an := al8_0) T_ok (fnsOk8 fuel) mixed subsOk_nil (by kernel_rfl) (by kernel_rfl) fun _ _ _ _ h => Sub.of_run (fun (x : (Int × Int × Int × (Int × Int) × (List Int))) k => u8_0 fuel k x) h
def fx8_2 : Fr := ⟨[.d true (.int .i64)], [], 5⟩
def fr8_1 : Fr := ⟨[.d true (.int .i64), .c (.ptr 0 0 []), .c (.ptr 1 0 []), .d true (.int .i64)], [.box (.d true (.pair (.int .u64) (.int .u64))), .box (.d true (.arr 4 (.int .i64)))], 3⟩
noncomputable def c8_1 : Code := bodyAt Try.f8 [1, 1, 1, 0, 1, 0]
def s8_1 (fuel : Nat) {R : Type} (F : (Int × Int × (Int × Int) × (List Int)) → Option R) (k0 : Bool → Option R) (k1 : Int → Option R) : (Int × Int × (Int × Int) × (List Int)) → Option R := fun (x6, x7, x8, x9) => (bif (decide (x7 < (4 : Int))) then (match p20 fuel (x8, x7) with | some z10 => (if 0 ≤ x7 ∧ x7 < ((4 : Nat) : Int) then (match (x9)[(Int.toNat x7)]? with | some y11 => (match p28 fuel (y11, x7) with | some z12 => (bif (!decide (z10.2 = (0 : Int))) then (k0 false) else (match p17 fuel z10.1 with | some z13 => (if 0 ≤ x7 ∧ x7 < ((4 : Nat) : Int) then (match (x9)[(Int.toNat x7)]? with | some y14 => (bif (!decide (z13 = y14)) then (k0 false) else (bif (!decide (z12.2 = (0 : Int))) then (k0 false) else (match p17 fuel x8 with | some z15 => (bif (!decide (z12.1 = z15)) then (k0 false) else (l8_0 fuel (fun x23 => (k0 x23)) (fun (x24, x25, x26, x27) => (F (x24, (IntKind.wrap .i64 (x25 + (1 : Int))), x26, x27))) fuel (x6, x7, (0 : Int), x8, x9))) | none => none))) | none => none) else none) | none => none)) | none => none) | none => none) else none) | none => none) else (k1 x6))
def l8_1 (fuel : Nat) {R : Type} (k0 : Bool → Option R) (k1 : Int → Option R) : Nat → (Int × Int × (Int × Int) × (List Int)) → Option R
  | 0, _ => none
  | n + 1, x => s8_1 fuel (l8_1 fuel k0 k1 n) k0 k1 x
def nm8_1 : Norm := ⟨[1, 2, 5, 7], padK 3 [some (0, 0), some (1, 0)]⟩
def an8_1 : AN := (.seq (.seq .leaf (.cond .leaf (.norm ⟨[1], padK 5 []⟩ .leaf))) (.seq (.block (.seq (.region [(0, { touch := [0] }), (6, { touch := [4], base := 4, ro := false }), (7, { touch := [4], ro := false })]) (.seq (.region [(1, { touch := [1] }), (2, { touch := [1] })]) (.seq (.seq (.region [(3, { touch := [4] }), (6, { touch := [1] }), (7, { touch := [1] }), (16, { touch := [0] })]) (.cond (.seq .leaf (.norm ⟨[4], padK 5 []⟩ (.ret []))) .leaf)) (.seq .leaf (.block (.hole ⟨[1, 2, 5, 7, 12], padK 3 [some (0, 0), some (1, 0)]⟩ 0))))))) .leaf))
def al8_1 : AN := .loop nm8_1 an8_1
noncomputable def d8_1 : Code := bodyAt Try.f8 [1, 1, 1, 0, 1, 0, 0]
theorem e8_1 (fuel : Nat) {R : Type} (F : St → Option R) (k : AExit → St → Option R) : ∀ x : (Int × Int × (Int × Int) × (List Int)), runK R T (fns8 fuel) fuel [] (subsOf [sub8_0 fuel R]) (partOf d8_1 an8_1) (fr8_1.st [1, 2, 5, 7] x) (backTo R [] nm8_1 F k) = s8_1 fuel (fun x => F (fr8_1.st [1, 2, 5, 7] x)) (fun y => k (.ret []) (fx8_0.st [4] y)) (fun y => k (.exit 0) (fx8_2.st [1] y)) x := by
  rintro ⟨x6, x7, x8, x9⟩
  kernel_rfl
theorem u8_1 (fuel : Nat) {R : Type} (k : AExit → St → Option R) (x : (Int × Int × (Int × Int) × (List Int))) : runK R T (fns8 fuel) fuel [] (subsOf [sub8_0 fuel R]) (partOf c8_1 al8_1) (fr8_1.st [1, 2, 5, 7] x) k = l8_1 fuel (fun y => k (.ret []) (fx8_0.st [4] y)) (fun y => k (.exit 0) (fx8_2.st [1] y)) fuel x :=
  loop_eq (mk := fr8_1.st [1, 2, 5, 7]) (s := fun F x => s8_1 fuel F (fun y => k (.ret []) (fx8_0.st [4] y)) (fun y => k (.exit 0) (fx8_2.st [1] y)) x) (l := fun n x => l8_1 fuel (fun y => k (.ret []) (fx8_0.st [4] y)) (fun y => k (.exit 0) (fx8_2.st [1] y)) n x) (d := d8_1) (by kernel_rfl) (fun G x => by
    revert x
    rintro ⟨x6, x7, x8, x9⟩
    kernel_rfl) (fun F x => e8_1 fuel F k x) (fun _ => rfl) (fun _ _ => rfl) x
noncomputable def sub8_1 (fuel : Nat) (R : Type) : Sub R := Sub.of [1, 2, 5, 7] c8_1 fr8_1 fun x k => l8_1 fuel (fun y => k (.ret []) (fx8_0.st [4] y)) (fun y => k (.exit 0) (fx8_2.st [1] y)) fuel x
theorem subOk8_1 (fuel : Nat) (R : Type) : SubOk P [] 114 (sub8_1 fuel R) :=
  subOk_part (fns := (fns8 fuel)) (fuel := fuel) (subs := (subsOf [sub8_0 fuel R])) (an := al8_1) T_ok (fnsOk8 fuel) mixed (subsOk_cons (subOk8_0 fuel R) subsOk_nil) (by kernel_rfl) (by kernel_rfl) fun _ _ _ _ h => Sub.of_run (fun (x : (Int × Int × (Int × Int) × (List Int))) k => u8_1 fuel k x) h
def fx8_3 : Fr := ⟨[], [], 5⟩
def fr8_2 : Fr := ⟨[.d true (.int .i64), .d true (.int .i64)], [], 5⟩
noncomputable def c8_2 : Code := bodyAt Try.f8 [1, 1, 1, 1, 1, 1, 0, 1, 0]
def s8_2 (fuel : Nat) {R : Type} (F : (Int × Int) → Option R) (k0 : Bool → Option R) (k1 : Unit → Option R) : (Int × Int) → Option R := fun (x31, x32) => (bif (decide (x32 < (4 : Int))) then (match p28 fuel (x31, x32) with | some z33 => (match p26 fuel (z33.1, x32) with | some z34 => (bif (!decide (z33.2 = (0 : Int))) then (k0 false) else (bif (!decide (z34.2 = (0 : Int))) then (k0 false) else (bif (!decide (z34.1 = x31)) then (k0 false) else (F (x31, (IntKind.wrap .i64 (x32 + (1 : Int)))))))) | none => none) | none => none) else (k1 ()))
def l8_2 (fuel : Nat) {R : Type} (k0 : Bool → Option R) (k1 : Unit → Option R) : Nat → (Int × Int) → Option R
  | 0, _ => none
  | n + 1, x => s8_2 fuel (l8_2 fuel k0 k1 n) k0 k1 x
def nm8_2 : Norm := ⟨[1, 13], padK 5 []⟩
def an8_2 : AN := (.seq (.seq .leaf (.cond .leaf (.norm ⟨[], padK 5 []⟩ .leaf))) (.seq (.block (.seq .leaf (.seq .leaf (.seq .leaf (.cond (.seq .leaf (.norm ⟨[4], padK 5 []⟩ (.ret []))) .leaf))))) .leaf))
def al8_2 : AN := .loop nm8_2 an8_2
noncomputable def d8_2 : Code := bodyAt Try.f8 [1, 1, 1, 1, 1, 1, 0, 1, 0, 0]
theorem e8_2 (fuel : Nat) {R : Type} (F : St → Option R) (k : AExit → St → Option R) : ∀ x : (Int × Int), runK R T (fns8 fuel) fuel [] (subsOf [sub8_0 fuel R, sub8_1 fuel R]) (partOf d8_2 an8_2) (fr8_2.st [1, 13] x) (backTo R [] nm8_2 F k) = s8_2 fuel (fun x => F (fr8_2.st [1, 13] x)) (fun y => k (.ret []) (fx8_0.st [4] y)) (fun y => k (.exit 4) (fx8_3.st [] y)) x := by
  rintro ⟨x31, x32⟩
  kernel_rfl
theorem u8_2 (fuel : Nat) {R : Type} (k : AExit → St → Option R) (x : (Int × Int)) : runK R T (fns8 fuel) fuel [] (subsOf [sub8_0 fuel R, sub8_1 fuel R]) (partOf c8_2 al8_2) (fr8_2.st [1, 13] x) k = l8_2 fuel (fun y => k (.ret []) (fx8_0.st [4] y)) (fun y => k (.exit 4) (fx8_3.st [] y)) fuel x :=
  loop_eq (mk := fr8_2.st [1, 13]) (s := fun F x => s8_2 fuel F (fun y => k (.ret []) (fx8_0.st [4] y)) (fun y => k (.exit 4) (fx8_3.st [] y)) x) (l := fun n x => l8_2 fuel (fun y => k (.ret []) (fx8_0.st [4] y)) (fun y => k (.exit 4) (fx8_3.st [] y)) n x) (d := d8_2) (by kernel_rfl) (fun G x => by
    revert x
    rintro ⟨x31, x32⟩
    kernel_rfl) (fun F x => e8_2 fuel F k x) (fun _ => rfl) (fun _ _ => rfl) x
noncomputable def sub8_2 (fuel : Nat) (R : Type) : Sub R := Sub.of [1, 13] c8_2 fr8_2 fun x k => l8_2 fuel (fun y => k (.ret []) (fx8_0.st [4] y)) (fun y => k (.exit 4) (fx8_3.st [] y)) fuel x
theorem subOk8_2 (fuel : Nat) (R : Type) : SubOk P [] 114 (sub8_2 fuel R) :=
  subOk_part (fns := (fns8 fuel)) (fuel := fuel) (subs := (subsOf [sub8_0 fuel R, sub8_1 fuel R])) (an := al8_2) T_ok (fnsOk8 fuel) mixed (subsOk_cons (subOk8_0 fuel R) (subsOk_cons (subOk8_1 fuel R) subsOk_nil)) (by kernel_rfl) (by kernel_rfl) fun _ _ _ _ h => Sub.of_run (fun (x : (Int × Int)) k => u8_2 fuel k x) h
def fr8_3 : Fr := ⟨[.d true (.int .i64)], [], 5⟩
noncomputable def c8_3 : Code := bodyAt Try.f8 [1, 1, 1, 1, 1]
def j8_3 (fuel : Nat) {R : Type} (k0 : Bool → Option R) : Int → Option R := fun x30 => (l8_2 fuel (fun x35 => (k0 x35)) (fun _ => (k0 true)) fuel ((Int.tmod x30 (64 : Int)), (0 : Int)))
def al8_3 : AN := (.seq .leaf (.seq (.seq .leaf (.block (.hole ⟨[1, 13], padK 5 []⟩ 2))) (.seq .leaf (.norm ⟨[4], padK 5 []⟩ (.ret [])))))
theorem u8_3 (fuel : Nat) {R : Type} (k : AExit → St → Option R) : ∀ x : Int, runK R T (fns8 fuel) fuel [] (subsOf [sub8_0 fuel R, sub8_1 fuel R, sub8_2 fuel R]) (partOf c8_3 al8_3) (fr8_3.st [1] x) k = j8_3 fuel (fun y => k (.ret []) (fx8_0.st [4] y)) x := by
  rintro x30
  kernel_rfl
noncomputable def sub8_3 (fuel : Nat) (R : Type) : Sub R := Sub.of [1] c8_3 fr8_3 fun x k => j8_3 fuel (fun y => k (.ret []) (fx8_0.st [4] y)) x
theorem subOk8_3 (fuel : Nat) (R : Type) : SubOk P [] 114 (sub8_3 fuel R) :=
  subOk_part (fns := (fns8 fuel)) (fuel := fuel) (subs := (subsOf [sub8_0 fuel R, sub8_1 fuel R, sub8_2 fuel R])) (an := al8_3) T_ok (fnsOk8 fuel) mixed (subsOk_cons (subOk8_0 fuel R) (subsOk_cons (subOk8_1 fuel R) (subsOk_cons (subOk8_2 fuel R) subsOk_nil))) (by kernel_rfl) (by kernel_rfl) fun _ _ _ _ h => Sub.of_run (fun (x : Int) k => u8_3 fuel k x) h
def an8 : AN := (.seq (.region [(0, { touch := [2], base := 2, ro := false })]) (.seq (.region [(0, { touch := [2] }), (6, { touch := [3], base := 3, ro := false }), (7, { touch := [3], ro := false })]) (.seq (.seq .leaf (.cond (.seq .leaf (.norm ⟨[4], padK 5 []⟩ (.ret []))) .leaf)) (.seq (.seq .leaf (.block (.hole ⟨[1, 2, 5, 7], padK 3 [some (2, 0), some (3, 0)]⟩ 1))) (.seq (.seq .leaf (.cond (.fin ⟨[1], padK 5 []⟩ .leaf) (.fin ⟨[1], padK 5 []⟩ .leaf))) (.hole ⟨[1], padK 5 []⟩ 3))))))
def p8 (fuel : Nat) : ((Int × Int) × Int) → Option Bool := fun (x1, x2) => (match p17 fuel x1 with | some z3 => (match p30 fuel z3 with | some z4 => (match p11 fuel () with | some z5 => (bif (!z5) then (some false) else (bif (!decide (z4.2 = (0 : Int))) then (some false) else (l8_1 fuel (fun x28 => (some x28)) (fun x29 => (bif (decide (x29 < (0 : Int))) then (j8_3 fuel (fun x36 => (some x36)) (IntKind.wrap .i64 (0 - (IntKind.wrap .i64 (x29 + (1 : Int)))))) else (j8_3 fuel (fun x37 => (some x37)) x29))) fuel (x2, (0 : Int), x1, z4.1)))) | none => none) | none => none) | none => none)
def F8 (fuel : Nat) : Fun := funOfA fi8 al8 (p8 fuel)
theorem run8 (fuel : Nat) : ∀ y : ((Int × Int) × Int), runF Bool T (fns8 fuel) fuel (subsOf [sub8_0 fuel Bool, sub8_1 fuel Bool, sub8_2 fuel Bool, sub8_3 fuel Bool]) (defOf Try.f8 an8 5 [] []) (fi8.vs y) (fi8.os y) (altsDec al8) = p8 fuel y := by
  rintro ⟨x1, x2⟩
  kernel_rfl
theorem ok8 (fuel : Nat) : FunOk P 8 (funOfA fi8 al8 (p8 fuel)) :=
  funOfA_ok (subs := (subsOf [sub8_0 fuel Bool, sub8_1 fuel Bool, sub8_2 fuel Bool, sub8_3 fuel Bool])) (an := an8) (room := 5) (ks := []) (g0 := []) (fuel := fuel) T_ok (fnsOk8 fuel) mixed (fn := Try.f8) (by kernel_rfl) (by kernel_rfl) (subsOk_cons (subOk8_0 fuel _) (subsOk_cons (subOk8_1 fuel _) (subsOk_cons (subOk8_2 fuel _) (subsOk_cons (subOk8_3 fuel _) subsOk_nil)))) (by kernel_rfl) (fun _ => ⟨by kernel_rfl, by kernel_rfl⟩) (run8 fuel)

-- f36: cmp.isNaN[uint64]
def fns36 (fuel : Nat) : Fns := fnsOf []
theorem fnsOk36 (fuel : Nat) : FnsOk P (fns36 fuel) := fnsOk_nil
def fi36 : Fr := ⟨[.d false (.int .u64)], [], 0⟩
def al36 : List (Tm × List To) := [(.d true (.bool), [])]
def an36 : AN := (.seq .leaf (.seq .leaf (.norm ⟨[2], padK 0 []⟩ (.ret []))))
def p36 (fuel : Nat) : Int → Option Bool := fun x1 => (some (!decide (x1 = x1)))
def F36 (fuel : Nat) : Fun := funOfA fi36 al36 (p36 fuel)
theorem run36 (fuel : Nat) : ∀ y : Int, runF Bool T (fns36 fuel) fuel (subsOf []) (defOf Try.f36 an36 0 [] []) (fi36.vs y) (fi36.os y) (altsDec al36) = p36 fuel y := by
  rintro x1
  kernel_rfl
theorem ok36 (fuel : Nat) : FunOk P 36 (funOfA fi36 al36 (p36 fuel)) :=
  funOfA_ok (subs := (subsOf [])) (an := an36) (room := 0) (ks := []) (g0 := []) (fuel := fuel) T_ok (fnsOk36 fuel) mixed (fn := Try.f36) (by kernel_rfl) (by kernel_rfl) subsOk_nil (by kernel_rfl) (fun _ => ⟨by kernel_rfl, by kernel_rfl⟩) (run36 fuel)

-- f35: cmp.Compare[uint64]
def fns35 (fuel : Nat) : Fns := fnsOf [(36, F36 fuel)]
theorem fnsOk35 (fuel : Nat) : FnsOk P (fns35 fuel) := (fnsOk_cons (ok36 fuel) fnsOk_nil)
def fi35 : Fr := ⟨[.d false (.int .u64), .d false (.int .u64)], [], 0⟩
def al35 : List (Tm × List To) := [(.d true (.int .i64), [])]
def an35 : AN := (.seq .leaf (.seq .leaf (.seq .leaf (.seq (.seq .leaf (.cond (.seq (.seq .leaf (.cond (.seq .leaf (.norm ⟨[4], padK 0 []⟩ (.ret []))) .leaf)) (.seq .leaf (.norm ⟨[4], padK 0 []⟩ (.ret [])))) .leaf)) (.seq (.seq .leaf (.cond (.seq .leaf (.norm ⟨[4], padK 0 []⟩ (.ret []))) .leaf)) (.seq (.seq .leaf (.cond (.seq .leaf (.norm ⟨[4], padK 0 []⟩ (.ret []))) .leaf)) (.seq (.seq .leaf (.cond (.seq .leaf (.norm ⟨[4], padK 0 []⟩ (.ret []))) .leaf)) (.seq .leaf (.norm ⟨[4], padK 0 []⟩ (.ret []))))))))))
def p35 (fuel : Nat) : (Int × Int) → Option Int := fun (x1, x2) => (match p36 fuel x1 with | some z3 => (match p36 fuel x2 with | some z4 => (bif z3 then (bif z4 then (some (0 : Int)) else (some (-1 : Int))) else (bif z4 then (some (1 : Int)) else (bif (decide (x1 < x2)) then (some (-1 : Int)) else (bif (decide (x2 < x1)) then (some (1 : Int)) else (some (0 : Int)))))) | none => none) | none => none)
def F35 (fuel : Nat) : Fun := funOfA fi35 al35 (p35 fuel)
theorem run35 (fuel : Nat) : ∀ y : (Int × Int), runF Int T (fns35 fuel) fuel (subsOf []) (defOf Try.f35 an35 0 [] []) (fi35.vs y) (fi35.os y) (altsDec al35) = p35 fuel y := by
  rintro ⟨x1, x2⟩
  kernel_rfl
theorem ok35 (fuel : Nat) : FunOk P 35 (funOfA fi35 al35 (p35 fuel)) :=
  funOfA_ok (subs := (subsOf [])) (an := an35) (room := 0) (ks := []) (g0 := []) (fuel := fuel) T_ok (fnsOk35 fuel) mixed (fn := Try.f35) (by kernel_rfl) (by kernel_rfl) subsOk_nil (by kernel_rfl) (fun _ => ⟨by kernel_rfl, by kernel_rfl⟩) (run35 fuel)

-- f34: cmp.Or[int]
def fns34 (fuel : Nat) : Fns := fnsOf []
theorem fnsOk34 (fuel : Nat) : FnsOk P (fns34 fuel) := fnsOk_nil
def fi34 : Fr := ⟨[.d false (.slice (.int .i64))], [], 0⟩
def al34 : List (Tm × List To) := [(.d true (.int .i64), [])]
def fx34_0 : Fr := ⟨[.d true (.int .i64)], [], 0⟩
def fx34_1 : Fr := ⟨[.d true (.int .i64)], [], 0⟩
def fr34_0 : Fr := ⟨[.d true (.int .i64), .d false (.slice (.int .i64)), .d true (.int .i64), .d true (.int .i64)], [], 0⟩
noncomputable def c34_0 : Code := bodyAt Try.f34 [1, 1, 0, 1, 0]
def s34_0 (fuel : Nat) {R : Type} (F : (Int × (List Int) × Int × Int) → Option R) (k0 : Int → Option R) (k1 : Int → Option R) : (Int × (List Int) × Int × Int) → Option R := fun (x2, x3, x4, x5) => (bif (decide (x5 < x4)) then (if 0 ≤ x5 then (match (x3)[Int.toNat x5]? with | some y6 => (bif (!decide (y6 = x2)) then (k0 y6) else (F (x2, x3, x4, (IntKind.wrap .i64 (x5 + (1 : Int)))))) | none => none) else none) else (k1 x2))
def l34_0 (fuel : Nat) {R : Type} (k0 : Int → Option R) (k1 : Int → Option R) : Nat → (Int × (List Int) × Int × Int) → Option R
  | 0, _ => none
  | n + 1, x => s34_0 fuel (l34_0 fuel k0 k1 n) k0 k1 x
def nm34_0 : Norm := ⟨[3, 6, 7, 8], padK 0 []⟩
def an34_0 : AN := (.seq .leaf (.seq (.cond .leaf (.norm ⟨[3], padK 0 []⟩ .leaf)) (.seq (.block (.seq .leaf (.seq .leaf (.cond (.seq .leaf (.norm ⟨[2], padK 0 []⟩ (.ret []))) .leaf)))) .leaf)))
def al34_0 : AN := .loop nm34_0 an34_0
noncomputable def d34_0 : Code := bodyAt Try.f34 [1, 1, 0, 1, 0, 0]
theorem e34_0 (fuel : Nat) {R : Type} (F : St → Option R) (k : AExit → St → Option R) : ∀ x : (Int × (List Int) × Int × Int), runK R T (fns34 fuel) fuel [] (subsOf []) (partOf d34_0 an34_0) (fr34_0.st [3, 6, 7, 8] x) (backTo R [] nm34_0 F k) = s34_0 fuel (fun x => F (fr34_0.st [3, 6, 7, 8] x)) (fun y => k (.ret []) (fx34_0.st [2] y)) (fun y => k (.exit 0) (fx34_1.st [3] y)) x := by
  rintro ⟨x2, x3, x4, x5⟩
  kernel_rfl
theorem u34_0 (fuel : Nat) {R : Type} (k : AExit → St → Option R) (x : (Int × (List Int) × Int × Int)) : runK R T (fns34 fuel) fuel [] (subsOf []) (partOf c34_0 al34_0) (fr34_0.st [3, 6, 7, 8] x) k = l34_0 fuel (fun y => k (.ret []) (fx34_0.st [2] y)) (fun y => k (.exit 0) (fx34_1.st [3] y)) fuel x :=
  loop_eq (mk := fr34_0.st [3, 6, 7, 8]) (s := fun F x => s34_0 fuel F (fun y => k (.ret []) (fx34_0.st [2] y)) (fun y => k (.exit 0) (fx34_1.st [3] y)) x) (l := fun n x => l34_0 fuel (fun y => k (.ret []) (fx34_0.st [2] y)) (fun y => k (.exit 0) (fx34_1.st [3] y)) n x) (d := d34_0) (by kernel_rfl) (fun G x => by
    revert x
    rintro ⟨x2, x3, x4, x5⟩
    kernel_rfl) (fun F x => e34_0 fuel F k x) (fun _ => rfl) (fun _ _ => rfl) x
noncomputable def sub34_0 (fuel : Nat) (R : Type) : Sub R := Sub.of [3, 6, 7, 8] c34_0 fr34_0 fun x k => l34_0 fuel (fun y => k (.ret []) (fx34_0.st [2] y)) (fun y => k (.exit 0) (fx34_1.st [3] y)) fuel x
theorem subOk34_0 (fuel : Nat) (R : Type) : SubOk P [] 18 (sub34_0 fuel R) :=
  subOk_part (fns := (fns34 fuel)) (fuel := fuel) (subs := (subsOf [])) (an := al34_0) T_ok (fnsOk34 fuel) mixed subsOk_nil (by kernel_rfl) (by kernel_rfl) fun _ _ _ _ h => Sub.of_run (fun (x : (Int × (List Int) × Int × Int)) k => u34_0 fuel k x) h
def an34 : AN := (.seq .leaf (.seq .leaf (.seq (.seq .leaf (.block (.hole ⟨[3, 6, 7, 8], padK 0 []⟩ 0))) (.seq .leaf (.norm ⟨[2], padK 0 []⟩ (.ret []))))))
def p34 (fuel : Nat) : (List Int) → Option Int := fun x1 => (l34_0 fuel (fun x7 => (some x7)) (fun x8 => (some x8)) fuel ((0 : Int), x1, ((List.length x1 : Nat) : Int), (0 : Int)))
def F34 (fuel : Nat) : Fun := funOfA fi34 al34 (p34 fuel)
theorem run34 (fuel : Nat) : ∀ y : (List Int), runF Int T (fns34 fuel) fuel (subsOf [sub34_0 fuel Int]) (defOf Try.f34 an34 0 [] []) (fi34.vs y) (fi34.os y) (altsDec al34) = p34 fuel y := by
  rintro x1
  kernel_rfl
theorem ok34 (fuel : Nat) : FunOk P 34 (funOfA fi34 al34 (p34 fuel)) :=
  funOfA_ok (subs := (subsOf [sub34_0 fuel Int])) (an := an34) (room := 0) (ks := []) (g0 := []) (fuel := fuel) T_ok (fnsOk34 fuel) mixed (fn := Try.f34) (by kernel_rfl) (by kernel_rfl) (subsOk_cons (subOk34_0 fuel _) subsOk_nil) (by kernel_rfl) (fun _ => ⟨by kernel_rfl, by kernel_rfl⟩) (run34 fuel)

-- f32: tontine/keys.Cmp
def fns32 (fuel : Nat) : Fns := fnsOf [(35, F35 fuel), (34, F34 fuel)]
theorem fnsOk32 (fuel : Nat) : FnsOk P (fns32 fuel) := (fnsOk_cons (ok35 fuel) (fnsOk_cons (ok34 fuel) fnsOk_nil))
def fi32 : Fr := ⟨[.d false (.pair (.int .u64) (.int .u64)), .d false (.pair (.int .u64) (.int .u64))], [], 0⟩
def al32 : List (Tm × List To) := [(.d true (.int .i64), [])]
def an32 : AN := (.seq (.region [(0, { touch := [0], ro := false }), (1, { touch := [1], base := 1, ro := false })]) (.seq (.region [(0, { touch := [0] }), (1, { touch := [0] }), (2, { touch := [1] }), (3, { touch := [1] }), (5, { touch := [0] }), (6, { touch := [0] }), (7, { touch := [1] }), (8, { touch := [1] }), (10, { touch := [2], base := 2, ro := false }), (11, { touch := [2], lend := [some (.slice (.int .i64))] })]) (.norm ⟨[4], padK 3 []⟩ (.ret []))))
def p32 (fuel : Nat) : ((Int × Int) × (Int × Int)) → Option Int := fun (x1, x2) => (match p35 fuel (x1.1, x2.1) with | some z3 => (match p35 fuel (x1.2, x2.2) with | some z4 => (match p34 fuel [z3, z4] with | some z5 => (some z5) | none => none) | none => none) | none => none)
def F32 (fuel : Nat) : Fun := funOfA fi32 al32 (p32 fuel)
theorem run32 (fuel : Nat) : ∀ y : ((Int × Int) × (Int × Int)), runF Int T (fns32 fuel) fuel (subsOf []) (defOf Try.f32 an32 3 [] []) (fi32.vs y) (fi32.os y) (altsDec al32) = p32 fuel y := by
  rintro ⟨x1, x2⟩
  kernel_rfl
theorem ok32 (fuel : Nat) : FunOk P 32 (funOfA fi32 al32 (p32 fuel)) :=
  funOfA_ok (subs := (subsOf [])) (an := an32) (room := 3) (ks := []) (g0 := []) (fuel := fuel) T_ok (fnsOk32 fuel) mixed (fn := Try.f32) (by kernel_rfl) (by kernel_rfl) subsOk_nil (by kernel_rfl) (fun _ => ⟨by kernel_rfl, by kernel_rfl⟩) (run32 fuel)

-- f9: tontine/tontinelaw01.KeysOrder
def fns9 (fuel : Nat) : Fns := fnsOf [(10, F10 fuel), (32, F32 fuel), (22, F22 fuel), (11, F11 fuel), (19, F19 fuel)]
theorem fnsOk9 (fuel : Nat) : FnsOk P (fns9 fuel) := (fnsOk_cons (ok10 fuel) (fnsOk_cons (ok32 fuel) (fnsOk_cons (ok22 fuel) (fnsOk_cons (ok11 fuel) (fnsOk_cons (ok19 fuel) fnsOk_nil)))))
def fi9 : Fr := ⟨[.d false (.str), .d false (.str)], [], 0⟩
def al9 : List (Tm × List To) := [(.d true (.bool), [])]
def fx9_0 : Fr := ⟨[.d true (.bool)], [], 0⟩
def fr9_0 : Fr := ⟨[.d true (.str), .d true (.str)], [], 0⟩
noncomputable def c9_0 : Code := bodyAt Try.f9 [1, 1]
def j9_0 (fuel : Nat) {R : Type} (k0 : Bool → Option R) : (ByteArray × ByteArray) → Option R := fun (x3, x4) => (match p10 fuel x3 with | some z5 => (match p10 fuel x4 with | some z6 => (match p32 fuel (z5, z6) with | some z7 => (match p10 fuel x4 with | some z8 => (match p10 fuel x3 with | some z9 => (match p32 fuel (z8, z9) with | some z10 => (match p22 fuel (x3, x4) with | some z11 => (match p11 fuel () with | some z12 => (bif z12 then (bif (decide (z7 ≤ (0 : Int))) then (bif (decide (z10 = (IntKind.wrap .i64 (0 - z7)))) then (match p19 fuel x3 with | some z13 => (match p19 fuel x4 with | some z14 => (bif (decide (z13 ≤ z14)) then (bif (decide (z11.2.2 = (0 : Int))) then (match p19 fuel x3 with | some z15 => (bif (decide (z11.1 = z15)) then (match p19 fuel x4 with | some z16 => (k0 (decide (z11.2.1 = z16))) | none => none) else (k0 false)) | none => none) else (k0 false)) else (k0 false)) | none => none) | none => none) else (k0 false)) else (k0 false)) else (k0 false)) | none => none) | none => none) | none => none) | none => none) | none => none) | none => none) | none => none) | none => none)
def al9_0 : AN := (.seq .leaf (.seq .leaf (.seq .leaf (.seq .leaf (.norm ⟨[4], padK 0 []⟩ (.ret []))))))
theorem u9_0 (fuel : Nat) {R : Type} (k : AExit → St → Option R) : ∀ x : (ByteArray × ByteArray), runK R T (fns9 fuel) fuel [] (subsOf []) (partOf c9_0 al9_0) (fr9_0.st [0, 1] x) k = j9_0 fuel (fun y => k (.ret []) (fx9_0.st [4] y)) x := by
  rintro ⟨x3, x4⟩
  kernel_rfl
noncomputable def sub9_0 (fuel : Nat) (R : Type) : Sub R := Sub.of [0, 1] c9_0 fr9_0 fun x k => j9_0 fuel (fun y => k (.ret []) (fx9_0.st [4] y)) x
theorem subOk9_0 (fuel : Nat) (R : Type) : SubOk P [] 66 (sub9_0 fuel R) :=
  subOk_part (fns := (fns9 fuel)) (fuel := fuel) (subs := (subsOf [])) (an := al9_0) T_ok (fnsOk9 fuel) mixed subsOk_nil (by kernel_rfl) (by kernel_rfl) fun _ _ _ _ h => Sub.of_run (fun (x : (ByteArray × ByteArray)) k => u9_0 fuel k x) h
def an9 : AN := (.seq .leaf (.seq (.seq .leaf (.cond (.fin ⟨[0, 1], padK 0 []⟩ .leaf) (.fin ⟨[0, 1], padK 0 []⟩ .leaf))) (.hole ⟨[0, 1], padK 0 []⟩ 0)))
def p9 (fuel : Nat) : (ByteArray × ByteArray) → Option Bool := fun (x1, x2) => (bif (!(strLess x1 x2 || strEq x1 x2)) then (j9_0 fuel (fun x17 => (some x17)) (x2, x1)) else (j9_0 fuel (fun x18 => (some x18)) (x1, x2)))
def F9 (fuel : Nat) : Fun := funOfA fi9 al9 (p9 fuel)
theorem run9 (fuel : Nat) : ∀ y : (ByteArray × ByteArray), runF Bool T (fns9 fuel) fuel (subsOf [sub9_0 fuel Bool]) (defOf Try.f9 an9 0 [] []) (fi9.vs y) (fi9.os y) (altsDec al9) = p9 fuel y := by
  rintro ⟨x1, x2⟩
  kernel_rfl
theorem ok9 (fuel : Nat) : FunOk P 9 (funOfA fi9 al9 (p9 fuel)) :=
  funOfA_ok (subs := (subsOf [sub9_0 fuel Bool])) (an := an9) (room := 0) (ks := []) (g0 := []) (fuel := fuel) T_ok (fnsOk9 fuel) mixed (fn := Try.f9) (by kernel_rfl) (by kernel_rfl) (subsOk_cons (subOk9_0 fuel _) subsOk_nil) (by kernel_rfl) (fun _ => ⟨by kernel_rfl, by kernel_rfl⟩) (run9 fuel)
end Go.Am.Yteiklegkbjmjnaa
