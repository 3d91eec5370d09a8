/- Printed by gen2.py: functions as plain Lean functions, each with its equality with the machine run. -/
import Derived.Test.YtjnnbkfnhfondaaProg
import Derived.Test.YtjnnbkfnhfondaaAmZC
namespace Go.Am.Ytjnnbkfnhfondaa
open Go.Proofs
noncomputable abbrev P : Program := Try.prog
noncomputable def td3 : TD := { und := .int .i64, size := 1, bytes := 8, zero := (.dat true (.int .i64) ((0 : Int) : Int)), cmp := true }
theorem tdOk3 : TdOk P 3 td3 := tdOk_of (i := infoAt P 3) (cs := cellsOfTD td3) (by kernel_rfl) (by kernel_rfl) (by kernel_rfl) (by kernel_rfl) (show P.underlying 3 = some (.int .i64) by kernel_rfl) (fun _ => ⟨by kernel_rfl, by kernel_rfl⟩)
noncomputable def td4 : TD := { und := .bool, size := 1, bytes := 1, zero := (.dat true (.bool) (false : Bool)), cmp := true }
theorem tdOk4 : TdOk P 4 td4 := tdOk_of (i := infoAt P 4) (cs := cellsOfTD td4) (by kernel_rfl) (by kernel_rfl) (by kernel_rfl) (by kernel_rfl) (show P.underlying 4 = some .bool by kernel_rfl) (fun _ => ⟨by kernel_rfl, by kernel_rfl⟩)
noncomputable def td22 : TD := { und := .int .u64, size := 1, bytes := 8, zero := (.dat true (.int .u64) ((0 : Int) : Int)), cmp := true }
theorem tdOk22 : TdOk P 22 td22 := tdOk_of (i := infoAt P 22) (cs := cellsOfTD td22) (by kernel_rfl) (by kernel_rfl) (by kernel_rfl) (by kernel_rfl) (show P.underlying 22 = some (.int .u64) by kernel_rfl) (fun _ => ⟨by kernel_rfl, by kernel_rfl⟩)
noncomputable def td24 : TD := { und := .ptr 51, size := 1, bytes := 8, zero := .nilp, cmp := false }
theorem tdOk24 : TdOk P 24 td24 := tdOk_of (i := infoAt P 24) (cs := cellsOfTD td24) (by kernel_rfl) (by kernel_rfl) (by kernel_rfl) (by kernel_rfl) (show P.underlying 24 = some (.pointer 51) by kernel_rfl) (fun h => by cases h)
noncomputable def td29 : TD := { und := .slice 3, size := 1, bytes := 24, zero := .nils, cmp := false }
theorem tdOk29 : TdOk P 29 td29 := tdOk_of (i := infoAt P 29) (cs := cellsOfTD td29) (by kernel_rfl) (by kernel_rfl) (by kernel_rfl) (by kernel_rfl) (show P.underlying 29 = some (.slice 3) by kernel_rfl) (fun h => by cases h)
noncomputable def td30 : TD := { und := .int .i64, size := 1, bytes := 8, zero := (.dat true (.int .i64) ((0 : Int) : Int)), cmp := true }
theorem tdOk30 : TdOk P 30 td30 := tdOk_of (i := infoAt P 30) (cs := cellsOfTD td30) (by kernel_rfl) (by kernel_rfl) (by kernel_rfl) (by kernel_rfl) (show P.underlying 30 = some (.int .i64) by kernel_rfl) (fun _ => ⟨by kernel_rfl, by kernel_rfl⟩)
noncomputable def td33 : TD := { und := .slice 4, size := 1, bytes := 24, zero := .nils, cmp := false }
theorem tdOk33 : TdOk P 33 td33 := tdOk_of (i := infoAt P 33) (cs := cellsOfTD td33) (by kernel_rfl) (by kernel_rfl) (by kernel_rfl) (by kernel_rfl) (show P.underlying 33 = some (.slice 4) by kernel_rfl) (fun h => by cases h)
noncomputable def td38 : TD := { und := .slice 43, size := 1, bytes := 24, zero := .nils, cmp := false }
theorem tdOk38 : TdOk P 38 td38 := tdOk_of (i := infoAt P 38) (cs := cellsOfTD td38) (by kernel_rfl) (by kernel_rfl) (by kernel_rfl) (by kernel_rfl) (show P.underlying 38 = some (.slice 43) by kernel_rfl) (fun h => by cases h)
noncomputable def td39 : TD := { und := .ptr 41, size := 1, bytes := 8, zero := .nilp, cmp := false }
theorem tdOk39 : TdOk P 39 td39 := tdOk_of (i := infoAt P 39) (cs := cellsOfTD td39) (by kernel_rfl) (by kernel_rfl) (by kernel_rfl) (by kernel_rfl) (show P.underlying 39 = some (.pointer 41) by kernel_rfl) (fun h => by cases h)
noncomputable def td41 : TD := { und := .struct [(0, 22)], size := 1, bytes := 8, zero := (.dat true (.one (.int .u64)) ((0 : Int) : Int)), cmp := true }
theorem tdOk41 : TdOk P 41 td41 := tdOk_of (i := infoAt P 41) (cs := cellsOfTD td41) (by kernel_rfl) (by kernel_rfl) (by kernel_rfl) (by kernel_rfl) (undStruct (fieldsAt P 41) (by kernel_rfl) (by kernel_rfl) (by kernel_rfl)) (fun _ => ⟨by kernel_rfl, by kernel_rfl⟩)
noncomputable def td43 : TD := { und := .struct [(0, 3), (1, 3), (2, 22), (3, 29)], size := 4, bytes := 48, zero := (.pair (.dat true (.int .i64) ((0 : Int) : Int)) (.pair (.dat true (.int .i64) ((0 : Int) : Int)) (.pair (.dat true (.int .u64) ((0 : Int) : Int)) .nils))), cmp := false }
theorem tdOk43 : TdOk P 43 td43 := tdOk_of (i := infoAt P 43) (cs := cellsOfTD td43) (by kernel_rfl) (by kernel_rfl) (by kernel_rfl) (by kernel_rfl) (undStruct (fieldsAt P 43) (by kernel_rfl) (by kernel_rfl) (by kernel_rfl)) (fun h => by cases h)
noncomputable def td51 : TD := { und := .struct [(0, 22)], size := 1, bytes := 8, zero := (.dat true (.one (.int .u64)) ((0 : Int) : Int)), cmp := true }
theorem tdOk51 : TdOk P 51 td51 := tdOk_of (i := infoAt P 51) (cs := cellsOfTD td51) (by kernel_rfl) (by kernel_rfl) (by kernel_rfl) (by kernel_rfl) (undStruct (fieldsAt P 51) (by kernel_rfl) (by kernel_rfl) (by kernel_rfl)) (fun _ => ⟨by kernel_rfl, by kernel_rfl⟩)
noncomputable def td58 : TD := { und := .int .u64, size := 1, bytes := 8, zero := (.dat true (.int .u64) ((0 : Int) : Int)), cmp := true }
theorem tdOk58 : TdOk P 58 td58 := tdOk_of (i := infoAt P 58) (cs := cellsOfTD td58) (by kernel_rfl) (by kernel_rfl) (by kernel_rfl) (by kernel_rfl) (show P.underlying 58 = some (.int .u64) by kernel_rfl) (fun _ => ⟨by kernel_rfl, by kernel_rfl⟩)
noncomputable def T : Tbl := tblOf [(3, td3), (4, td4), (22, td22), (24, td24), (29, td29), (30, td30), (33, td33), (38, td38), (39, td39), (41, td41), (43, td43), (51, td51), (58, td58)]
theorem T_ok : TblOk P T := (tblOk_cons tdOk3 (tblOk_cons tdOk4 (tblOk_cons tdOk22 (tblOk_cons tdOk24 (tblOk_cons tdOk29 (tblOk_cons tdOk30 (tblOk_cons tdOk33 (tblOk_cons tdOk38 (tblOk_cons tdOk39 (tblOk_cons tdOk41 (tblOk_cons tdOk43 (tblOk_cons tdOk51 (tblOk_cons tdOk58 tblOk_nil)))))))))))))
theorem mixed : P.follows .mixedOrders = true := by kernel_rfl

-- f8: tontine/draws.New
def fns8 (fuel : Nat) : Fns := fnsOf []
theorem fnsOk8 (fuel : Nat) : FnsOk P (fns8 fuel) := fnsOk_nil
def fi8 : Fr := ⟨[.d false (.int .u64)], [], 0⟩
def al8 : List (Tm × List To) := [(.c (.ptr 0 0 []), [.box (.d true (.one (.int .u64)))])]
def an8 : AN := (.seq .leaf (.seq (.region [(2, { touch := [1], base := 1, ro := false })]) (.norm ⟨[2], padK 1 [some (1, 0)]⟩ (.ret [some (0, 0)]))))
def p8 (fuel : Nat) : Int → Option Int := fun x1 => (some x1)
def F8 (fuel : Nat) : Fun := funOfA fi8 al8 (p8 fuel)
theorem run8 (fuel : Nat) : ∀ y : Int, runF Int T (fns8 fuel) fuel (subsOf []) (defOf Try.f8 an8 2 [] []) (fi8.vs y) (fi8.os y) (altsDec al8) = p8 fuel y := by
  rintro x1
  kernel_rfl
theorem ok8 (fuel : Nat) : FunOk P 8 (funOfA fi8 al8 (p8 fuel)) :=
  funOfA_ok (subs := (subsOf [])) (an := an8) (room := 2) (ks := []) (g0 := []) (fuel := fuel) T_ok (fnsOk8 fuel) mixed (fn := Try.f8) (by kernel_rfl) (by kernel_rfl) subsOk_nil (by kernel_rfl) (fun _ => ⟨by kernel_rfl, by kernel_rfl⟩) (run8 fuel)

-- f22: tontine/draws.mix
def fns22 (fuel : Nat) : Fns := fnsOf []
theorem fnsOk22 (fuel : Nat) : FnsOk P (fns22 fuel) := fnsOk_nil
def fi22 : Fr := ⟨[.d false (.int .u64)], [], 0⟩
def al22 : List (Tm × List To) := [(.d true (.int .u64), [])]
def an22 : AN := (.seq .leaf (.seq .leaf (.seq .leaf (.seq .leaf (.norm ⟨[2], padK 0 []⟩ (.ret []))))))
def p22 (fuel : Nat) : Int → Option Int := fun x1 => let v2 := (IntKind.wrap .u64 ((bitsOp .xor .u64 x1 (Int.fdiv x1 (2 ^ 30))) * (13787848793156543929 : Int))); let v3 := (IntKind.wrap .u64 ((bitsOp .xor .u64 v2 (Int.fdiv v2 (2 ^ 27))) * (10723151780598845931 : Int))); (some (bitsOp .xor .u64 v3 (Int.fdiv v3 (2 ^ 31))))
def F22 (fuel : Nat) : Fun := funOfA fi22 al22 (p22 fuel)
theorem run22 (fuel : Nat) : ∀ y : Int, runF Int T (fns22 fuel) fuel (subsOf []) (defOf Try.f22 an22 0 [] []) (fi22.vs y) (fi22.os y) (altsDec al22) = p22 fuel y := by
  rintro x1
  kernel_rfl
theorem ok22 (fuel : Nat) : FunOk P 22 (funOfA fi22 al22 (p22 fuel)) :=
  funOfA_ok (subs := (subsOf [])) (an := an22) (room := 0) (ks := []) (g0 := []) (fuel := fuel) T_ok (fnsOk22 fuel) mixed (fn := Try.f22) (by kernel_rfl) (by kernel_rfl) subsOk_nil (by kernel_rfl) (fun _ => ⟨by kernel_rfl, by kernel_rfl⟩) (run22 fuel)

-- f9: (*tontine/draws.Draws).Next
def fns9 (p22 : Nat → Int → Option Int) (fuel : Nat) : Fns := fnsOf [(22, funOfA fi22 al22 (p22 fuel))]
theorem fnsOk9 (p22 : Nat → Int → Option Int) (h22 : ∀ fuel, FunOk P 22 (funOfA fi22 al22 (p22 fuel))) (fuel : Nat) : FnsOk P (fns9 p22 fuel) := (fnsOk_cons (h22 fuel) fnsOk_nil)
def fi9 : Fr := ⟨[.c (.ptr 0 0 [])], [.box (.d true (.one (.int .u64)))], 0⟩
def al9 : List (Tm × List To) := [(.d true (.int .u64), [.box (.d true (.one (.int .u64)))])]
def an9 : AN := (.seq .leaf (.seq (.seq (.region [(1, { touch := [0] })]) (.cond (.seq .leaf .leaf) .leaf)) (.seq (.region [(1, { touch := [0] }), (2, { touch := [0] }), (3, { touch := [0] }), (5, { touch := [0] }), (6, { touch := [0] }), (7, { touch := [0], ro := false })]) (.seq (.region [(1, { touch := [0] }), (2, { touch := [0] }), (3, { touch := [0] })]) (.norm ⟨[2], padK 0 [some (0, 0)]⟩ (.ret [some (0, 0)]))))))
def p9 (fuel : Nat) : Int → Option (Int × Int) := fun x1 => (match p22 fuel (IntKind.wrap .u64 (x1 + (11400714819323198485 : Int))) with | some z2 => (some (z2, (IntKind.wrap .u64 (x1 + (11400714819323198485 : Int))))) | none => none)
def p9' (p22 : Nat → Int → Option Int) (fuel : Nat) : Int → Option (Int × Int) := fun x1 => (match p22 fuel (IntKind.wrap .u64 (x1 + (11400714819323198485 : Int))) with | some z2 => (some (z2, (IntKind.wrap .u64 (x1 + (11400714819323198485 : Int))))) | none => none)
def F9 (fuel : Nat) : Fun := funOfA fi9 al9 (p9 fuel)
theorem run9 (p22 : Nat → Int → Option Int) (fuel : Nat) : ∀ y : Int, runF (Int × Int) T (fns9 p22 fuel) fuel (subsOf []) (defOf Try.f9 an9 0 [] [false]) (fi9.vs y) (fi9.os y) (altsDec al9) = p9' p22 fuel y := by
  rintro x1
  kernel_rfl
theorem ok9' (p22 : Nat → Int → Option Int) (h22 : ∀ fuel, FunOk P 22 (funOfA fi22 al22 (p22 fuel))) (fuel : Nat) : FunOk P 9 (funOfA fi9 al9 (p9' p22 fuel)) :=
  funOfA_ok (subs := (subsOf [])) (an := an9) (room := 0) (ks := []) (g0 := [false]) (fuel := fuel) T_ok (fnsOk9 p22 h22 fuel) mixed (fn := Try.f9) (by kernel_rfl) (by kernel_rfl) subsOk_nil (by kernel_rfl) (fun _ => ⟨by kernel_rfl, by kernel_rfl⟩) (run9 p22 fuel)
theorem same9 (fuel : Nat) : p9' p22 fuel = p9 fuel := by kernel_rfl
theorem ok9 (fuel : Nat) : FunOk P 9 (F9 fuel) := by
  have h := ok9' p22 ok22 fuel
  rw [same9] at h
  exact h

-- f7: tontine/tontinelaw05.awake
def fns7 (p8 : Nat → Int → Option Int) (p9 : Nat → Int → Option (Int × Int)) (fuel : Nat) : Fns := fnsOf [(8, funOfA fi8 al8 (p8 fuel)), (9, funOfA fi9 al9 (p9 fuel))]
theorem fnsOk7 (p8 : Nat → Int → Option Int) (p9 : Nat → Int → Option (Int × Int)) (h8 : ∀ fuel, FunOk P 8 (funOfA fi8 al8 (p8 fuel))) (h9 : ∀ fuel, FunOk P 9 (funOfA fi9 al9 (p9 fuel))) (fuel : Nat) : FnsOk P (fns7 p8 p9 fuel) := (fnsOk_cons (h8 fuel) (fnsOk_cons (h9 fuel) fnsOk_nil))
def fi7 : Fr := ⟨[], [], 0⟩
def al7 : List (Tm × List To) := [(.d true (.bool), [])]
def an7 : AN := (.seq .leaf (.seq (.region [(0, { touch := [0], ro := false, fresh := 1 })]) (.seq (.region [(1, { touch := [0], ro := false, loc := [0] })]) (.seq (.region [(1, { touch := [0], ro := false, loc := [0] })]) (.seq .leaf (.norm ⟨[0], padK 1 []⟩ (.ret [])))))))
def p7 (fuel : Nat) : Unit → Option Bool := fun _ => (match p8 fuel (0 : Int) with | some z1 => (match p9 fuel z1 with | some z2 => (match p9 fuel z2.2 with | some z3 => (bif (decide (z2.1 = (16294208416658607535 : Int))) then (some (decide (z3.1 = (7960286522194355700 : Int)))) else (some false)) | none => none) | none => none) | none => none)
def p7' (p8 : Nat → Int → Option Int) (p9 : Nat → Int → Option (Int × Int)) (fuel : Nat) : Unit → Option Bool := fun _ => (match p8 fuel (0 : Int) with | some z1 => (match p9 fuel z1 with | some z2 => (match p9 fuel z2.2 with | some z3 => (bif (decide (z2.1 = (16294208416658607535 : Int))) then (some (decide (z3.1 = (7960286522194355700 : Int)))) else (some false)) | none => none) | none => none) | none => none)
def F7 (fuel : Nat) : Fun := funOfA fi7 al7 (p7 fuel)
theorem run7 (p8 : Nat → Int → Option Int) (p9 : Nat → Int → Option (Int × Int)) (fuel : Nat) : ∀ y : Unit, runF Bool T (fns7 p8 p9 fuel) fuel (subsOf []) (defOf Try.f7 an7 1 [] []) (fi7.vs y) (fi7.os y) (altsDec al7) = p7' p8 p9 fuel y := by
  rintro ⟨⟩
  kernel_rfl
theorem ok7' (p8 : Nat → Int → Option Int) (p9 : Nat → Int → Option (Int × Int)) (h8 : ∀ fuel, FunOk P 8 (funOfA fi8 al8 (p8 fuel))) (h9 : ∀ fuel, FunOk P 9 (funOfA fi9 al9 (p9 fuel))) (fuel : Nat) : FunOk P 7 (funOfA fi7 al7 (p7' p8 p9 fuel)) :=
  funOfA_ok (subs := (subsOf [])) (an := an7) (room := 1) (ks := []) (g0 := []) (fuel := fuel) T_ok (fnsOk7 p8 p9 h8 h9 fuel) mixed (fn := Try.f7) (by kernel_rfl) (by kernel_rfl) subsOk_nil (by kernel_rfl) (fun _ => ⟨by kernel_rfl, by kernel_rfl⟩) (run7 p8 p9 fuel)
theorem same7 (fuel : Nat) : p7' p8 p9 fuel = p7 fuel := by kernel_rfl
theorem ok7 (fuel : Nat) : FunOk P 7 (F7 fuel) := by
  have h := ok7' p8 p9 ok8 ok9 fuel
  rw [same7] at h
  exact h

-- f10: (*tontine/draws.Draws).Skip
def fns10 (fuel : Nat) : Fns := fnsOf []
theorem fnsOk10 (fuel : Nat) : FnsOk P (fns10 fuel) := fnsOk_nil
def fi10 : Fr := ⟨[.c (.ptr 0 0 []), .d false (.int .u64)], [.box (.d true (.one (.int .u64)))], 0⟩
def al10 : List (Tm × List To) := [(.tup (.c .nil), [.box (.d true (.one (.int .u64)))])]
def an10 : AN := (.seq (.region [(1, { touch := [0] })]) (.cond (.region [(1, { touch := [0] }), (2, { touch := [0] }), (3, { touch := [0] }), (7, { touch := [0] }), (8, { touch := [0] }), (9, { touch := [0], ro := false })]) .leaf))
def p10 (fuel : Nat) : (Int × Int) → Option Int := fun (x1, x2) => let v3 := (IntKind.wrap .u64 (x2 + (IntKind.wrap .u64 (x1 * (11400714819323198485 : Int))))); (some v3)
def F10 (fuel : Nat) : Fun := funOfA fi10 al10 (p10 fuel)
theorem run10 (fuel : Nat) : ∀ y : (Int × Int), runF Int T (fns10 fuel) fuel (subsOf []) (defOf Try.f10 an10 0 [some (0, 0)] [false]) (fi10.vs y) (fi10.os y) (altsDec al10) = p10 fuel y := by
  rintro ⟨x1, x2⟩
  kernel_rfl
theorem ok10 (fuel : Nat) : FunOk P 10 (funOfA fi10 al10 (p10 fuel)) :=
  funOfA_ok (subs := (subsOf [])) (an := an10) (room := 0) (ks := [some (0, 0)]) (g0 := [false]) (fuel := fuel) T_ok (fnsOk10 fuel) mixed (fn := Try.f10) (by kernel_rfl) (by kernel_rfl) subsOk_nil (by kernel_rfl) (fun _ => ⟨by kernel_rfl, by kernel_rfl⟩) (run10 fuel)

-- f11: (*tontine/draws.Draws).State
def fns11 (fuel : Nat) : Fns := fnsOf []
theorem fnsOk11 (fuel : Nat) : FnsOk P (fns11 fuel) := fnsOk_nil
def fi11 : Fr := ⟨[.c (.ptr 0 0 [])], [.box (.d true (.one (.int .u64)))], 0⟩
def al11 : List (Tm × List To) := [(.d true (.int .u64), [.box (.d true (.one (.int .u64)))])]
def an11 : AN := (.seq .leaf (.seq (.seq (.region [(1, { touch := [0] })]) (.cond (.seq .leaf .leaf) .leaf)) (.seq (.region [(1, { touch := [0] }), (2, { touch := [0] }), (3, { touch := [0] })]) (.norm ⟨[2], padK 0 [some (0, 0)]⟩ (.ret [some (0, 0)])))))
def p11 (fuel : Nat) : Int → Option (Int × Int) := fun x1 => (some (x1, x1))
def F11 (fuel : Nat) : Fun := funOfA fi11 al11 (p11 fuel)
theorem run11 (fuel : Nat) : ∀ y : Int, runF (Int × Int) T (fns11 fuel) fuel (subsOf []) (defOf Try.f11 an11 0 [] [false]) (fi11.vs y) (fi11.os y) (altsDec al11) = p11 fuel y := by
  rintro x1
  kernel_rfl
theorem ok11 (fuel : Nat) : FunOk P 11 (funOfA fi11 al11 (p11 fuel)) :=
  funOfA_ok (subs := (subsOf [])) (an := an11) (room := 0) (ks := []) (g0 := [false]) (fuel := fuel) T_ok (fnsOk11 fuel) mixed (fn := Try.f11) (by kernel_rfl) (by kernel_rfl) subsOk_nil (by kernel_rfl) (fun _ => ⟨by kernel_rfl, by kernel_rfl⟩) (run11 fuel)

-- f3: tontine/tontinelaw05.DrawsApart
def fns3 (p8 : Nat → Int → Option Int) (p9 : Nat → Int → Option (Int × Int)) (p10 : Nat → (Int × Int) → Option Int) (p11 : Nat → Int → Option (Int × Int)) (fuel : Nat) : Fns := fnsOf [(7, F7 fuel), (8, funOfA fi8 al8 (p8 fuel)), (9, funOfA fi9 al9 (p9 fuel)), (10, funOfA fi10 al10 (p10 fuel)), (11, funOfA fi11 al11 (p11 fuel))]
theorem fnsOk3 (p8 : Nat → Int → Option Int) (p9 : Nat → Int → Option (Int × Int)) (p10 : Nat → (Int × Int) → Option Int) (p11 : Nat → Int → Option (Int × Int)) (h8 : ∀ fuel, FunOk P 8 (funOfA fi8 al8 (p8 fuel))) (h9 : ∀ fuel, FunOk P 9 (funOfA fi9 al9 (p9 fuel))) (h10 : ∀ fuel, FunOk P 10 (funOfA fi10 al10 (p10 fuel))) (h11 : ∀ fuel, FunOk P 11 (funOfA fi11 al11 (p11 fuel))) (fuel : Nat) : FnsOk P (fns3 p8 p9 p10 p11 fuel) := (fnsOk_cons (ok7 fuel) (fnsOk_cons (h8 fuel) (fnsOk_cons (h9 fuel) (fnsOk_cons (h10 fuel) (fnsOk_cons (h11 fuel) fnsOk_nil)))))
def fi3 : Fr := ⟨[.d false (.int .u64), .d false (.int .u64), .d false (.int .i64)], [], 0⟩
def al3 : List (Tm × List To) := [(.d true (.bool), [])]
def fx3_0 : Fr := ⟨[.d true (.int .u64), .d true (.int .u64), .d true (.int .i64), .d true (.bool), .c (.ptr 0 0 []), .c (.ptr 1 0 []), .d true (.bool)], [.box (.d true (.one (.int .u64))), .box (.d true (.one (.int .u64)))], 5⟩
def fr3_0 : Fr := ⟨[.d true (.int .u64), .d true (.int .u64), .d true (.int .i64), .d true (.bool), .c (.ptr 0 0 []), .c (.ptr 1 0 []), .d true (.bool), .d true (.int .i64)], [.box (.d true (.one (.int .u64))), .box (.d true (.one (.int .u64)))], 5⟩
noncomputable def c3_0 : Code := bodyAt Try.f3 [1, 1, 1, 1, 1, 1, 1, 1, 1, 1, 0, 1, 0]
def s3_0 (fuel : Nat) {R : Type} (F : (Int × Int × Int × Bool × Bool × Int × Int × Int) → Option R) (k0 : (Int × Int × Int × Bool × Bool × Int × Int) → Option R) : (Int × Int × Int × Bool × Bool × Int × Int × Int) → Option R := fun (x18, x19, x20, x21, x22, x23, x24, x25) => (bif (decide (x23 < x20)) then (match p9 fuel x24 with | some z26 => (F (x18, x19, x20, x21, x22, (IntKind.wrap .i64 (x23 + (1 : Int))), z26.2, x25)) | none => none) else (k0 (x18, x19, x20, x21, x22, x24, x25)))
def l3_0 (fuel : Nat) {R : Type} (k0 : (Int × Int × Int × Bool × Bool × Int × Int) → Option R) : Nat → (Int × Int × Int × Bool × Bool × Int × Int × Int) → Option R
  | 0, _ => none
  | n + 1, x => s3_0 fuel (l3_0 fuel k0 n) k0 x
def s3_0' (p8 : Nat → Int → Option Int) (p9 : Nat → Int → Option (Int × Int)) (p10 : Nat → (Int × Int) → Option Int) (p11 : Nat → Int → Option (Int × Int)) (fuel : Nat) {R : Type} (F : (Int × Int × Int × Bool × Bool × Int × Int × Int) → Option R) (k0 : (Int × Int × Int × Bool × Bool × Int × Int) → Option R) : (Int × Int × Int × Bool × Bool × Int × Int × Int) → Option R := fun (x18, x19, x20, x21, x22, x23, x24, x25) => (bif (decide (x23 < x20)) then (match p9 fuel x24 with | some z26 => (F (x18, x19, x20, x21, x22, (IntKind.wrap .i64 (x23 + (1 : Int))), z26.2, x25)) | none => none) else (k0 (x18, x19, x20, x21, x22, x24, x25)))
def l3_0' (p8 : Nat → Int → Option Int) (p9 : Nat → Int → Option (Int × Int)) (p10 : Nat → (Int × Int) → Option Int) (p11 : Nat → Int → Option (Int × Int)) (fuel : Nat) {R : Type} (k0 : (Int × Int × Int × Bool × Bool × Int × Int) → Option R) : Nat → (Int × Int × Int × Bool × Bool × Int × Int × Int) → Option R
  | 0, _ => none
  | n + 1, x => s3_0' p8 p9 p10 p11 fuel (l3_0' p8 p9 p10 p11 fuel k0 n) k0 x
def nm3_0 : Norm := ⟨[0, 1, 2, 7, 8, 10, 11, 12], padK 5 [some (0, 0), some (1, 0)]⟩
def an3_0 : AN := (.seq (.seq .leaf (.cond .leaf (.norm ⟨[0, 1, 2, 7, 8, 10, 11], padK 5 [some (0, 0), some (1, 0)]⟩ .leaf))) (.seq (.block (.region [(1, { touch := [0], ro := false, loc := [0] })])) .leaf))
def al3_0 : AN := .loop nm3_0 an3_0
noncomputable def d3_0 : Code := bodyAt Try.f3 [1, 1, 1, 1, 1, 1, 1, 1, 1, 1, 0, 1, 0, 0]
theorem e3_0 (p8 : Nat → Int → Option Int) (p9 : Nat → Int → Option (Int × Int)) (p10 : Nat → (Int × Int) → Option Int) (p11 : Nat → Int → Option (Int × Int)) (fuel : Nat) {R : Type} (F : St → Option R) (k : AExit → St → Option R) : ∀ x : (Int × Int × Int × Bool × Bool × Int × Int × Int), runK R T (fns3 p8 p9 p10 p11 fuel) fuel [] (subsOf []) (partOf d3_0 an3_0) (fr3_0.st [0, 1, 2, 7, 8, 10, 11, 12] x) (backTo R [] nm3_0 F k) = s3_0' p8 p9 p10 p11 fuel (fun x => F (fr3_0.st [0, 1, 2, 7, 8, 10, 11, 12] x)) (fun y => k (.exit 0) (fx3_0.st [0, 1, 2, 7, 8, 10, 11] y)) x := by
  rintro ⟨x18, x19, x20, x21, x22, x23, x24, x25⟩
  kernel_rfl
theorem u3_0 (p8 : Nat → Int → Option Int) (p9 : Nat → Int → Option (Int × Int)) (p10 : Nat → (Int × Int) → Option Int) (p11 : Nat → Int → Option (Int × Int)) (fuel : Nat) {R : Type} (k : AExit → St → Option R) (x : (Int × Int × Int × Bool × Bool × Int × Int × Int)) : runK R T (fns3 p8 p9 p10 p11 fuel) fuel [] (subsOf []) (partOf c3_0 al3_0) (fr3_0.st [0, 1, 2, 7, 8, 10, 11, 12] x) k = l3_0' p8 p9 p10 p11 fuel (fun y => k (.exit 0) (fx3_0.st [0, 1, 2, 7, 8, 10, 11] y)) fuel x :=
  loop_eq (mk := fr3_0.st [0, 1, 2, 7, 8, 10, 11, 12]) (s := fun F x => s3_0' p8 p9 p10 p11 fuel F (fun y => k (.exit 0) (fx3_0.st [0, 1, 2, 7, 8, 10, 11] y)) x) (l := fun n x => l3_0' p8 p9 p10 p11 fuel (fun y => k (.exit 0) (fx3_0.st [0, 1, 2, 7, 8, 10, 11] y)) n x) (d := d3_0) (by kernel_rfl) (fun G x => by
    revert x
    rintro ⟨x18, x19, x20, x21, x22, x23, x24, x25⟩
    kernel_rfl) (fun F x => e3_0 p8 p9 p10 p11 fuel F k x) (fun _ => rfl) (fun _ _ => rfl) x
noncomputable def sub3_0 (p8 : Nat → Int → Option Int) (p9 : Nat → Int → Option (Int × Int)) (p10 : Nat → (Int × Int) → Option Int) (p11 : Nat → Int → Option (Int × Int)) (fuel : Nat) (R : Type) : Sub R := Sub.of [0, 1, 2, 7, 8, 10, 11, 12] c3_0 fr3_0 fun x k => l3_0' p8 p9 p10 p11 fuel (fun y => k (.exit 0) (fx3_0.st [0, 1, 2, 7, 8, 10, 11] y)) fuel x
theorem subOk3_0 (p8 : Nat → Int → Option Int) (p9 : Nat → Int → Option (Int × Int)) (p10 : Nat → (Int × Int) → Option Int) (p11 : Nat → Int → Option (Int × Int)) (h8 : ∀ fuel, FunOk P 8 (funOfA fi8 al8 (p8 fuel))) (h9 : ∀ fuel, FunOk P 9 (funOfA fi9 al9 (p9 fuel))) (h10 : ∀ fuel, FunOk P 10 (funOfA fi10 al10 (p10 fuel))) (h11 : ∀ fuel, FunOk P 11 (funOfA fi11 al11 (p11 fuel))) (fuel : Nat) (R : Type) : SubOk P [] 77 (sub3_0 p8 p9 p10 p11 fuel R) :=
  subOk_part (fns := (fns3 p8 p9 p10 p11 fuel)) (fuel := fuel) (subs := (subsOf [])) (an := al3_0) T_ok (fnsOk3 p8 p9 p10 p11 h8 h9 h10 h11 fuel) mixed subsOk_nil (by kernel_rfl) (by kernel_rfl) fun _ _ _ _ h => Sub.of_run (fun (x : (Int × Int × Int × Bool × Bool × Int × Int × Int)) k => u3_0 p8 p9 p10 p11 fuel k x) h
def fx3_1 : Fr := ⟨[.d true (.bool)], [], 7⟩
def fr3_1 : Fr := ⟨[.d true (.int .u64), .d true (.int .u64), .d true (.int .i64), .d true (.bool), .c (.ptr 0 0 []), .c (.ptr 1 0 []), .c (.ptr 2 0 [])], [.box (.d true (.one (.int .u64))), .box (.d true (.one (.int .u64))), .box (.d true (.one (.int .u64)))], 4⟩
noncomputable def c3_1 : Code := bodyAt Try.f3 [1, 1, 1, 1, 1, 1, 1]
def j3_1 (fuel : Nat) {R : Type} (k0 : Bool → Option R) : (Int × Int × Int × Bool × Int × Int × Int) → Option R := fun (x8, x9, x10, x11, x12, x13, x14) => (match p9 fuel x12 with | some z15 => (match p9 fuel x13 with | some z16 => (match p8 fuel x8 with | some z17 => (l3_0 fuel (fun (x27, x28, x29, x30, x31, x32, x33) => (match p10 fuel ((IntKind.wrap .u64 x29), x33) with | some z34 => (bif x30 then (bif (x31 == (decide (x27 = x28))) then (match p11 fuel x32 with | some z35 => (match p11 fuel z34 with | some z36 => (bif (decide (z35.1 = z36.1)) then (match p9 fuel z35.2 with | some z37 => (match p9 fuel z36.2 with | some z38 => (k0 (decide (z37.1 = z38.1))) | none => none) | none => none) else (k0 false)) | none => none) | none => none) else (k0 false)) else (k0 false)) | none => none)) fuel (x8, x9, (Int.tmod x10 (500 : Int)), x11, (decide (z15.1 = z16.1)), (0 : Int), z17, x14)) | none => none) | none => none) | none => none)
def j3_1' (p8 : Nat → Int → Option Int) (p9 : Nat → Int → Option (Int × Int)) (p10 : Nat → (Int × Int) → Option Int) (p11 : Nat → Int → Option (Int × Int)) (fuel : Nat) {R : Type} (k0 : Bool → Option R) : (Int × Int × Int × Bool × Int × Int × Int) → Option R := fun (x8, x9, x10, x11, x12, x13, x14) => (match p9 fuel x12 with | some z15 => (match p9 fuel x13 with | some z16 => (match p8 fuel x8 with | some z17 => (l3_0' p8 p9 p10 p11 fuel (fun (x27, x28, x29, x30, x31, x32, x33) => (match p10 fuel ((IntKind.wrap .u64 x29), x33) with | some z34 => (bif x30 then (bif (x31 == (decide (x27 = x28))) then (match p11 fuel x32 with | some z35 => (match p11 fuel z34 with | some z36 => (bif (decide (z35.1 = z36.1)) then (match p9 fuel z35.2 with | some z37 => (match p9 fuel z36.2 with | some z38 => (k0 (decide (z37.1 = z38.1))) | none => none) | none => none) else (k0 false)) | none => none) | none => none) else (k0 false)) else (k0 false)) | none => none)) fuel (x8, x9, (Int.tmod x10 (500 : Int)), x11, (decide (z15.1 = z16.1)), (0 : Int), z17, x14)) | none => none) | none => none) | none => none)
def al3_1 : AN := (.seq .leaf (.seq (.region [(1, { touch := [0], ro := false, loc := [0] }), (3, { touch := [1], ro := false, loc := [1] })]) (.seq (.region [(1, { touch := [6], base := 6, ro := false, fresh := 1 })]) (.seq (.seq .leaf (.block (.hole ⟨[0, 1, 2, 7, 8, 10, 11, 12], padK 5 [some (6, 0), some (2, 0)]⟩ 0))) (.seq (.region [(3, { touch := [1], ro := false, loc := [1] })]) (.seq (.region [(10, { touch := [0], ro := false, loc := [0] }), (12, { touch := [1], ro := false, loc := [1] }), (17, { touch := [0], ro := false, loc := [0] }), (19, { touch := [1], ro := false, loc := [1] })]) (.norm ⟨[6], padK 7 []⟩ (.ret []))))))))
theorem u3_1 (p8 : Nat → Int → Option Int) (p9 : Nat → Int → Option (Int × Int)) (p10 : Nat → (Int × Int) → Option Int) (p11 : Nat → Int → Option (Int × Int)) (fuel : Nat) {R : Type} (k : AExit → St → Option R) : ∀ x : (Int × Int × Int × Bool × Int × Int × Int), runK R T (fns3 p8 p9 p10 p11 fuel) fuel [] (subsOf [sub3_0 p8 p9 p10 p11 fuel R]) (partOf c3_1 al3_1) (fr3_1.st [0, 1, 2, 7, 8, 9, 10] x) k = j3_1' p8 p9 p10 p11 fuel (fun y => k (.ret []) (fx3_1.st [6] y)) x := by
  rintro ⟨x8, x9, x10, x11, x12, x13, x14⟩
  kernel_rfl
noncomputable def sub3_1 (p8 : Nat → Int → Option Int) (p9 : Nat → Int → Option (Int × Int)) (p10 : Nat → (Int × Int) → Option Int) (p11 : Nat → Int → Option (Int × Int)) (fuel : Nat) (R : Type) : Sub R := Sub.of [0, 1, 2, 7, 8, 9, 10] c3_1 fr3_1 fun x k => j3_1' p8 p9 p10 p11 fuel (fun y => k (.ret []) (fx3_1.st [6] y)) x
theorem subOk3_1 (p8 : Nat → Int → Option Int) (p9 : Nat → Int → Option (Int × Int)) (p10 : Nat → (Int × Int) → Option Int) (p11 : Nat → Int → Option (Int × Int)) (h8 : ∀ fuel, FunOk P 8 (funOfA fi8 al8 (p8 fuel))) (h9 : ∀ fuel, FunOk P 9 (funOfA fi9 al9 (p9 fuel))) (h10 : ∀ fuel, FunOk P 10 (funOfA fi10 al10 (p10 fuel))) (h11 : ∀ fuel, FunOk P 11 (funOfA fi11 al11 (p11 fuel))) (fuel : Nat) (R : Type) : SubOk P [] 77 (sub3_1 p8 p9 p10 p11 fuel R) :=
  subOk_part (fns := (fns3 p8 p9 p10 p11 fuel)) (fuel := fuel) (subs := (subsOf [sub3_0 p8 p9 p10 p11 fuel R])) (an := al3_1) T_ok (fnsOk3 p8 p9 p10 p11 h8 h9 h10 h11 fuel) mixed (subsOk_cons (subOk3_0 p8 p9 p10 p11 h8 h9 h10 h11 fuel R) subsOk_nil) (by kernel_rfl) (by kernel_rfl) fun _ _ _ _ h => Sub.of_run (fun (x : (Int × Int × Int × Bool × Int × Int × Int)) k => u3_1 p8 p9 p10 p11 fuel k x) h
def an3 : AN := (.seq .leaf (.seq .leaf (.seq (.region [(1, { touch := [3], base := 3, ro := false, fresh := 1 })]) (.seq (.region [(1, { touch := [4], base := 4, ro := false, fresh := 1 })]) (.seq (.region [(1, { touch := [5], base := 5, ro := false, fresh := 1 })]) (.seq (.seq (.region [(1, { touch := [3] }), (4, { touch := [4] }), (8, { touch := [5] })]) (.cond (.seq .leaf .leaf) .leaf)) (.seq (.seq .leaf (.cond (.fin ⟨[0, 1, 2, 7, 8, 9, 10], padK 4 [some (3, 0), some (4, 0), some (5, 0)]⟩ .leaf) (.fin ⟨[0, 1, 2, 7, 8, 9, 10], padK 4 [some (3, 0), some (4, 0), some (5, 0)]⟩ .leaf))) (.hole ⟨[0, 1, 2, 7, 8, 9, 10], padK 4 [some (0, 0), some (1, 0), some (2, 0)]⟩ 1))))))))
def p3 (fuel : Nat) : (Int × Int × Int) → Option Bool := fun (x1, x2, x3) => (match p7 fuel () with | some z4 => (match p8 fuel x1 with | some z5 => (match p8 fuel x2 with | some z6 => (match p8 fuel x1 with | some z7 => (bif (decide (x3 < (0 : Int))) then (j3_1 fuel (fun x39 => (some x39)) (x1, x2, (IntKind.wrap .i64 (0 - (IntKind.wrap .i64 (x3 + (1 : Int))))), z4, z5, z6, z7)) else (j3_1 fuel (fun x40 => (some x40)) (x1, x2, x3, z4, z5, z6, z7))) | none => none) | none => none) | none => none) | none => none)
def p3' (p8 : Nat → Int → Option Int) (p9 : Nat → Int → Option (Int × Int)) (p10 : Nat → (Int × Int) → Option Int) (p11 : Nat → Int → Option (Int × Int)) (fuel : Nat) : (Int × Int × Int) → Option Bool := fun (x1, x2, x3) => (match p7 fuel () with | some z4 => (match p8 fuel x1 with | some z5 => (match p8 fuel x2 with | some z6 => (match p8 fuel x1 with | some z7 => (bif (decide (x3 < (0 : Int))) then (j3_1' p8 p9 p10 p11 fuel (fun x39 => (some x39)) (x1, x2, (IntKind.wrap .i64 (0 - (IntKind.wrap .i64 (x3 + (1 : Int))))), z4, z5, z6, z7)) else (j3_1' p8 p9 p10 p11 fuel (fun x40 => (some x40)) (x1, x2, x3, z4, z5, z6, z7))) | none => none) | none => none) | none => none) | none => none)
def F3 (fuel : Nat) : Fun := funOfA fi3 al3 (p3 fuel)
theorem run3 (p8 : Nat → Int → Option Int) (p9 : Nat → Int → Option (Int × Int)) (p10 : Nat → (Int × Int) → Option Int) (p11 : Nat → Int → Option (Int × Int)) (fuel : Nat) : ∀ y : (Int × Int × Int), runF Bool T (fns3 p8 p9 p10 p11 fuel) fuel (subsOf [sub3_0 p8 p9 p10 p11 fuel Bool, sub3_1 p8 p9 p10 p11 fuel Bool]) (defOf Try.f3 an3 7 [] []) (fi3.vs y) (fi3.os y) (altsDec al3) = p3' p8 p9 p10 p11 fuel y := by
  rintro ⟨x1, x2, x3⟩
  kernel_rfl
theorem ok3' (p8 : Nat → Int → Option Int) (p9 : Nat → Int → Option (Int × Int)) (p10 : Nat → (Int × Int) → Option Int) (p11 : Nat → Int → Option (Int × Int)) (h8 : ∀ fuel, FunOk P 8 (funOfA fi8 al8 (p8 fuel))) (h9 : ∀ fuel, FunOk P 9 (funOfA fi9 al9 (p9 fuel))) (h10 : ∀ fuel, FunOk P 10 (funOfA fi10 al10 (p10 fuel))) (h11 : ∀ fuel, FunOk P 11 (funOfA fi11 al11 (p11 fuel))) (fuel : Nat) : FunOk P 3 (funOfA fi3 al3 (p3' p8 p9 p10 p11 fuel)) :=
  funOfA_ok (subs := (subsOf [sub3_0 p8 p9 p10 p11 fuel Bool, sub3_1 p8 p9 p10 p11 fuel Bool])) (an := an3) (room := 7) (ks := []) (g0 := []) (fuel := fuel) T_ok (fnsOk3 p8 p9 p10 p11 h8 h9 h10 h11 fuel) mixed (fn := Try.f3) (by kernel_rfl) (by kernel_rfl) (subsOk_cons (subOk3_0 p8 p9 p10 p11 h8 h9 h10 h11 fuel _) (subsOk_cons (subOk3_1 p8 p9 p10 p11 h8 h9 h10 h11 fuel _) subsOk_nil)) (by kernel_rfl) (fun _ => ⟨by kernel_rfl, by kernel_rfl⟩) (run3 p8 p9 p10 p11 fuel)
theorem same3 (fuel : Nat) : p3' p8 p9 p10 p11 fuel = p3 fuel := by kernel_rfl
theorem ok3 (fuel : Nat) : FunOk P 3 (F3 fuel) := by
  have h := ok3' p8 p9 p10 p11 ok8 ok9 ok10 ok11 fuel
  rw [same3] at h
  exact h

-- f30: math/bits.Mul64
def fns30 (fuel : Nat) : Fns := fnsOf []
theorem fnsOk30 (fuel : Nat) : FnsOk P (fns30 fuel) := fnsOk_nil
def fi30 : Fr := ⟨[.d false (.int .u64), .d false (.int .u64)], [], 0⟩
def al30 : List (Tm × List To) := [(.tup (.cons (.d true (.int .u64)) (.cons (.d true (.int .u64)) (.c .nil))), [])]
def an30 : AN := (.seq .leaf (.seq .leaf (.seq .leaf (.seq .leaf (.seq .leaf (.seq .leaf (.seq .leaf (.seq .leaf (.seq .leaf (.seq .leaf (.seq .leaf (.seq .leaf (.norm ⟨[4, 5], padK 0 []⟩ (.ret []))))))))))))))
def p30 (fuel : Nat) : (Int × Int) → Option (Int × Int) := fun (x1, x2) => let v3 := (IntKind.wrap .u64 ((bitsOp .and .u64 x1 (4294967295 : Int)) * (bitsOp .and .u64 x2 (4294967295 : Int)))); let v4 := (IntKind.wrap .u64 ((Int.fdiv x1 (2 ^ 32)) * (bitsOp .and .u64 x2 (4294967295 : Int)))); let v5 := (bitsOp .and .u64 (IntKind.wrap .u64 (v4 + (Int.fdiv v3 (2 ^ 32)))) (4294967295 : Int)); let v6 := (IntKind.wrap .u64 ((bitsOp .and .u64 x1 (4294967295 : Int)) * (Int.fdiv x2 (2 ^ 32)))); let v7 := (IntKind.wrap .u64 ((IntKind.wrap .u64 ((Int.fdiv x1 (2 ^ 32)) * (Int.fdiv x2 (2 ^ 32)))) + (Int.fdiv (IntKind.wrap .u64 (v4 + (Int.fdiv v3 (2 ^ 32)))) (2 ^ 32)))); let v8 := (IntKind.wrap .u64 (v7 + (Int.fdiv (IntKind.wrap .u64 (v5 + v6)) (2 ^ 32)))); (some (v8, (IntKind.wrap .u64 (x1 * x2))))
def F30 (fuel : Nat) : Fun := funOfA fi30 al30 (p30 fuel)
theorem run30 (fuel : Nat) : ∀ y : (Int × Int), runF (Int × Int) T (fns30 fuel) fuel (subsOf []) (defOf Try.f30 an30 0 [] []) (fi30.vs y) (fi30.os y) (altsDec al30) = p30 fuel y := by
  rintro ⟨x1, x2⟩
  kernel_rfl
theorem ok30 (fuel : Nat) : FunOk P 30 (funOfA fi30 al30 (p30 fuel)) :=
  funOfA_ok (subs := (subsOf [])) (an := an30) (room := 0) (ks := []) (g0 := []) (fuel := fuel) T_ok (fnsOk30 fuel) mixed (fn := Try.f30) (by kernel_rfl) (by kernel_rfl) subsOk_nil (by kernel_rfl) (fun _ => ⟨by kernel_rfl, by kernel_rfl⟩) (run30 fuel)

-- f23: (*tontine/draws.Draws).below
def fns23 (p9 : Nat → Int → Option (Int × Int)) (p30 : Nat → (Int × Int) → Option (Int × Int)) (fuel : Nat) : Fns := fnsOf [(9, funOfA fi9 al9 (p9 fuel)), (30, funOfA fi30 al30 (p30 fuel))]
theorem fnsOk23 (p9 : Nat → Int → Option (Int × Int)) (p30 : Nat → (Int × Int) → Option (Int × Int)) (h9 : ∀ fuel, FunOk P 9 (funOfA fi9 al9 (p9 fuel))) (h30 : ∀ fuel, FunOk P 30 (funOfA fi30 al30 (p30 fuel))) (fuel : Nat) : FnsOk P (fns23 p9 p30 fuel) := (fnsOk_cons (h9 fuel) (fnsOk_cons (h30 fuel) fnsOk_nil))
def fi23 : Fr := ⟨[.c (.ptr 0 0 []), .d false (.int .u64)], [.box (.d true (.one (.int .u64)))], 0⟩
def al23 : List (Tm × List To) := [(.d true (.int .u64), [.box (.d true (.one (.int .u64)))])]
def an23 : AN := (.seq .leaf (.seq (.region [(1, { touch := [0], ro := false, loc := [0] })]) (.seq .leaf (.norm ⟨[4], padK 0 [some (0, 0)]⟩ (.ret [some (0, 0)])))))
def p23 (fuel : Nat) : (Int × Int) → Option (Int × Int) := fun (x1, x2) => (match p9 fuel x2 with | some z3 => (match p30 fuel (z3.1, x1) with | some z4 => (some (z4.1, z3.2)) | none => none) | none => none)
def p23' (p9 : Nat → Int → Option (Int × Int)) (p30 : Nat → (Int × Int) → Option (Int × Int)) (fuel : Nat) : (Int × Int) → Option (Int × Int) := fun (x1, x2) => (match p9 fuel x2 with | some z3 => (match p30 fuel (z3.1, x1) with | some z4 => (some (z4.1, z3.2)) | none => none) | none => none)
def F23 (fuel : Nat) : Fun := funOfA fi23 al23 (p23 fuel)
theorem run23 (p9 : Nat → Int → Option (Int × Int)) (p30 : Nat → (Int × Int) → Option (Int × Int)) (fuel : Nat) : ∀ y : (Int × Int), runF (Int × Int) T (fns23 p9 p30 fuel) fuel (subsOf []) (defOf Try.f23 an23 0 [] [false]) (fi23.vs y) (fi23.os y) (altsDec al23) = p23' p9 p30 fuel y := by
  rintro ⟨x1, x2⟩
  kernel_rfl
theorem ok23' (p9 : Nat → Int → Option (Int × Int)) (p30 : Nat → (Int × Int) → Option (Int × Int)) (h9 : ∀ fuel, FunOk P 9 (funOfA fi9 al9 (p9 fuel))) (h30 : ∀ fuel, FunOk P 30 (funOfA fi30 al30 (p30 fuel))) (fuel : Nat) : FunOk P 23 (funOfA fi23 al23 (p23' p9 p30 fuel)) :=
  funOfA_ok (subs := (subsOf [])) (an := an23) (room := 0) (ks := []) (g0 := [false]) (fuel := fuel) T_ok (fnsOk23 p9 p30 h9 h30 fuel) mixed (fn := Try.f23) (by kernel_rfl) (by kernel_rfl) subsOk_nil (by kernel_rfl) (fun _ => ⟨by kernel_rfl, by kernel_rfl⟩) (run23 p9 p30 fuel)
theorem same23 (fuel : Nat) : p23' p9 p30 fuel = p23 fuel := by kernel_rfl
theorem ok23 (fuel : Nat) : FunOk P 23 (F23 fuel) := by
  have h := ok23' p9 p30 ok9 ok30 fuel
  rw [same23] at h
  exact h

-- f12: (*tontine/draws.Draws).Order
def fns12 (p23 : Nat → (Int × Int) → Option (Int × Int)) (fuel : Nat) : Fns := fnsOf [(23, funOfA fi23 al23 (p23 fuel))]
theorem fnsOk12 (p23 : Nat → (Int × Int) → Option (Int × Int)) (h23 : ∀ fuel, FunOk P 23 (funOfA fi23 al23 (p23 fuel))) (fuel : Nat) : FnsOk P (fns12 p23 fuel) := (fnsOk_cons (h23 fuel) fnsOk_nil)
def fi12 : Fr := ⟨[.c (.ptr 0 0 []), .d false (.int .i64)], [.box (.d true (.one (.int .u64)))], 0⟩
def al12 : List (Tm × List To) := [(.tup (.cons (.c (.slc 1 0)) (.cons (.d true (.int .i64)) (.c .nil))), [.box (.d true (.one (.int .u64))), .arr 0 (.int .i64)])]
def fx12_0 : Fr := ⟨[.c (.ptr 0 0 []), .d true (.int .i64), .c (.slc 1 0)], [.box (.d true (.one (.int .u64))), .arr 0 (.int .i64)], 2⟩
def fr12_0 : Fr := ⟨[.c (.ptr 0 0 []), .d true (.int .i64), .c (.slc 1 0), .d true (.int .i64), .d true (.int .i64)], [.box (.d true (.one (.int .u64))), .arr 0 (.int .i64)], 2⟩
noncomputable def c12_0 : Code := bodyAt Try.f12 [1, 1, 1, 0, 1, 0]
def s12_0 (fuel : Nat) {R : Type} (F : (Int × Int × Int × Int × (List Int)) → Option R) (k0 : (Int × Int × (List Int)) → Option R) : (Int × Int × Int × Int × (List Int)) → Option R := fun (x3, x4, x5, x6, x7) => (bif (decide (x5 < x4)) then (if 0 ≤ x5 ∧ x5 < ((List.length x7 : Nat) : Int) then (match (x7)[(Int.toNat x5)]? with | some y8 => (F (x3, x4, (IntKind.wrap .i64 (x5 + (1 : Int))), x6, (List.set x7 (Int.toNat x5) x5))) | none => none) else none) else (k0 (x3, x6, x7)))
def l12_0 (fuel : Nat) {R : Type} (k0 : (Int × Int × (List Int)) → Option R) : Nat → (Int × Int × Int × Int × (List Int)) → Option R
  | 0, _ => none
  | n + 1, x => s12_0 fuel (l12_0 fuel k0 n) k0 x
def s12_0' (p23 : Nat → (Int × Int) → Option (Int × Int)) (fuel : Nat) {R : Type} (F : (Int × Int × Int × Int × (List Int)) → Option R) (k0 : (Int × Int × (List Int)) → Option R) : (Int × Int × Int × Int × (List Int)) → Option R := fun (x3, x4, x5, x6, x7) => (bif (decide (x5 < x4)) then (if 0 ≤ x5 ∧ x5 < ((List.length x7 : Nat) : Int) then (match (x7)[(Int.toNat x5)]? with | some y8 => (F (x3, x4, (IntKind.wrap .i64 (x5 + (1 : Int))), x6, (List.set x7 (Int.toNat x5) x5))) | none => none) else none) else (k0 (x3, x6, x7)))
def l12_0' (p23 : Nat → (Int × Int) → Option (Int × Int)) (fuel : Nat) {R : Type} (k0 : (Int × Int × (List Int)) → Option R) : Nat → (Int × Int × Int × Int × (List Int)) → Option R
  | 0, _ => none
  | n + 1, x => s12_0' p23 fuel (l12_0' p23 fuel k0 n) k0 x
def nm12_0 : Norm := ⟨[0, 1, 6, 23, 24], padK 2 [some (0, 0), some (1, 0)]⟩
def an12_0 : AN := (.seq .leaf (.seq (.cond .leaf (.norm ⟨[0, 1, 6], padK 2 [some (0, 0), some (1, 0)]⟩ .leaf)) (.seq (.block (.seq .leaf (.region [(3, { touch := [1] }), (4, { touch := [1], ro := false })]))) .leaf)))
def al12_0 : AN := .loop nm12_0 an12_0
noncomputable def d12_0 : Code := bodyAt Try.f12 [1, 1, 1, 0, 1, 0, 0]
theorem e12_0 (p23 : Nat → (Int × Int) → Option (Int × Int)) (fuel : Nat) {R : Type} (F : St → Option R) (k : AExit → St → Option R) : ∀ x : (Int × Int × Int × Int × (List Int)), runK R T (fns12 p23 fuel) fuel [false] (subsOf []) (partOf d12_0 an12_0) (fr12_0.st [0, 1, 6, 23, 24] x) (backTo R [false] nm12_0 F k) = s12_0' p23 fuel (fun x => F (fr12_0.st [0, 1, 6, 23, 24] x)) (fun y => k (.exit 0) (fx12_0.st [0, 1, 6] y)) x := by
  rintro ⟨x3, x4, x5, x6, x7⟩
  kernel_rfl
theorem u12_0 (p23 : Nat → (Int × Int) → Option (Int × Int)) (fuel : Nat) {R : Type} (k : AExit → St → Option R) (x : (Int × Int × Int × Int × (List Int))) : runK R T (fns12 p23 fuel) fuel [false] (subsOf []) (partOf c12_0 al12_0) (fr12_0.st [0, 1, 6, 23, 24] x) k = l12_0' p23 fuel (fun y => k (.exit 0) (fx12_0.st [0, 1, 6] y)) fuel x :=
  loop_eq (mk := fr12_0.st [0, 1, 6, 23, 24]) (s := fun F x => s12_0' p23 fuel F (fun y => k (.exit 0) (fx12_0.st [0, 1, 6] y)) x) (l := fun n x => l12_0' p23 fuel (fun y => k (.exit 0) (fx12_0.st [0, 1, 6] y)) n x) (d := d12_0) (by kernel_rfl) (fun G x => by
    revert x
    rintro ⟨x3, x4, x5, x6, x7⟩
    kernel_rfl) (fun F x => e12_0 p23 fuel F k x) (fun _ => rfl) (fun _ _ => rfl) x
noncomputable def sub12_0 (p23 : Nat → (Int × Int) → Option (Int × Int)) (fuel : Nat) (R : Type) : Sub R := Sub.of [0, 1, 6, 23, 24] c12_0 fr12_0 fun x k => l12_0' p23 fuel (fun y => k (.exit 0) (fx12_0.st [0, 1, 6] y)) fuel x
theorem subOk12_0 (p23 : Nat → (Int × Int) → Option (Int × Int)) (h23 : ∀ fuel, FunOk P 23 (funOfA fi23 al23 (p23 fuel))) (fuel : Nat) (R : Type) : SubOk P [false] 58 (sub12_0 p23 fuel R) :=
  subOk_part (fns := (fns12 p23 fuel)) (fuel := fuel) (subs := (subsOf [])) (an := al12_0) T_ok (fnsOk12 p23 h23 fuel) mixed subsOk_nil (by kernel_rfl) (by kernel_rfl) fun _ _ _ _ h => Sub.of_run (fun (x : (Int × Int × Int × Int × (List Int))) k => u12_0 p23 fuel k x) h
def fx12_1 : Fr := ⟨[.c (.slc 1 0)], [.box (.d true (.one (.int .u64))), .arr 0 (.int .i64)], 2⟩
def fr12_1 : Fr := ⟨[.c (.ptr 0 0 []), .c (.slc 1 0), .d true (.int .i64)], [.box (.d true (.one (.int .u64))), .arr 0 (.int .i64)], 2⟩
noncomputable def c12_1 : Code := bodyAt Try.f12 [1, 1, 1, 1, 0, 1, 0]
def s12_1 (fuel : Nat) {R : Type} (F : (Int × Int × (List Int)) → Option R) (k0 : (Int × (List Int)) → Option R) : (Int × Int × (List Int)) → Option R := fun (x12, x13, x14) => (bif (decide ((0 : Int) < x12)) then (match p23 fuel ((IntKind.wrap .u64 ((IntKind.wrap .u64 x12) + (1 : Int))), x13) with | some z15 => (if 0 ≤ z15.1 ∧ z15.1 < ((List.length x14 : Nat) : Int) then (match (x14)[(Int.toNat z15.1)]? with | some y16 => (if 0 ≤ x12 ∧ x12 < ((List.length x14 : Nat) : Int) then (match (x14)[(Int.toNat x12)]? with | some y17 => (if 0 ≤ x12 ∧ x12 < ((List.length x14 : Nat) : Int) then (match (x14)[(Int.toNat x12)]? with | some y18 => (if 0 ≤ z15.1 ∧ z15.1 < ((List.length (List.set x14 (Int.toNat x12) y16) : Nat) : Int) then (match ((List.set x14 (Int.toNat x12) y16))[(Int.toNat z15.1)]? with | some y19 => (F ((IntKind.wrap .i64 (x12 - (1 : Int))), z15.2, (List.set (List.set x14 (Int.toNat x12) y16) (Int.toNat z15.1) y17))) | none => none) else none) | none => none) else none) | none => none) else none) | none => none) else none) | none => none) else (k0 (x13, x14)))
def l12_1 (fuel : Nat) {R : Type} (k0 : (Int × (List Int)) → Option R) : Nat → (Int × Int × (List Int)) → Option R
  | 0, _ => none
  | n + 1, x => s12_1 fuel (l12_1 fuel k0 n) k0 x
def s12_1' (p23 : Nat → (Int × Int) → Option (Int × Int)) (fuel : Nat) {R : Type} (F : (Int × Int × (List Int)) → Option R) (k0 : (Int × (List Int)) → Option R) : (Int × Int × (List Int)) → Option R := fun (x12, x13, x14) => (bif (decide ((0 : Int) < x12)) then (match p23 fuel ((IntKind.wrap .u64 ((IntKind.wrap .u64 x12) + (1 : Int))), x13) with | some z15 => (if 0 ≤ z15.1 ∧ z15.1 < ((List.length x14 : Nat) : Int) then (match (x14)[(Int.toNat z15.1)]? with | some y16 => (if 0 ≤ x12 ∧ x12 < ((List.length x14 : Nat) : Int) then (match (x14)[(Int.toNat x12)]? with | some y17 => (if 0 ≤ x12 ∧ x12 < ((List.length x14 : Nat) : Int) then (match (x14)[(Int.toNat x12)]? with | some y18 => (if 0 ≤ z15.1 ∧ z15.1 < ((List.length (List.set x14 (Int.toNat x12) y16) : Nat) : Int) then (match ((List.set x14 (Int.toNat x12) y16))[(Int.toNat z15.1)]? with | some y19 => (F ((IntKind.wrap .i64 (x12 - (1 : Int))), z15.2, (List.set (List.set x14 (Int.toNat x12) y16) (Int.toNat z15.1) y17))) | none => none) else none) | none => none) else none) | none => none) else none) | none => none) else none) | none => none) else (k0 (x13, x14)))
def l12_1' (p23 : Nat → (Int × Int) → Option (Int × Int)) (fuel : Nat) {R : Type} (k0 : (Int × (List Int)) → Option R) : Nat → (Int × Int × (List Int)) → Option R
  | 0, _ => none
  | n + 1, x => s12_1' p23 fuel (l12_1' p23 fuel k0 n) k0 x
def nm12_1 : Norm := ⟨[0, 6, 8], padK 2 [some (0, 0), some (1, 0)]⟩
def an12_1 : AN := (.seq (.seq .leaf (.cond .leaf (.norm ⟨[6], padK 2 [some (0, 0), some (1, 0)]⟩ .leaf))) (.seq (.block (.seq (.region [(4, { touch := [0], ro := false, loc := [0] })]) (.region [(6, { touch := [1] }), (7, { touch := [1] }), (10, { touch := [1] }), (11, { touch := [1] }), (12, { touch := [1] }), (13, { touch := [1], ro := false }), (14, { touch := [1] }), (15, { touch := [1], ro := false })]))) .leaf))
def al12_1 : AN := .loop nm12_1 an12_1
noncomputable def d12_1 : Code := bodyAt Try.f12 [1, 1, 1, 1, 0, 1, 0, 0]
theorem e12_1 (p23 : Nat → (Int × Int) → Option (Int × Int)) (fuel : Nat) {R : Type} (F : St → Option R) (k : AExit → St → Option R) : ∀ x : (Int × Int × (List Int)), runK R T (fns12 p23 fuel) fuel [false] (subsOf [sub12_0 p23 fuel R]) (partOf d12_1 an12_1) (fr12_1.st [0, 6, 8] x) (backTo R [false] nm12_1 F k) = s12_1' p23 fuel (fun x => F (fr12_1.st [0, 6, 8] x)) (fun y => k (.exit 2) (fx12_1.st [6] y)) x := by
  rintro ⟨x12, x13, x14⟩
  kernel_rfl
theorem u12_1 (p23 : Nat → (Int × Int) → Option (Int × Int)) (fuel : Nat) {R : Type} (k : AExit → St → Option R) (x : (Int × Int × (List Int))) : runK R T (fns12 p23 fuel) fuel [false] (subsOf [sub12_0 p23 fuel R]) (partOf c12_1 al12_1) (fr12_1.st [0, 6, 8] x) k = l12_1' p23 fuel (fun y => k (.exit 2) (fx12_1.st [6] y)) fuel x :=
  loop_eq (mk := fr12_1.st [0, 6, 8]) (s := fun F x => s12_1' p23 fuel F (fun y => k (.exit 2) (fx12_1.st [6] y)) x) (l := fun n x => l12_1' p23 fuel (fun y => k (.exit 2) (fx12_1.st [6] y)) n x) (d := d12_1) (by kernel_rfl) (fun G x => by
    revert x
    rintro ⟨x12, x13, x14⟩
    kernel_rfl) (fun F x => e12_1 p23 fuel F k x) (fun _ => rfl) (fun _ _ => rfl) x
noncomputable def sub12_1 (p23 : Nat → (Int × Int) → Option (Int × Int)) (fuel : Nat) (R : Type) : Sub R := Sub.of [0, 6, 8] c12_1 fr12_1 fun x k => l12_1' p23 fuel (fun y => k (.exit 2) (fx12_1.st [6] y)) fuel x
theorem subOk12_1 (p23 : Nat → (Int × Int) → Option (Int × Int)) (h23 : ∀ fuel, FunOk P 23 (funOfA fi23 al23 (p23 fuel))) (fuel : Nat) (R : Type) : SubOk P [false] 58 (sub12_1 p23 fuel R) :=
  subOk_part (fns := (fns12 p23 fuel)) (fuel := fuel) (subs := (subsOf [sub12_0 p23 fuel R])) (an := al12_1) T_ok (fnsOk12 p23 h23 fuel) mixed (subsOk_cons (subOk12_0 p23 h23 fuel R) subsOk_nil) (by kernel_rfl) (by kernel_rfl) fun _ _ _ _ h => Sub.of_run (fun (x : (Int × Int × (List Int))) k => u12_1 p23 fuel k x) h
def an12 : AN := (.seq .leaf (.seq (.seq (.region [(1, { touch := [0] })]) (.cond (.seq .leaf (.co (.empty (.slot 4 []) 3 (.int .i64)) (.norm ⟨[4, 5], padK 2 [some (0, 0), some (3, 0)]⟩ (.ret [some (0, 0), some (1, 0)])))) .leaf)) (.seq (.region [(1, { touch := [2], base := 2, ro := false })]) (.seq (.seq (.region [(1, { touch := [2] })]) (.block (.hole ⟨[0, 1, 6, 23, 24], padK 2 [some (0, 0), some (2, 0)]⟩ 0))) (.seq (.seq .leaf (.block (.hole ⟨[0, 6, 8], padK 2 [some (0, 0), some (1, 0)]⟩ 1))) (.seq .leaf (.norm ⟨[4, 5], padK 2 [some (0, 0), some (1, 0)]⟩ (.ret [some (0, 0), some (1, 0)]))))))))
def p12 (fuel : Nat) : (Int × Int) → Option (Int × Int × (List Int)) := fun (x1, x2) => (bif (decide (x1 < (0 : Int))) then (some ((1 : Int), x2, ([] : List Int))) else (bif (decide ((1000 : Int) < x1)) then (some ((1 : Int), x2, ([] : List Int))) else (if 0 ≤ x1 ∧ x1 ≤ x1 ∧ x1 * ((8 : Nat) : Int) ≤ 140737488355328 then (l12_0 fuel (fun (x9, x10, x11) => (l12_1 fuel (fun (x20, x21) => (some ((0 : Int), x20, x21))) fuel ((IntKind.wrap .i64 (x9 - (1 : Int))), x10, x11))) fuel (x1, ((List.length (List.replicate (Int.toNat x1) (0 : Int)) : Nat) : Int), (0 : Int), x2, (List.replicate (Int.toNat x1) (0 : Int)))) else none)))
def p12' (p23 : Nat → (Int × Int) → Option (Int × Int)) (fuel : Nat) : (Int × Int) → Option (Int × Int × (List Int)) := fun (x1, x2) => (bif (decide (x1 < (0 : Int))) then (some ((1 : Int), x2, ([] : List Int))) else (bif (decide ((1000 : Int) < x1)) then (some ((1 : Int), x2, ([] : List Int))) else (if 0 ≤ x1 ∧ x1 ≤ x1 ∧ x1 * ((8 : Nat) : Int) ≤ 140737488355328 then (l12_0' p23 fuel (fun (x9, x10, x11) => (l12_1' p23 fuel (fun (x20, x21) => (some ((0 : Int), x20, x21))) fuel ((IntKind.wrap .i64 (x9 - (1 : Int))), x10, x11))) fuel (x1, ((List.length (List.replicate (Int.toNat x1) (0 : Int)) : Nat) : Int), (0 : Int), x2, (List.replicate (Int.toNat x1) (0 : Int)))) else none)))
def F12 (fuel : Nat) : Fun := funOfA fi12 al12 (p12 fuel)
theorem run12 (p23 : Nat → (Int × Int) → Option (Int × Int)) (fuel : Nat) : ∀ y : (Int × Int), runF (Int × Int × (List Int)) T (fns12 p23 fuel) fuel (subsOf [sub12_0 p23 fuel (Int × Int × (List Int)), sub12_1 p23 fuel (Int × Int × (List Int))]) (defOf Try.f12 an12 3 [] [false]) (fi12.vs y) (fi12.os y) (altsDec al12) = p12' p23 fuel y := by
  rintro ⟨x1, x2⟩
  kernel_rfl
theorem ok12' (p23 : Nat → (Int × Int) → Option (Int × Int)) (h23 : ∀ fuel, FunOk P 23 (funOfA fi23 al23 (p23 fuel))) (fuel : Nat) : FunOk P 12 (funOfA fi12 al12 (p12' p23 fuel)) :=
  funOfA_ok (subs := (subsOf [sub12_0 p23 fuel (Int × Int × (List Int)), sub12_1 p23 fuel (Int × Int × (List Int))])) (an := an12) (room := 3) (ks := []) (g0 := [false]) (fuel := fuel) T_ok (fnsOk12 p23 h23 fuel) mixed (fn := Try.f12) (by kernel_rfl) (by kernel_rfl) (subsOk_cons (subOk12_0 p23 h23 fuel _) (subsOk_cons (subOk12_1 p23 h23 fuel _) subsOk_nil)) (by kernel_rfl) (fun _ => ⟨by kernel_rfl, by kernel_rfl⟩) (run12 p23 fuel)
theorem same12 (fuel : Nat) : p12' p23 fuel = p12 fuel := by kernel_rfl
theorem ok12 (fuel : Nat) : FunOk P 12 (F12 fuel) := by
  have h := ok12' p23 ok23 fuel
  rw [same12] at h
  exact h

-- f13: (*tontine/draws.Draws).Below
def fns13 (p23 : Nat → (Int × Int) → Option (Int × Int)) (fuel : Nat) : Fns := fnsOf [(23, funOfA fi23 al23 (p23 fuel))]
theorem fnsOk13 (p23 : Nat → (Int × Int) → Option (Int × Int)) (h23 : ∀ fuel, FunOk P 23 (funOfA fi23 al23 (p23 fuel))) (fuel : Nat) : FnsOk P (fns13 p23 fuel) := (fnsOk_cons (h23 fuel) fnsOk_nil)
def fi13 : Fr := ⟨[.c (.ptr 0 0 []), .d false (.int .i64)], [.box (.d true (.one (.int .u64)))], 0⟩
def al13 : List (Tm × List To) := [(.tup (.cons (.d true (.int .i64)) (.cons (.d true (.int .i64)) (.c .nil))), [.box (.d true (.one (.int .u64)))])]
def an13 : AN := (.seq .leaf (.seq (.seq (.region [(1, { touch := [0] })]) (.cond (.seq .leaf (.norm ⟨[4, 5], padK 0 [some (0, 0)]⟩ (.ret [some (0, 0)]))) .leaf)) (.seq (.region [(3, { touch := [0], ro := false, loc := [0] })]) (.norm ⟨[4, 5], padK 0 [some (0, 0)]⟩ (.ret [some (0, 0)])))))
def p13 (fuel : Nat) : (Int × Int) → Option (Int × Int × Int) := fun (x1, x2) => (bif (decide (x1 < (1 : Int))) then (some ((0 : Int), (1 : Int), x2)) else (match p23 fuel ((IntKind.wrap .u64 x1), x2) with | some z3 => (some ((IntKind.wrap .i64 z3.1), (0 : Int), z3.2)) | none => none))
def p13' (p23 : Nat → (Int × Int) → Option (Int × Int)) (fuel : Nat) : (Int × Int) → Option (Int × Int × Int) := fun (x1, x2) => (bif (decide (x1 < (1 : Int))) then (some ((0 : Int), (1 : Int), x2)) else (match p23 fuel ((IntKind.wrap .u64 x1), x2) with | some z3 => (some ((IntKind.wrap .i64 z3.1), (0 : Int), z3.2)) | none => none))
def F13 (fuel : Nat) : Fun := funOfA fi13 al13 (p13 fuel)
theorem run13 (p23 : Nat → (Int × Int) → Option (Int × Int)) (fuel : Nat) : ∀ y : (Int × Int), runF (Int × Int × Int) T (fns13 p23 fuel) fuel (subsOf []) (defOf Try.f13 an13 0 [] [false]) (fi13.vs y) (fi13.os y) (altsDec al13) = p13' p23 fuel y := by
  rintro ⟨x1, x2⟩
  kernel_rfl
theorem ok13' (p23 : Nat → (Int × Int) → Option (Int × Int)) (h23 : ∀ fuel, FunOk P 23 (funOfA fi23 al23 (p23 fuel))) (fuel : Nat) : FunOk P 13 (funOfA fi13 al13 (p13' p23 fuel)) :=
  funOfA_ok (subs := (subsOf [])) (an := an13) (room := 0) (ks := []) (g0 := [false]) (fuel := fuel) T_ok (fnsOk13 p23 h23 fuel) mixed (fn := Try.f13) (by kernel_rfl) (by kernel_rfl) subsOk_nil (by kernel_rfl) (fun _ => ⟨by kernel_rfl, by kernel_rfl⟩) (run13 p23 fuel)
theorem same13 (fuel : Nat) : p13' p23 fuel = p13 fuel := by kernel_rfl
theorem ok13 (fuel : Nat) : FunOk P 13 (F13 fuel) := by
  have h := ok13' p23 ok23 fuel
  rw [same13] at h
  exact h

-- f14: (*tontine/draws.Draws).Pick
def fns14 (p23 : Nat → (Int × Int) → Option (Int × Int)) (fuel : Nat) : Fns := fnsOf [(23, funOfA fi23 al23 (p23 fuel))]
theorem fnsOk14 (p23 : Nat → (Int × Int) → Option (Int × Int)) (h23 : ∀ fuel, FunOk P 23 (funOfA fi23 al23 (p23 fuel))) (fuel : Nat) : FnsOk P (fns14 p23 fuel) := (fnsOk_cons (h23 fuel) fnsOk_nil)
def fi14 : Fr := ⟨[.c (.ptr 0 0 []), .d true (.slice (.int .i64))], [.box (.d true (.one (.int .u64)))], 0⟩
def al14 : List (Tm × List To) := [(.tup (.cons (.d true (.int .i64)) (.cons (.d true (.int .i64)) (.c .nil))), [.box (.d true (.one (.int .u64)))])]
def fx14_0 : Fr := ⟨[.d true (.int .i64), .d true (.int .i64)], [.box (.d true (.one (.int .u64)))], 0⟩
def fx14_1 : Fr := ⟨[.c (.ptr 0 0 []), .d true (.slice (.int .i64)), .d true (.int .u64)], [.box (.d true (.one (.int .u64)))], 0⟩
def fr14_0 : Fr := ⟨[.c (.ptr 0 0 []), .d true (.slice (.int .i64)), .d true (.int .u64), .d true (.slice (.int .i64)), .d true (.int .i64), .d true (.int .i64)], [.box (.d true (.one (.int .u64)))], 0⟩
noncomputable def c14_0 : Code := bodyAt Try.f14 [1, 1, 1, 0, 1, 0]
def s14_0 (fuel : Nat) {R : Type} (F : ((List Int) × Int × (List Int) × Int × Int × Int) → Option R) (k0 : (Int × Int × Int) → Option R) (k1 : ((List Int) × Int × Int) → Option R) : ((List Int) × Int × (List Int) × Int × Int × Int) → Option R := fun (x3, x4, x5, x6, x7, x8) => (bif (decide (x7 < x6)) then (if 0 ≤ x7 then (match (x5)[Int.toNat x7]? with | some y9 => (bif (decide (y9 < (0 : Int))) then (k0 ((0 : Int), (1 : Int), x8)) else (bif (decide ((2147483647 : Int) < y9)) then (k0 ((0 : Int), (1 : Int), x8)) else (F (x3, (IntKind.wrap .u64 (x4 + (IntKind.wrap .u64 y9))), x5, x6, (IntKind.wrap .i64 (x7 + (1 : Int))), x8)))) | none => none) else none) else (k1 (x3, x4, x8)))
def l14_0 (fuel : Nat) {R : Type} (k0 : (Int × Int × Int) → Option R) (k1 : ((List Int) × Int × Int) → Option R) : Nat → ((List Int) × Int × (List Int) × Int × Int × Int) → Option R
  | 0, _ => none
  | n + 1, x => s14_0 fuel (l14_0 fuel k0 k1 n) k0 k1 x
def s14_0' (p23 : Nat → (Int × Int) → Option (Int × Int)) (fuel : Nat) {R : Type} (F : ((List Int) × Int × (List Int) × Int × Int × Int) → Option R) (k0 : (Int × Int × Int) → Option R) (k1 : ((List Int) × Int × Int) → Option R) : ((List Int) × Int × (List Int) × Int × Int × Int) → Option R := fun (x3, x4, x5, x6, x7, x8) => (bif (decide (x7 < x6)) then (if 0 ≤ x7 then (match (x5)[Int.toNat x7]? with | some y9 => (bif (decide (y9 < (0 : Int))) then (k0 ((0 : Int), (1 : Int), x8)) else (bif (decide ((2147483647 : Int) < y9)) then (k0 ((0 : Int), (1 : Int), x8)) else (F (x3, (IntKind.wrap .u64 (x4 + (IntKind.wrap .u64 y9))), x5, x6, (IntKind.wrap .i64 (x7 + (1 : Int))), x8)))) | none => none) else none) else (k1 (x3, x4, x8)))
def l14_0' (p23 : Nat → (Int × Int) → Option (Int × Int)) (fuel : Nat) {R : Type} (k0 : (Int × Int × Int) → Option R) (k1 : ((List Int) × Int × Int) → Option R) : Nat → ((List Int) × Int × (List Int) × Int × Int × Int) → Option R
  | 0, _ => none
  | n + 1, x => s14_0' p23 fuel (l14_0' p23 fuel k0 k1 n) k0 k1 x
def nm14_0 : Norm := ⟨[0, 1, 6, 19, 20, 21], padK 0 [some (0, 0)]⟩
def an14_0 : AN := (.seq .leaf (.seq (.cond .leaf (.norm ⟨[0, 1, 6], padK 0 [some (0, 0)]⟩ .leaf)) (.seq (.block (.seq .leaf (.seq (.seq .leaf (.cond (.seq .leaf (.norm ⟨[4, 5], padK 0 [some (0, 0)]⟩ (.ret [some (0, 0)]))) .leaf)) .leaf))) .leaf)))
def al14_0 : AN := .loop nm14_0 an14_0
noncomputable def d14_0 : Code := bodyAt Try.f14 [1, 1, 1, 0, 1, 0, 0]
theorem e14_0 (p23 : Nat → (Int × Int) → Option (Int × Int)) (fuel : Nat) {R : Type} (F : St → Option R) (k : AExit → St → Option R) : ∀ x : ((List Int) × Int × (List Int) × Int × Int × Int), runK R T (fns14 p23 fuel) fuel [false] (subsOf []) (partOf d14_0 an14_0) (fr14_0.st [0, 1, 6, 19, 20, 21] x) (backTo R [false] nm14_0 F k) = s14_0' p23 fuel (fun x => F (fr14_0.st [0, 1, 6, 19, 20, 21] x)) (fun y => k (.ret [some (0, 0)]) (fx14_0.st [4, 5] y)) (fun y => k (.exit 0) (fx14_1.st [0, 1, 6] y)) x := by
  rintro ⟨x3, x4, x5, x6, x7, x8⟩
  kernel_rfl
theorem u14_0 (p23 : Nat → (Int × Int) → Option (Int × Int)) (fuel : Nat) {R : Type} (k : AExit → St → Option R) (x : ((List Int) × Int × (List Int) × Int × Int × Int)) : runK R T (fns14 p23 fuel) fuel [false] (subsOf []) (partOf c14_0 al14_0) (fr14_0.st [0, 1, 6, 19, 20, 21] x) k = l14_0' p23 fuel (fun y => k (.ret [some (0, 0)]) (fx14_0.st [4, 5] y)) (fun y => k (.exit 0) (fx14_1.st [0, 1, 6] y)) fuel x :=
  loop_eq (mk := fr14_0.st [0, 1, 6, 19, 20, 21]) (s := fun F x => s14_0' p23 fuel F (fun y => k (.ret [some (0, 0)]) (fx14_0.st [4, 5] y)) (fun y => k (.exit 0) (fx14_1.st [0, 1, 6] y)) x) (l := fun n x => l14_0' p23 fuel (fun y => k (.ret [some (0, 0)]) (fx14_0.st [4, 5] y)) (fun y => k (.exit 0) (fx14_1.st [0, 1, 6] y)) n x) (d := d14_0) (by kernel_rfl) (fun G x => by
    revert x
    rintro ⟨x3, x4, x5, x6, x7, x8⟩
    kernel_rfl) (fun F x => e14_0 p23 fuel F k x) (fun _ => rfl) (fun _ _ => rfl) x
noncomputable def sub14_0 (p23 : Nat → (Int × Int) → Option (Int × Int)) (fuel : Nat) (R : Type) : Sub R := Sub.of [0, 1, 6, 19, 20, 21] c14_0 fr14_0 fun x k => l14_0' p23 fuel (fun y => k (.ret [some (0, 0)]) (fx14_0.st [4, 5] y)) (fun y => k (.exit 0) (fx14_1.st [0, 1, 6] y)) fuel x
theorem subOk14_0 (p23 : Nat → (Int × Int) → Option (Int × Int)) (h23 : ∀ fuel, FunOk P 23 (funOfA fi23 al23 (p23 fuel))) (fuel : Nat) (R : Type) : SubOk P [false] 58 (sub14_0 p23 fuel R) :=
  subOk_part (fns := (fns14 p23 fuel)) (fuel := fuel) (subs := (subsOf [])) (an := al14_0) T_ok (fnsOk14 p23 h23 fuel) mixed subsOk_nil (by kernel_rfl) (by kernel_rfl) fun _ _ _ _ h => Sub.of_run (fun (x : ((List Int) × Int × (List Int) × Int × Int × Int)) k => u14_0 p23 fuel k x) h
def fx14_2 : Fr := ⟨[], [.box (.d true (.one (.int .u64)))], 0⟩
def fr14_1 : Fr := ⟨[.d true (.int .u64), .d true (.slice (.int .i64)), .d true (.int .i64), .d true (.int .i64)], [.box (.d true (.one (.int .u64)))], 0⟩
noncomputable def c14_1 : Code := bodyAt Try.f14 [1, 1, 1, 1, 1, 1, 0, 1, 0]
def s14_1 (fuel : Nat) {R : Type} (F : (Int × (List Int) × Int × Int × Int) → Option R) (k0 : (Int × Int × Int) → Option R) (k1 : Int → Option R) : (Int × (List Int) × Int × Int × Int) → Option R := fun (x17, x18, x19, x20, x21) => (bif (decide (x20 < x19)) then (if 0 ≤ x20 then (match (x18)[Int.toNat x20]? with | some y22 => (bif (decide (x17 < (IntKind.wrap .u64 y22))) then (k0 (x20, (0 : Int), x21)) else (F ((IntKind.wrap .u64 (x17 - (IntKind.wrap .u64 y22))), x18, x19, (IntKind.wrap .i64 (x20 + (1 : Int))), x21))) | none => none) else none) else (k1 x21))
def l14_1 (fuel : Nat) {R : Type} (k0 : (Int × Int × Int) → Option R) (k1 : Int → Option R) : Nat → (Int × (List Int) × Int × Int × Int) → Option R
  | 0, _ => none
  | n + 1, x => s14_1 fuel (l14_1 fuel k0 k1 n) k0 k1 x
def s14_1' (p23 : Nat → (Int × Int) → Option (Int × Int)) (fuel : Nat) {R : Type} (F : (Int × (List Int) × Int × Int × Int) → Option R) (k0 : (Int × Int × Int) → Option R) (k1 : Int → Option R) : (Int × (List Int) × Int × Int × Int) → Option R := fun (x17, x18, x19, x20, x21) => (bif (decide (x20 < x19)) then (if 0 ≤ x20 then (match (x18)[Int.toNat x20]? with | some y22 => (bif (decide (x17 < (IntKind.wrap .u64 y22))) then (k0 (x20, (0 : Int), x21)) else (F ((IntKind.wrap .u64 (x17 - (IntKind.wrap .u64 y22))), x18, x19, (IntKind.wrap .i64 (x20 + (1 : Int))), x21))) | none => none) else none) else (k1 x21))
def l14_1' (p23 : Nat → (Int × Int) → Option (Int × Int)) (fuel : Nat) {R : Type} (k0 : (Int × Int × Int) → Option R) (k1 : Int → Option R) : Nat → (Int × (List Int) × Int × Int × Int) → Option R
  | 0, _ => none
  | n + 1, x => s14_1' p23 fuel (l14_1' p23 fuel k0 k1 n) k0 k1 x
def nm14_1 : Norm := ⟨[9, 41, 42, 43], padK 0 [some (0, 0)]⟩
def an14_1 : AN := (.seq .leaf (.seq (.cond .leaf (.norm ⟨[], padK 0 [some (0, 0)]⟩ .leaf)) (.seq (.block (.seq .leaf (.seq (.seq .leaf (.cond (.seq .leaf (.norm ⟨[4, 5], padK 0 [some (0, 0)]⟩ (.ret [some (0, 0)]))) .leaf)) .leaf))) .leaf)))
def al14_1 : AN := .loop nm14_1 an14_1
noncomputable def d14_1 : Code := bodyAt Try.f14 [1, 1, 1, 1, 1, 1, 0, 1, 0, 0]
theorem e14_1 (p23 : Nat → (Int × Int) → Option (Int × Int)) (fuel : Nat) {R : Type} (F : St → Option R) (k : AExit → St → Option R) : ∀ x : (Int × (List Int) × Int × Int × Int), runK R T (fns14 p23 fuel) fuel [false] (subsOf [sub14_0 p23 fuel R]) (partOf d14_1 an14_1) (fr14_1.st [9, 41, 42, 43] x) (backTo R [false] nm14_1 F k) = s14_1' p23 fuel (fun x => F (fr14_1.st [9, 41, 42, 43] x)) (fun y => k (.ret [some (0, 0)]) (fx14_0.st [4, 5] y)) (fun y => k (.exit 2) (fx14_2.st [] y)) x := by
  rintro ⟨x17, x18, x19, x20, x21⟩
  kernel_rfl
theorem u14_1 (p23 : Nat → (Int × Int) → Option (Int × Int)) (fuel : Nat) {R : Type} (k : AExit → St → Option R) (x : (Int × (List Int) × Int × Int × Int)) : runK R T (fns14 p23 fuel) fuel [false] (subsOf [sub14_0 p23 fuel R]) (partOf c14_1 al14_1) (fr14_1.st [9, 41, 42, 43] x) k = l14_1' p23 fuel (fun y => k (.ret [some (0, 0)]) (fx14_0.st [4, 5] y)) (fun y => k (.exit 2) (fx14_2.st [] y)) fuel x :=
  loop_eq (mk := fr14_1.st [9, 41, 42, 43]) (s := fun F x => s14_1' p23 fuel F (fun y => k (.ret [some (0, 0)]) (fx14_0.st [4, 5] y)) (fun y => k (.exit 2) (fx14_2.st [] y)) x) (l := fun n x => l14_1' p23 fuel (fun y => k (.ret [some (0, 0)]) (fx14_0.st [4, 5] y)) (fun y => k (.exit 2) (fx14_2.st [] y)) n x) (d := d14_1) (by kernel_rfl) (fun G x => by
    revert x
    rintro ⟨x17, x18, x19, x20, x21⟩
    kernel_rfl) (fun F x => e14_1 p23 fuel F k x) (fun _ => rfl) (fun _ _ => rfl) x
noncomputable def sub14_1 (p23 : Nat → (Int × Int) → Option (Int × Int)) (fuel : Nat) (R : Type) : Sub R := Sub.of [9, 41, 42, 43] c14_1 fr14_1 fun x k => l14_1' p23 fuel (fun y => k (.ret [some (0, 0)]) (fx14_0.st [4, 5] y)) (fun y => k (.exit 2) (fx14_2.st [] y)) fuel x
theorem subOk14_1 (p23 : Nat → (Int × Int) → Option (Int × Int)) (h23 : ∀ fuel, FunOk P 23 (funOfA fi23 al23 (p23 fuel))) (fuel : Nat) (R : Type) : SubOk P [false] 58 (sub14_1 p23 fuel R) :=
  subOk_part (fns := (fns14 p23 fuel)) (fuel := fuel) (subs := (subsOf [sub14_0 p23 fuel R])) (an := al14_1) T_ok (fnsOk14 p23 h23 fuel) mixed (subsOk_cons (subOk14_0 p23 h23 fuel R) subsOk_nil) (by kernel_rfl) (by kernel_rfl) fun _ _ _ _ h => Sub.of_run (fun (x : (Int × (List Int) × Int × Int × Int)) k => u14_1 p23 fuel k x) h
def an14 : AN := (.seq .leaf (.seq (.seq (.region [(1, { touch := [0] })]) (.cond (.seq .leaf (.norm ⟨[4, 5], padK 0 [some (0, 0)]⟩ (.ret [some (0, 0)]))) .leaf)) (.seq .leaf (.seq (.seq .leaf (.block (.hole ⟨[0, 1, 6, 19, 20, 21], padK 0 [some (0, 0)]⟩ 0))) (.seq (.seq .leaf (.cond (.seq .leaf (.norm ⟨[4, 5], padK 0 [some (0, 0)]⟩ (.ret [some (0, 0)]))) .leaf)) (.seq (.region [(2, { touch := [0], ro := false, loc := [0] })]) (.seq (.seq .leaf (.block (.hole ⟨[9, 41, 42, 43], padK 0 [some (0, 0)]⟩ 1))) (.seq .leaf (.norm ⟨[4, 5], padK 0 [some (0, 0)]⟩ (.ret [some (0, 0)]))))))))))
def p14 (fuel : Nat) : ((List Int) × Int) → Option (Int × Int × Int) := fun (x1, x2) => (bif (decide ((1000 : Int) < ((List.length x1 : Nat) : Int))) then (some ((0 : Int), (1 : Int), x2)) else (l14_0 fuel (fun (x10, x11, x12) => (some (x10, x11, x12))) (fun (x13, x14, x15) => (bif (decide (x14 = (0 : Int))) then (some ((0 : Int), (1 : Int), x15)) else (match p23 fuel (x14, x15) with | some z16 => (l14_1 fuel (fun (x23, x24, x25) => (some (x23, x24, x25))) (fun x26 => (some ((0 : Int), (1 : Int), x26))) fuel (z16.1, x13, ((List.length x13 : Nat) : Int), (0 : Int), z16.2)) | none => none))) fuel (x1, (0 : Int), x1, ((List.length x1 : Nat) : Int), (0 : Int), x2)))
def p14' (p23 : Nat → (Int × Int) → Option (Int × Int)) (fuel : Nat) : ((List Int) × Int) → Option (Int × Int × Int) := fun (x1, x2) => (bif (decide ((1000 : Int) < ((List.length x1 : Nat) : Int))) then (some ((0 : Int), (1 : Int), x2)) else (l14_0' p23 fuel (fun (x10, x11, x12) => (some (x10, x11, x12))) (fun (x13, x14, x15) => (bif (decide (x14 = (0 : Int))) then (some ((0 : Int), (1 : Int), x15)) else (match p23 fuel (x14, x15) with | some z16 => (l14_1' p23 fuel (fun (x23, x24, x25) => (some (x23, x24, x25))) (fun x26 => (some ((0 : Int), (1 : Int), x26))) fuel (z16.1, x13, ((List.length x13 : Nat) : Int), (0 : Int), z16.2)) | none => none))) fuel (x1, (0 : Int), x1, ((List.length x1 : Nat) : Int), (0 : Int), x2)))
def F14 (fuel : Nat) : Fun := funOfA fi14 al14 (p14 fuel)
theorem run14 (p23 : Nat → (Int × Int) → Option (Int × Int)) (fuel : Nat) : ∀ y : ((List Int) × Int), runF (Int × Int × Int) T (fns14 p23 fuel) fuel (subsOf [sub14_0 p23 fuel (Int × Int × Int), sub14_1 p23 fuel (Int × Int × Int)]) (defOf Try.f14 an14 0 [] [false]) (fi14.vs y) (fi14.os y) (altsDec al14) = p14' p23 fuel y := by
  rintro ⟨x1, x2⟩
  kernel_rfl
theorem ok14' (p23 : Nat → (Int × Int) → Option (Int × Int)) (h23 : ∀ fuel, FunOk P 23 (funOfA fi23 al23 (p23 fuel))) (fuel : Nat) : FunOk P 14 (funOfA fi14 al14 (p14' p23 fuel)) :=
  funOfA_ok (subs := (subsOf [sub14_0 p23 fuel (Int × Int × Int), sub14_1 p23 fuel (Int × Int × Int)])) (an := an14) (room := 0) (ks := []) (g0 := [false]) (fuel := fuel) T_ok (fnsOk14 p23 h23 fuel) mixed (fn := Try.f14) (by kernel_rfl) (by kernel_rfl) (subsOk_cons (subOk14_0 p23 h23 fuel _) (subsOk_cons (subOk14_1 p23 h23 fuel _) subsOk_nil)) (by kernel_rfl) (fun _ => ⟨by kernel_rfl, by kernel_rfl⟩) (run14 p23 fuel)
theorem same14 (fuel : Nat) : p14' p23 fuel = p14 fuel := by kernel_rfl
theorem ok14 (fuel : Nat) : FunOk P 14 (F14 fuel) := by
  have h := ok14' p23 ok23 fuel
  rw [same14] at h
  exact h

-- f4: tontine/tontinelaw05.DrawsFair
def fns4 (p8 : Nat → Int → Option Int) (fuel : Nat) : Fns := fnsOf [(7, F7 fuel), (8, funOfA fi8 al8 (p8 fuel)), (12, F12 fuel), (13, F13 fuel), (14, F14 fuel)]
theorem fnsOk4 (p8 : Nat → Int → Option Int) (h8 : ∀ fuel, FunOk P 8 (funOfA fi8 al8 (p8 fuel))) (fuel : Nat) : FnsOk P (fns4 p8 fuel) := (fnsOk_cons (ok7 fuel) (fnsOk_cons (h8 fuel) (fnsOk_cons (ok12 fuel) (fnsOk_cons (ok13 fuel) (fnsOk_cons (ok14 fuel) fnsOk_nil)))))
def fi4 : Fr := ⟨[.d false (.int .u64), .d false (.int .i64), .d true (.slice (.int .i64))], [], 0⟩
def al4 : List (Tm × List To) := [(.d true (.bool), [])]
def fx4_0 : Fr := ⟨[.d true (.bool)], [], 6⟩
def fx4_1 : Fr := ⟨[.d true (.int .i64), .d true (.slice (.int .i64)), .d true (.bool), .c (.ptr 0 0 []), .d true (.int .i64)], [.box (.d true (.one (.int .u64)))], 5⟩
def fr4_0 : Fr := ⟨[.d true (.int .i64), .d true (.slice (.int .i64)), .d true (.bool), .c (.ptr 0 0 []), .c (.slc 1 0), .d true (.int .i64), .c (.slc 2 0), .d true (.int .i64)], [.box (.d true (.one (.int .u64))), .arr 0 (.int .i64), .arr 0 (.bool)], 3⟩
noncomputable def c4_0 : Code := bodyAt Try.f4 [1, 1, 1, 1, 1, 0, 1, 0, 1, 1, 1, 0]
def s4_0 (fuel : Nat) {R : Type} (F : (Int × (List Int) × Bool × Int × Int × Int × (List Int) × (List Bool)) → Option R) (k0 : Bool → Option R) (k1 : (Int × (List Int) × Bool × Int × Int) → Option R) : (Int × (List Int) × Bool × Int × Int × Int × (List Int) × (List Bool)) → Option R := fun (x7, x8, x9, x10, x11, x12, x13, x14) => (bif (decide (x11 < x7)) then (if 0 ≤ x11 ∧ x11 < ((List.length x13 : Nat) : Int) then (match (x13)[(Int.toNat x11)]? with | some y15 => (bif (decide (y15 < (0 : Int))) then (k0 false) else (if 0 ≤ x11 ∧ x11 < ((List.length x13 : Nat) : Int) then (match (x13)[(Int.toNat x11)]? with | some y16 => (bif (decide (x7 ≤ y16)) then (k0 false) else (if 0 ≤ x11 ∧ x11 < ((List.length x13 : Nat) : Int) then (match (x13)[(Int.toNat x11)]? with | some y17 => (if 0 ≤ y17 ∧ y17 < ((List.length x14 : Nat) : Int) then (match (x14)[(Int.toNat y17)]? with | some y18 => (bif y18 then (k0 false) else (if 0 ≤ x11 ∧ x11 < ((List.length x13 : Nat) : Int) then (match (x13)[(Int.toNat x11)]? with | some y19 => (if 0 ≤ y19 ∧ y19 < ((List.length x14 : Nat) : Int) then (match (x14)[(Int.toNat y19)]? with | some y20 => (F (x7, x8, x9, x10, (IntKind.wrap .i64 (x11 + (1 : Int))), x12, x13, (List.set x14 (Int.toNat y19) true))) | none => none) else none) | none => none) else none)) | none => none) else none) | none => none) else none)) | none => none) else none)) | none => none) else none) else (k1 (x7, x8, x9, x10, x12)))
def l4_0 (fuel : Nat) {R : Type} (k0 : Bool → Option R) (k1 : (Int × (List Int) × Bool × Int × Int) → Option R) : Nat → (Int × (List Int) × Bool × Int × Int × Int × (List Int) × (List Bool)) → Option R
  | 0, _ => none
  | n + 1, x => s4_0 fuel (l4_0 fuel k0 k1 n) k0 k1 x
def s4_0' (p8 : Nat → Int → Option Int) (fuel : Nat) {R : Type} (F : (Int × (List Int) × Bool × Int × Int × Int × (List Int) × (List Bool)) → Option R) (k0 : Bool → Option R) (k1 : (Int × (List Int) × Bool × Int × Int) → Option R) : (Int × (List Int) × Bool × Int × Int × Int × (List Int) × (List Bool)) → Option R := fun (x7, x8, x9, x10, x11, x12, x13, x14) => (bif (decide (x11 < x7)) then (if 0 ≤ x11 ∧ x11 < ((List.length x13 : Nat) : Int) then (match (x13)[(Int.toNat x11)]? with | some y15 => (bif (decide (y15 < (0 : Int))) then (k0 false) else (if 0 ≤ x11 ∧ x11 < ((List.length x13 : Nat) : Int) then (match (x13)[(Int.toNat x11)]? with | some y16 => (bif (decide (x7 ≤ y16)) then (k0 false) else (if 0 ≤ x11 ∧ x11 < ((List.length x13 : Nat) : Int) then (match (x13)[(Int.toNat x11)]? with | some y17 => (if 0 ≤ y17 ∧ y17 < ((List.length x14 : Nat) : Int) then (match (x14)[(Int.toNat y17)]? with | some y18 => (bif y18 then (k0 false) else (if 0 ≤ x11 ∧ x11 < ((List.length x13 : Nat) : Int) then (match (x13)[(Int.toNat x11)]? with | some y19 => (if 0 ≤ y19 ∧ y19 < ((List.length x14 : Nat) : Int) then (match (x14)[(Int.toNat y19)]? with | some y20 => (F (x7, x8, x9, x10, (IntKind.wrap .i64 (x11 + (1 : Int))), x12, x13, (List.set x14 (Int.toNat y19) true))) | none => none) else none) | none => none) else none)) | none => none) else none) | none => none) else none)) | none => none) else none)) | none => none) else none) else (k1 (x7, x8, x9, x10, x12)))
def l4_0' (p8 : Nat → Int → Option Int) (fuel : Nat) {R : Type} (k0 : Bool → Option R) (k1 : (Int × (List Int) × Bool × Int × Int) → Option R) : Nat → (Int × (List Int) × Bool × Int × Int × Int × (List Int) × (List Bool)) → Option R
  | 0, _ => none
  | n + 1, x => s4_0' p8 fuel (l4_0' p8 fuel k0 k1 n) k0 k1 x
def nm4_0 : Norm := ⟨[1, 2, 7, 8, 9, 10, 11, 12], padK 3 [some (0, 0), some (1, 0), some (2, 0)]⟩
def an4_0 : AN := (.seq (.seq .leaf (.cond .leaf (.norm ⟨[1, 2, 7, 8, 10], padK 5 [some (0, 0)]⟩ .leaf))) (.seq (.block (.seq (.seq (.region [(2, { touch := [1] }), (3, { touch := [1] }), (8, { touch := [1] }), (9, { touch := [1] }), (17, { touch := [1] }), (18, { touch := [1] }), (19, { touch := [2] }), (20, { touch := [2] })]) (.cond (.seq .leaf (.norm ⟨[6], padK 6 []⟩ (.ret []))) .leaf)) (.region [(3, { touch := [1] }), (4, { touch := [1] }), (5, { touch := [2] }), (6, { touch := [2], ro := false })]))) .leaf))
def al4_0 : AN := .loop nm4_0 an4_0
noncomputable def d4_0 : Code := bodyAt Try.f4 [1, 1, 1, 1, 1, 0, 1, 0, 1, 1, 1, 0, 0]
theorem e4_0 (p8 : Nat → Int → Option Int) (fuel : Nat) {R : Type} (F : St → Option R) (k : AExit → St → Option R) : ∀ x : (Int × (List Int) × Bool × Int × Int × Int × (List Int) × (List Bool)), runK R T (fns4 p8 fuel) fuel [] (subsOf []) (partOf d4_0 an4_0) (fr4_0.st [1, 2, 7, 8, 9, 10, 11, 12] x) (backTo R [] nm4_0 F k) = s4_0' p8 fuel (fun x => F (fr4_0.st [1, 2, 7, 8, 9, 10, 11, 12] x)) (fun y => k (.ret []) (fx4_0.st [6] y)) (fun y => k (.exit 0) (fx4_1.st [1, 2, 7, 8, 10] y)) x := by
  rintro ⟨x7, x8, x9, x10, x11, x12, x13, x14⟩
  kernel_rfl
theorem u4_0 (p8 : Nat → Int → Option Int) (fuel : Nat) {R : Type} (k : AExit → St → Option R) (x : (Int × (List Int) × Bool × Int × Int × Int × (List Int) × (List Bool))) : runK R T (fns4 p8 fuel) fuel [] (subsOf []) (partOf c4_0 al4_0) (fr4_0.st [1, 2, 7, 8, 9, 10, 11, 12] x) k = l4_0' p8 fuel (fun y => k (.ret []) (fx4_0.st [6] y)) (fun y => k (.exit 0) (fx4_1.st [1, 2, 7, 8, 10] y)) fuel x :=
  loop_eq (mk := fr4_0.st [1, 2, 7, 8, 9, 10, 11, 12]) (s := fun F x => s4_0' p8 fuel F (fun y => k (.ret []) (fx4_0.st [6] y)) (fun y => k (.exit 0) (fx4_1.st [1, 2, 7, 8, 10] y)) x) (l := fun n x => l4_0' p8 fuel (fun y => k (.ret []) (fx4_0.st [6] y)) (fun y => k (.exit 0) (fx4_1.st [1, 2, 7, 8, 10] y)) n x) (d := d4_0) (by kernel_rfl) (fun G x => by
    revert x
    rintro ⟨x7, x8, x9, x10, x11, x12, x13, x14⟩
    kernel_rfl) (fun F x => e4_0 p8 fuel F k x) (fun _ => rfl) (fun _ _ => rfl) x
noncomputable def sub4_0 (p8 : Nat → Int → Option Int) (fuel : Nat) (R : Type) : Sub R := Sub.of [1, 2, 7, 8, 9, 10, 11, 12] c4_0 fr4_0 fun x k => l4_0' p8 fuel (fun y => k (.ret []) (fx4_0.st [6] y)) (fun y => k (.exit 0) (fx4_1.st [1, 2, 7, 8, 10] y)) fuel x
theorem subOk4_0 (p8 : Nat → Int → Option Int) (h8 : ∀ fuel, FunOk P 8 (funOfA fi8 al8 (p8 fuel))) (fuel : Nat) (R : Type) : SubOk P [] 132 (sub4_0 p8 fuel R) :=
  subOk_part (fns := (fns4 p8 fuel)) (fuel := fuel) (subs := (subsOf [])) (an := al4_0) T_ok (fnsOk4 p8 h8 fuel) mixed subsOk_nil (by kernel_rfl) (by kernel_rfl) fun _ _ _ _ h => Sub.of_run (fun (x : (Int × (List Int) × Bool × Int × Int × Int × (List Int) × (List Bool))) k => u4_0 p8 fuel k x) h
def fr4_1 : Fr := ⟨[.d true (.int .i64), .d true (.bool), .d true (.int .i64), .d true (.int .i64)], [], 6⟩
noncomputable def c4_1 : Code := bodyAt Try.f4 [1, 1, 1, 1, 1, 1, 1, 1, 1]
def j4_1 (fuel : Nat) {R : Type} (k0 : Bool → Option R) : (Int × Bool × Int × Int) → Option R := fun (x36, x37, x38, x39) => (bif x37 then (bif ((decide (x39 = (0 : Int))) == (decide ((1 : Int) ≤ x36))) then (bif (decide ((0 : Int) ≤ x36)) then (k0 ((decide (x38 = (0 : Int))) == (decide (x36 ≤ (1000 : Int))))) else (k0 ((decide (x38 = (0 : Int))) == false))) else (k0 false)) else (k0 false))
def j4_1' (p8 : Nat → Int → Option Int) (fuel : Nat) {R : Type} (k0 : Bool → Option R) : (Int × Bool × Int × Int) → Option R := fun (x36, x37, x38, x39) => (bif x37 then (bif ((decide (x39 = (0 : Int))) == (decide ((1 : Int) ≤ x36))) then (bif (decide ((0 : Int) ≤ x36)) then (k0 ((decide (x38 = (0 : Int))) == (decide (x36 ≤ (1000 : Int))))) else (k0 ((decide (x38 = (0 : Int))) == false))) else (k0 false)) else (k0 false))
def al4_1 : AN := (.seq .leaf (.norm ⟨[6], padK 6 []⟩ (.ret [])))
theorem u4_1 (p8 : Nat → Int → Option Int) (fuel : Nat) {R : Type} (k : AExit → St → Option R) : ∀ x : (Int × Bool × Int × Int), runK R T (fns4 p8 fuel) fuel [] (subsOf [sub4_0 p8 fuel R]) (partOf c4_1 al4_1) (fr4_1.st [1, 7, 10, 14] x) k = j4_1' p8 fuel (fun y => k (.ret []) (fx4_0.st [6] y)) x := by
  rintro ⟨x36, x37, x38, x39⟩
  kernel_rfl
noncomputable def sub4_1 (p8 : Nat → Int → Option Int) (fuel : Nat) (R : Type) : Sub R := Sub.of [1, 7, 10, 14] c4_1 fr4_1 fun x k => j4_1' p8 fuel (fun y => k (.ret []) (fx4_0.st [6] y)) x
theorem subOk4_1 (p8 : Nat → Int → Option Int) (h8 : ∀ fuel, FunOk P 8 (funOfA fi8 al8 (p8 fuel))) (fuel : Nat) (R : Type) : SubOk P [] 132 (sub4_1 p8 fuel R) :=
  subOk_part (fns := (fns4 p8 fuel)) (fuel := fuel) (subs := (subsOf [sub4_0 p8 fuel R])) (an := al4_1) T_ok (fnsOk4 p8 h8 fuel) mixed (subsOk_cons (subOk4_0 p8 h8 fuel R) subsOk_nil) (by kernel_rfl) (by kernel_rfl) fun _ _ _ _ h => Sub.of_run (fun (x : (Int × Bool × Int × Int)) k => u4_1 p8 fuel k x) h
def fr4_2 : Fr := ⟨[.d true (.int .i64), .d true (.slice (.int .i64)), .d true (.bool), .c (.ptr 0 0 []), .d true (.int .i64)], [.box (.d true (.one (.int .u64)))], 5⟩
noncomputable def c4_2 : Code := bodyAt Try.f4 [1, 1, 1, 1, 1, 1]
def j4_2 (fuel : Nat) {R : Type} (k0 : Bool → Option R) : (Int × (List Int) × Bool × Int × Int) → Option R := fun (x27, x28, x29, x30, x31) => (match p13 fuel (x27, x31) with | some z32 => (match p14 fuel (x28, z32.2.2) with | some z33 => (bif (decide (z32.2.1 = (0 : Int))) then (bif (decide (z32.1 < (0 : Int))) then (k0 false) else (bif (decide (x27 ≤ z32.1)) then (k0 false) else (bif (decide (z33.2.1 = (0 : Int))) then (bif (decide (z33.1 < (0 : Int))) then (k0 false) else (bif (decide (((List.length x28 : Nat) : Int) ≤ z33.1)) then (k0 false) else (if 0 ≤ z33.1 then (match (x28)[Int.toNat z33.1]? with | some y34 => (bif (decide (y34 ≤ (0 : Int))) then (k0 false) else (j4_1 fuel (fun x40 => (k0 x40)) (x27, x29, x30, z32.2.1))) | none => none) else none))) else (j4_1 fuel (fun x41 => (k0 x41)) (x27, x29, x30, z32.2.1))))) else (bif (decide (z33.2.1 = (0 : Int))) then (bif (decide (z33.1 < (0 : Int))) then (k0 false) else (bif (decide (((List.length x28 : Nat) : Int) ≤ z33.1)) then (k0 false) else (if 0 ≤ z33.1 then (match (x28)[Int.toNat z33.1]? with | some y35 => (bif (decide (y35 ≤ (0 : Int))) then (k0 false) else (j4_1 fuel (fun x42 => (k0 x42)) (x27, x29, x30, z32.2.1))) | none => none) else none))) else (j4_1 fuel (fun x43 => (k0 x43)) (x27, x29, x30, z32.2.1)))) | none => none) | none => none)
def j4_2' (p8 : Nat → Int → Option Int) (fuel : Nat) {R : Type} (k0 : Bool → Option R) : (Int × (List Int) × Bool × Int × Int) → Option R := fun (x27, x28, x29, x30, x31) => (match p13 fuel (x27, x31) with | some z32 => (match p14 fuel (x28, z32.2.2) with | some z33 => (bif (decide (z32.2.1 = (0 : Int))) then (bif (decide (z32.1 < (0 : Int))) then (k0 false) else (bif (decide (x27 ≤ z32.1)) then (k0 false) else (bif (decide (z33.2.1 = (0 : Int))) then (bif (decide (z33.1 < (0 : Int))) then (k0 false) else (bif (decide (((List.length x28 : Nat) : Int) ≤ z33.1)) then (k0 false) else (if 0 ≤ z33.1 then (match (x28)[Int.toNat z33.1]? with | some y34 => (bif (decide (y34 ≤ (0 : Int))) then (k0 false) else (j4_1' p8 fuel (fun x40 => (k0 x40)) (x27, x29, x30, z32.2.1))) | none => none) else none))) else (j4_1' p8 fuel (fun x41 => (k0 x41)) (x27, x29, x30, z32.2.1))))) else (bif (decide (z33.2.1 = (0 : Int))) then (bif (decide (z33.1 < (0 : Int))) then (k0 false) else (bif (decide (((List.length x28 : Nat) : Int) ≤ z33.1)) then (k0 false) else (if 0 ≤ z33.1 then (match (x28)[Int.toNat z33.1]? with | some y35 => (bif (decide (y35 ≤ (0 : Int))) then (k0 false) else (j4_1' p8 fuel (fun x42 => (k0 x42)) (x27, x29, x30, z32.2.1))) | none => none) else none))) else (j4_1' p8 fuel (fun x43 => (k0 x43)) (x27, x29, x30, z32.2.1)))) | none => none) | none => none)
def al4_2 : AN := (.seq (.region [(2, { touch := [0], ro := false, loc := [0] })]) (.seq (.region [(2, { touch := [0], ro := false, loc := [0] })]) (.seq (.seq .leaf (.cond (.seq .leaf (.norm ⟨[6], padK 6 []⟩ (.ret []))) .leaf)) (.hole ⟨[1, 7, 10, 14], padK 6 []⟩ 1))))
theorem u4_2 (p8 : Nat → Int → Option Int) (fuel : Nat) {R : Type} (k : AExit → St → Option R) : ∀ x : (Int × (List Int) × Bool × Int × Int), runK R T (fns4 p8 fuel) fuel [] (subsOf [sub4_0 p8 fuel R, sub4_1 p8 fuel R]) (partOf c4_2 al4_2) (fr4_2.st [1, 2, 7, 8, 10] x) k = j4_2' p8 fuel (fun y => k (.ret []) (fx4_0.st [6] y)) x := by
  rintro ⟨x27, x28, x29, x30, x31⟩
  kernel_rfl
noncomputable def sub4_2 (p8 : Nat → Int → Option Int) (fuel : Nat) (R : Type) : Sub R := Sub.of [1, 2, 7, 8, 10] c4_2 fr4_2 fun x k => j4_2' p8 fuel (fun y => k (.ret []) (fx4_0.st [6] y)) x
theorem subOk4_2 (p8 : Nat → Int → Option Int) (h8 : ∀ fuel, FunOk P 8 (funOfA fi8 al8 (p8 fuel))) (fuel : Nat) (R : Type) : SubOk P [] 132 (sub4_2 p8 fuel R) :=
  subOk_part (fns := (fns4 p8 fuel)) (fuel := fuel) (subs := (subsOf [sub4_0 p8 fuel R, sub4_1 p8 fuel R])) (an := al4_2) T_ok (fnsOk4 p8 h8 fuel) mixed (subsOk_cons (subOk4_0 p8 h8 fuel R) (subsOk_cons (subOk4_1 p8 h8 fuel R) subsOk_nil)) (by kernel_rfl) (by kernel_rfl) fun _ _ _ _ h => Sub.of_run (fun (x : (Int × (List Int) × Bool × Int × Int)) k => u4_2 p8 fuel k x) h
def an4 : AN := (.seq .leaf (.seq .leaf (.seq (.region [(1, { touch := [3], base := 3, ro := false, fresh := 1 })]) (.seq (.seq (.region [(1, { touch := [3] })]) (.cond (.seq .leaf .leaf) .leaf)) (.seq (.region [(2, { touch := [3, 4], base := 4, ro := false, loc := [3], fresh := 1 })]) (.seq (.seq .leaf (.cond (.fin ⟨[1, 2, 7, 8, 10], padK 5 [some (0, 0)]⟩ (.seq (.seq (.region [(1, { touch := [4] })]) (.cond (.seq .leaf (.norm ⟨[6], padK 6 []⟩ (.ret []))) .leaf)) (.seq (.region [(1, { touch := [5], base := 5, ro := false })]) (.seq .leaf (.block (.hole ⟨[1, 2, 7, 8, 9, 10, 11, 12], padK 3 [some (3, 0), some (4, 0), some (5, 0)]⟩ 0)))))) (.fin ⟨[1, 2, 7, 8, 10], padK 5 [some (3, 0)]⟩ .leaf))) (.hole ⟨[1, 2, 7, 8, 10], padK 5 [some (0, 0)]⟩ 2)))))))
def p4 (fuel : Nat) : (Int × Int × (List Int)) → Option Bool := fun (x1, x2, x3) => (match p7 fuel () with | some z4 => (match p8 fuel x1 with | some z5 => (match p12 fuel (x2, z5) with | some z6 => (bif (decide (z6.1 = (0 : Int))) then (bif (!decide (((List.length z6.2.2 : Nat) : Int) = x2)) then (some false) else (if 0 ≤ x2 ∧ x2 ≤ x2 ∧ x2 * ((1 : Nat) : Int) ≤ 140737488355328 then (l4_0 fuel (fun x21 => (some x21)) (fun (x22, x23, x24, x25, x26) => (j4_2 fuel (fun x44 => (some x44)) (x22, x23, x24, x25, x26))) fuel (x2, x3, z4, z6.1, (0 : Int), z6.2.1, z6.2.2, (List.replicate (Int.toNat x2) false))) else none)) else (j4_2 fuel (fun x45 => (some x45)) (x2, x3, z4, z6.1, z6.2.1))) | none => none) | none => none) | none => none)
def p4' (p8 : Nat → Int → Option Int) (fuel : Nat) : (Int × Int × (List Int)) → Option Bool := fun (x1, x2, x3) => (match p7 fuel () with | some z4 => (match p8 fuel x1 with | some z5 => (match p12 fuel (x2, z5) with | some z6 => (bif (decide (z6.1 = (0 : Int))) then (bif (!decide (((List.length z6.2.2 : Nat) : Int) = x2)) then (some false) else (if 0 ≤ x2 ∧ x2 ≤ x2 ∧ x2 * ((1 : Nat) : Int) ≤ 140737488355328 then (l4_0' p8 fuel (fun x21 => (some x21)) (fun (x22, x23, x24, x25, x26) => (j4_2' p8 fuel (fun x44 => (some x44)) (x22, x23, x24, x25, x26))) fuel (x2, x3, z4, z6.1, (0 : Int), z6.2.1, z6.2.2, (List.replicate (Int.toNat x2) false))) else none)) else (j4_2' p8 fuel (fun x45 => (some x45)) (x2, x3, z4, z6.1, z6.2.1))) | none => none) | none => none) | none => none)
def F4 (fuel : Nat) : Fun := funOfA fi4 al4 (p4 fuel)
theorem run4 (p8 : Nat → Int → Option Int) (fuel : Nat) : ∀ y : (Int × Int × (List Int)), runF Bool T (fns4 p8 fuel) fuel (subsOf [sub4_0 p8 fuel Bool, sub4_1 p8 fuel Bool, sub4_2 p8 fuel Bool]) (defOf Try.f4 an4 6 [] []) (fi4.vs y) (fi4.os y) (altsDec al4) = p4' p8 fuel y := by
  rintro ⟨x1, x2, x3⟩
  kernel_rfl
theorem ok4' (p8 : Nat → Int → Option Int) (h8 : ∀ fuel, FunOk P 8 (funOfA fi8 al8 (p8 fuel))) (fuel : Nat) : FunOk P 4 (funOfA fi4 al4 (p4' p8 fuel)) :=
  funOfA_ok (subs := (subsOf [sub4_0 p8 fuel Bool, sub4_1 p8 fuel Bool, sub4_2 p8 fuel Bool])) (an := an4) (room := 6) (ks := []) (g0 := []) (fuel := fuel) T_ok (fnsOk4 p8 h8 fuel) mixed (fn := Try.f4) (by kernel_rfl) (by kernel_rfl) (subsOk_cons (subOk4_0 p8 h8 fuel _) (subsOk_cons (subOk4_1 p8 h8 fuel _) (subsOk_cons (subOk4_2 p8 h8 fuel _) subsOk_nil))) (by kernel_rfl) (fun _ => ⟨by kernel_rfl, by kernel_rfl⟩) (run4 p8 fuel)
theorem same4 (fuel : Nat) : p4' p8 fuel = p4 fuel := by kernel_rfl
theorem ok4 (fuel : Nat) : FunOk P 4 (F4 fuel) := by
  have h := ok4' p8 ok8 fuel
  rw [same4] at h
  exact h

-- f16: tontine/tontineref05.A
def fns16 (fuel : Nat) : Fns := fnsOf []
theorem fnsOk16 (fuel : Nat) : FnsOk P (fns16 fuel) := fnsOk_nil
def fi16 : Fr := ⟨[], [], 0⟩
def al16 : List (Tm × List To) := [(.d true (.int .u64), [])]
def an16 : AN := (.seq .leaf (.seq .leaf (.norm ⟨[0], padK 0 []⟩ (.ret []))))
def p16 (fuel : Nat) : Unit → Option Int := fun _ => (some (11400714819323198485 : Int))
def F16 (fuel : Nat) : Fun := funOfA fi16 al16 (p16 fuel)
theorem run16 (fuel : Nat) : ∀ y : Unit, runF Int T (fns16 fuel) fuel (subsOf []) (defOf Try.f16 an16 0 [] []) (fi16.vs y) (fi16.os y) (altsDec al16) = p16 fuel y := by
  rintro ⟨⟩
  kernel_rfl
theorem ok16 (fuel : Nat) : FunOk P 16 (funOfA fi16 al16 (p16 fuel)) :=
  funOfA_ok (subs := (subsOf [])) (an := an16) (room := 0) (ks := []) (g0 := []) (fuel := fuel) T_ok (fnsOk16 fuel) mixed (fn := Try.f16) (by kernel_rfl) (by kernel_rfl) subsOk_nil (by kernel_rfl) (fun _ => ⟨by kernel_rfl, by kernel_rfl⟩) (run16 fuel)

-- f24: tontine/tontineref05.Mix
def fns24 (fuel : Nat) : Fns := fnsOf []
theorem fnsOk24 (fuel : Nat) : FnsOk P (fns24 fuel) := fnsOk_nil
def fi24 : Fr := ⟨[.d false (.int .u64)], [], 0⟩
def al24 : List (Tm × List To) := [(.d true (.int .u64), [])]
def an24 : AN := (.seq .leaf (.seq .leaf (.seq .leaf (.seq .leaf (.seq .leaf (.seq .leaf (.norm ⟨[2], padK 0 []⟩ (.ret []))))))))
def p24 (fuel : Nat) : Int → Option Int := fun x1 => let v2 := (bitsOp .xor .u64 x1 (IntKind.wrap .u64 (Int.tdiv x1 (1073741824 : Int)))); let v3 := (IntKind.wrap .u64 (Int.tdiv (IntKind.wrap .u64 (v2 * (13787848793156543929 : Int))) (134217728 : Int))); let v4 := (bitsOp .xor .u64 (IntKind.wrap .u64 (v2 * (13787848793156543929 : Int))) v3); let v5 := (IntKind.wrap .u64 (Int.tdiv (IntKind.wrap .u64 (v4 * (10723151780598845931 : Int))) (2147483648 : Int))); let v6 := (bitsOp .xor .u64 (IntKind.wrap .u64 (v4 * (10723151780598845931 : Int))) v5); (some v6)
def F24 (fuel : Nat) : Fun := funOfA fi24 al24 (p24 fuel)
theorem run24 (fuel : Nat) : ∀ y : Int, runF Int T (fns24 fuel) fuel (subsOf []) (defOf Try.f24 an24 0 [] []) (fi24.vs y) (fi24.os y) (altsDec al24) = p24 fuel y := by
  rintro x1
  kernel_rfl
theorem ok24 (fuel : Nat) : FunOk P 24 (funOfA fi24 al24 (p24 fuel)) :=
  funOfA_ok (subs := (subsOf [])) (an := an24) (room := 0) (ks := []) (g0 := []) (fuel := fuel) T_ok (fnsOk24 fuel) mixed (fn := Try.f24) (by kernel_rfl) (by kernel_rfl) subsOk_nil (by kernel_rfl) (fun _ => ⟨by kernel_rfl, by kernel_rfl⟩) (run24 fuel)

-- f15: (*tontine/tontineref05.Draws).Next
def fns15 (p16 : Nat → Unit → Option Int) (p24 : Nat → Int → Option Int) (fuel : Nat) : Fns := fnsOf [(16, funOfA fi16 al16 (p16 fuel)), (24, funOfA fi24 al24 (p24 fuel))]
theorem fnsOk15 (p16 : Nat → Unit → Option Int) (p24 : Nat → Int → Option Int) (h16 : ∀ fuel, FunOk P 16 (funOfA fi16 al16 (p16 fuel))) (h24 : ∀ fuel, FunOk P 24 (funOfA fi24 al24 (p24 fuel))) (fuel : Nat) : FnsOk P (fns15 p16 p24 fuel) := (fnsOk_cons (h16 fuel) (fnsOk_cons (h24 fuel) fnsOk_nil))
def fi15 : Fr := ⟨[.c (.ptr 0 0 [])], [.box (.d true (.one (.int .u64)))], 0⟩
def al15 : List (Tm × List To) := [(.d true (.int .u64), [.box (.d true (.one (.int .u64)))])]
def an15 : AN := (.seq .leaf (.seq (.region [(2, { touch := [0] }), (3, { touch := [0] }), (4, { touch := [0] }), (7, { touch := [0] }), (8, { touch := [0] }), (9, { touch := [0], ro := false })]) (.seq (.region [(1, { touch := [0] }), (2, { touch := [0] }), (3, { touch := [0] })]) (.norm ⟨[2], padK 0 [some (0, 0)]⟩ (.ret [some (0, 0)])))))
def p15 (fuel : Nat) : Int → Option (Int × Int) := fun x1 => (match p16 fuel () with | some z2 => (match p24 fuel (IntKind.wrap .u64 (x1 + z2)) with | some z3 => (some (z3, (IntKind.wrap .u64 (x1 + z2)))) | none => none) | none => none)
def p15' (p16 : Nat → Unit → Option Int) (p24 : Nat → Int → Option Int) (fuel : Nat) : Int → Option (Int × Int) := fun x1 => (match p16 fuel () with | some z2 => (match p24 fuel (IntKind.wrap .u64 (x1 + z2)) with | some z3 => (some (z3, (IntKind.wrap .u64 (x1 + z2)))) | none => none) | none => none)
def F15 (fuel : Nat) : Fun := funOfA fi15 al15 (p15 fuel)
theorem run15 (p16 : Nat → Unit → Option Int) (p24 : Nat → Int → Option Int) (fuel : Nat) : ∀ y : Int, runF (Int × Int) T (fns15 p16 p24 fuel) fuel (subsOf []) (defOf Try.f15 an15 0 [] [false]) (fi15.vs y) (fi15.os y) (altsDec al15) = p15' p16 p24 fuel y := by
  rintro x1
  kernel_rfl
theorem ok15' (p16 : Nat → Unit → Option Int) (p24 : Nat → Int → Option Int) (h16 : ∀ fuel, FunOk P 16 (funOfA fi16 al16 (p16 fuel))) (h24 : ∀ fuel, FunOk P 24 (funOfA fi24 al24 (p24 fuel))) (fuel : Nat) : FunOk P 15 (funOfA fi15 al15 (p15' p16 p24 fuel)) :=
  funOfA_ok (subs := (subsOf [])) (an := an15) (room := 0) (ks := []) (g0 := [false]) (fuel := fuel) T_ok (fnsOk15 p16 p24 h16 h24 fuel) mixed (fn := Try.f15) (by kernel_rfl) (by kernel_rfl) subsOk_nil (by kernel_rfl) (fun _ => ⟨by kernel_rfl, by kernel_rfl⟩) (run15 p16 p24 fuel)
theorem same15 (fuel : Nat) : p15' p16 p24 fuel = p15 fuel := by kernel_rfl
theorem ok15 (fuel : Nat) : FunOk P 15 (F15 fuel) := by
  have h := ok15' p16 p24 ok16 ok24 fuel
  rw [same15] at h
  exact h

-- f25: tontine/tontineref05.upper
def fns25 (fuel : Nat) : Fns := fnsOf []
theorem fnsOk25 (fuel : Nat) : FnsOk P (fns25 fuel) := fnsOk_nil
def fi25 : Fr := ⟨[.d false (.int .u64), .d false (.int .u64)], [], 0⟩
def al25 : List (Tm × List To) := [(.d true (.int .u64), [])]
def an25 : AN := (.seq .leaf (.seq .leaf (.seq .leaf (.seq .leaf (.seq .leaf (.seq .leaf (.seq .leaf (.seq .leaf (.seq .leaf (.norm ⟨[4], padK 0 []⟩ (.ret [])))))))))))
def p25 (fuel : Nat) : (Int × Int) → Option Int := fun (x1, x2) => let v3 := (IntKind.wrap .u64 ((Int.tmod x1 (4294967296 : Int)) * (Int.tmod x2 (4294967296 : Int)))); let v4 := (IntKind.wrap .u64 ((IntKind.wrap .u64 (Int.tdiv x1 (4294967296 : Int))) * (Int.tmod x2 (4294967296 : Int)))); let v5 := (IntKind.wrap .u64 (v4 + (IntKind.wrap .u64 (Int.tdiv v3 (4294967296 : Int))))); let v6 := (IntKind.wrap .u64 ((Int.tmod x1 (4294967296 : Int)) * (IntKind.wrap .u64 (Int.tdiv x2 (4294967296 : Int))))); let v7 := (IntKind.wrap .u64 ((IntKind.wrap .u64 (Int.tdiv x1 (4294967296 : Int))) * (IntKind.wrap .u64 (Int.tdiv x2 (4294967296 : Int))))); let v8 := (IntKind.wrap .u64 (v7 + (IntKind.wrap .u64 (Int.tdiv v5 (4294967296 : Int))))); let v9 := (IntKind.wrap .u64 (Int.tdiv (IntKind.wrap .u64 (v6 + (Int.tmod v5 (4294967296 : Int)))) (4294967296 : Int))); (some (IntKind.wrap .u64 (v8 + v9)))
def F25 (fuel : Nat) : Fun := funOfA fi25 al25 (p25 fuel)
theorem run25 (fuel : Nat) : ∀ y : (Int × Int), runF Int T (fns25 fuel) fuel (subsOf []) (defOf Try.f25 an25 0 [] []) (fi25.vs y) (fi25.os y) (altsDec al25) = p25 fuel y := by
  rintro ⟨x1, x2⟩
  kernel_rfl
theorem ok25 (fuel : Nat) : FunOk P 25 (funOfA fi25 al25 (p25 fuel)) :=
  funOfA_ok (subs := (subsOf [])) (an := an25) (room := 0) (ks := []) (g0 := []) (fuel := fuel) T_ok (fnsOk25 fuel) mixed (fn := Try.f25) (by kernel_rfl) (by kernel_rfl) subsOk_nil (by kernel_rfl) (fun _ => ⟨by kernel_rfl, by kernel_rfl⟩) (run25 fuel)

-- f17: (*tontine/tontineref05.Draws).Below
def fns17 (p15 : Nat → Int → Option (Int × Int)) (p25 : Nat → (Int × Int) → Option Int) (fuel : Nat) : Fns := fnsOf [(15, funOfA fi15 al15 (p15 fuel)), (25, funOfA fi25 al25 (p25 fuel))]
theorem fnsOk17 (p15 : Nat → Int → Option (Int × Int)) (p25 : Nat → (Int × Int) → Option Int) (h15 : ∀ fuel, FunOk P 15 (funOfA fi15 al15 (p15 fuel))) (h25 : ∀ fuel, FunOk P 25 (funOfA fi25 al25 (p25 fuel))) (fuel : Nat) : FnsOk P (fns17 p15 p25 fuel) := (fnsOk_cons (h15 fuel) (fnsOk_cons (h25 fuel) fnsOk_nil))
def fi17 : Fr := ⟨[.c (.ptr 0 0 []), .d false (.int .u64)], [.box (.d true (.one (.int .u64)))], 0⟩
def al17 : List (Tm × List To) := [(.d true (.int .u64), [.box (.d true (.one (.int .u64)))])]
def an17 : AN := (.seq .leaf (.seq (.region [(1, { touch := [0], ro := false, loc := [0] })]) (.norm ⟨[4], padK 0 [some (0, 0)]⟩ (.ret [some (0, 0)]))))
def p17 (fuel : Nat) : (Int × Int) → Option (Int × Int) := fun (x1, x2) => (match p15 fuel x2 with | some z3 => (match p25 fuel (z3.1, x1) with | some z4 => (some (z4, z3.2)) | none => none) | none => none)
def p17' (p15 : Nat → Int → Option (Int × Int)) (p25 : Nat → (Int × Int) → Option Int) (fuel : Nat) : (Int × Int) → Option (Int × Int) := fun (x1, x2) => (match p15 fuel x2 with | some z3 => (match p25 fuel (z3.1, x1) with | some z4 => (some (z4, z3.2)) | none => none) | none => none)
def F17 (fuel : Nat) : Fun := funOfA fi17 al17 (p17 fuel)
theorem run17 (p15 : Nat → Int → Option (Int × Int)) (p25 : Nat → (Int × Int) → Option Int) (fuel : Nat) : ∀ y : (Int × Int), runF (Int × Int) T (fns17 p15 p25 fuel) fuel (subsOf []) (defOf Try.f17 an17 0 [] [false]) (fi17.vs y) (fi17.os y) (altsDec al17) = p17' p15 p25 fuel y := by
  rintro ⟨x1, x2⟩
  kernel_rfl
theorem ok17' (p15 : Nat → Int → Option (Int × Int)) (p25 : Nat → (Int × Int) → Option Int) (h15 : ∀ fuel, FunOk P 15 (funOfA fi15 al15 (p15 fuel))) (h25 : ∀ fuel, FunOk P 25 (funOfA fi25 al25 (p25 fuel))) (fuel : Nat) : FunOk P 17 (funOfA fi17 al17 (p17' p15 p25 fuel)) :=
  funOfA_ok (subs := (subsOf [])) (an := an17) (room := 0) (ks := []) (g0 := [false]) (fuel := fuel) T_ok (fnsOk17 p15 p25 h15 h25 fuel) mixed (fn := Try.f17) (by kernel_rfl) (by kernel_rfl) subsOk_nil (by kernel_rfl) (fun _ => ⟨by kernel_rfl, by kernel_rfl⟩) (run17 p15 p25 fuel)
theorem same17 (fuel : Nat) : p17' p15 p25 fuel = p17 fuel := by kernel_rfl
theorem ok17 (fuel : Nat) : FunOk P 17 (F17 fuel) := by
  have h := ok17' p15 p25 ok15 ok25 fuel
  rw [same17] at h
  exact h

-- f14b: (*tontine/draws.Draws).Pick
def fns14b (p23 : Nat → (Int × Int) → Option (Int × Int)) (fuel : Nat) : Fns := fnsOf [(23, funOfA fi23 al23 (p23 fuel))]
theorem fnsOk14b (p23 : Nat → (Int × Int) → Option (Int × Int)) (h23 : ∀ fuel, FunOk P 23 (funOfA fi23 al23 (p23 fuel))) (fuel : Nat) : FnsOk P (fns14b p23 fuel) := (fnsOk_cons (h23 fuel) fnsOk_nil)
def fi14b : Fr := ⟨[.c (.ptr 0 0 []), .d false (.slice (.int .i64))], [.box (.d true (.one (.int .u64)))], 0⟩
def al14b : List (Tm × List To) := [(.tup (.cons (.d true (.int .i64)) (.cons (.d true (.int .i64)) (.c .nil))), [.box (.d true (.one (.int .u64)))])]
def fx14b_0 : Fr := ⟨[.d true (.int .i64), .d true (.int .i64)], [.box (.d true (.one (.int .u64)))], 0⟩
def fx14b_1 : Fr := ⟨[.c (.ptr 0 0 []), .d false (.slice (.int .i64)), .d true (.int .u64)], [.box (.d true (.one (.int .u64)))], 0⟩
def fr14b_0 : Fr := ⟨[.c (.ptr 0 0 []), .d false (.slice (.int .i64)), .d true (.int .u64), .d false (.slice (.int .i64)), .d true (.int .i64), .d true (.int .i64)], [.box (.d true (.one (.int .u64)))], 0⟩
noncomputable def c14b_0 : Code := bodyAt Try.f14 [1, 1, 1, 0, 1, 0]
def s14b_0 (fuel : Nat) {R : Type} (F : ((List Int) × Int × (List Int) × Int × Int × Int) → Option R) (k0 : (Int × Int × Int) → Option R) (k1 : ((List Int) × Int × Int) → Option R) : ((List Int) × Int × (List Int) × Int × Int × Int) → Option R := fun (x3, x4, x5, x6, x7, x8) => (bif (decide (x7 < x6)) then (if 0 ≤ x7 then (match (x5)[Int.toNat x7]? with | some y9 => (bif (decide (y9 < (0 : Int))) then (k0 ((0 : Int), (1 : Int), x8)) else (bif (decide ((2147483647 : Int) < y9)) then (k0 ((0 : Int), (1 : Int), x8)) else (F (x3, (IntKind.wrap .u64 (x4 + (IntKind.wrap .u64 y9))), x5, x6, (IntKind.wrap .i64 (x7 + (1 : Int))), x8)))) | none => none) else none) else (k1 (x3, x4, x8)))
def l14b_0 (fuel : Nat) {R : Type} (k0 : (Int × Int × Int) → Option R) (k1 : ((List Int) × Int × Int) → Option R) : Nat → ((List Int) × Int × (List Int) × Int × Int × Int) → Option R
  | 0, _ => none
  | n + 1, x => s14b_0 fuel (l14b_0 fuel k0 k1 n) k0 k1 x
def s14b_0' (p23 : Nat → (Int × Int) → Option (Int × Int)) (fuel : Nat) {R : Type} (F : ((List Int) × Int × (List Int) × Int × Int × Int) → Option R) (k0 : (Int × Int × Int) → Option R) (k1 : ((List Int) × Int × Int) → Option R) : ((List Int) × Int × (List Int) × Int × Int × Int) → Option R := fun (x3, x4, x5, x6, x7, x8) => (bif (decide (x7 < x6)) then (if 0 ≤ x7 then (match (x5)[Int.toNat x7]? with | some y9 => (bif (decide (y9 < (0 : Int))) then (k0 ((0 : Int), (1 : Int), x8)) else (bif (decide ((2147483647 : Int) < y9)) then (k0 ((0 : Int), (1 : Int), x8)) else (F (x3, (IntKind.wrap .u64 (x4 + (IntKind.wrap .u64 y9))), x5, x6, (IntKind.wrap .i64 (x7 + (1 : Int))), x8)))) | none => none) else none) else (k1 (x3, x4, x8)))
def l14b_0' (p23 : Nat → (Int × Int) → Option (Int × Int)) (fuel : Nat) {R : Type} (k0 : (Int × Int × Int) → Option R) (k1 : ((List Int) × Int × Int) → Option R) : Nat → ((List Int) × Int × (List Int) × Int × Int × Int) → Option R
  | 0, _ => none
  | n + 1, x => s14b_0' p23 fuel (l14b_0' p23 fuel k0 k1 n) k0 k1 x
def nm14b_0 : Norm := ⟨[0, 1, 6, 19, 20, 21], padK 0 [some (0, 0)]⟩
def an14b_0 : AN := (.seq .leaf (.seq (.cond .leaf (.norm ⟨[0, 1, 6], padK 0 [some (0, 0)]⟩ .leaf)) (.seq (.block (.seq .leaf (.seq (.seq .leaf (.cond (.seq .leaf (.norm ⟨[4, 5], padK 0 [some (0, 0)]⟩ (.ret [some (0, 0)]))) .leaf)) .leaf))) .leaf)))
def al14b_0 : AN := .loop nm14b_0 an14b_0
noncomputable def d14b_0 : Code := bodyAt Try.f14 [1, 1, 1, 0, 1, 0, 0]
theorem e14b_0 (p23 : Nat → (Int × Int) → Option (Int × Int)) (fuel : Nat) {R : Type} (F : St → Option R) (k : AExit → St → Option R) : ∀ x : ((List Int) × Int × (List Int) × Int × Int × Int), runK R T (fns14b p23 fuel) fuel [false] (subsOf []) (partOf d14b_0 an14b_0) (fr14b_0.st [0, 1, 6, 19, 20, 21] x) (backTo R [false] nm14b_0 F k) = s14b_0' p23 fuel (fun x => F (fr14b_0.st [0, 1, 6, 19, 20, 21] x)) (fun y => k (.ret [some (0, 0)]) (fx14b_0.st [4, 5] y)) (fun y => k (.exit 0) (fx14b_1.st [0, 1, 6] y)) x := by
  rintro ⟨x3, x4, x5, x6, x7, x8⟩
  kernel_rfl
theorem u14b_0 (p23 : Nat → (Int × Int) → Option (Int × Int)) (fuel : Nat) {R : Type} (k : AExit → St → Option R) (x : ((List Int) × Int × (List Int) × Int × Int × Int)) : runK R T (fns14b p23 fuel) fuel [false] (subsOf []) (partOf c14b_0 al14b_0) (fr14b_0.st [0, 1, 6, 19, 20, 21] x) k = l14b_0' p23 fuel (fun y => k (.ret [some (0, 0)]) (fx14b_0.st [4, 5] y)) (fun y => k (.exit 0) (fx14b_1.st [0, 1, 6] y)) fuel x :=
  loop_eq (mk := fr14b_0.st [0, 1, 6, 19, 20, 21]) (s := fun F x => s14b_0' p23 fuel F (fun y => k (.ret [some (0, 0)]) (fx14b_0.st [4, 5] y)) (fun y => k (.exit 0) (fx14b_1.st [0, 1, 6] y)) x) (l := fun n x => l14b_0' p23 fuel (fun y => k (.ret [some (0, 0)]) (fx14b_0.st [4, 5] y)) (fun y => k (.exit 0) (fx14b_1.st [0, 1, 6] y)) n x) (d := d14b_0) (by kernel_rfl) (fun G x => by
    revert x
    rintro ⟨x3, x4, x5, x6, x7, x8⟩
    kernel_rfl) (fun F x => e14b_0 p23 fuel F k x) (fun _ => rfl) (fun _ _ => rfl) x
noncomputable def sub14b_0 (p23 : Nat → (Int × Int) → Option (Int × Int)) (fuel : Nat) (R : Type) : Sub R := Sub.of [0, 1, 6, 19, 20, 21] c14b_0 fr14b_0 fun x k => l14b_0' p23 fuel (fun y => k (.ret [some (0, 0)]) (fx14b_0.st [4, 5] y)) (fun y => k (.exit 0) (fx14b_1.st [0, 1, 6] y)) fuel x
theorem subOk14b_0 (p23 : Nat → (Int × Int) → Option (Int × Int)) (h23 : ∀ fuel, FunOk P 23 (funOfA fi23 al23 (p23 fuel))) (fuel : Nat) (R : Type) : SubOk P [false] 58 (sub14b_0 p23 fuel R) :=
  subOk_part (fns := (fns14b p23 fuel)) (fuel := fuel) (subs := (subsOf [])) (an := al14b_0) T_ok (fnsOk14b p23 h23 fuel) mixed subsOk_nil (by kernel_rfl) (by kernel_rfl) fun _ _ _ _ h => Sub.of_run (fun (x : ((List Int) × Int × (List Int) × Int × Int × Int)) k => u14b_0 p23 fuel k x) h
def fx14b_2 : Fr := ⟨[], [.box (.d true (.one (.int .u64)))], 0⟩
def fr14b_1 : Fr := ⟨[.d true (.int .u64), .d false (.slice (.int .i64)), .d true (.int .i64), .d true (.int .i64)], [.box (.d true (.one (.int .u64)))], 0⟩
noncomputable def c14b_1 : Code := bodyAt Try.f14 [1, 1, 1, 1, 1, 1, 0, 1, 0]
def s14b_1 (fuel : Nat) {R : Type} (F : (Int × (List Int) × Int × Int × Int) → Option R) (k0 : (Int × Int × Int) → Option R) (k1 : Int → Option R) : (Int × (List Int) × Int × Int × Int) → Option R := fun (x17, x18, x19, x20, x21) => (bif (decide (x20 < x19)) then (if 0 ≤ x20 then (match (x18)[Int.toNat x20]? with | some y22 => (bif (decide (x17 < (IntKind.wrap .u64 y22))) then (k0 (x20, (0 : Int), x21)) else (F ((IntKind.wrap .u64 (x17 - (IntKind.wrap .u64 y22))), x18, x19, (IntKind.wrap .i64 (x20 + (1 : Int))), x21))) | none => none) else none) else (k1 x21))
def l14b_1 (fuel : Nat) {R : Type} (k0 : (Int × Int × Int) → Option R) (k1 : Int → Option R) : Nat → (Int × (List Int) × Int × Int × Int) → Option R
  | 0, _ => none
  | n + 1, x => s14b_1 fuel (l14b_1 fuel k0 k1 n) k0 k1 x
def s14b_1' (p23 : Nat → (Int × Int) → Option (Int × Int)) (fuel : Nat) {R : Type} (F : (Int × (List Int) × Int × Int × Int) → Option R) (k0 : (Int × Int × Int) → Option R) (k1 : Int → Option R) : (Int × (List Int) × Int × Int × Int) → Option R := fun (x17, x18, x19, x20, x21) => (bif (decide (x20 < x19)) then (if 0 ≤ x20 then (match (x18)[Int.toNat x20]? with | some y22 => (bif (decide (x17 < (IntKind.wrap .u64 y22))) then (k0 (x20, (0 : Int), x21)) else (F ((IntKind.wrap .u64 (x17 - (IntKind.wrap .u64 y22))), x18, x19, (IntKind.wrap .i64 (x20 + (1 : Int))), x21))) | none => none) else none) else (k1 x21))
def l14b_1' (p23 : Nat → (Int × Int) → Option (Int × Int)) (fuel : Nat) {R : Type} (k0 : (Int × Int × Int) → Option R) (k1 : Int → Option R) : Nat → (Int × (List Int) × Int × Int × Int) → Option R
  | 0, _ => none
  | n + 1, x => s14b_1' p23 fuel (l14b_1' p23 fuel k0 k1 n) k0 k1 x
def nm14b_1 : Norm := ⟨[9, 41, 42, 43], padK 0 [some (0, 0)]⟩
def an14b_1 : AN := (.seq .leaf (.seq (.cond .leaf (.norm ⟨[], padK 0 [some (0, 0)]⟩ .leaf)) (.seq (.block (.seq .leaf (.seq (.seq .leaf (.cond (.seq .leaf (.norm ⟨[4, 5], padK 0 [some (0, 0)]⟩ (.ret [some (0, 0)]))) .leaf)) .leaf))) .leaf)))
def al14b_1 : AN := .loop nm14b_1 an14b_1
noncomputable def d14b_1 : Code := bodyAt Try.f14 [1, 1, 1, 1, 1, 1, 0, 1, 0, 0]
theorem e14b_1 (p23 : Nat → (Int × Int) → Option (Int × Int)) (fuel : Nat) {R : Type} (F : St → Option R) (k : AExit → St → Option R) : ∀ x : (Int × (List Int) × Int × Int × Int), runK R T (fns14b p23 fuel) fuel [false] (subsOf [sub14b_0 p23 fuel R]) (partOf d14b_1 an14b_1) (fr14b_1.st [9, 41, 42, 43] x) (backTo R [false] nm14b_1 F k) = s14b_1' p23 fuel (fun x => F (fr14b_1.st [9, 41, 42, 43] x)) (fun y => k (.ret [some (0, 0)]) (fx14b_0.st [4, 5] y)) (fun y => k (.exit 2) (fx14b_2.st [] y)) x := by
  rintro ⟨x17, x18, x19, x20, x21⟩
  kernel_rfl
theorem u14b_1 (p23 : Nat → (Int × Int) → Option (Int × Int)) (fuel : Nat) {R : Type} (k : AExit → St → Option R) (x : (Int × (List Int) × Int × Int × Int)) : runK R T (fns14b p23 fuel) fuel [false] (subsOf [sub14b_0 p23 fuel R]) (partOf c14b_1 al14b_1) (fr14b_1.st [9, 41, 42, 43] x) k = l14b_1' p23 fuel (fun y => k (.ret [some (0, 0)]) (fx14b_0.st [4, 5] y)) (fun y => k (.exit 2) (fx14b_2.st [] y)) fuel x :=
  loop_eq (mk := fr14b_1.st [9, 41, 42, 43]) (s := fun F x => s14b_1' p23 fuel F (fun y => k (.ret [some (0, 0)]) (fx14b_0.st [4, 5] y)) (fun y => k (.exit 2) (fx14b_2.st [] y)) x) (l := fun n x => l14b_1' p23 fuel (fun y => k (.ret [some (0, 0)]) (fx14b_0.st [4, 5] y)) (fun y => k (.exit 2) (fx14b_2.st [] y)) n x) (d := d14b_1) (by kernel_rfl) (fun G x => by
    revert x
    rintro ⟨x17, x18, x19, x20, x21⟩
    kernel_rfl) (fun F x => e14b_1 p23 fuel F k x) (fun _ => rfl) (fun _ _ => rfl) x
noncomputable def sub14b_1 (p23 : Nat → (Int × Int) → Option (Int × Int)) (fuel : Nat) (R : Type) : Sub R := Sub.of [9, 41, 42, 43] c14b_1 fr14b_1 fun x k => l14b_1' p23 fuel (fun y => k (.ret [some (0, 0)]) (fx14b_0.st [4, 5] y)) (fun y => k (.exit 2) (fx14b_2.st [] y)) fuel x
theorem subOk14b_1 (p23 : Nat → (Int × Int) → Option (Int × Int)) (h23 : ∀ fuel, FunOk P 23 (funOfA fi23 al23 (p23 fuel))) (fuel : Nat) (R : Type) : SubOk P [false] 58 (sub14b_1 p23 fuel R) :=
  subOk_part (fns := (fns14b p23 fuel)) (fuel := fuel) (subs := (subsOf [sub14b_0 p23 fuel R])) (an := al14b_1) T_ok (fnsOk14b p23 h23 fuel) mixed (subsOk_cons (subOk14b_0 p23 h23 fuel R) subsOk_nil) (by kernel_rfl) (by kernel_rfl) fun _ _ _ _ h => Sub.of_run (fun (x : (Int × (List Int) × Int × Int × Int)) k => u14b_1 p23 fuel k x) h
def an14b : AN := (.seq .leaf (.seq (.seq (.region [(1, { touch := [0] })]) (.cond (.seq .leaf (.norm ⟨[4, 5], padK 0 [some (0, 0)]⟩ (.ret [some (0, 0)]))) .leaf)) (.seq .leaf (.seq (.seq .leaf (.block (.hole ⟨[0, 1, 6, 19, 20, 21], padK 0 [some (0, 0)]⟩ 0))) (.seq (.seq .leaf (.cond (.seq .leaf (.norm ⟨[4, 5], padK 0 [some (0, 0)]⟩ (.ret [some (0, 0)]))) .leaf)) (.seq (.region [(2, { touch := [0], ro := false, loc := [0] })]) (.seq (.seq .leaf (.block (.hole ⟨[9, 41, 42, 43], padK 0 [some (0, 0)]⟩ 1))) (.seq .leaf (.norm ⟨[4, 5], padK 0 [some (0, 0)]⟩ (.ret [some (0, 0)]))))))))))
def p14b (fuel : Nat) : ((List Int) × Int) → Option (Int × Int × Int) := fun (x1, x2) => (bif (decide ((1000 : Int) < ((List.length x1 : Nat) : Int))) then (some ((0 : Int), (1 : Int), x2)) else (l14b_0 fuel (fun (x10, x11, x12) => (some (x10, x11, x12))) (fun (x13, x14, x15) => (bif (decide (x14 = (0 : Int))) then (some ((0 : Int), (1 : Int), x15)) else (match p23 fuel (x14, x15) with | some z16 => (l14b_1 fuel (fun (x23, x24, x25) => (some (x23, x24, x25))) (fun x26 => (some ((0 : Int), (1 : Int), x26))) fuel (z16.1, x13, ((List.length x13 : Nat) : Int), (0 : Int), z16.2)) | none => none))) fuel (x1, (0 : Int), x1, ((List.length x1 : Nat) : Int), (0 : Int), x2)))
def p14b' (p23 : Nat → (Int × Int) → Option (Int × Int)) (fuel : Nat) : ((List Int) × Int) → Option (Int × Int × Int) := fun (x1, x2) => (bif (decide ((1000 : Int) < ((List.length x1 : Nat) : Int))) then (some ((0 : Int), (1 : Int), x2)) else (l14b_0' p23 fuel (fun (x10, x11, x12) => (some (x10, x11, x12))) (fun (x13, x14, x15) => (bif (decide (x14 = (0 : Int))) then (some ((0 : Int), (1 : Int), x15)) else (match p23 fuel (x14, x15) with | some z16 => (l14b_1' p23 fuel (fun (x23, x24, x25) => (some (x23, x24, x25))) (fun x26 => (some ((0 : Int), (1 : Int), x26))) fuel (z16.1, x13, ((List.length x13 : Nat) : Int), (0 : Int), z16.2)) | none => none))) fuel (x1, (0 : Int), x1, ((List.length x1 : Nat) : Int), (0 : Int), x2)))
def F14b (fuel : Nat) : Fun := funOfA fi14b al14b (p14b fuel)
theorem run14b (p23 : Nat → (Int × Int) → Option (Int × Int)) (fuel : Nat) : ∀ y : ((List Int) × Int), runF (Int × Int × Int) T (fns14b p23 fuel) fuel (subsOf [sub14b_0 p23 fuel (Int × Int × Int), sub14b_1 p23 fuel (Int × Int × Int)]) (defOf Try.f14 an14b 0 [] [false]) (fi14b.vs y) (fi14b.os y) (altsDec al14b) = p14b' p23 fuel y := by
  rintro ⟨x1, x2⟩
  kernel_rfl
theorem ok14b' (p23 : Nat → (Int × Int) → Option (Int × Int)) (h23 : ∀ fuel, FunOk P 23 (funOfA fi23 al23 (p23 fuel))) (fuel : Nat) : FunOk P 14 (funOfA fi14b al14b (p14b' p23 fuel)) :=
  funOfA_ok (subs := (subsOf [sub14b_0 p23 fuel (Int × Int × Int), sub14b_1 p23 fuel (Int × Int × Int)])) (an := an14b) (room := 0) (ks := []) (g0 := [false]) (fuel := fuel) T_ok (fnsOk14b p23 h23 fuel) mixed (fn := Try.f14) (by kernel_rfl) (by kernel_rfl) (subsOk_cons (subOk14b_0 p23 h23 fuel _) (subsOk_cons (subOk14b_1 p23 h23 fuel _) subsOk_nil)) (by kernel_rfl) (fun _ => ⟨by kernel_rfl, by kernel_rfl⟩) (run14b p23 fuel)
theorem same14b (fuel : Nat) : p14b' p23 fuel = p14b fuel := by kernel_rfl
theorem ok14b (fuel : Nat) : FunOk P 14 (F14b fuel) := by
  have h := ok14b' p23 ok23 fuel
  rw [same14b] at h
  exact h

-- f26: tontine/tontinelaw05.sameInts
def fns26 (fuel : Nat) : Fns := fnsOf []
theorem fnsOk26 (fuel : Nat) : FnsOk P (fns26 fuel) := fnsOk_nil
def fi26 : Fr := ⟨[.d false (.slice (.int .i64)), .d true (.slice (.int .i64))], [], 0⟩
def al26 : List (Tm × List To) := [(.d true (.bool), [])]
def fx26_0 : Fr := ⟨[.d true (.bool)], [], 0⟩
def fx26_1 : Fr := ⟨[], [], 0⟩
def fr26_0 : Fr := ⟨[.d false (.slice (.int .i64)), .d true (.slice (.int .i64)), .d true (.int .i64)], [], 0⟩
noncomputable def c26_0 : Code := bodyAt Try.f26 [1, 1, 0, 1, 0]
def s26_0 (fuel : Nat) {R : Type} (F : ((List Int) × (List Int) × Int) → Option R) (k0 : Bool → Option R) (k1 : Unit → Option R) : ((List Int) × (List Int) × Int) → Option R := fun (x4, x5, x6) => (bif (decide (x6 < ((List.length x4 : Nat) : Int))) then (if 0 ≤ x6 then (match (x4)[Int.toNat x6]? with | some y7 => (if 0 ≤ x6 then (match (x5)[Int.toNat x6]? with | some y8 => (bif (!decide (y7 = y8)) then (k0 false) else (F (x4, x5, (IntKind.wrap .i64 (x6 + (1 : Int)))))) | none => none) else none) | none => none) else none) else (k1 ()))
def l26_0 (fuel : Nat) {R : Type} (k0 : Bool → Option R) (k1 : Unit → Option R) : Nat → ((List Int) × (List Int) × Int) → Option R
  | 0, _ => none
  | n + 1, x => s26_0 fuel (l26_0 fuel k0 k1 n) k0 k1 x
def nm26_0 : Norm := ⟨[0, 1, 5], padK 0 []⟩
def an26_0 : AN := (.seq (.seq .leaf (.cond .leaf (.norm ⟨[], padK 0 []⟩ .leaf))) (.seq (.block (.seq .leaf (.cond (.seq .leaf (.norm ⟨[4], padK 0 []⟩ (.ret []))) .leaf))) .leaf))
def al26_0 : AN := .loop nm26_0 an26_0
noncomputable def d26_0 : Code := bodyAt Try.f26 [1, 1, 0, 1, 0, 0]
theorem e26_0 (fuel : Nat) {R : Type} (F : St → Option R) (k : AExit → St → Option R) : ∀ x : ((List Int) × (List Int) × Int), runK R T (fns26 fuel) fuel [] (subsOf []) (partOf d26_0 an26_0) (fr26_0.st [0, 1, 5] x) (backTo R [] nm26_0 F k) = s26_0 fuel (fun x => F (fr26_0.st [0, 1, 5] x)) (fun y => k (.ret []) (fx26_0.st [4] y)) (fun y => k (.exit 0) (fx26_1.st [] y)) x := by
  rintro ⟨x4, x5, x6⟩
  kernel_rfl
theorem u26_0 (fuel : Nat) {R : Type} (k : AExit → St → Option R) (x : ((List Int) × (List Int) × Int)) : runK R T (fns26 fuel) fuel [] (subsOf []) (partOf c26_0 al26_0) (fr26_0.st [0, 1, 5] x) k = l26_0 fuel (fun y => k (.ret []) (fx26_0.st [4] y)) (fun y => k (.exit 0) (fx26_1.st [] y)) fuel x :=
  loop_eq (mk := fr26_0.st [0, 1, 5]) (s := fun F x => s26_0 fuel F (fun y => k (.ret []) (fx26_0.st [4] y)) (fun y => k (.exit 0) (fx26_1.st [] y)) x) (l := fun n x => l26_0 fuel (fun y => k (.ret []) (fx26_0.st [4] y)) (fun y => k (.exit 0) (fx26_1.st [] y)) n x) (d := d26_0) (by kernel_rfl) (fun G x => by
    revert x
    rintro ⟨x4, x5, x6⟩
    kernel_rfl) (fun F x => e26_0 fuel F k x) (fun _ => rfl) (fun _ _ => rfl) x
noncomputable def sub26_0 (fuel : Nat) (R : Type) : Sub R := Sub.of [0, 1, 5] c26_0 fr26_0 fun x k => l26_0 fuel (fun y => k (.ret []) (fx26_0.st [4] y)) (fun y => k (.exit 0) (fx26_1.st [] y)) fuel x
theorem subOk26_0 (fuel : Nat) (R : Type) : SubOk P [] 26 (sub26_0 fuel R) :=
  subOk_part (fns := (fns26 fuel)) (fuel := fuel) (subs := (subsOf [])) (an := al26_0) T_ok (fnsOk26 fuel) mixed subsOk_nil (by kernel_rfl) (by kernel_rfl) fun _ _ _ _ h => Sub.of_run (fun (x : ((List Int) × (List Int) × Int)) k => u26_0 fuel k x) h
def an26 : AN := (.seq .leaf (.seq (.seq .leaf (.cond (.seq .leaf (.norm ⟨[4], padK 0 []⟩ (.ret []))) .leaf)) (.seq (.seq .leaf (.block (.hole ⟨[0, 1, 5], padK 0 []⟩ 0))) (.seq .leaf (.norm ⟨[4], padK 0 []⟩ (.ret []))))))
def p26 (fuel : Nat) : ((List Int) × (List Int)) → Option Bool := fun (x1, x2) => let v3 := (!decide (((List.length x1 : Nat) : Int) = ((List.length x2 : Nat) : Int))); (bif v3 then (some false) else (l26_0 fuel (fun x9 => (some x9)) (fun _ => (some true)) fuel (x1, x2, (0 : Int))))
def F26 (fuel : Nat) : Fun := funOfA fi26 al26 (p26 fuel)
theorem run26 (fuel : Nat) : ∀ y : ((List Int) × (List Int)), runF Bool T (fns26 fuel) fuel (subsOf [sub26_0 fuel Bool]) (defOf Try.f26 an26 0 [] []) (fi26.vs y) (fi26.os y) (altsDec al26) = p26 fuel y := by
  rintro ⟨x1, x2⟩
  kernel_rfl
theorem ok26 (fuel : Nat) : FunOk P 26 (funOfA fi26 al26 (p26 fuel)) :=
  funOfA_ok (subs := (subsOf [sub26_0 fuel Bool])) (an := an26) (room := 0) (ks := []) (g0 := []) (fuel := fuel) T_ok (fnsOk26 fuel) mixed (fn := Try.f26) (by kernel_rfl) (by kernel_rfl) (subsOk_cons (subOk26_0 fuel _) subsOk_nil) (by kernel_rfl) (fun _ => ⟨by kernel_rfl, by kernel_rfl⟩) (run26 fuel)

-- f27: tontine/tontineref05.MayPick
def fns27 (fuel : Nat) : Fns := fnsOf []
theorem fnsOk27 (fuel : Nat) : FnsOk P (fns27 fuel) := fnsOk_nil
def fi27 : Fr := ⟨[.d true (.slice (.int .i64))], [], 0⟩
def al27 : List (Tm × List To) := [(.tup (.cons (.d true (.int .u64)) (.cons (.d true (.bool)) (.c .nil))), [])]
def fx27_0 : Fr := ⟨[.d true (.int .u64), .d true (.bool)], [], 0⟩
def fx27_1 : Fr := ⟨[.d true (.slice (.int .i64)), .d true (.int .u64)], [], 0⟩
def fr27_0 : Fr := ⟨[.d true (.slice (.int .i64)), .d true (.int .u64), .d true (.int .i64)], [], 0⟩
noncomputable def c27_0 : Code := bodyAt Try.f27 [1, 1, 0, 1, 0]
def s27_0 (fuel : Nat) {R : Type} (F : ((List Int) × Int × Int) → Option R) (k0 : (Int × Bool) → Option R) (k1 : ((List Int) × Int) → Option R) : ((List Int) × Int × Int) → Option R := fun (x2, x3, x4) => (bif (decide (x4 < ((List.length x2 : Nat) : Int))) then (bif (decide (x4 < (1001 : Int))) then (if 0 ≤ x4 then (match (x2)[Int.toNat x4]? with | some y5 => (bif (decide (y5 < (0 : Int))) then (k0 ((0 : Int), false)) else (if 0 ≤ x4 then (match (x2)[Int.toNat x4]? with | some y6 => (bif (decide ((2147483647 : Int) < y6)) then (k0 ((0 : Int), false)) else (if 0 ≤ x4 then (match (x2)[Int.toNat x4]? with | some y7 => (F (x2, (IntKind.wrap .u64 (x3 + (IntKind.wrap .u64 y7))), (IntKind.wrap .i64 (x4 + (1 : Int))))) | none => none) else none)) | none => none) else none)) | none => none) else none) else (k1 (x2, x3))) else (k1 (x2, x3)))
def l27_0 (fuel : Nat) {R : Type} (k0 : (Int × Bool) → Option R) (k1 : ((List Int) × Int) → Option R) : Nat → ((List Int) × Int × Int) → Option R
  | 0, _ => none
  | n + 1, x => s27_0 fuel (l27_0 fuel k0 k1 n) k0 k1 x
def nm27_0 : Norm := ⟨[0, 4, 5], padK 0 []⟩
def an27_0 : AN := (.seq (.seq .leaf (.cond .leaf (.norm ⟨[0, 4], padK 0 []⟩ .leaf))) (.seq (.block (.seq (.seq .leaf (.cond (.seq .leaf (.norm ⟨[2, 3], padK 0 []⟩ (.ret []))) .leaf)) .leaf)) .leaf))
def al27_0 : AN := .loop nm27_0 an27_0
noncomputable def d27_0 : Code := bodyAt Try.f27 [1, 1, 0, 1, 0, 0]
theorem e27_0 (fuel : Nat) {R : Type} (F : St → Option R) (k : AExit → St → Option R) : ∀ x : ((List Int) × Int × Int), runK R T (fns27 fuel) fuel [] (subsOf []) (partOf d27_0 an27_0) (fr27_0.st [0, 4, 5] x) (backTo R [] nm27_0 F k) = s27_0 fuel (fun x => F (fr27_0.st [0, 4, 5] x)) (fun y => k (.ret []) (fx27_0.st [2, 3] y)) (fun y => k (.exit 0) (fx27_1.st [0, 4] y)) x := by
  rintro ⟨x2, x3, x4⟩
  kernel_rfl
theorem u27_0 (fuel : Nat) {R : Type} (k : AExit → St → Option R) (x : ((List Int) × Int × Int)) : runK R T (fns27 fuel) fuel [] (subsOf []) (partOf c27_0 al27_0) (fr27_0.st [0, 4, 5] x) k = l27_0 fuel (fun y => k (.ret []) (fx27_0.st [2, 3] y)) (fun y => k (.exit 0) (fx27_1.st [0, 4] y)) fuel x :=
  loop_eq (mk := fr27_0.st [0, 4, 5]) (s := fun F x => s27_0 fuel F (fun y => k (.ret []) (fx27_0.st [2, 3] y)) (fun y => k (.exit 0) (fx27_1.st [0, 4] y)) x) (l := fun n x => l27_0 fuel (fun y => k (.ret []) (fx27_0.st [2, 3] y)) (fun y => k (.exit 0) (fx27_1.st [0, 4] y)) n x) (d := d27_0) (by kernel_rfl) (fun G x => by
    revert x
    rintro ⟨x2, x3, x4⟩
    kernel_rfl) (fun F x => e27_0 fuel F k x) (fun _ => rfl) (fun _ _ => rfl) x
noncomputable def sub27_0 (fuel : Nat) (R : Type) : Sub R := Sub.of [0, 4, 5] c27_0 fr27_0 fun x k => l27_0 fuel (fun y => k (.ret []) (fx27_0.st [2, 3] y)) (fun y => k (.exit 0) (fx27_1.st [0, 4] y)) fuel x
theorem subOk27_0 (fuel : Nat) (R : Type) : SubOk P [] 43 (sub27_0 fuel R) :=
  subOk_part (fns := (fns27 fuel)) (fuel := fuel) (subs := (subsOf [])) (an := al27_0) T_ok (fnsOk27 fuel) mixed subsOk_nil (by kernel_rfl) (by kernel_rfl) fun _ _ _ _ h => Sub.of_run (fun (x : ((List Int) × Int × Int)) k => u27_0 fuel k x) h
def an27 : AN := (.seq .leaf (.seq .leaf (.seq (.seq .leaf (.block (.hole ⟨[0, 4, 5], padK 0 []⟩ 0))) (.seq .leaf (.norm ⟨[2, 3], padK 0 []⟩ (.ret []))))))
def p27 (fuel : Nat) : (List Int) → Option (Int × Bool) := fun x1 => (l27_0 fuel (fun (x8, x9) => (some (x8, x9))) (fun (x10, x11) => (bif (decide ((0 : Int) < x11)) then (some (x11, (decide (((List.length x10 : Nat) : Int) ≤ (1000 : Int))))) else (some (x11, false)))) fuel (x1, (0 : Int), (0 : Int)))
def F27 (fuel : Nat) : Fun := funOfA fi27 al27 (p27 fuel)
theorem run27 (fuel : Nat) : ∀ y : (List Int), runF (Int × Bool) T (fns27 fuel) fuel (subsOf [sub27_0 fuel (Int × Bool)]) (defOf Try.f27 an27 0 [] []) (fi27.vs y) (fi27.os y) (altsDec al27) = p27 fuel y := by
  rintro x1
  kernel_rfl
theorem ok27 (fuel : Nat) : FunOk P 27 (funOfA fi27 al27 (p27 fuel)) :=
  funOfA_ok (subs := (subsOf [sub27_0 fuel (Int × Bool)])) (an := an27) (room := 0) (ks := []) (g0 := []) (fuel := fuel) T_ok (fnsOk27 fuel) mixed (fn := Try.f27) (by kernel_rfl) (by kernel_rfl) (subsOk_cons (subOk27_0 fuel _) subsOk_nil) (by kernel_rfl) (fun _ => ⟨by kernel_rfl, by kernel_rfl⟩) (run27 fuel)

-- f28: (*tontine/tontineref05.Draws).Pick
def fns28 (p17 : Nat → (Int × Int) → Option (Int × Int)) (fuel : Nat) : Fns := fnsOf [(17, funOfA fi17 al17 (p17 fuel))]
theorem fnsOk28 (p17 : Nat → (Int × Int) → Option (Int × Int)) (h17 : ∀ fuel, FunOk P 17 (funOfA fi17 al17 (p17 fuel))) (fuel : Nat) : FnsOk P (fns28 p17 fuel) := (fnsOk_cons (h17 fuel) fnsOk_nil)
def fi28 : Fr := ⟨[.c (.ptr 0 0 []), .d true (.slice (.int .i64)), .d false (.int .u64)], [.box (.d true (.one (.int .u64)))], 0⟩
def al28 : List (Tm × List To) := [(.d true (.int .i64), [.box (.d true (.one (.int .u64)))])]
def fx28_0 : Fr := ⟨[.d true (.int .i64)], [.box (.d true (.one (.int .u64)))], 0⟩
def fx28_1 : Fr := ⟨[], [.box (.d true (.one (.int .u64)))], 0⟩
def fr28_0 : Fr := ⟨[.d true (.slice (.int .i64)), .d true (.int .u64), .d true (.int .u64), .d true (.int .i64)], [.box (.d true (.one (.int .u64)))], 0⟩
noncomputable def c28_0 : Code := bodyAt Try.f28 [1, 1, 1, 0, 1, 0]
def s28_0 (fuel : Nat) {R : Type} (F : ((List Int) × Int × Int × Int × Int) → Option R) (k0 : (Int × Int) → Option R) (k1 : Int → Option R) : ((List Int) × Int × Int × Int × Int) → Option R := fun (x5, x6, x7, x8, x9) => (bif (decide (x8 < ((List.length x5 : Nat) : Int))) then (if 0 ≤ x8 then (match (x5)[Int.toNat x8]? with | some y10 => (bif (decide (x6 < (IntKind.wrap .u64 (x7 + (IntKind.wrap .u64 y10))))) then (k0 (x8, x9)) else (F (x5, x6, (IntKind.wrap .u64 (x7 + (IntKind.wrap .u64 y10))), (IntKind.wrap .i64 (x8 + (1 : Int))), x9))) | none => none) else none) else (k1 x9))
def l28_0 (fuel : Nat) {R : Type} (k0 : (Int × Int) → Option R) (k1 : Int → Option R) : Nat → ((List Int) × Int × Int × Int × Int) → Option R
  | 0, _ => none
  | n + 1, x => s28_0 fuel (l28_0 fuel k0 k1 n) k0 k1 x
def s28_0' (p17 : Nat → (Int × Int) → Option (Int × Int)) (fuel : Nat) {R : Type} (F : ((List Int) × Int × Int × Int × Int) → Option R) (k0 : (Int × Int) → Option R) (k1 : Int → Option R) : ((List Int) × Int × Int × Int × Int) → Option R := fun (x5, x6, x7, x8, x9) => (bif (decide (x8 < ((List.length x5 : Nat) : Int))) then (if 0 ≤ x8 then (match (x5)[Int.toNat x8]? with | some y10 => (bif (decide (x6 < (IntKind.wrap .u64 (x7 + (IntKind.wrap .u64 y10))))) then (k0 (x8, x9)) else (F (x5, x6, (IntKind.wrap .u64 (x7 + (IntKind.wrap .u64 y10))), (IntKind.wrap .i64 (x8 + (1 : Int))), x9))) | none => none) else none) else (k1 x9))
def l28_0' (p17 : Nat → (Int × Int) → Option (Int × Int)) (fuel : Nat) {R : Type} (k0 : (Int × Int) → Option R) (k1 : Int → Option R) : Nat → ((List Int) × Int × Int × Int × Int) → Option R
  | 0, _ => none
  | n + 1, x => s28_0' p17 fuel (l28_0' p17 fuel k0 k1 n) k0 k1 x
def nm28_0 : Norm := ⟨[1, 7, 8, 9], padK 0 [some (0, 0)]⟩
def an28_0 : AN := (.seq (.seq .leaf (.cond .leaf (.norm ⟨[], padK 0 [some (0, 0)]⟩ .leaf))) (.seq (.block (.seq .leaf (.seq .leaf (.cond (.seq .leaf (.norm ⟨[6], padK 0 [some (0, 0)]⟩ (.ret [some (0, 0)]))) .leaf)))) .leaf))
def al28_0 : AN := .loop nm28_0 an28_0
noncomputable def d28_0 : Code := bodyAt Try.f28 [1, 1, 1, 0, 1, 0, 0]
theorem e28_0 (p17 : Nat → (Int × Int) → Option (Int × Int)) (fuel : Nat) {R : Type} (F : St → Option R) (k : AExit → St → Option R) : ∀ x : ((List Int) × Int × Int × Int × Int), runK R T (fns28 p17 fuel) fuel [false] (subsOf []) (partOf d28_0 an28_0) (fr28_0.st [1, 7, 8, 9] x) (backTo R [false] nm28_0 F k) = s28_0' p17 fuel (fun x => F (fr28_0.st [1, 7, 8, 9] x)) (fun y => k (.ret [some (0, 0)]) (fx28_0.st [6] y)) (fun y => k (.exit 0) (fx28_1.st [] y)) x := by
  rintro ⟨x5, x6, x7, x8, x9⟩
  kernel_rfl
theorem u28_0 (p17 : Nat → (Int × Int) → Option (Int × Int)) (fuel : Nat) {R : Type} (k : AExit → St → Option R) (x : ((List Int) × Int × Int × Int × Int)) : runK R T (fns28 p17 fuel) fuel [false] (subsOf []) (partOf c28_0 al28_0) (fr28_0.st [1, 7, 8, 9] x) k = l28_0' p17 fuel (fun y => k (.ret [some (0, 0)]) (fx28_0.st [6] y)) (fun y => k (.exit 0) (fx28_1.st [] y)) fuel x :=
  loop_eq (mk := fr28_0.st [1, 7, 8, 9]) (s := fun F x => s28_0' p17 fuel F (fun y => k (.ret [some (0, 0)]) (fx28_0.st [6] y)) (fun y => k (.exit 0) (fx28_1.st [] y)) x) (l := fun n x => l28_0' p17 fuel (fun y => k (.ret [some (0, 0)]) (fx28_0.st [6] y)) (fun y => k (.exit 0) (fx28_1.st [] y)) n x) (d := d28_0) (by kernel_rfl) (fun G x => by
    revert x
    rintro ⟨x5, x6, x7, x8, x9⟩
    kernel_rfl) (fun F x => e28_0 p17 fuel F k x) (fun _ => rfl) (fun _ _ => rfl) x
noncomputable def sub28_0 (p17 : Nat → (Int × Int) → Option (Int × Int)) (fuel : Nat) (R : Type) : Sub R := Sub.of [1, 7, 8, 9] c28_0 fr28_0 fun x k => l28_0' p17 fuel (fun y => k (.ret [some (0, 0)]) (fx28_0.st [6] y)) (fun y => k (.exit 0) (fx28_1.st [] y)) fuel x
theorem subOk28_0 (p17 : Nat → (Int × Int) → Option (Int × Int)) (h17 : ∀ fuel, FunOk P 17 (funOfA fi17 al17 (p17 fuel))) (fuel : Nat) (R : Type) : SubOk P [false] 30 (sub28_0 p17 fuel R) :=
  subOk_part (fns := (fns28 p17 fuel)) (fuel := fuel) (subs := (subsOf [])) (an := al28_0) T_ok (fnsOk28 p17 h17 fuel) mixed subsOk_nil (by kernel_rfl) (by kernel_rfl) fun _ _ _ _ h => Sub.of_run (fun (x : ((List Int) × Int × Int × Int × Int)) k => u28_0 p17 fuel k x) h
def an28 : AN := (.seq .leaf (.seq (.region [(2, { touch := [0], ro := false, loc := [0] })]) (.seq .leaf (.seq (.seq .leaf (.block (.hole ⟨[1, 7, 8, 9], padK 0 [some (0, 0)]⟩ 0))) (.seq .leaf (.norm ⟨[6], padK 0 [some (0, 0)]⟩ (.ret [some (0, 0)])))))))
def p28 (fuel : Nat) : ((List Int) × Int × Int) → Option (Int × Int) := fun (x1, x2, x3) => (match p17 fuel (x2, x3) with | some z4 => (l28_0 fuel (fun (x11, x12) => (some (x11, x12))) (fun x13 => (some ((-1 : Int), x13))) fuel (x1, z4.1, (0 : Int), (0 : Int), z4.2)) | none => none)
def p28' (p17 : Nat → (Int × Int) → Option (Int × Int)) (fuel : Nat) : ((List Int) × Int × Int) → Option (Int × Int) := fun (x1, x2, x3) => (match p17 fuel (x2, x3) with | some z4 => (l28_0' p17 fuel (fun (x11, x12) => (some (x11, x12))) (fun x13 => (some ((-1 : Int), x13))) fuel (x1, z4.1, (0 : Int), (0 : Int), z4.2)) | none => none)
def F28 (fuel : Nat) : Fun := funOfA fi28 al28 (p28 fuel)
theorem run28 (p17 : Nat → (Int × Int) → Option (Int × Int)) (fuel : Nat) : ∀ y : ((List Int) × Int × Int), runF (Int × Int) T (fns28 p17 fuel) fuel (subsOf [sub28_0 p17 fuel (Int × Int)]) (defOf Try.f28 an28 0 [] [false]) (fi28.vs y) (fi28.os y) (altsDec al28) = p28' p17 fuel y := by
  rintro ⟨x1, x2, x3⟩
  kernel_rfl
theorem ok28' (p17 : Nat → (Int × Int) → Option (Int × Int)) (h17 : ∀ fuel, FunOk P 17 (funOfA fi17 al17 (p17 fuel))) (fuel : Nat) : FunOk P 28 (funOfA fi28 al28 (p28' p17 fuel)) :=
  funOfA_ok (subs := (subsOf [sub28_0 p17 fuel (Int × Int)])) (an := an28) (room := 0) (ks := []) (g0 := [false]) (fuel := fuel) T_ok (fnsOk28 p17 h17 fuel) mixed (fn := Try.f28) (by kernel_rfl) (by kernel_rfl) (subsOk_cons (subOk28_0 p17 h17 fuel _) subsOk_nil) (by kernel_rfl) (fun _ => ⟨by kernel_rfl, by kernel_rfl⟩) (run28 p17 fuel)
theorem same28 (fuel : Nat) : p28' p17 fuel = p28 fuel := by kernel_rfl
theorem ok28 (fuel : Nat) : FunOk P 28 (F28 fuel) := by
  have h := ok28' p17 ok17 fuel
  rw [same28] at h
  exact h

-- f18: tontine/tontinelaw05.picked
def fns18 (fuel : Nat) : Fns := fnsOf [(14, F14b fuel), (26, F26 fuel), (27, F27 fuel), (28, F28 fuel)]
theorem fnsOk18 (fuel : Nat) : FnsOk P (fns18 fuel) := (fnsOk_cons (ok14b fuel) (fnsOk_cons (ok26 fuel) (fnsOk_cons (ok27 fuel) (fnsOk_cons (ok28 fuel) fnsOk_nil))))
def fi18 : Fr := ⟨[.c (.ptr 0 0 []), .c (.ptr 1 0 []), .d true (.slice (.int .i64))], [.box (.d true (.one (.int .u64))), .box (.d true (.one (.int .u64)))], 0⟩
def al18 : List (Tm × List To) := [(.d true (.bool), [.box (.d true (.one (.int .u64))), .box (.d true (.one (.int .u64)))])]
def an18 : AN := (.seq .leaf (.seq (.region [(0, { touch := [2], base := 2, ro := false }), (2, { touch := [2], ro := false }), (3, { touch := [3], base := 3, ro := false }), (4, { touch := [2, 3], ro := false })]) (.seq (.region [(4, { touch := [2] }), (5, { touch := [0, 2], ro := false, loc := [0], lend := [none, some (.slice (.int .i64))] })]) (.seq (.region [(3, { touch := [2] }), (5, { touch := [2], lend := [some (.slice (.int .i64)), none] })]) (.seq .leaf (.seq (.seq (.region [(6, { touch := [2] }), (7, { touch := [2] })]) (.cond (.seq .leaf (.norm ⟨[6], padK 2 [some (0, 0), some (1, 0)]⟩ (.ret [some (0, 0), some (1, 0)]))) .leaf)) (.seq (.seq .leaf (.cond (.seq .leaf (.norm ⟨[6], padK 2 [some (0, 0), some (1, 0)]⟩ (.ret [some (0, 0), some (1, 0)]))) .leaf)) (.seq (.region [(7, { touch := [1], ro := false, loc := [1] })]) (.norm ⟨[6], padK 2 [some (0, 0), some (1, 0)]⟩ (.ret [some (0, 0), some (1, 0)]))))))))))
def p18 (fuel : Nat) : ((List Int) × Int × Int) → Option (Bool × Int × Int) := fun (x1, x2, x3) => (if (List.length ([] : List Int) + List.length x1) * 8 ≤ 140737488355328 then (if (List.length (([] : List Int) ++ x1) + List.length [(77 : Int)]) * 8 ≤ 140737488355328 then (if 0 ≤ ((List.length x1 : Nat) : Int) ∧ ((List.length x1 : Nat) : Int) ≤ (((List.length ((([] : List Int) ++ x1) ++ [(77 : Int)])) : Nat) : Int) then (match p14b fuel ((List.take ((Int.toNat ((List.length x1 : Nat) : Int)) - 0) (List.drop 0 ((([] : List Int) ++ x1) ++ [(77 : Int)]))), x2) with | some z4 => (if 0 ≤ ((List.length x1 : Nat) : Int) ∧ ((List.length x1 : Nat) : Int) ≤ (((List.length ((([] : List Int) ++ x1) ++ [(77 : Int)])) : Nat) : Int) then (match p26 fuel ((List.take ((Int.toNat ((List.length x1 : Nat) : Int)) - 0) (List.drop 0 ((([] : List Int) ++ x1) ++ [(77 : Int)]))), x1) with | some z5 => (match p27 fuel x1 with | some z6 => (bif (!z5) then (some (false, z4.2.2, x3)) else (if 0 ≤ ((List.length x1 : Nat) : Int) ∧ ((List.length x1 : Nat) : Int) < ((List.length ((([] : List Int) ++ x1) ++ [(77 : Int)]) : Nat) : Int) then (match (((([] : List Int) ++ x1) ++ [(77 : Int)]))[(Int.toNat ((List.length x1 : Nat) : Int))]? with | some y7 => (bif (!decide (y7 = (77 : Int))) then (some (false, z4.2.2, x3)) else (bif (!z6.2) then (bif (decide (z4.1 = (0 : Int))) then (some ((decide (z4.2.1 = (1 : Int))), z4.2.2, x3)) else (some (false, z4.2.2, x3))) else (bif (decide (z4.2.1 = (0 : Int))) then (match p28 fuel (x1, z6.1, x3) with | some z8 => (some ((decide (z4.1 = z8.1)), z4.2.2, z8.2)) | none => none) else (some (false, z4.2.2, x3))))) | none => none) else none)) | none => none) | none => none) else none) | none => none) else none) else none) else none)
def F18 (fuel : Nat) : Fun := funOfA fi18 al18 (p18 fuel)
theorem run18 (fuel : Nat) : ∀ y : ((List Int) × Int × Int), runF (Bool × Int × Int) T (fns18 fuel) fuel (subsOf []) (defOf Try.f18 an18 2 [] [false, false]) (fi18.vs y) (fi18.os y) (altsDec al18) = p18 fuel y := by
  rintro ⟨x1, x2, x3⟩
  kernel_rfl
theorem ok18 (fuel : Nat) : FunOk P 18 (funOfA fi18 al18 (p18 fuel)) :=
  funOfA_ok (subs := (subsOf [])) (an := an18) (room := 2) (ks := []) (g0 := [false, false]) (fuel := fuel) T_ok (fnsOk18 fuel) mixed (fn := Try.f18) (by kernel_rfl) (by kernel_rfl) subsOk_nil (by kernel_rfl) (fun _ => ⟨by kernel_rfl, by kernel_rfl⟩) (run18 fuel)

-- f29: (*tontine/tontineref05.Draws).Order
def fns29 (p17 : Nat → (Int × Int) → Option (Int × Int)) (fuel : Nat) : Fns := fnsOf [(17, funOfA fi17 al17 (p17 fuel))]
theorem fnsOk29 (p17 : Nat → (Int × Int) → Option (Int × Int)) (h17 : ∀ fuel, FunOk P 17 (funOfA fi17 al17 (p17 fuel))) (fuel : Nat) : FnsOk P (fns29 p17 fuel) := (fnsOk_cons (h17 fuel) fnsOk_nil)
def fi29 : Fr := ⟨[.c (.ptr 0 0 []), .d false (.int .i64)], [.box (.d true (.one (.int .u64)))], 0⟩
def al29 : List (Tm × List To) := [(.c (.slc 1 0), [.box (.d true (.one (.int .u64))), .arr 0 (.int .i64)])]
def fx29_0 : Fr := ⟨[.c (.ptr 0 0 []), .d true (.int .i64), .c (.slc 1 0)], [.box (.d true (.one (.int .u64))), .arr 0 (.int .i64)], 2⟩
def fr29_0 : Fr := ⟨[.c (.ptr 0 0 []), .d true (.int .i64), .c (.slc 1 0), .d true (.int .i64)], [.box (.d true (.one (.int .u64))), .arr 0 (.int .i64)], 2⟩
noncomputable def c29_0 : Code := bodyAt Try.f29 [1, 1, 0, 1, 0]
def s29_0 (fuel : Nat) {R : Type} (F : (Int × Int × Int × (List Int)) → Option R) (k0 : (Int × Int × (List Int)) → Option R) : (Int × Int × Int × (List Int)) → Option R := fun (x3, x4, x5, x6) => (bif (decide (x4 < x3)) then (if (List.length x6 + List.length [x4]) * 8 ≤ 140737488355328 then (F (x3, (IntKind.wrap .i64 (x4 + (1 : Int))), x5, (x6 ++ [x4]))) else none) else (k0 (x3, x5, x6)))
def l29_0 (fuel : Nat) {R : Type} (k0 : (Int × Int × (List Int)) → Option R) : Nat → (Int × Int × Int × (List Int)) → Option R
  | 0, _ => none
  | n + 1, x => s29_0 fuel (l29_0 fuel k0 n) k0 x
def s29_0' (p17 : Nat → (Int × Int) → Option (Int × Int)) (fuel : Nat) {R : Type} (F : (Int × Int × Int × (List Int)) → Option R) (k0 : (Int × Int × (List Int)) → Option R) : (Int × Int × Int × (List Int)) → Option R := fun (x3, x4, x5, x6) => (bif (decide (x4 < x3)) then (if (List.length x6 + List.length [x4]) * 8 ≤ 140737488355328 then (F (x3, (IntKind.wrap .i64 (x4 + (1 : Int))), x5, (x6 ++ [x4]))) else none) else (k0 (x3, x5, x6)))
def l29_0' (p17 : Nat → (Int × Int) → Option (Int × Int)) (fuel : Nat) {R : Type} (k0 : (Int × Int × (List Int)) → Option R) : Nat → (Int × Int × Int × (List Int)) → Option R
  | 0, _ => none
  | n + 1, x => s29_0' p17 fuel (l29_0' p17 fuel k0 n) k0 x
def nm29_0 : Norm := ⟨[0, 1, 5, 6], padK 2 [some (0, 0), some (1, 0)]⟩
def an29_0 : AN := (.seq (.seq .leaf (.cond .leaf (.norm ⟨[0, 1, 5], padK 2 [some (0, 0), some (1, 0)]⟩ .leaf))) (.seq (.block (.region [(2, { touch := [2], base := 2, ro := false }), (3, { touch := [1, 2], ro := false })])) .leaf))
def al29_0 : AN := .loop nm29_0 an29_0
noncomputable def d29_0 : Code := bodyAt Try.f29 [1, 1, 0, 1, 0, 0]
theorem e29_0 (p17 : Nat → (Int × Int) → Option (Int × Int)) (fuel : Nat) {R : Type} (F : St → Option R) (k : AExit → St → Option R) : ∀ x : (Int × Int × Int × (List Int)), runK R T (fns29 p17 fuel) fuel [false] (subsOf []) (partOf d29_0 an29_0) (fr29_0.st [0, 1, 5, 6] x) (backTo R [false] nm29_0 F k) = s29_0' p17 fuel (fun x => F (fr29_0.st [0, 1, 5, 6] x)) (fun y => k (.exit 0) (fx29_0.st [0, 1, 5] y)) x := by
  rintro ⟨x3, x4, x5, x6⟩
  kernel_rfl
theorem u29_0 (p17 : Nat → (Int × Int) → Option (Int × Int)) (fuel : Nat) {R : Type} (k : AExit → St → Option R) (x : (Int × Int × Int × (List Int))) : runK R T (fns29 p17 fuel) fuel [false] (subsOf []) (partOf c29_0 al29_0) (fr29_0.st [0, 1, 5, 6] x) k = l29_0' p17 fuel (fun y => k (.exit 0) (fx29_0.st [0, 1, 5] y)) fuel x :=
  loop_eq (mk := fr29_0.st [0, 1, 5, 6]) (s := fun F x => s29_0' p17 fuel F (fun y => k (.exit 0) (fx29_0.st [0, 1, 5] y)) x) (l := fun n x => l29_0' p17 fuel (fun y => k (.exit 0) (fx29_0.st [0, 1, 5] y)) n x) (d := d29_0) (by kernel_rfl) (fun G x => by
    revert x
    rintro ⟨x3, x4, x5, x6⟩
    kernel_rfl) (fun F x => e29_0 p17 fuel F k x) (fun _ => rfl) (fun _ _ => rfl) x
noncomputable def sub29_0 (p17 : Nat → (Int × Int) → Option (Int × Int)) (fuel : Nat) (R : Type) : Sub R := Sub.of [0, 1, 5, 6] c29_0 fr29_0 fun x k => l29_0' p17 fuel (fun y => k (.exit 0) (fx29_0.st [0, 1, 5] y)) fuel x
theorem subOk29_0 (p17 : Nat → (Int × Int) → Option (Int × Int)) (h17 : ∀ fuel, FunOk P 17 (funOfA fi17 al17 (p17 fuel))) (fuel : Nat) (R : Type) : SubOk P [false] 47 (sub29_0 p17 fuel R) :=
  subOk_part (fns := (fns29 p17 fuel)) (fuel := fuel) (subs := (subsOf [])) (an := al29_0) T_ok (fnsOk29 p17 h17 fuel) mixed subsOk_nil (by kernel_rfl) (by kernel_rfl) fun _ _ _ _ h => Sub.of_run (fun (x : (Int × Int × Int × (List Int))) k => u29_0 p17 fuel k x) h
def fx29_1 : Fr := ⟨[.c (.slc 1 0)], [.box (.d true (.one (.int .u64))), .arr 0 (.int .i64)], 2⟩
def fr29_1 : Fr := ⟨[.c (.ptr 0 0 []), .c (.slc 1 0), .d true (.int .i64)], [.box (.d true (.one (.int .u64))), .arr 0 (.int .i64)], 2⟩
noncomputable def c29_1 : Code := bodyAt Try.f29 [1, 1, 1, 0, 1, 0]
def s29_1 (fuel : Nat) {R : Type} (F : (Int × Int × (List Int)) → Option R) (k0 : (Int × (List Int)) → Option R) : (Int × Int × (List Int)) → Option R := fun (x10, x11, x12) => (bif (decide ((1 : Int) ≤ x10)) then (match p17 fuel ((IntKind.wrap .u64 (IntKind.wrap .i64 (x10 + (1 : Int)))), x11) with | some z13 => (if 0 ≤ x10 ∧ x10 < ((List.length x12 : Nat) : Int) then (match (x12)[(Int.toNat x10)]? with | some y14 => (if 0 ≤ (IntKind.wrap .i64 z13.1) ∧ (IntKind.wrap .i64 z13.1) < ((List.length x12 : Nat) : Int) then (match (x12)[(Int.toNat (IntKind.wrap .i64 z13.1))]? with | some y15 => (if 0 ≤ x10 ∧ x10 < ((List.length x12 : Nat) : Int) then (match (x12)[(Int.toNat x10)]? with | some y16 => (if 0 ≤ (IntKind.wrap .i64 z13.1) ∧ (IntKind.wrap .i64 z13.1) < ((List.length (List.set x12 (Int.toNat x10) y15) : Nat) : Int) then (match ((List.set x12 (Int.toNat x10) y15))[(Int.toNat (IntKind.wrap .i64 z13.1))]? with | some y17 => let v18 := (List.set (List.set x12 (Int.toNat x10) y15) (Int.toNat (IntKind.wrap .i64 z13.1)) y14); (F ((IntKind.wrap .i64 (x10 - (1 : Int))), z13.2, v18)) | none => none) else none) | none => none) else none) | none => none) else none) | none => none) else none) | none => none) else (k0 (x11, x12)))
def l29_1 (fuel : Nat) {R : Type} (k0 : (Int × (List Int)) → Option R) : Nat → (Int × Int × (List Int)) → Option R
  | 0, _ => none
  | n + 1, x => s29_1 fuel (l29_1 fuel k0 n) k0 x
def s29_1' (p17 : Nat → (Int × Int) → Option (Int × Int)) (fuel : Nat) {R : Type} (F : (Int × Int × (List Int)) → Option R) (k0 : (Int × (List Int)) → Option R) : (Int × Int × (List Int)) → Option R := fun (x10, x11, x12) => (bif (decide ((1 : Int) ≤ x10)) then (match p17 fuel ((IntKind.wrap .u64 (IntKind.wrap .i64 (x10 + (1 : Int)))), x11) with | some z13 => (if 0 ≤ x10 ∧ x10 < ((List.length x12 : Nat) : Int) then (match (x12)[(Int.toNat x10)]? with | some y14 => (if 0 ≤ (IntKind.wrap .i64 z13.1) ∧ (IntKind.wrap .i64 z13.1) < ((List.length x12 : Nat) : Int) then (match (x12)[(Int.toNat (IntKind.wrap .i64 z13.1))]? with | some y15 => (if 0 ≤ x10 ∧ x10 < ((List.length x12 : Nat) : Int) then (match (x12)[(Int.toNat x10)]? with | some y16 => (if 0 ≤ (IntKind.wrap .i64 z13.1) ∧ (IntKind.wrap .i64 z13.1) < ((List.length (List.set x12 (Int.toNat x10) y15) : Nat) : Int) then (match ((List.set x12 (Int.toNat x10) y15))[(Int.toNat (IntKind.wrap .i64 z13.1))]? with | some y17 => let v18 := (List.set (List.set x12 (Int.toNat x10) y15) (Int.toNat (IntKind.wrap .i64 z13.1)) y14); (F ((IntKind.wrap .i64 (x10 - (1 : Int))), z13.2, v18)) | none => none) else none) | none => none) else none) | none => none) else none) | none => none) else none) | none => none) else (k0 (x11, x12)))
def l29_1' (p17 : Nat → (Int × Int) → Option (Int × Int)) (fuel : Nat) {R : Type} (k0 : (Int × (List Int)) → Option R) : Nat → (Int × Int × (List Int)) → Option R
  | 0, _ => none
  | n + 1, x => s29_1' p17 fuel (l29_1' p17 fuel k0 n) k0 x
def nm29_1 : Norm := ⟨[0, 5, 7], padK 2 [some (0, 0), some (1, 0)]⟩
def an29_1 : AN := (.seq (.seq .leaf (.cond .leaf (.norm ⟨[5], padK 2 [some (0, 0), some (1, 0)]⟩ .leaf))) (.seq (.block (.seq (.region [(4, { touch := [0], ro := false, loc := [0] })]) (.seq (.region [(2, { touch := [1] }), (3, { touch := [1] })]) (.seq (.region [(4, { touch := [1] }), (5, { touch := [1] }), (6, { touch := [1] }), (7, { touch := [1], ro := false })]) (.region [(3, { touch := [1] }), (4, { touch := [1], ro := false })]))))) .leaf))
def al29_1 : AN := .loop nm29_1 an29_1
noncomputable def d29_1 : Code := bodyAt Try.f29 [1, 1, 1, 0, 1, 0, 0]
theorem e29_1 (p17 : Nat → (Int × Int) → Option (Int × Int)) (fuel : Nat) {R : Type} (F : St → Option R) (k : AExit → St → Option R) : ∀ x : (Int × Int × (List Int)), runK R T (fns29 p17 fuel) fuel [false] (subsOf [sub29_0 p17 fuel R]) (partOf d29_1 an29_1) (fr29_1.st [0, 5, 7] x) (backTo R [false] nm29_1 F k) = s29_1' p17 fuel (fun x => F (fr29_1.st [0, 5, 7] x)) (fun y => k (.exit 2) (fx29_1.st [5] y)) x := by
  rintro ⟨x10, x11, x12⟩
  kernel_rfl
theorem u29_1 (p17 : Nat → (Int × Int) → Option (Int × Int)) (fuel : Nat) {R : Type} (k : AExit → St → Option R) (x : (Int × Int × (List Int))) : runK R T (fns29 p17 fuel) fuel [false] (subsOf [sub29_0 p17 fuel R]) (partOf c29_1 al29_1) (fr29_1.st [0, 5, 7] x) k = l29_1' p17 fuel (fun y => k (.exit 2) (fx29_1.st [5] y)) fuel x :=
  loop_eq (mk := fr29_1.st [0, 5, 7]) (s := fun F x => s29_1' p17 fuel F (fun y => k (.exit 2) (fx29_1.st [5] y)) x) (l := fun n x => l29_1' p17 fuel (fun y => k (.exit 2) (fx29_1.st [5] y)) n x) (d := d29_1) (by kernel_rfl) (fun G x => by
    revert x
    rintro ⟨x10, x11, x12⟩
    kernel_rfl) (fun F x => e29_1 p17 fuel F k x) (fun _ => rfl) (fun _ _ => rfl) x
noncomputable def sub29_1 (p17 : Nat → (Int × Int) → Option (Int × Int)) (fuel : Nat) (R : Type) : Sub R := Sub.of [0, 5, 7] c29_1 fr29_1 fun x k => l29_1' p17 fuel (fun y => k (.exit 2) (fx29_1.st [5] y)) fuel x
theorem subOk29_1 (p17 : Nat → (Int × Int) → Option (Int × Int)) (h17 : ∀ fuel, FunOk P 17 (funOfA fi17 al17 (p17 fuel))) (fuel : Nat) (R : Type) : SubOk P [false] 47 (sub29_1 p17 fuel R) :=
  subOk_part (fns := (fns29 p17 fuel)) (fuel := fuel) (subs := (subsOf [sub29_0 p17 fuel R])) (an := al29_1) T_ok (fnsOk29 p17 h17 fuel) mixed (subsOk_cons (subOk29_0 p17 h17 fuel R) subsOk_nil) (by kernel_rfl) (by kernel_rfl) fun _ _ _ _ h => Sub.of_run (fun (x : (Int × Int × (List Int))) k => u29_1 p17 fuel k x) h
def an29 : AN := (.seq .leaf (.seq .leaf (.seq (.seq .leaf (.block (.co (.empty (.slot 5 []) 3 (.int .i64)) (.hole ⟨[0, 1, 5, 6], padK 2 [some (0, 0), some (3, 0)]⟩ 0)))) (.seq (.seq .leaf (.block (.hole ⟨[0, 5, 7], padK 2 [some (0, 0), some (1, 0)]⟩ 1))) (.seq .leaf (.norm ⟨[4], padK 2 [some (0, 0), some (1, 0)]⟩ (.ret [some (0, 0), some (1, 0)])))))))
def p29 (fuel : Nat) : (Int × Int) → Option (Int × (List Int)) := fun (x1, x2) => (l29_0 fuel (fun (x7, x8, x9) => (l29_1 fuel (fun (x19, x20) => (some (x19, x20))) fuel ((IntKind.wrap .i64 (x7 - (1 : Int))), x8, x9))) fuel (x1, (0 : Int), x2, ([] : List Int)))
def p29' (p17 : Nat → (Int × Int) → Option (Int × Int)) (fuel : Nat) : (Int × Int) → Option (Int × (List Int)) := fun (x1, x2) => (l29_0' p17 fuel (fun (x7, x8, x9) => (l29_1' p17 fuel (fun (x19, x20) => (some (x19, x20))) fuel ((IntKind.wrap .i64 (x7 - (1 : Int))), x8, x9))) fuel (x1, (0 : Int), x2, ([] : List Int)))
def F29 (fuel : Nat) : Fun := funOfA fi29 al29 (p29 fuel)
theorem run29 (p17 : Nat → (Int × Int) → Option (Int × Int)) (fuel : Nat) : ∀ y : (Int × Int), runF (Int × (List Int)) T (fns29 p17 fuel) fuel (subsOf [sub29_0 p17 fuel (Int × (List Int)), sub29_1 p17 fuel (Int × (List Int))]) (defOf Try.f29 an29 3 [] [false]) (fi29.vs y) (fi29.os y) (altsDec al29) = p29' p17 fuel y := by
  rintro ⟨x1, x2⟩
  kernel_rfl
theorem ok29' (p17 : Nat → (Int × Int) → Option (Int × Int)) (h17 : ∀ fuel, FunOk P 17 (funOfA fi17 al17 (p17 fuel))) (fuel : Nat) : FunOk P 29 (funOfA fi29 al29 (p29' p17 fuel)) :=
  funOfA_ok (subs := (subsOf [sub29_0 p17 fuel (Int × (List Int)), sub29_1 p17 fuel (Int × (List Int))])) (an := an29) (room := 3) (ks := []) (g0 := [false]) (fuel := fuel) T_ok (fnsOk29 p17 h17 fuel) mixed (fn := Try.f29) (by kernel_rfl) (by kernel_rfl) (subsOk_cons (subOk29_0 p17 h17 fuel _) (subsOk_cons (subOk29_1 p17 h17 fuel _) subsOk_nil)) (by kernel_rfl) (fun _ => ⟨by kernel_rfl, by kernel_rfl⟩) (run29 p17 fuel)
theorem same29 (fuel : Nat) : p29' p17 fuel = p29 fuel := by kernel_rfl
theorem ok29 (fuel : Nat) : FunOk P 29 (F29 fuel) := by
  have h := ok29' p17 ok17 fuel
  rw [same29] at h
  exact h

-- f26b: tontine/tontinelaw05.sameInts
def fns26b (fuel : Nat) : Fns := fnsOf []
theorem fnsOk26b (fuel : Nat) : FnsOk P (fns26b fuel) := fnsOk_nil
def fi26b : Fr := ⟨[.d false (.slice (.int .i64)), .d false (.slice (.int .i64))], [], 0⟩
def al26b : List (Tm × List To) := [(.d true (.bool), [])]
def fx26b_0 : Fr := ⟨[.d true (.bool)], [], 0⟩
def fx26b_1 : Fr := ⟨[], [], 0⟩
def fr26b_0 : Fr := ⟨[.d false (.slice (.int .i64)), .d false (.slice (.int .i64)), .d true (.int .i64)], [], 0⟩
noncomputable def c26b_0 : Code := bodyAt Try.f26 [1, 1, 0, 1, 0]
def s26b_0 (fuel : Nat) {R : Type} (F : ((List Int) × (List Int) × Int) → Option R) (k0 : Bool → Option R) (k1 : Unit → Option R) : ((List Int) × (List Int) × Int) → Option R := fun (x4, x5, x6) => (bif (decide (x6 < ((List.length x4 : Nat) : Int))) then (if 0 ≤ x6 then (match (x4)[Int.toNat x6]? with | some y7 => (if 0 ≤ x6 then (match (x5)[Int.toNat x6]? with | some y8 => (bif (!decide (y7 = y8)) then (k0 false) else (F (x4, x5, (IntKind.wrap .i64 (x6 + (1 : Int)))))) | none => none) else none) | none => none) else none) else (k1 ()))
def l26b_0 (fuel : Nat) {R : Type} (k0 : Bool → Option R) (k1 : Unit → Option R) : Nat → ((List Int) × (List Int) × Int) → Option R
  | 0, _ => none
  | n + 1, x => s26b_0 fuel (l26b_0 fuel k0 k1 n) k0 k1 x
def nm26b_0 : Norm := ⟨[0, 1, 5], padK 0 []⟩
def an26b_0 : AN := (.seq (.seq .leaf (.cond .leaf (.norm ⟨[], padK 0 []⟩ .leaf))) (.seq (.block (.seq .leaf (.cond (.seq .leaf (.norm ⟨[4], padK 0 []⟩ (.ret []))) .leaf))) .leaf))
def al26b_0 : AN := .loop nm26b_0 an26b_0
noncomputable def d26b_0 : Code := bodyAt Try.f26 [1, 1, 0, 1, 0, 0]
theorem e26b_0 (fuel : Nat) {R : Type} (F : St → Option R) (k : AExit → St → Option R) : ∀ x : ((List Int) × (List Int) × Int), runK R T (fns26b fuel) fuel [] (subsOf []) (partOf d26b_0 an26b_0) (fr26b_0.st [0, 1, 5] x) (backTo R [] nm26b_0 F k) = s26b_0 fuel (fun x => F (fr26b_0.st [0, 1, 5] x)) (fun y => k (.ret []) (fx26b_0.st [4] y)) (fun y => k (.exit 0) (fx26b_1.st [] y)) x := by
  rintro ⟨x4, x5, x6⟩
  kernel_rfl
theorem u26b_0 (fuel : Nat) {R : Type} (k : AExit → St → Option R) (x : ((List Int) × (List Int) × Int)) : runK R T (fns26b fuel) fuel [] (subsOf []) (partOf c26b_0 al26b_0) (fr26b_0.st [0, 1, 5] x) k = l26b_0 fuel (fun y => k (.ret []) (fx26b_0.st [4] y)) (fun y => k (.exit 0) (fx26b_1.st [] y)) fuel x :=
  loop_eq (mk := fr26b_0.st [0, 1, 5]) (s := fun F x => s26b_0 fuel F (fun y => k (.ret []) (fx26b_0.st [4] y)) (fun y => k (.exit 0) (fx26b_1.st [] y)) x) (l := fun n x => l26b_0 fuel (fun y => k (.ret []) (fx26b_0.st [4] y)) (fun y => k (.exit 0) (fx26b_1.st [] y)) n x) (d := d26b_0) (by kernel_rfl) (fun G x => by
    revert x
    rintro ⟨x4, x5, x6⟩
    kernel_rfl) (fun F x => e26b_0 fuel F k x) (fun _ => rfl) (fun _ _ => rfl) x
noncomputable def sub26b_0 (fuel : Nat) (R : Type) : Sub R := Sub.of [0, 1, 5] c26b_0 fr26b_0 fun x k => l26b_0 fuel (fun y => k (.ret []) (fx26b_0.st [4] y)) (fun y => k (.exit 0) (fx26b_1.st [] y)) fuel x
theorem subOk26b_0 (fuel : Nat) (R : Type) : SubOk P [] 26 (sub26b_0 fuel R) :=
  subOk_part (fns := (fns26b fuel)) (fuel := fuel) (subs := (subsOf [])) (an := al26b_0) T_ok (fnsOk26b fuel) mixed subsOk_nil (by kernel_rfl) (by kernel_rfl) fun _ _ _ _ h => Sub.of_run (fun (x : ((List Int) × (List Int) × Int)) k => u26b_0 fuel k x) h
def an26b : AN := (.seq .leaf (.seq (.seq .leaf (.cond (.seq .leaf (.norm ⟨[4], padK 0 []⟩ (.ret []))) .leaf)) (.seq (.seq .leaf (.block (.hole ⟨[0, 1, 5], padK 0 []⟩ 0))) (.seq .leaf (.norm ⟨[4], padK 0 []⟩ (.ret []))))))
def p26b (fuel : Nat) : ((List Int) × (List Int)) → Option Bool := fun (x1, x2) => let v3 := (!decide (((List.length x1 : Nat) : Int) = ((List.length x2 : Nat) : Int))); (bif v3 then (some false) else (l26b_0 fuel (fun x9 => (some x9)) (fun _ => (some true)) fuel (x1, x2, (0 : Int))))
def F26b (fuel : Nat) : Fun := funOfA fi26b al26b (p26b fuel)
theorem run26b (fuel : Nat) : ∀ y : ((List Int) × (List Int)), runF Bool T (fns26b fuel) fuel (subsOf [sub26b_0 fuel Bool]) (defOf Try.f26 an26b 0 [] []) (fi26b.vs y) (fi26b.os y) (altsDec al26b) = p26b fuel y := by
  rintro ⟨x1, x2⟩
  kernel_rfl
theorem ok26b (fuel : Nat) : FunOk P 26 (funOfA fi26b al26b (p26b fuel)) :=
  funOfA_ok (subs := (subsOf [sub26b_0 fuel Bool])) (an := an26b) (room := 0) (ks := []) (g0 := []) (fuel := fuel) T_ok (fnsOk26b fuel) mixed (fn := Try.f26) (by kernel_rfl) (by kernel_rfl) (subsOk_cons (subOk26b_0 fuel _) subsOk_nil) (by kernel_rfl) (fun _ => ⟨by kernel_rfl, by kernel_rfl⟩) (run26b fuel)

-- f19: tontine/tontinelaw05.mixed
def fns19 (fuel : Nat) : Fns := fnsOf [(12, F12 fuel), (29, F29 fuel), (26, F26b fuel)]
theorem fnsOk19 (fuel : Nat) : FnsOk P (fns19 fuel) := (fnsOk_cons (ok12 fuel) (fnsOk_cons (ok29 fuel) (fnsOk_cons (ok26b fuel) fnsOk_nil)))
def fi19 : Fr := ⟨[.c (.ptr 0 0 []), .c (.ptr 1 0 []), .d false (.int .i64)], [.box (.d true (.one (.int .u64))), .box (.d true (.one (.int .u64)))], 0⟩
def al19 : List (Tm × List To) := [(.d true (.bool), [.box (.d true (.one (.int .u64))), .box (.d true (.one (.int .u64)))])]
def fx19_0 : Fr := ⟨[.d true (.bool)], [.box (.d true (.one (.int .u64))), .box (.d true (.one (.int .u64)))], 4⟩
def fx19_1 : Fr := ⟨[.c (.ptr 1 0 []), .d true (.int .i64), .c (.slc 2 0), .d true (.int .i64)], [.box (.d true (.one (.int .u64))), .box (.d true (.one (.int .u64))), .arr 0 (.int .i64)], 3⟩
def fr19_0 : Fr := ⟨[.c (.ptr 1 0 []), .d true (.int .i64), .c (.slc 2 0), .d true (.int .i64), .d true (.bool)], [.box (.d true (.one (.int .u64))), .box (.d true (.one (.int .u64))), .arr 0 (.int .i64)], 3⟩
noncomputable def c19_0 : Code := bodyAt Try.f19 [1, 1, 0, 1]
def j19_0 (fuel : Nat) {R : Type} (k0 : (Bool × Int × Int) → Option R) (k1 : (Int × Int × Int × Int × (List Int)) → Option R) : (Int × Int × Bool × Int × Int × (List Int)) → Option R := fun (x5, x6, x7, x8, x9, x10) => (bif x7 then (bif (decide (((List.length x10 : Nat) : Int) = (0 : Int))) then (k0 ((decide (x6 = (1 : Int))), x8, x9)) else (k0 (false, x8, x9))) else (k1 (x5, x6, x8, x9, x10)))
def al19_0 : AN := (.fin ⟨[1, 2, 7, 8], padK 3 [some (0, 0), some (1, 0), some (2, 0)]⟩ (.cond (.seq (.region [(1, { touch := [2] })]) (.norm ⟨[6], padK 4 [some (0, 0), some (1, 0)]⟩ (.ret [some (0, 0), some (1, 0)]))) .leaf))
theorem u19_0 (fuel : Nat) {R : Type} (k : AExit → St → Option R) : ∀ x : (Int × Int × Bool × Int × Int × (List Int)), runK R T (fns19 fuel) fuel [false, false] (subsOf []) (partOf c19_0 al19_0) (fr19_0.st [1, 2, 7, 8, 22] x) k = j19_0 fuel (fun y => k (.ret [some (0, 0), some (1, 0)]) (fx19_0.st [6] y)) (fun y => k .normal (fx19_1.st [1, 2, 7, 8] y)) x := by
  rintro ⟨x5, x6, x7, x8, x9, x10⟩
  kernel_rfl
noncomputable def sub19_0 (fuel : Nat) (R : Type) : Sub R := Sub.of [1, 2, 7, 8, 22] c19_0 fr19_0 fun x k => j19_0 fuel (fun y => k (.ret [some (0, 0), some (1, 0)]) (fx19_0.st [6] y)) (fun y => k .normal (fx19_1.st [1, 2, 7, 8] y)) x
theorem subOk19_0 (fuel : Nat) (R : Type) : SubOk P [false, false] 52 (sub19_0 fuel R) :=
  subOk_part (fns := (fns19 fuel)) (fuel := fuel) (subs := (subsOf [])) (an := al19_0) T_ok (fnsOk19 fuel) mixed subsOk_nil (by kernel_rfl) (by kernel_rfl) fun _ _ _ _ h => Sub.of_run (fun (x : (Int × Int × Bool × Int × Int × (List Int))) k => u19_0 fuel k x) h
def fx19_2 : Fr := ⟨[.c (.slc 2 0), .d true (.int .i64), .d true (.bool)], [.box (.d true (.one (.int .u64))), .box (.d true (.one (.int .u64))), .arr 0 (.int .i64)], 3⟩
def fr19_1 : Fr := ⟨[.c (.slc 2 0), .d true (.int .i64), .d true (.bool), .d true (.int .i64)], [.box (.d true (.one (.int .u64))), .box (.d true (.one (.int .u64))), .arr 0 (.int .i64)], 3⟩
noncomputable def c19_1 : Code := bodyAt Try.f19 [1, 1, 1, 1, 0, 1, 0]
def s19_1 (fuel : Nat) {R : Type} (F : (Int × Bool × Int × Int × Int × (List Int)) → Option R) (k0 : (Int × Bool × Int × Int × (List Int)) → Option R) : (Int × Bool × Int × Int × Int × (List Int)) → Option R := fun (x34, x35, x36, x37, x38, x39) => (bif (decide (x36 < ((List.length x39 : Nat) : Int))) then (if 0 ≤ x36 ∧ x36 < ((List.length x39 : Nat) : Int) then (match (x39)[(Int.toNat x36)]? with | some y40 => (F (x34, x35, (IntKind.wrap .i64 (x36 + (1 : Int))), x37, x38, (List.set x39 (Int.toNat x36) (-1 : Int)))) | none => none) else none) else (k0 (x34, x35, x37, x38, x39)))
def l19_1 (fuel : Nat) {R : Type} (k0 : (Int × Bool × Int × Int × (List Int)) → Option R) : Nat → (Int × Bool × Int × Int × Int × (List Int)) → Option R
  | 0, _ => none
  | n + 1, x => s19_1 fuel (l19_1 fuel k0 n) k0 x
def nm19_1 : Norm := ⟨[7, 8, 9, 10], padK 3 [some (0, 0), some (1, 0), some (2, 0)]⟩
def an19_1 : AN := (.seq (.seq (.region [(2, { touch := [2] })]) (.cond .leaf (.norm ⟨[7, 8, 9], padK 3 [some (0, 0), some (1, 0), some (2, 0)]⟩ .leaf))) (.seq (.block (.region [(2, { touch := [2] }), (3, { touch := [2], ro := false })])) .leaf))
def al19_1 : AN := .loop nm19_1 an19_1
noncomputable def d19_1 : Code := bodyAt Try.f19 [1, 1, 1, 1, 0, 1, 0, 0]
theorem e19_1 (fuel : Nat) {R : Type} (F : St → Option R) (k : AExit → St → Option R) : ∀ x : (Int × Bool × Int × Int × Int × (List Int)), runK R T (fns19 fuel) fuel [false, false] (subsOf [sub19_0 fuel R]) (partOf d19_1 an19_1) (fr19_1.st [7, 8, 9, 10] x) (backTo R [false, false] nm19_1 F k) = s19_1 fuel (fun x => F (fr19_1.st [7, 8, 9, 10] x)) (fun y => k (.exit 0) (fx19_2.st [7, 8, 9] y)) x := by
  rintro ⟨x34, x35, x36, x37, x38, x39⟩
  kernel_rfl
theorem u19_1 (fuel : Nat) {R : Type} (k : AExit → St → Option R) (x : (Int × Bool × Int × Int × Int × (List Int))) : runK R T (fns19 fuel) fuel [false, false] (subsOf [sub19_0 fuel R]) (partOf c19_1 al19_1) (fr19_1.st [7, 8, 9, 10] x) k = l19_1 fuel (fun y => k (.exit 0) (fx19_2.st [7, 8, 9] y)) fuel x :=
  loop_eq (mk := fr19_1.st [7, 8, 9, 10]) (s := fun F x => s19_1 fuel F (fun y => k (.exit 0) (fx19_2.st [7, 8, 9] y)) x) (l := fun n x => l19_1 fuel (fun y => k (.exit 0) (fx19_2.st [7, 8, 9] y)) n x) (d := d19_1) (by kernel_rfl) (fun G x => by
    revert x
    rintro ⟨x34, x35, x36, x37, x38, x39⟩
    kernel_rfl) (fun F x => e19_1 fuel F k x) (fun _ => rfl) (fun _ _ => rfl) x
noncomputable def sub19_1 (fuel : Nat) (R : Type) : Sub R := Sub.of [7, 8, 9, 10] c19_1 fr19_1 fun x k => l19_1 fuel (fun y => k (.exit 0) (fx19_2.st [7, 8, 9] y)) fuel x
theorem subOk19_1 (fuel : Nat) (R : Type) : SubOk P [false, false] 52 (sub19_1 fuel R) :=
  subOk_part (fns := (fns19 fuel)) (fuel := fuel) (subs := (subsOf [sub19_0 fuel R])) (an := al19_1) T_ok (fnsOk19 fuel) mixed (subsOk_cons (subOk19_0 fuel R) subsOk_nil) (by kernel_rfl) (by kernel_rfl) fun _ _ _ _ h => Sub.of_run (fun (x : (Int × Bool × Int × Int × Int × (List Int))) k => u19_1 fuel k x) h
def fr19_2 : Fr := ⟨[.c (.ptr 1 0 []), .d true (.int .i64), .c (.slc 2 0), .d true (.int .i64)], [.box (.d true (.one (.int .u64))), .box (.d true (.one (.int .u64))), .arr 0 (.int .i64)], 3⟩
noncomputable def c19_2 : Code := bodyAt Try.f19 [1, 1, 1]
def j19_2 (fuel : Nat) {R : Type} (k0 : (Bool × Int × Int) → Option R) : (Int × Int × Int × Int × (List Int)) → Option R := fun (x27, x28, x29, x30, x31) => (match p29 fuel (x27, x30) with | some z32 => (match p26b fuel (x31, z32.2) with | some z33 => (l19_1 fuel (fun (x41, x42, x43, x44, x45) => (if (List.length x45 + List.length [(-1 : Int), (-1 : Int)]) * 8 ≤ 140737488355328 then (bif x42 then (k0 ((decide (x41 = (0 : Int))), x43, x44)) else (k0 (false, x43, x44))) else none)) fuel (x28, z33, (0 : Int), x29, z32.1, x31)) | none => none) | none => none)
def al19_2 : AN := (.seq (.region [(3, { touch := [1, 4], base := 4, ro := false, loc := [1], fresh := 1 }), (4, { touch := [2, 4], lend := [some (.slice (.int .i64)), some (.slice (.int .i64))] })]) (.seq (.seq .leaf (.block (.hole ⟨[7, 8, 9, 10], padK 3 [some (0, 0), some (1, 0), some (2, 0)]⟩ 1))) (.seq (.region [(1, { touch := [5], base := 5, ro := false }), (2, { touch := [2, 5], ro := false })]) (.seq .leaf (.norm ⟨[6], padK 4 [some (0, 0), some (1, 0)]⟩ (.ret [some (0, 0), some (1, 0)]))))))
theorem u19_2 (fuel : Nat) {R : Type} (k : AExit → St → Option R) : ∀ x : (Int × Int × Int × Int × (List Int)), runK R T (fns19 fuel) fuel [false, false] (subsOf [sub19_0 fuel R, sub19_1 fuel R]) (partOf c19_2 al19_2) (fr19_2.st [1, 2, 7, 8] x) k = j19_2 fuel (fun y => k (.ret [some (0, 0), some (1, 0)]) (fx19_0.st [6] y)) x := by
  rintro ⟨x27, x28, x29, x30, x31⟩
  kernel_rfl
noncomputable def sub19_2 (fuel : Nat) (R : Type) : Sub R := Sub.of [1, 2, 7, 8] c19_2 fr19_2 fun x k => j19_2 fuel (fun y => k (.ret [some (0, 0), some (1, 0)]) (fx19_0.st [6] y)) x
theorem subOk19_2 (fuel : Nat) (R : Type) : SubOk P [false, false] 52 (sub19_2 fuel R) :=
  subOk_part (fns := (fns19 fuel)) (fuel := fuel) (subs := (subsOf [sub19_0 fuel R, sub19_1 fuel R])) (an := al19_2) T_ok (fnsOk19 fuel) mixed (subsOk_cons (subOk19_0 fuel R) (subsOk_cons (subOk19_1 fuel R) subsOk_nil)) (by kernel_rfl) (by kernel_rfl) fun _ _ _ _ h => Sub.of_run (fun (x : (Int × Int × Int × Int × (List Int))) k => u19_2 fuel k x) h
def an19 : AN := (.seq .leaf (.seq (.region [(2, { touch := [0, 3], base := 3, ro := false, loc := [0], fresh := 1 })]) (.seq (.seq .leaf (.hole ⟨[1, 2, 7, 8, 22], padK 3 [some (0, 0), some (1, 0), some (3, 0)]⟩ 0)) (.hole ⟨[1, 2, 7, 8], padK 3 [some (0, 0), some (1, 0), some (2, 0)]⟩ 2))))
def p19 (fuel : Nat) : (Int × Int × Int) → Option (Bool × Int × Int) := fun (x1, x2, x3) => (match p12 fuel (x1, x2) with | some z4 => (bif (decide (x1 < (0 : Int))) then (j19_0 fuel (fun (x11, x12, x13) => (some (x11, x12, x13))) (fun (x14, x15, x16, x17, x18) => (j19_2 fuel (fun (x46, x47, x48) => (some (x46, x47, x48))) (x14, x15, x16, x17, x18))) (x1, z4.1, true, z4.2.1, x3, z4.2.2)) else (j19_0 fuel (fun (x19, x20, x21) => (some (x19, x20, x21))) (fun (x22, x23, x24, x25, x26) => (j19_2 fuel (fun (x49, x50, x51) => (some (x49, x50, x51))) (x22, x23, x24, x25, x26))) (x1, z4.1, (decide ((1000 : Int) < x1)), z4.2.1, x3, z4.2.2))) | none => none)
def F19 (fuel : Nat) : Fun := funOfA fi19 al19 (p19 fuel)
theorem run19 (fuel : Nat) : ∀ y : (Int × Int × Int), runF (Bool × Int × Int) T (fns19 fuel) fuel (subsOf [sub19_0 fuel (Bool × Int × Int), sub19_1 fuel (Bool × Int × Int), sub19_2 fuel (Bool × Int × Int)]) (defOf Try.f19 an19 4 [] [false, false]) (fi19.vs y) (fi19.os y) (altsDec al19) = p19 fuel y := by
  rintro ⟨x1, x2, x3⟩
  kernel_rfl
theorem ok19 (fuel : Nat) : FunOk P 19 (funOfA fi19 al19 (p19 fuel)) :=
  funOfA_ok (subs := (subsOf [sub19_0 fuel (Bool × Int × Int), sub19_1 fuel (Bool × Int × Int), sub19_2 fuel (Bool × Int × Int)])) (an := an19) (room := 4) (ks := []) (g0 := [false, false]) (fuel := fuel) T_ok (fnsOk19 fuel) mixed (fn := Try.f19) (by kernel_rfl) (by kernel_rfl) (subsOk_cons (subOk19_0 fuel _) (subsOk_cons (subOk19_1 fuel _) (subsOk_cons (subOk19_2 fuel _) subsOk_nil))) (by kernel_rfl) (fun _ => ⟨by kernel_rfl, by kernel_rfl⟩) (run19 fuel)

-- f20: (*tontine/draws.Draws).Fork
def fns20 (p22 : Nat → Int → Option Int) (p8 : Nat → Int → Option Int) (fuel : Nat) : Fns := fnsOf [(22, funOfA fi22 al22 (p22 fuel)), (8, funOfA fi8 al8 (p8 fuel))]
theorem fnsOk20 (p22 : Nat → Int → Option Int) (p8 : Nat → Int → Option Int) (h22 : ∀ fuel, FunOk P 22 (funOfA fi22 al22 (p22 fuel))) (h8 : ∀ fuel, FunOk P 8 (funOfA fi8 al8 (p8 fuel))) (fuel : Nat) : FnsOk P (fns20 p22 p8 fuel) := (fnsOk_cons (h22 fuel) (fnsOk_cons (h8 fuel) fnsOk_nil))
def fi20 : Fr := ⟨[.c (.ptr 0 0 []), .d false (.int .u64)], [.box (.d true (.one (.int .u64)))], 0⟩
def al20 : List (Tm × List To) := [(.c (.ptr 1 0 []), [.box (.d true (.one (.int .u64))), .box (.d true (.one (.int .u64)))])]
def an20 : AN := (.seq .leaf (.seq (.seq (.region [(1, { touch := [0] })]) (.cond (.seq .leaf .leaf) .leaf)) (.seq (.region [(1, { touch := [0] }), (2, { touch := [0] }), (3, { touch := [0] }), (9, { touch := [2], base := 2, ro := false, fresh := 1 })]) (.norm ⟨[4], padK 1 [some (0, 0), some (2, 0)]⟩ (.ret [some (0, 0), some (1, 0)])))))
def p20 (fuel : Nat) : (Int × Int) → Option (Int × Int) := fun (x1, x2) => let v3 := (IntKind.wrap .u64 (x2 + (IntKind.wrap .u64 (x1 * (11400714819323198485 : Int))))); let v4 := (bitsOp .xor .u64 (if IntKind.signed .u64 then -1 else IntKind.max .u64) v3); (match p22 fuel v4 with | some z5 => (match p8 fuel z5 with | some z6 => (some (x2, z6)) | none => none) | none => none)
def p20' (p22 : Nat → Int → Option Int) (p8 : Nat → Int → Option Int) (fuel : Nat) : (Int × Int) → Option (Int × Int) := fun (x1, x2) => let v3 := (IntKind.wrap .u64 (x2 + (IntKind.wrap .u64 (x1 * (11400714819323198485 : Int))))); let v4 := (bitsOp .xor .u64 (if IntKind.signed .u64 then -1 else IntKind.max .u64) v3); (match p22 fuel v4 with | some z5 => (match p8 fuel z5 with | some z6 => (some (x2, z6)) | none => none) | none => none)
def F20 (fuel : Nat) : Fun := funOfA fi20 al20 (p20 fuel)
theorem run20 (p22 : Nat → Int → Option Int) (p8 : Nat → Int → Option Int) (fuel : Nat) : ∀ y : (Int × Int), runF (Int × Int) T (fns20 p22 p8 fuel) fuel (subsOf []) (defOf Try.f20 an20 2 [] [false]) (fi20.vs y) (fi20.os y) (altsDec al20) = p20' p22 p8 fuel y := by
  rintro ⟨x1, x2⟩
  kernel_rfl
theorem ok20' (p22 : Nat → Int → Option Int) (p8 : Nat → Int → Option Int) (h22 : ∀ fuel, FunOk P 22 (funOfA fi22 al22 (p22 fuel))) (h8 : ∀ fuel, FunOk P 8 (funOfA fi8 al8 (p8 fuel))) (fuel : Nat) : FunOk P 20 (funOfA fi20 al20 (p20' p22 p8 fuel)) :=
  funOfA_ok (subs := (subsOf [])) (an := an20) (room := 2) (ks := []) (g0 := [false]) (fuel := fuel) T_ok (fnsOk20 p22 p8 h22 h8 fuel) mixed (fn := Try.f20) (by kernel_rfl) (by kernel_rfl) subsOk_nil (by kernel_rfl) (fun _ => ⟨by kernel_rfl, by kernel_rfl⟩) (run20 p22 p8 fuel)
theorem same20 (fuel : Nat) : p20' p22 p8 fuel = p20 fuel := by kernel_rfl
theorem ok20 (fuel : Nat) : FunOk P 20 (F20 fuel) := by
  have h := ok20' p22 p8 ok22 ok8 fuel
  rw [same20] at h
  exact h

-- f21: (*tontine/tontineref05.Draws).Fork
def fns21 (p16 : Nat → Unit → Option Int) (p24 : Nat → Int → Option Int) (fuel : Nat) : Fns := fnsOf [(16, funOfA fi16 al16 (p16 fuel)), (24, funOfA fi24 al24 (p24 fuel))]
theorem fnsOk21 (p16 : Nat → Unit → Option Int) (p24 : Nat → Int → Option Int) (h16 : ∀ fuel, FunOk P 16 (funOfA fi16 al16 (p16 fuel))) (h24 : ∀ fuel, FunOk P 24 (funOfA fi24 al24 (p24 fuel))) (fuel : Nat) : FnsOk P (fns21 p16 p24 fuel) := (fnsOk_cons (h16 fuel) (fnsOk_cons (h24 fuel) fnsOk_nil))
def fi21 : Fr := ⟨[.c (.ptr 0 0 []), .d false (.int .u64)], [.box (.d true (.one (.int .u64)))], 0⟩
def al21 : List (Tm × List To) := [(.c (.ptr 1 0 []), [.box (.d true (.one (.int .u64))), .box (.d true (.one (.int .u64)))])]
def an21 : AN := (.seq .leaf (.seq (.region [(1, { touch := [0] }), (2, { touch := [0] }), (3, { touch := [0] })]) (.seq (.region [(4, { touch := [2], base := 2, ro := false })]) (.norm ⟨[4], padK 1 [some (0, 0), some (2, 0)]⟩ (.ret [some (0, 0), some (1, 0)])))))
def p21 (fuel : Nat) : (Int × Int) → Option (Int × Int) := fun (x1, x2) => (match p16 fuel () with | some z3 => let v4 := (IntKind.wrap .u64 ((18446744073709551615 : Int) - (IntKind.wrap .u64 (x2 + (IntKind.wrap .u64 (x1 * z3)))))); (match p24 fuel v4 with | some z5 => (some (x2, z5)) | none => none) | none => none)
def p21' (p16 : Nat → Unit → Option Int) (p24 : Nat → Int → Option Int) (fuel : Nat) : (Int × Int) → Option (Int × Int) := fun (x1, x2) => (match p16 fuel () with | some z3 => let v4 := (IntKind.wrap .u64 ((18446744073709551615 : Int) - (IntKind.wrap .u64 (x2 + (IntKind.wrap .u64 (x1 * z3)))))); (match p24 fuel v4 with | some z5 => (some (x2, z5)) | none => none) | none => none)
def F21 (fuel : Nat) : Fun := funOfA fi21 al21 (p21 fuel)
theorem run21 (p16 : Nat → Unit → Option Int) (p24 : Nat → Int → Option Int) (fuel : Nat) : ∀ y : (Int × Int), runF (Int × Int) T (fns21 p16 p24 fuel) fuel (subsOf []) (defOf Try.f21 an21 2 [] [false]) (fi21.vs y) (fi21.os y) (altsDec al21) = p21' p16 p24 fuel y := by
  rintro ⟨x1, x2⟩
  kernel_rfl
theorem ok21' (p16 : Nat → Unit → Option Int) (p24 : Nat → Int → Option Int) (h16 : ∀ fuel, FunOk P 16 (funOfA fi16 al16 (p16 fuel))) (h24 : ∀ fuel, FunOk P 24 (funOfA fi24 al24 (p24 fuel))) (fuel : Nat) : FunOk P 21 (funOfA fi21 al21 (p21' p16 p24 fuel)) :=
  funOfA_ok (subs := (subsOf [])) (an := an21) (room := 2) (ks := []) (g0 := [false]) (fuel := fuel) T_ok (fnsOk21 p16 p24 h16 h24 fuel) mixed (fn := Try.f21) (by kernel_rfl) (by kernel_rfl) subsOk_nil (by kernel_rfl) (fun _ => ⟨by kernel_rfl, by kernel_rfl⟩) (run21 p16 p24 fuel)
theorem same21 (fuel : Nat) : p21' p16 p24 fuel = p21 fuel := by kernel_rfl
theorem ok21 (fuel : Nat) : FunOk P 21 (F21 fuel) := by
  have h := ok21' p16 p24 ok16 ok24 fuel
  rw [same21] at h
  exact h

-- f5: tontine/tontinelaw05.DrawsPlay
def fns5 (p8 : Nat → Int → Option Int) (p9 : Nat → Int → Option (Int × Int)) (p15 : Nat → Int → Option (Int × Int)) (p10 : Nat → (Int × Int) → Option Int) (p16 : Nat → Unit → Option Int) (p17 : Nat → (Int × Int) → Option (Int × Int)) (p20 : Nat → (Int × Int) → Option (Int × Int)) (p21 : Nat → (Int × Int) → Option (Int × Int)) (p11 : Nat → Int → Option (Int × Int)) (fuel : Nat) : Fns := fnsOf [(7, F7 fuel), (8, funOfA fi8 al8 (p8 fuel)), (9, funOfA fi9 al9 (p9 fuel)), (15, funOfA fi15 al15 (p15 fuel)), (10, funOfA fi10 al10 (p10 fuel)), (16, funOfA fi16 al16 (p16 fuel)), (13, F13 fuel), (17, funOfA fi17 al17 (p17 fuel)), (18, F18 fuel), (19, F19 fuel), (20, funOfA fi20 al20 (p20 fuel)), (21, funOfA fi21 al21 (p21 fuel)), (11, funOfA fi11 al11 (p11 fuel))]
theorem fnsOk5 (p8 : Nat → Int → Option Int) (p9 : Nat → Int → Option (Int × Int)) (p15 : Nat → Int → Option (Int × Int)) (p10 : Nat → (Int × Int) → Option Int) (p16 : Nat → Unit → Option Int) (p17 : Nat → (Int × Int) → Option (Int × Int)) (p20 : Nat → (Int × Int) → Option (Int × Int)) (p21 : Nat → (Int × Int) → Option (Int × Int)) (p11 : Nat → Int → Option (Int × Int)) (h8 : ∀ fuel, FunOk P 8 (funOfA fi8 al8 (p8 fuel))) (h9 : ∀ fuel, FunOk P 9 (funOfA fi9 al9 (p9 fuel))) (h15 : ∀ fuel, FunOk P 15 (funOfA fi15 al15 (p15 fuel))) (h10 : ∀ fuel, FunOk P 10 (funOfA fi10 al10 (p10 fuel))) (h16 : ∀ fuel, FunOk P 16 (funOfA fi16 al16 (p16 fuel))) (h17 : ∀ fuel, FunOk P 17 (funOfA fi17 al17 (p17 fuel))) (h20 : ∀ fuel, FunOk P 20 (funOfA fi20 al20 (p20 fuel))) (h21 : ∀ fuel, FunOk P 21 (funOfA fi21 al21 (p21 fuel))) (h11 : ∀ fuel, FunOk P 11 (funOfA fi11 al11 (p11 fuel))) (fuel : Nat) : FnsOk P (fns5 p8 p9 p15 p10 p16 p17 p20 p21 p11 fuel) := (fnsOk_cons (ok7 fuel) (fnsOk_cons (h8 fuel) (fnsOk_cons (h9 fuel) (fnsOk_cons (h15 fuel) (fnsOk_cons (h10 fuel) (fnsOk_cons (h16 fuel) (fnsOk_cons (ok13 fuel) (fnsOk_cons (h17 fuel) (fnsOk_cons (ok18 fuel) (fnsOk_cons (ok19 fuel) (fnsOk_cons (h20 fuel) (fnsOk_cons (h21 fuel) (fnsOk_cons (h11 fuel) fnsOk_nil)))))))))))))
def fi5 : Fr := ⟨[.d false (.int .u64), .d true (.slice (.pair (.int .i64) (.pair (.int .i64) (.pair (.int .u64) (.slice (.int .i64))))))], [], 0⟩
def al5 : List (Tm × List To) := [(.d true (.bool), [])]
def fx5_0 : Fr := ⟨[.d true (.bool)], [], 7⟩
def fx5_1 : Fr := ⟨[.d true (.slice (.pair (.int .i64) (.pair (.int .i64) (.pair (.int .u64) (.slice (.int .i64)))))), .c (.ptr 0 0 []), .c (.ptr 1 0 []), .d true (.int .i64)], [.box (.d true (.one (.int .u64))), .box (.d true (.one (.int .u64)))], 5⟩
def fr5_0 : Fr := ⟨[.d true (.slice (.pair (.int .i64) (.pair (.int .i64) (.pair (.int .u64) (.slice (.int .i64)))))), .c (.ptr 0 0 []), .c (.ptr 1 0 []), .d true (.int .i64), .d true (.bool)], [.box (.d true (.one (.int .u64))), .box (.d true (.one (.int .u64)))], 5⟩
noncomputable def c5_0 : Code := bodyAt Try.f5 [1, 1, 1, 1, 1, 0, 1, 0, 0, 1, 0, 0, 1, 1, 1]
def j5_0 (fuel : Nat) {R : Type} (k0 : Bool → Option R) (k1 : ((List (Int × (Int × (Int × (List Int))))) × Int × Int × Int) → Option R) : ((List (Int × (Int × (Int × (List Int))))) × Int × Bool × Int × Int) → Option R := fun (x21, x22, x23, x24, x25) => (bif (!x23) then (k0 false) else (match p11 fuel x24 with | some z26 => (bif (!decide (z26.1 = x25)) then (k0 false) else (k1 (x21, x22, z26.2, x25))) | none => none))
def j5_0' (p8 : Nat → Int → Option Int) (p9 : Nat → Int → Option (Int × Int)) (p15 : Nat → Int → Option (Int × Int)) (p10 : Nat → (Int × Int) → Option Int) (p16 : Nat → Unit → Option Int) (p17 : Nat → (Int × Int) → Option (Int × Int)) (p20 : Nat → (Int × Int) → Option (Int × Int)) (p21 : Nat → (Int × Int) → Option (Int × Int)) (p11 : Nat → Int → Option (Int × Int)) (fuel : Nat) {R : Type} (k0 : Bool → Option R) (k1 : ((List (Int × (Int × (Int × (List Int))))) × Int × Int × Int) → Option R) : ((List (Int × (Int × (Int × (List Int))))) × Int × Bool × Int × Int) → Option R := fun (x21, x22, x23, x24, x25) => (bif (!x23) then (k0 false) else (match p11 fuel x24 with | some z26 => (bif (!decide (z26.1 = x25)) then (k0 false) else (k1 (x21, x22, z26.2, x25))) | none => none))
def al5_0 : AN := (.fin ⟨[1, 6, 7, 8], padK 5 [some (0, 0), some (1, 0)]⟩ (.seq (.region [(4, { touch := [0] }), (8, { touch := [0], ro := false, loc := [0] }), (10, { touch := [1] }), (11, { touch := [1] }), (12, { touch := [1] })]) (.cond (.seq .leaf (.norm ⟨[4], padK 7 []⟩ (.ret []))) .leaf)))
theorem u5_0 (p8 : Nat → Int → Option Int) (p9 : Nat → Int → Option (Int × Int)) (p15 : Nat → Int → Option (Int × Int)) (p10 : Nat → (Int × Int) → Option Int) (p16 : Nat → Unit → Option Int) (p17 : Nat → (Int × Int) → Option (Int × Int)) (p20 : Nat → (Int × Int) → Option (Int × Int)) (p21 : Nat → (Int × Int) → Option (Int × Int)) (p11 : Nat → Int → Option (Int × Int)) (fuel : Nat) {R : Type} (k : AExit → St → Option R) : ∀ x : ((List (Int × (Int × (Int × (List Int))))) × Int × Bool × Int × Int), runK R T (fns5 p8 p9 p15 p10 p16 p17 p20 p21 p11 fuel) fuel [] (subsOf []) (partOf c5_0 al5_0) (fr5_0.st [1, 6, 7, 8, 10] x) k = j5_0' p8 p9 p15 p10 p16 p17 p20 p21 p11 fuel (fun y => k (.ret []) (fx5_0.st [4] y)) (fun y => k .normal (fx5_1.st [1, 6, 7, 8] y)) x := by
  rintro ⟨x21, x22, x23, x24, x25⟩
  kernel_rfl
noncomputable def sub5_0 (p8 : Nat → Int → Option Int) (p9 : Nat → Int → Option (Int × Int)) (p15 : Nat → Int → Option (Int × Int)) (p10 : Nat → (Int × Int) → Option Int) (p16 : Nat → Unit → Option Int) (p17 : Nat → (Int × Int) → Option (Int × Int)) (p20 : Nat → (Int × Int) → Option (Int × Int)) (p21 : Nat → (Int × Int) → Option (Int × Int)) (p11 : Nat → Int → Option (Int × Int)) (fuel : Nat) (R : Type) : Sub R := Sub.of [1, 6, 7, 8, 10] c5_0 fr5_0 fun x k => j5_0' p8 p9 p15 p10 p16 p17 p20 p21 p11 fuel (fun y => k (.ret []) (fx5_0.st [4] y)) (fun y => k .normal (fx5_1.st [1, 6, 7, 8] y)) x
theorem subOk5_0 (p8 : Nat → Int → Option Int) (p9 : Nat → Int → Option (Int × Int)) (p15 : Nat → Int → Option (Int × Int)) (p10 : Nat → (Int × Int) → Option Int) (p16 : Nat → Unit → Option Int) (p17 : Nat → (Int × Int) → Option (Int × Int)) (p20 : Nat → (Int × Int) → Option (Int × Int)) (p21 : Nat → (Int × Int) → Option (Int × Int)) (p11 : Nat → Int → Option (Int × Int)) (h8 : ∀ fuel, FunOk P 8 (funOfA fi8 al8 (p8 fuel))) (h9 : ∀ fuel, FunOk P 9 (funOfA fi9 al9 (p9 fuel))) (h15 : ∀ fuel, FunOk P 15 (funOfA fi15 al15 (p15 fuel))) (h10 : ∀ fuel, FunOk P 10 (funOfA fi10 al10 (p10 fuel))) (h16 : ∀ fuel, FunOk P 16 (funOfA fi16 al16 (p16 fuel))) (h17 : ∀ fuel, FunOk P 17 (funOfA fi17 al17 (p17 fuel))) (h20 : ∀ fuel, FunOk P 20 (funOfA fi20 al20 (p20 fuel))) (h21 : ∀ fuel, FunOk P 21 (funOfA fi21 al21 (p21 fuel))) (h11 : ∀ fuel, FunOk P 11 (funOfA fi11 al11 (p11 fuel))) (fuel : Nat) (R : Type) : SubOk P [] 139 (sub5_0 p8 p9 p15 p10 p16 p17 p20 p21 p11 fuel R) :=
  subOk_part (fns := (fns5 p8 p9 p15 p10 p16 p17 p20 p21 p11 fuel)) (fuel := fuel) (subs := (subsOf [])) (an := al5_0) T_ok (fnsOk5 p8 p9 p15 p10 p16 p17 p20 p21 p11 h8 h9 h15 h10 h16 h17 h20 h21 h11 fuel) mixed subsOk_nil (by kernel_rfl) (by kernel_rfl) fun _ _ _ _ h => Sub.of_run (fun (x : ((List (Int × (Int × (Int × (List Int))))) × Int × Bool × Int × Int)) k => u5_0 p8 p9 p15 p10 p16 p17 p20 p21 p11 fuel k x) h
def fx5_2 : Fr := ⟨[], [], 7⟩
def fr5_1 : Fr := ⟨[.d true (.slice (.pair (.int .i64) (.pair (.int .i64) (.pair (.int .u64) (.slice (.int .i64)))))), .c (.ptr 0 0 []), .c (.ptr 1 0 []), .d true (.int .i64)], [.box (.d true (.one (.int .u64))), .box (.d true (.one (.int .u64)))], 5⟩
noncomputable def c5_1 : Code := bodyAt Try.f5 [1, 1, 1, 1, 1, 0, 1, 0]
def s5_1 (fuel : Nat) {R : Type} (F : ((List (Int × (Int × (Int × (List Int))))) × Int × Int × Int) → Option R) (k0 : Bool → Option R) (k1 : Unit → Option R) : ((List (Int × (Int × (Int × (List Int))))) × Int × Int × Int) → Option R := fun (x5, x6, x7, x8) => (bif (decide (x6 < ((List.length x5 : Nat) : Int))) then (bif (decide (x6 < (200 : Int))) then (if 0 ≤ x6 then (match (x5)[Int.toNat x6]? with | some y9 => (bif (decide (y9.1 = (1 : Int))) then (match p9 fuel x7 with | some z10 => (match p15 fuel x8 with | some z11 => (j5_0 fuel (fun x27 => (k0 x27)) (fun (x28, x29, x30, x31) => (F (x28, (IntKind.wrap .i64 (x29 + (1 : Int))), x30, x31))) (x5, x6, (decide (z10.1 = z11.1)), z10.2, z11.2)) | none => none) | none => none) else (bif (decide (y9.1 = (2 : Int))) then (match p10 fuel (y9.2.2.1, x7) with | some z12 => (match p16 fuel () with | some z13 => (j5_0 fuel (fun x32 => (k0 x32)) (fun (x33, x34, x35, x36) => (F (x33, (IntKind.wrap .i64 (x34 + (1 : Int))), x35, x36))) (x5, x6, true, z12, (IntKind.wrap .u64 (x8 + (IntKind.wrap .u64 (y9.2.2.1 * z13)))))) | none => none) | none => none) else (bif (decide (y9.1 = (3 : Int))) then (match p13 fuel (y9.2.1, x7) with | some z14 => (bif (decide (y9.2.1 < (1 : Int))) then (bif (decide (z14.1 = (0 : Int))) then (j5_0 fuel (fun x37 => (k0 x37)) (fun (x38, x39, x40, x41) => (F (x38, (IntKind.wrap .i64 (x39 + (1 : Int))), x40, x41))) (x5, x6, (decide (z14.2.1 = (1 : Int))), z14.2.2, x8)) else (j5_0 fuel (fun x42 => (k0 x42)) (fun (x43, x44, x45, x46) => (F (x43, (IntKind.wrap .i64 (x44 + (1 : Int))), x45, x46))) (x5, x6, false, z14.2.2, x8))) else (bif (decide (z14.2.1 = (0 : Int))) then (match p17 fuel ((IntKind.wrap .u64 y9.2.1), x8) with | some z15 => (j5_0 fuel (fun x47 => (k0 x47)) (fun (x48, x49, x50, x51) => (F (x48, (IntKind.wrap .i64 (x49 + (1 : Int))), x50, x51))) (x5, x6, (decide (z14.1 = (IntKind.wrap .i64 z15.1))), z14.2.2, z15.2)) | none => none) else (j5_0 fuel (fun x52 => (k0 x52)) (fun (x53, x54, x55, x56) => (F (x53, (IntKind.wrap .i64 (x54 + (1 : Int))), x55, x56))) (x5, x6, false, z14.2.2, x8)))) | none => none) else (bif (decide (y9.1 = (4 : Int))) then (match p18 fuel (y9.2.2.2, x7, x8) with | some z16 => (j5_0 fuel (fun x57 => (k0 x57)) (fun (x58, x59, x60, x61) => (F (x58, (IntKind.wrap .i64 (x59 + (1 : Int))), x60, x61))) (x5, x6, z16.1, z16.2.1, z16.2.2)) | none => none) else (bif (decide (y9.1 = (5 : Int))) then (match p19 fuel (y9.2.1, x7, x8) with | some z17 => (j5_0 fuel (fun x62 => (k0 x62)) (fun (x63, x64, x65, x66) => (F (x63, (IntKind.wrap .i64 (x64 + (1 : Int))), x65, x66))) (x5, x6, z17.1, z17.2.1, z17.2.2)) | none => none) else (bif (decide (y9.1 = (6 : Int))) then (match p20 fuel (y9.2.2.1, x7) with | some z18 => (match p9 fuel z18.1 with | some z19 => (match p21 fuel (y9.2.2.1, x8) with | some z20 => (j5_0 fuel (fun x67 => (k0 x67)) (fun (x68, x69, x70, x71) => (F (x68, (IntKind.wrap .i64 (x69 + (1 : Int))), x70, x71))) (x5, x6, true, z18.2, z20.2)) | none => none) | none => none) | none => none) else (j5_0 fuel (fun x72 => (k0 x72)) (fun (x73, x74, x75, x76) => (F (x73, (IntKind.wrap .i64 (x74 + (1 : Int))), x75, x76))) (x5, x6, true, x7, x8)))))))) | none => none) else none) else (k1 ())) else (k1 ()))
def l5_1 (fuel : Nat) {R : Type} (k0 : Bool → Option R) (k1 : Unit → Option R) : Nat → ((List (Int × (Int × (Int × (List Int))))) × Int × Int × Int) → Option R
  | 0, _ => none
  | n + 1, x => s5_1 fuel (l5_1 fuel k0 k1 n) k0 k1 x
def s5_1' (p8 : Nat → Int → Option Int) (p9 : Nat → Int → Option (Int × Int)) (p15 : Nat → Int → Option (Int × Int)) (p10 : Nat → (Int × Int) → Option Int) (p16 : Nat → Unit → Option Int) (p17 : Nat → (Int × Int) → Option (Int × Int)) (p20 : Nat → (Int × Int) → Option (Int × Int)) (p21 : Nat → (Int × Int) → Option (Int × Int)) (p11 : Nat → Int → Option (Int × Int)) (fuel : Nat) {R : Type} (F : ((List (Int × (Int × (Int × (List Int))))) × Int × Int × Int) → Option R) (k0 : Bool → Option R) (k1 : Unit → Option R) : ((List (Int × (Int × (Int × (List Int))))) × Int × Int × Int) → Option R := fun (x5, x6, x7, x8) => (bif (decide (x6 < ((List.length x5 : Nat) : Int))) then (bif (decide (x6 < (200 : Int))) then (if 0 ≤ x6 then (match (x5)[Int.toNat x6]? with | some y9 => (bif (decide (y9.1 = (1 : Int))) then (match p9 fuel x7 with | some z10 => (match p15 fuel x8 with | some z11 => (j5_0' p8 p9 p15 p10 p16 p17 p20 p21 p11 fuel (fun x27 => (k0 x27)) (fun (x28, x29, x30, x31) => (F (x28, (IntKind.wrap .i64 (x29 + (1 : Int))), x30, x31))) (x5, x6, (decide (z10.1 = z11.1)), z10.2, z11.2)) | none => none) | none => none) else (bif (decide (y9.1 = (2 : Int))) then (match p10 fuel (y9.2.2.1, x7) with | some z12 => (match p16 fuel () with | some z13 => (j5_0' p8 p9 p15 p10 p16 p17 p20 p21 p11 fuel (fun x32 => (k0 x32)) (fun (x33, x34, x35, x36) => (F (x33, (IntKind.wrap .i64 (x34 + (1 : Int))), x35, x36))) (x5, x6, true, z12, (IntKind.wrap .u64 (x8 + (IntKind.wrap .u64 (y9.2.2.1 * z13)))))) | none => none) | none => none) else (bif (decide (y9.1 = (3 : Int))) then (match p13 fuel (y9.2.1, x7) with | some z14 => (bif (decide (y9.2.1 < (1 : Int))) then (bif (decide (z14.1 = (0 : Int))) then (j5_0' p8 p9 p15 p10 p16 p17 p20 p21 p11 fuel (fun x37 => (k0 x37)) (fun (x38, x39, x40, x41) => (F (x38, (IntKind.wrap .i64 (x39 + (1 : Int))), x40, x41))) (x5, x6, (decide (z14.2.1 = (1 : Int))), z14.2.2, x8)) else (j5_0' p8 p9 p15 p10 p16 p17 p20 p21 p11 fuel (fun x42 => (k0 x42)) (fun (x43, x44, x45, x46) => (F (x43, (IntKind.wrap .i64 (x44 + (1 : Int))), x45, x46))) (x5, x6, false, z14.2.2, x8))) else (bif (decide (z14.2.1 = (0 : Int))) then (match p17 fuel ((IntKind.wrap .u64 y9.2.1), x8) with | some z15 => (j5_0' p8 p9 p15 p10 p16 p17 p20 p21 p11 fuel (fun x47 => (k0 x47)) (fun (x48, x49, x50, x51) => (F (x48, (IntKind.wrap .i64 (x49 + (1 : Int))), x50, x51))) (x5, x6, (decide (z14.1 = (IntKind.wrap .i64 z15.1))), z14.2.2, z15.2)) | none => none) else (j5_0' p8 p9 p15 p10 p16 p17 p20 p21 p11 fuel (fun x52 => (k0 x52)) (fun (x53, x54, x55, x56) => (F (x53, (IntKind.wrap .i64 (x54 + (1 : Int))), x55, x56))) (x5, x6, false, z14.2.2, x8)))) | none => none) else (bif (decide (y9.1 = (4 : Int))) then (match p18 fuel (y9.2.2.2, x7, x8) with | some z16 => (j5_0' p8 p9 p15 p10 p16 p17 p20 p21 p11 fuel (fun x57 => (k0 x57)) (fun (x58, x59, x60, x61) => (F (x58, (IntKind.wrap .i64 (x59 + (1 : Int))), x60, x61))) (x5, x6, z16.1, z16.2.1, z16.2.2)) | none => none) else (bif (decide (y9.1 = (5 : Int))) then (match p19 fuel (y9.2.1, x7, x8) with | some z17 => (j5_0' p8 p9 p15 p10 p16 p17 p20 p21 p11 fuel (fun x62 => (k0 x62)) (fun (x63, x64, x65, x66) => (F (x63, (IntKind.wrap .i64 (x64 + (1 : Int))), x65, x66))) (x5, x6, z17.1, z17.2.1, z17.2.2)) | none => none) else (bif (decide (y9.1 = (6 : Int))) then (match p20 fuel (y9.2.2.1, x7) with | some z18 => (match p9 fuel z18.1 with | some z19 => (match p21 fuel (y9.2.2.1, x8) with | some z20 => (j5_0' p8 p9 p15 p10 p16 p17 p20 p21 p11 fuel (fun x67 => (k0 x67)) (fun (x68, x69, x70, x71) => (F (x68, (IntKind.wrap .i64 (x69 + (1 : Int))), x70, x71))) (x5, x6, true, z18.2, z20.2)) | none => none) | none => none) | none => none) else (j5_0' p8 p9 p15 p10 p16 p17 p20 p21 p11 fuel (fun x72 => (k0 x72)) (fun (x73, x74, x75, x76) => (F (x73, (IntKind.wrap .i64 (x74 + (1 : Int))), x75, x76))) (x5, x6, true, x7, x8)))))))) | none => none) else none) else (k1 ())) else (k1 ()))
def l5_1' (p8 : Nat → Int → Option Int) (p9 : Nat → Int → Option (Int × Int)) (p15 : Nat → Int → Option (Int × Int)) (p10 : Nat → (Int × Int) → Option Int) (p16 : Nat → Unit → Option Int) (p17 : Nat → (Int × Int) → Option (Int × Int)) (p20 : Nat → (Int × Int) → Option (Int × Int)) (p21 : Nat → (Int × Int) → Option (Int × Int)) (p11 : Nat → Int → Option (Int × Int)) (fuel : Nat) {R : Type} (k0 : Bool → Option R) (k1 : Unit → Option R) : Nat → ((List (Int × (Int × (Int × (List Int))))) × Int × Int × Int) → Option R
  | 0, _ => none
  | n + 1, x => s5_1' p8 p9 p15 p10 p16 p17 p20 p21 p11 fuel (l5_1' p8 p9 p15 p10 p16 p17 p20 p21 p11 fuel k0 k1 n) k0 k1 x
def nm5_1 : Norm := ⟨[1, 6, 7, 8], padK 5 [some (0, 0), some (1, 0)]⟩
def an5_1 : AN := (.seq (.seq .leaf (.cond .leaf (.norm ⟨[], padK 7 []⟩ .leaf))) (.seq (.block (.seq (.region [(4, { touch := [4], base := 4, ro := false }), (5, { touch := [4], ro := false })]) (.seq .leaf (.seq (.seq (.region [(0, { touch := [4] }), (1, { touch := [4] })]) (.block (.seq .leaf (.cond (.fin ⟨[1, 6, 7, 8, 10], padK 5 [some (0, 0), some (1, 0)]⟩ (.region [(1, { touch := [0], ro := false, loc := [0] }), (3, { touch := [1], ro := false, loc := [1] })])) (.fin ⟨[1, 6, 7, 8, 10], padK 5 [some (0, 0), some (1, 0)]⟩ (.seq .leaf (.cond (.fin ⟨[1, 6, 7, 8, 10], padK 5 [some (0, 0), some (1, 0)]⟩ (.seq (.region [(1, { touch := [4] }), (2, { touch := [4] }), (3, { touch := [0], ro := false, loc := [0] })]) (.region [(2, { touch := [1] }), (3, { touch := [1] }), (4, { touch := [1] }), (5, { touch := [4] }), (6, { touch := [4] }), (10, { touch := [1] }), (11, { touch := [1] }), (12, { touch := [1], ro := false })]))) (.fin ⟨[1, 6, 7, 8, 10], padK 5 [some (0, 0), some (1, 0)]⟩ (.seq .leaf (.cond (.fin ⟨[1, 6, 7, 8, 10], padK 5 [some (0, 0), some (1, 0)]⟩ (.seq (.region [(1, { touch := [4] }), (2, { touch := [4] }), (3, { touch := [0], ro := false, loc := [0] })]) (.seq (.region [(0, { touch := [4] }), (1, { touch := [4] })]) (.cond (.fin ⟨[1, 6, 7, 8, 10], padK 5 [some (0, 0), some (1, 0)]⟩ .leaf) (.fin ⟨[1, 6, 7, 8, 10], padK 5 [some (0, 0), some (1, 0)]⟩ (.region [(5, { touch := [4] }), (6, { touch := [4] }), (8, { touch := [1], ro := false, loc := [1] })])))))) (.fin ⟨[1, 6, 7, 8, 10], padK 5 [some (0, 0), some (1, 0)]⟩ (.seq .leaf (.cond (.fin ⟨[1, 6, 7, 8, 10], padK 5 [some (0, 0), some (1, 0)]⟩ (.region [(2, { touch := [4] }), (3, { touch := [4] }), (4, { touch := [0, 1], ro := false, loc := [0, 1] })])) (.fin ⟨[1, 6, 7, 8, 10], padK 5 [some (0, 0), some (1, 0)]⟩ (.seq .leaf (.cond (.fin ⟨[1, 6, 7, 8, 10], padK 5 [some (0, 0), some (1, 0)]⟩ (.region [(2, { touch := [4] }), (3, { touch := [4] }), (4, { touch := [0, 1], ro := false, loc := [0, 1] })])) (.fin ⟨[1, 6, 7, 8, 10], padK 5 [some (0, 0), some (1, 0)]⟩ (.seq .leaf (.cond (.fin ⟨[1, 6, 7, 8, 10], padK 5 [some (5, 0), some (6, 0)]⟩ (.seq (.region [(1, { touch := [4] }), (2, { touch := [4] }), (3, { touch := [0, 5], base := 5, ro := false, loc := [0], fresh := 1 })]) (.seq (.region [(1, { touch := [0], ro := false, loc := [0] })]) (.seq .leaf (.region [(1, { touch := [4] }), (2, { touch := [4] }), (3, { touch := [1, 6], base := 6, ro := false, loc := [1], fresh := 1 })]))))) (.fin ⟨[1, 6, 7, 8, 10], padK 5 [some (0, 0), some (1, 0)]⟩ .leaf)))))))))))))))))))) (.hole ⟨[1, 6, 7, 8, 10], padK 5 [some (0, 0), some (1, 0)]⟩ 0))))) .leaf))
def al5_1 : AN := .loop nm5_1 an5_1
noncomputable def d5_1 : Code := bodyAt Try.f5 [1, 1, 1, 1, 1, 0, 1, 0, 0]
theorem e5_1 (p8 : Nat → Int → Option Int) (p9 : Nat → Int → Option (Int × Int)) (p15 : Nat → Int → Option (Int × Int)) (p10 : Nat → (Int × Int) → Option Int) (p16 : Nat → Unit → Option Int) (p17 : Nat → (Int × Int) → Option (Int × Int)) (p20 : Nat → (Int × Int) → Option (Int × Int)) (p21 : Nat → (Int × Int) → Option (Int × Int)) (p11 : Nat → Int → Option (Int × Int)) (fuel : Nat) {R : Type} (F : St → Option R) (k : AExit → St → Option R) : ∀ x : ((List (Int × (Int × (Int × (List Int))))) × Int × Int × Int), runK R T (fns5 p8 p9 p15 p10 p16 p17 p20 p21 p11 fuel) fuel [] (subsOf [sub5_0 p8 p9 p15 p10 p16 p17 p20 p21 p11 fuel R]) (partOf d5_1 an5_1) (fr5_1.st [1, 6, 7, 8] x) (backTo R [] nm5_1 F k) = s5_1' p8 p9 p15 p10 p16 p17 p20 p21 p11 fuel (fun x => F (fr5_1.st [1, 6, 7, 8] x)) (fun y => k (.ret []) (fx5_0.st [4] y)) (fun y => k (.exit 0) (fx5_2.st [] y)) x := by
  rintro ⟨x5, x6, x7, x8⟩
  kernel_rfl
theorem u5_1 (p8 : Nat → Int → Option Int) (p9 : Nat → Int → Option (Int × Int)) (p15 : Nat → Int → Option (Int × Int)) (p10 : Nat → (Int × Int) → Option Int) (p16 : Nat → Unit → Option Int) (p17 : Nat → (Int × Int) → Option (Int × Int)) (p20 : Nat → (Int × Int) → Option (Int × Int)) (p21 : Nat → (Int × Int) → Option (Int × Int)) (p11 : Nat → Int → Option (Int × Int)) (fuel : Nat) {R : Type} (k : AExit → St → Option R) (x : ((List (Int × (Int × (Int × (List Int))))) × Int × Int × Int)) : runK R T (fns5 p8 p9 p15 p10 p16 p17 p20 p21 p11 fuel) fuel [] (subsOf [sub5_0 p8 p9 p15 p10 p16 p17 p20 p21 p11 fuel R]) (partOf c5_1 al5_1) (fr5_1.st [1, 6, 7, 8] x) k = l5_1' p8 p9 p15 p10 p16 p17 p20 p21 p11 fuel (fun y => k (.ret []) (fx5_0.st [4] y)) (fun y => k (.exit 0) (fx5_2.st [] y)) fuel x :=
  loop_eq (mk := fr5_1.st [1, 6, 7, 8]) (s := fun F x => s5_1' p8 p9 p15 p10 p16 p17 p20 p21 p11 fuel F (fun y => k (.ret []) (fx5_0.st [4] y)) (fun y => k (.exit 0) (fx5_2.st [] y)) x) (l := fun n x => l5_1' p8 p9 p15 p10 p16 p17 p20 p21 p11 fuel (fun y => k (.ret []) (fx5_0.st [4] y)) (fun y => k (.exit 0) (fx5_2.st [] y)) n x) (d := d5_1) (by kernel_rfl) (fun G x => by
    revert x
    rintro ⟨x5, x6, x7, x8⟩
    kernel_rfl) (fun F x => e5_1 p8 p9 p15 p10 p16 p17 p20 p21 p11 fuel F k x) (fun _ => rfl) (fun _ _ => rfl) x
noncomputable def sub5_1 (p8 : Nat → Int → Option Int) (p9 : Nat → Int → Option (Int × Int)) (p15 : Nat → Int → Option (Int × Int)) (p10 : Nat → (Int × Int) → Option Int) (p16 : Nat → Unit → Option Int) (p17 : Nat → (Int × Int) → Option (Int × Int)) (p20 : Nat → (Int × Int) → Option (Int × Int)) (p21 : Nat → (Int × Int) → Option (Int × Int)) (p11 : Nat → Int → Option (Int × Int)) (fuel : Nat) (R : Type) : Sub R := Sub.of [1, 6, 7, 8] c5_1 fr5_1 fun x k => l5_1' p8 p9 p15 p10 p16 p17 p20 p21 p11 fuel (fun y => k (.ret []) (fx5_0.st [4] y)) (fun y => k (.exit 0) (fx5_2.st [] y)) fuel x
theorem subOk5_1 (p8 : Nat → Int → Option Int) (p9 : Nat → Int → Option (Int × Int)) (p15 : Nat → Int → Option (Int × Int)) (p10 : Nat → (Int × Int) → Option Int) (p16 : Nat → Unit → Option Int) (p17 : Nat → (Int × Int) → Option (Int × Int)) (p20 : Nat → (Int × Int) → Option (Int × Int)) (p21 : Nat → (Int × Int) → Option (Int × Int)) (p11 : Nat → Int → Option (Int × Int)) (h8 : ∀ fuel, FunOk P 8 (funOfA fi8 al8 (p8 fuel))) (h9 : ∀ fuel, FunOk P 9 (funOfA fi9 al9 (p9 fuel))) (h15 : ∀ fuel, FunOk P 15 (funOfA fi15 al15 (p15 fuel))) (h10 : ∀ fuel, FunOk P 10 (funOfA fi10 al10 (p10 fuel))) (h16 : ∀ fuel, FunOk P 16 (funOfA fi16 al16 (p16 fuel))) (h17 : ∀ fuel, FunOk P 17 (funOfA fi17 al17 (p17 fuel))) (h20 : ∀ fuel, FunOk P 20 (funOfA fi20 al20 (p20 fuel))) (h21 : ∀ fuel, FunOk P 21 (funOfA fi21 al21 (p21 fuel))) (h11 : ∀ fuel, FunOk P 11 (funOfA fi11 al11 (p11 fuel))) (fuel : Nat) (R : Type) : SubOk P [] 139 (sub5_1 p8 p9 p15 p10 p16 p17 p20 p21 p11 fuel R) :=
  subOk_part (fns := (fns5 p8 p9 p15 p10 p16 p17 p20 p21 p11 fuel)) (fuel := fuel) (subs := (subsOf [sub5_0 p8 p9 p15 p10 p16 p17 p20 p21 p11 fuel R])) (an := al5_1) T_ok (fnsOk5 p8 p9 p15 p10 p16 p17 p20 p21 p11 h8 h9 h15 h10 h16 h17 h20 h21 h11 fuel) mixed (subsOk_cons (subOk5_0 p8 p9 p15 p10 p16 p17 p20 p21 p11 h8 h9 h15 h10 h16 h17 h20 h21 h11 fuel R) subsOk_nil) (by kernel_rfl) (by kernel_rfl) fun _ _ _ _ h => Sub.of_run (fun (x : ((List (Int × (Int × (Int × (List Int))))) × Int × Int × Int)) k => u5_1 p8 p9 p15 p10 p16 p17 p20 p21 p11 fuel k x) h
def an5 : AN := (.seq .leaf (.seq .leaf (.seq (.region [(1, { touch := [2], base := 2, ro := false, fresh := 1 })]) (.seq (.region [(2, { touch := [3], base := 3, ro := false })]) (.seq (.seq (.region [(4, { touch := [2] })]) (.cond (.seq .leaf (.norm ⟨[4], padK 7 []⟩ (.ret []))) .leaf)) (.seq (.seq .leaf (.block (.hole ⟨[1, 6, 7, 8], padK 5 [some (2, 0), some (3, 0)]⟩ 1))) (.seq .leaf (.norm ⟨[4], padK 7 []⟩ (.ret [])))))))))
def p5 (fuel : Nat) : (Int × (List (Int × (Int × (Int × (List Int)))))) → Option Bool := fun (x1, x2) => (match p7 fuel () with | some z3 => (match p8 fuel x1 with | some z4 => (bif (!z3) then (some false) else (l5_1 fuel (fun x77 => (some x77)) (fun _ => (some true)) fuel (x2, (0 : Int), z4, x1))) | none => none) | none => none)
def p5' (p8 : Nat → Int → Option Int) (p9 : Nat → Int → Option (Int × Int)) (p15 : Nat → Int → Option (Int × Int)) (p10 : Nat → (Int × Int) → Option Int) (p16 : Nat → Unit → Option Int) (p17 : Nat → (Int × Int) → Option (Int × Int)) (p20 : Nat → (Int × Int) → Option (Int × Int)) (p21 : Nat → (Int × Int) → Option (Int × Int)) (p11 : Nat → Int → Option (Int × Int)) (fuel : Nat) : (Int × (List (Int × (Int × (Int × (List Int)))))) → Option Bool := fun (x1, x2) => (match p7 fuel () with | some z3 => (match p8 fuel x1 with | some z4 => (bif (!z3) then (some false) else (l5_1' p8 p9 p15 p10 p16 p17 p20 p21 p11 fuel (fun x77 => (some x77)) (fun _ => (some true)) fuel (x2, (0 : Int), z4, x1))) | none => none) | none => none)
def F5 (fuel : Nat) : Fun := funOfA fi5 al5 (p5 fuel)
theorem run5 (p8 : Nat → Int → Option Int) (p9 : Nat → Int → Option (Int × Int)) (p15 : Nat → Int → Option (Int × Int)) (p10 : Nat → (Int × Int) → Option Int) (p16 : Nat → Unit → Option Int) (p17 : Nat → (Int × Int) → Option (Int × Int)) (p20 : Nat → (Int × Int) → Option (Int × Int)) (p21 : Nat → (Int × Int) → Option (Int × Int)) (p11 : Nat → Int → Option (Int × Int)) (fuel : Nat) : ∀ y : (Int × (List (Int × (Int × (Int × (List Int)))))), runF Bool T (fns5 p8 p9 p15 p10 p16 p17 p20 p21 p11 fuel) fuel (subsOf [sub5_0 p8 p9 p15 p10 p16 p17 p20 p21 p11 fuel Bool, sub5_1 p8 p9 p15 p10 p16 p17 p20 p21 p11 fuel Bool]) (defOf Try.f5 an5 7 [] []) (fi5.vs y) (fi5.os y) (altsDec al5) = p5' p8 p9 p15 p10 p16 p17 p20 p21 p11 fuel y := by
  rintro ⟨x1, x2⟩
  kernel_rfl
theorem ok5' (p8 : Nat → Int → Option Int) (p9 : Nat → Int → Option (Int × Int)) (p15 : Nat → Int → Option (Int × Int)) (p10 : Nat → (Int × Int) → Option Int) (p16 : Nat → Unit → Option Int) (p17 : Nat → (Int × Int) → Option (Int × Int)) (p20 : Nat → (Int × Int) → Option (Int × Int)) (p21 : Nat → (Int × Int) → Option (Int × Int)) (p11 : Nat → Int → Option (Int × Int)) (h8 : ∀ fuel, FunOk P 8 (funOfA fi8 al8 (p8 fuel))) (h9 : ∀ fuel, FunOk P 9 (funOfA fi9 al9 (p9 fuel))) (h15 : ∀ fuel, FunOk P 15 (funOfA fi15 al15 (p15 fuel))) (h10 : ∀ fuel, FunOk P 10 (funOfA fi10 al10 (p10 fuel))) (h16 : ∀ fuel, FunOk P 16 (funOfA fi16 al16 (p16 fuel))) (h17 : ∀ fuel, FunOk P 17 (funOfA fi17 al17 (p17 fuel))) (h20 : ∀ fuel, FunOk P 20 (funOfA fi20 al20 (p20 fuel))) (h21 : ∀ fuel, FunOk P 21 (funOfA fi21 al21 (p21 fuel))) (h11 : ∀ fuel, FunOk P 11 (funOfA fi11 al11 (p11 fuel))) (fuel : Nat) : FunOk P 5 (funOfA fi5 al5 (p5' p8 p9 p15 p10 p16 p17 p20 p21 p11 fuel)) :=
  funOfA_ok (subs := (subsOf [sub5_0 p8 p9 p15 p10 p16 p17 p20 p21 p11 fuel Bool, sub5_1 p8 p9 p15 p10 p16 p17 p20 p21 p11 fuel Bool])) (an := an5) (room := 7) (ks := []) (g0 := []) (fuel := fuel) T_ok (fnsOk5 p8 p9 p15 p10 p16 p17 p20 p21 p11 h8 h9 h15 h10 h16 h17 h20 h21 h11 fuel) mixed (fn := Try.f5) (by kernel_rfl) (by kernel_rfl) (subsOk_cons (subOk5_0 p8 p9 p15 p10 p16 p17 p20 p21 p11 h8 h9 h15 h10 h16 h17 h20 h21 h11 fuel _) (subsOk_cons (subOk5_1 p8 p9 p15 p10 p16 p17 p20 p21 p11 h8 h9 h15 h10 h16 h17 h20 h21 h11 fuel _) subsOk_nil)) (by kernel_rfl) (fun _ => ⟨by kernel_rfl, by kernel_rfl⟩) (run5 p8 p9 p15 p10 p16 p17 p20 p21 p11 fuel)
theorem same5 (fuel : Nat) : p5' p8 p9 p15 p10 p16 p17 p20 p21 p11 fuel = p5 fuel := by kernel_rfl
theorem ok5 (fuel : Nat) : FunOk P 5 (F5 fuel) := by
  have h := ok5' p8 p9 p15 p10 p16 p17 p20 p21 p11 ok8 ok9 ok15 ok10 ok16 ok17 ok20 ok21 ok11 fuel
  rw [same5] at h
  exact h

-- f10b: (*tontine/draws.Draws).Skip
def fns10b (fuel : Nat) : Fns := fnsOf []
theorem fnsOk10b (fuel : Nat) : FnsOk P (fns10b fuel) := fnsOk_nil
def fi10b : Fr := ⟨[.c .nilp, .d false (.int .u64)], [], 0⟩
def al10b : List (Tm × List To) := [(.tup (.c .nil), [])]
def an10b : AN := (.seq .leaf (.cond .leaf .leaf))
def p10b (fuel : Nat) : Int → Option Unit := fun _ => (some ())
def F10b (fuel : Nat) : Fun := funOfA fi10b al10b (p10b fuel)
theorem run10b (fuel : Nat) : ∀ y : Int, runF Unit T (fns10b fuel) fuel (subsOf []) (defOf Try.f10 an10b 0 [] []) (fi10b.vs y) (fi10b.os y) (altsDec al10b) = p10b fuel y := by
  rintro x1
  kernel_rfl
theorem ok10b (fuel : Nat) : FunOk P 10 (funOfA fi10b al10b (p10b fuel)) :=
  funOfA_ok (subs := (subsOf [])) (an := an10b) (room := 0) (ks := []) (g0 := []) (fuel := fuel) T_ok (fnsOk10b fuel) mixed (fn := Try.f10) (by kernel_rfl) (by kernel_rfl) subsOk_nil (by kernel_rfl) (fun _ => ⟨by kernel_rfl, by kernel_rfl⟩) (run10b fuel)

-- f13b: (*tontine/draws.Draws).Below
def fns13b (fuel : Nat) : Fns := fnsOf []
theorem fnsOk13b (fuel : Nat) : FnsOk P (fns13b fuel) := fnsOk_nil
def fi13b : Fr := ⟨[.c .nilp, .d false (.int .i64)], [], 0⟩
def al13b : List (Tm × List To) := [(.tup (.cons (.d true (.int .i64)) (.cons (.d true (.int .i64)) (.c .nil))), [])]
def an13b : AN := (.seq .leaf (.seq (.seq .leaf (.cond (.seq .leaf (.norm ⟨[4, 5], padK 0 []⟩ (.ret []))) .leaf)) (.seq .leaf .leaf)))
def p13b (fuel : Nat) : Int → Option (Int × Int) := fun _ => (some ((0 : Int), (1 : Int)))
def F13b (fuel : Nat) : Fun := funOfA fi13b al13b (p13b fuel)
theorem run13b (fuel : Nat) : ∀ y : Int, runF (Int × Int) T (fns13b fuel) fuel (subsOf []) (defOf Try.f13 an13b 0 [] []) (fi13b.vs y) (fi13b.os y) (altsDec al13b) = p13b fuel y := by
  rintro x1
  kernel_rfl
theorem ok13b (fuel : Nat) : FunOk P 13 (funOfA fi13b al13b (p13b fuel)) :=
  funOfA_ok (subs := (subsOf [])) (an := an13b) (room := 0) (ks := []) (g0 := []) (fuel := fuel) T_ok (fnsOk13b fuel) mixed (fn := Try.f13) (by kernel_rfl) (by kernel_rfl) subsOk_nil (by kernel_rfl) (fun _ => ⟨by kernel_rfl, by kernel_rfl⟩) (run13b fuel)

-- f14c: (*tontine/draws.Draws).Pick
def fns14c (fuel : Nat) : Fns := fnsOf []
theorem fnsOk14c (fuel : Nat) : FnsOk P (fns14c fuel) := fnsOk_nil
def fi14c : Fr := ⟨[.c .nilp, .d true (.slice (.int .i64))], [], 0⟩
def al14c : List (Tm × List To) := [(.tup (.cons (.d true (.int .i64)) (.cons (.d true (.int .i64)) (.c .nil))), [])]
def an14c : AN := (.seq .leaf (.seq (.seq .leaf (.cond (.seq .leaf (.norm ⟨[4, 5], padK 0 []⟩ (.ret []))) .leaf)) (.seq .leaf (.seq (.seq .leaf (.block (.loop ⟨[], []⟩ (.seq .leaf (.seq (.cond .leaf .leaf) (.seq (.block (.seq .leaf (.seq (.seq .leaf (.cond (.seq .leaf .leaf) .leaf)) .leaf))) .leaf)))))) (.seq (.seq .leaf (.cond (.seq .leaf .leaf) .leaf)) (.seq .leaf (.seq (.seq .leaf (.block (.loop ⟨[], []⟩ (.seq .leaf (.seq (.cond .leaf .leaf) (.seq (.block (.seq .leaf (.seq (.seq .leaf (.cond (.seq .leaf .leaf) .leaf)) .leaf))) .leaf)))))) (.seq .leaf .leaf))))))))
def p14c (fuel : Nat) : (List Int) → Option (Int × Int) := fun _ => (some ((0 : Int), (1 : Int)))
def F14c (fuel : Nat) : Fun := funOfA fi14c al14c (p14c fuel)
theorem run14c (fuel : Nat) : ∀ y : (List Int), runF (Int × Int) T (fns14c fuel) fuel (subsOf []) (defOf Try.f14 an14c 0 [] []) (fi14c.vs y) (fi14c.os y) (altsDec al14c) = p14c fuel y := by
  rintro x1
  kernel_rfl
theorem ok14c (fuel : Nat) : FunOk P 14 (funOfA fi14c al14c (p14c fuel)) :=
  funOfA_ok (subs := (subsOf [])) (an := an14c) (room := 0) (ks := []) (g0 := []) (fuel := fuel) T_ok (fnsOk14c fuel) mixed (fn := Try.f14) (by kernel_rfl) (by kernel_rfl) subsOk_nil (by kernel_rfl) (fun _ => ⟨by kernel_rfl, by kernel_rfl⟩) (run14c fuel)

-- f12b: (*tontine/draws.Draws).Order
def fns12b (fuel : Nat) : Fns := fnsOf []
theorem fnsOk12b (fuel : Nat) : FnsOk P (fns12b fuel) := fnsOk_nil
def fi12b : Fr := ⟨[.c .nilp, .d false (.int .i64)], [], 0⟩
def al12b : List (Tm × List To) := [(.tup (.cons (.c .nils) (.cons (.d true (.int .i64)) (.c .nil))), [])]
def an12b : AN := (.seq .leaf (.seq (.seq .leaf (.cond (.seq .leaf (.norm ⟨[4, 5], padK 0 []⟩ (.ret []))) .leaf)) (.seq .leaf (.seq (.seq .leaf (.block (.loop ⟨[], []⟩ (.seq .leaf (.seq (.cond .leaf .leaf) (.seq (.block (.seq .leaf .leaf)) .leaf)))))) (.seq (.seq .leaf (.block (.loop ⟨[], []⟩ (.seq (.seq .leaf (.cond .leaf .leaf)) (.seq (.block (.seq .leaf .leaf)) .leaf))))) (.seq .leaf .leaf))))))
def p12b (fuel : Nat) : Int → Option Int := fun _ => (some (1 : Int))
def F12b (fuel : Nat) : Fun := funOfA fi12b al12b (p12b fuel)
theorem run12b (fuel : Nat) : ∀ y : Int, runF Int T (fns12b fuel) fuel (subsOf []) (defOf Try.f12 an12b 0 [] []) (fi12b.vs y) (fi12b.os y) (altsDec al12b) = p12b fuel y := by
  rintro x1
  kernel_rfl
theorem ok12b (fuel : Nat) : FunOk P 12 (funOfA fi12b al12b (p12b fuel)) :=
  funOfA_ok (subs := (subsOf [])) (an := an12b) (room := 0) (ks := []) (g0 := []) (fuel := fuel) T_ok (fnsOk12b fuel) mixed (fn := Try.f12) (by kernel_rfl) (by kernel_rfl) subsOk_nil (by kernel_rfl) (fun _ => ⟨by kernel_rfl, by kernel_rfl⟩) (run12b fuel)

-- f9b: (*tontine/draws.Draws).Next
def fns9b (fuel : Nat) : Fns := fnsOf []
theorem fnsOk9b (fuel : Nat) : FnsOk P (fns9b fuel) := fnsOk_nil
def fi9b : Fr := ⟨[.c .nilp], [], 0⟩
def al9b : List (Tm × List To) := [(.d true (.int .u64), [])]
def an9b : AN := (.seq .leaf (.seq (.seq .leaf (.cond (.seq .leaf (.norm ⟨[2], padK 0 []⟩ (.ret []))) .leaf)) (.seq .leaf (.seq .leaf .leaf))))
def p9b (fuel : Nat) : Unit → Option Int := fun _ => (some (0 : Int))
def F9b (fuel : Nat) : Fun := funOfA fi9b al9b (p9b fuel)
theorem run9b (fuel : Nat) : ∀ y : Unit, runF Int T (fns9b fuel) fuel (subsOf []) (defOf Try.f9 an9b 0 [] []) (fi9b.vs y) (fi9b.os y) (altsDec al9b) = p9b fuel y := by
  rintro ⟨⟩
  kernel_rfl
theorem ok9b (fuel : Nat) : FunOk P 9 (funOfA fi9b al9b (p9b fuel)) :=
  funOfA_ok (subs := (subsOf [])) (an := an9b) (room := 0) (ks := []) (g0 := []) (fuel := fuel) T_ok (fnsOk9b fuel) mixed (fn := Try.f9) (by kernel_rfl) (by kernel_rfl) subsOk_nil (by kernel_rfl) (fun _ => ⟨by kernel_rfl, by kernel_rfl⟩) (run9b fuel)

-- f11b: (*tontine/draws.Draws).State
def fns11b (fuel : Nat) : Fns := fnsOf []
theorem fnsOk11b (fuel : Nat) : FnsOk P (fns11b fuel) := fnsOk_nil
def fi11b : Fr := ⟨[.c .nilp], [], 0⟩
def al11b : List (Tm × List To) := [(.d true (.int .u64), [])]
def an11b : AN := (.seq .leaf (.seq (.seq .leaf (.cond (.seq .leaf (.norm ⟨[2], padK 0 []⟩ (.ret []))) .leaf)) (.seq .leaf .leaf)))
def p11b (fuel : Nat) : Unit → Option Int := fun _ => (some (0 : Int))
def F11b (fuel : Nat) : Fun := funOfA fi11b al11b (p11b fuel)
theorem run11b (fuel : Nat) : ∀ y : Unit, runF Int T (fns11b fuel) fuel (subsOf []) (defOf Try.f11 an11b 0 [] []) (fi11b.vs y) (fi11b.os y) (altsDec al11b) = p11b fuel y := by
  rintro ⟨⟩
  kernel_rfl
theorem ok11b (fuel : Nat) : FunOk P 11 (funOfA fi11b al11b (p11b fuel)) :=
  funOfA_ok (subs := (subsOf [])) (an := an11b) (room := 0) (ks := []) (g0 := []) (fuel := fuel) T_ok (fnsOk11b fuel) mixed (fn := Try.f11) (by kernel_rfl) (by kernel_rfl) subsOk_nil (by kernel_rfl) (fun _ => ⟨by kernel_rfl, by kernel_rfl⟩) (run11b fuel)

-- f20b: (*tontine/draws.Draws).Fork
def fns20b (fuel : Nat) : Fns := fnsOf []
theorem fnsOk20b (fuel : Nat) : FnsOk P (fns20b fuel) := fnsOk_nil
def fi20b : Fr := ⟨[.c .nilp, .d false (.int .u64)], [], 0⟩
def al20b : List (Tm × List To) := [(.c .nilp, [])]
def an20b : AN := (.seq .leaf (.seq (.seq .leaf (.cond (.seq .leaf (.norm ⟨[4], padK 0 []⟩ (.ret []))) .leaf)) (.seq .leaf .leaf)))
def p20b (fuel : Nat) : Int → Option Unit := fun _ => (some ())
def F20b (fuel : Nat) : Fun := funOfA fi20b al20b (p20b fuel)
theorem run20b (fuel : Nat) : ∀ y : Int, runF Unit T (fns20b fuel) fuel (subsOf []) (defOf Try.f20 an20b 0 [] []) (fi20b.vs y) (fi20b.os y) (altsDec al20b) = p20b fuel y := by
  rintro x1
  kernel_rfl
theorem ok20b (fuel : Nat) : FunOk P 20 (funOfA fi20b al20b (p20b fuel)) :=
  funOfA_ok (subs := (subsOf [])) (an := an20b) (room := 0) (ks := []) (g0 := []) (fuel := fuel) T_ok (fnsOk20b fuel) mixed (fn := Try.f20) (by kernel_rfl) (by kernel_rfl) subsOk_nil (by kernel_rfl) (fun _ => ⟨by kernel_rfl, by kernel_rfl⟩) (run20b fuel)

-- f6: tontine/tontinelaw05.DrawsNil
def fns6 (p10b : Nat → Int → Option Unit) (p13b : Nat → Int → Option (Int × Int)) (p14c : Nat → (List Int) → Option (Int × Int)) (p12b : Nat → Int → Option Int) (p9b : Nat → Unit → Option Int) (p11b : Nat → Unit → Option Int) (p20b : Nat → Int → Option Unit) (fuel : Nat) : Fns := fnsOf [(7, F7 fuel), (10, funOfA fi10b al10b (p10b fuel)), (13, funOfA fi13b al13b (p13b fuel)), (14, funOfA fi14c al14c (p14c fuel)), (12, funOfA fi12b al12b (p12b fuel)), (9, funOfA fi9b al9b (p9b fuel)), (11, funOfA fi11b al11b (p11b fuel)), (20, funOfA fi20b al20b (p20b fuel))]
theorem fnsOk6 (p10b : Nat → Int → Option Unit) (p13b : Nat → Int → Option (Int × Int)) (p14c : Nat → (List Int) → Option (Int × Int)) (p12b : Nat → Int → Option Int) (p9b : Nat → Unit → Option Int) (p11b : Nat → Unit → Option Int) (p20b : Nat → Int → Option Unit) (h10b : ∀ fuel, FunOk P 10 (funOfA fi10b al10b (p10b fuel))) (h13b : ∀ fuel, FunOk P 13 (funOfA fi13b al13b (p13b fuel))) (h14c : ∀ fuel, FunOk P 14 (funOfA fi14c al14c (p14c fuel))) (h12b : ∀ fuel, FunOk P 12 (funOfA fi12b al12b (p12b fuel))) (h9b : ∀ fuel, FunOk P 9 (funOfA fi9b al9b (p9b fuel))) (h11b : ∀ fuel, FunOk P 11 (funOfA fi11b al11b (p11b fuel))) (h20b : ∀ fuel, FunOk P 20 (funOfA fi20b al20b (p20b fuel))) (fuel : Nat) : FnsOk P (fns6 p10b p13b p14c p12b p9b p11b p20b fuel) := (fnsOk_cons (ok7 fuel) (fnsOk_cons (h10b fuel) (fnsOk_cons (h13b fuel) (fnsOk_cons (h14c fuel) (fnsOk_cons (h12b fuel) (fnsOk_cons (h9b fuel) (fnsOk_cons (h11b fuel) (fnsOk_cons (h20b fuel) fnsOk_nil))))))))
def fi6 : Fr := ⟨[.d false (.int .i64), .d true (.slice (.int .i64))], [], 0⟩
def al6 : List (Tm × List To) := [(.d true (.bool), [])]
def an6 : AN := (.seq .leaf (.seq .leaf (.seq .leaf (.seq .leaf (.seq .leaf (.seq .leaf (.seq .leaf (.seq .leaf (.norm ⟨[4], padK 0 []⟩ (.ret []))))))))))
def p6 (fuel : Nat) : (Int × (List Int)) → Option Bool := fun (x1, x2) => (match p7 fuel () with | some z3 => (match p10b fuel (3 : Int) with | some z4 => (match p13b fuel x1 with | some z5 => (match p14c fuel x2 with | some z6 => (match p12b fuel x1 with | some z7 => (bif z3 then (match p9b fuel () with | some z8 => (bif (decide (z8 = (0 : Int))) then (match p11b fuel () with | some z9 => (bif (decide (z9 = (0 : Int))) then (bif (decide (z5.2 = (1 : Int))) then (bif (decide (z6.2 = (1 : Int))) then (bif (decide (z7 = (1 : Int))) then (match p20b fuel (1 : Int) with | some z10 => (some true) | none => none) else (some false)) else (some false)) else (some false)) else (some false)) | none => none) else (some false)) | none => none) else (some false)) | none => none) | none => none) | none => none) | none => none) | none => none)
def p6' (p10b : Nat → Int → Option Unit) (p13b : Nat → Int → Option (Int × Int)) (p14c : Nat → (List Int) → Option (Int × Int)) (p12b : Nat → Int → Option Int) (p9b : Nat → Unit → Option Int) (p11b : Nat → Unit → Option Int) (p20b : Nat → Int → Option Unit) (fuel : Nat) : (Int × (List Int)) → Option Bool := fun (x1, x2) => (match p7 fuel () with | some z3 => (match p10b fuel (3 : Int) with | some z4 => (match p13b fuel x1 with | some z5 => (match p14c fuel x2 with | some z6 => (match p12b fuel x1 with | some z7 => (bif z3 then (match p9b fuel () with | some z8 => (bif (decide (z8 = (0 : Int))) then (match p11b fuel () with | some z9 => (bif (decide (z9 = (0 : Int))) then (bif (decide (z5.2 = (1 : Int))) then (bif (decide (z6.2 = (1 : Int))) then (bif (decide (z7 = (1 : Int))) then (match p20b fuel (1 : Int) with | some z10 => (some true) | none => none) else (some false)) else (some false)) else (some false)) else (some false)) | none => none) else (some false)) | none => none) else (some false)) | none => none) | none => none) | none => none) | none => none) | none => none)
def F6 (fuel : Nat) : Fun := funOfA fi6 al6 (p6 fuel)
theorem run6 (p10b : Nat → Int → Option Unit) (p13b : Nat → Int → Option (Int × Int)) (p14c : Nat → (List Int) → Option (Int × Int)) (p12b : Nat → Int → Option Int) (p9b : Nat → Unit → Option Int) (p11b : Nat → Unit → Option Int) (p20b : Nat → Int → Option Unit) (fuel : Nat) : ∀ y : (Int × (List Int)), runF Bool T (fns6 p10b p13b p14c p12b p9b p11b p20b fuel) fuel (subsOf []) (defOf Try.f6 an6 0 [] []) (fi6.vs y) (fi6.os y) (altsDec al6) = p6' p10b p13b p14c p12b p9b p11b p20b fuel y := by
  rintro ⟨x1, x2⟩
  kernel_rfl
theorem ok6' (p10b : Nat → Int → Option Unit) (p13b : Nat → Int → Option (Int × Int)) (p14c : Nat → (List Int) → Option (Int × Int)) (p12b : Nat → Int → Option Int) (p9b : Nat → Unit → Option Int) (p11b : Nat → Unit → Option Int) (p20b : Nat → Int → Option Unit) (h10b : ∀ fuel, FunOk P 10 (funOfA fi10b al10b (p10b fuel))) (h13b : ∀ fuel, FunOk P 13 (funOfA fi13b al13b (p13b fuel))) (h14c : ∀ fuel, FunOk P 14 (funOfA fi14c al14c (p14c fuel))) (h12b : ∀ fuel, FunOk P 12 (funOfA fi12b al12b (p12b fuel))) (h9b : ∀ fuel, FunOk P 9 (funOfA fi9b al9b (p9b fuel))) (h11b : ∀ fuel, FunOk P 11 (funOfA fi11b al11b (p11b fuel))) (h20b : ∀ fuel, FunOk P 20 (funOfA fi20b al20b (p20b fuel))) (fuel : Nat) : FunOk P 6 (funOfA fi6 al6 (p6' p10b p13b p14c p12b p9b p11b p20b fuel)) :=
  funOfA_ok (subs := (subsOf [])) (an := an6) (room := 0) (ks := []) (g0 := []) (fuel := fuel) T_ok (fnsOk6 p10b p13b p14c p12b p9b p11b p20b h10b h13b h14c h12b h9b h11b h20b fuel) mixed (fn := Try.f6) (by kernel_rfl) (by kernel_rfl) subsOk_nil (by kernel_rfl) (fun _ => ⟨by kernel_rfl, by kernel_rfl⟩) (run6 p10b p13b p14c p12b p9b p11b p20b fuel)
theorem same6 (fuel : Nat) : p6' p10b p13b p14c p12b p9b p11b p20b fuel = p6 fuel := by kernel_rfl
theorem ok6 (fuel : Nat) : FunOk P 6 (F6 fuel) := by
  have h := ok6' p10b p13b p14c p12b p9b p11b p20b ok10b ok13b ok14c ok12b ok9b ok11b ok20b fuel
  rw [same6] at h
  exact h
end Go.Am.Ytjnnbkfnhfondaa
